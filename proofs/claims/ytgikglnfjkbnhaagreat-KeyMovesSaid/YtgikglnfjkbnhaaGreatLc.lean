/-
  move.castle, move.Castles, walked.
-/
import Derived.Test.YtgikglnfjkbnhaaGreatLb
namespace Go.Proofs.YtgikglnfjkbnhaaGreat
open Go.RowKit
set_option maxHeartbeats 400000

def KM.castle0 (p : KM.Po) (f t : Int) : Int := bits .and .i64 (KM.wingN p f t) p.castle
def KM.emptyL (p : KM.Po) (f : Int) (i : Nat) : Bool := p.b (f + -((i : Int) + 1)).toNat == 0
def KM.emptyR (p : KM.Po) (f : Int) (i : Nat) : Bool := p.b (f + ((i : Int) + 1)).toNat == 0
def KM.castleN (p : KM.Po) (f t : Int) : Int :=
  if KM.castle0 p f t ≠ 0 ∧ (if t < f then KM.allTo (KM.emptyL p f) 3 else KM.allTo (KM.emptyR p f) 2) = true then KM.castle0 p f t else 0

theorem KM.wingN_home {p : KM.Po} {f t : Int} (h : KM.wingN p f t ≠ 0) : f = 4 + 56 * p.turn ∧ (t - f = 2 ∨ t - f = -2) := by
  unfold KM.wingN at h
  split at h
  · omega
  · rename_i h1
    split at h
    · omega
    · split at h
      · omega
      · omega
theorem KM.castle0_home {p : KM.Po} {f t : Int} (c0 : 0 ≤ p.castle) (c1 : p.castle ≤ 15) (h : KM.castle0 p f t ≠ 0) : f = 4 + 56 * p.turn ∧ (t - f = 2 ∨ t - f = -2) := by
  refine KM.wingN_home fun h0 => h ?_
  unfold KM.castle0
  rw [h0]
  have : p.castle = 0 ∨ p.castle = 1 ∨ p.castle = 2 ∨ p.castle = 3 ∨ p.castle = 4 ∨ p.castle = 5 ∨ p.castle = 6 ∨ p.castle = 7 ∨ p.castle = 8 ∨ p.castle = 9 ∨ p.castle = 10 ∨ p.castle = 11 ∨ p.castle = 12 ∨ p.castle = 13 ∨ p.castle = 14 ∨ p.castle = 15 := by omega
  rcases this with h | h | h | h | h | h | h | h | h | h | h | h | h | h | h | h <;> rw [h] <;> decide
theorem KM.castleN_home {p : KM.Po} {f t : Int} (c0 : 0 ≤ p.castle) (c1 : p.castle ≤ 15) (h : KM.castleN p f t ≠ 0) : f = 4 + 56 * p.turn ∧ (t - f = 2 ∨ t - f = -2) := by
  refine KM.castle0_home c0 c1 fun h0 => h ?_
  unfold KM.castleN
  rw [if_neg (fun h1 => h1.1 h0)]

theorem castle_lz (p : KM.Po) (f t r : Int) (w : World) (hp : p.wf) (f0 : 0 ≤ f) (f1 : f < 64) (t0 : 0 ≤ t) (t1 : t < 64) (hu : p.turn = 0 ∨ p.turn = 1) (_k0 : 0 ≤ p.castle) (_k1 : p.castle ≤ 15) (hd : t < f) (hz0 : KM.castle0 p f t = 0) :
    Calls Tryz.prog 38 #[.agg (KM.pval p), .agg #[.int .i64 f, .int .i64 t, .int .i64 r]] w fun e w' => e = .returned (.int .i64 (KM.castleN p f t)) ∧ Below w.heap.size w w' := by
  have hP := pm_p p f t r w
  have hM := pm_m p f t r w
  have hS := pm_s p f t r w
  have HB := Lib.hid (pm_b p f t r w)
  have bd : decide (t < f) = true := by simp; omega
  have hn : (KM.castle0 p f t != 0) = false := by simp [hz0]
  have HZ := Lib.hid hz0
  have HV0 := Lib.hid (show KM.castleN p f t = 0 by unfold KM.castleN; rw [if_neg (fun h => h.1 hz0)])
  clear hz0
  have e0 : bits .and .i64 (KM.wingN p f t) p.castle = KM.castle0 p f t := rfl
  replace hd := Lib.hid hd
  have HU := Lib.hid hu
  clear hu
  go_enter Tryz.func38, Tryz.ntmps38
  go_wp2_with fail
  generalize (w.alloc (.cells (KM.pval p) 26)).alloc (.cells #[.int .i64 f, .int .i64 t, .int .i64 r] 35) = w0 at *
  have c2 := fun i : Idx (w.heap.size + 2) w0 => (hP.idx (by omega) i).castle
  refine wp_region_idx (w.heap.size + 2) (by kernel_rfl) (by kernel_rfl) ?_
  repeat (first | go_big_quiet_skip | (go_big_quiet_want; first
    | (refine quiet_load_part 26 (.tmp 2) rfl _ 0 rfl (by omega) _ _ hP.part Tryz.underlying26 rfl (hi26 p) ?_; simp only [Act.put, List.setIfInBounds_toArray, List.set_cons_zero, List.set_cons_succ]; go_big_quiet_on)
    | (refine quiet_load_part 35 (.tmp 3) rfl _ 0 rfl (by omega) _ _ hM.part Tryz.underlying35 rfl (hi35 _ _ _) ?_; simp only [Act.put, List.setIfInBounds_toArray, List.set_cons_zero, List.set_cons_succ]; go_big_quiet_on)
    | (go_big_quiet_op; first | go_big_quiet_on | go_big_quiet_call ((go_at_call 60; exact Idx.calls (by omega) (wing_any _ _ _ _ _ hp f0 f1 t0 t1 HU.out))))))
  refine wpQuiet_nil ?_
  intro w1 hwq
  have hbq := Idx.get hwq
  clear hwq c2
  replace hP := hP.below hbq (by omega)
  replace hM := hM.below hbq (by omega)
  replace HB := Lib.hid (HB.out.trans (hbq.mono (Nat.le_add_right _ 2)))
  clear hbq hS
  have d0 := hM.from
  have d1 := hM.to
  go_wp2_with fail
  go_loop [21] (fun i => ∃ k : Nat, k ≤ 3 ∧ i = .int .i64 k) (fun i => 3 - (intOf i).toNat)
  case atStart => exact ⟨0, by omega, rfl⟩
  case round =>
    obtain ⟨k, hk, rfl⟩ := hrel
    by_cases hlt : k < 3
    · go_wp2_with fail
      go_round
      case rel => exact ⟨k + 1, by omega, by go_num⟩
      case measure => simp [intOf]; omega
    · obtain rfl : k = 3 := by omega
      go_wp2_with fail
      go_ret
      exact ⟨by rw [HV0.out]; exact congrArg (fun x => Ending.returned (Value.int .i64 x)) HZ.out, HB.out⟩

theorem castle_lo (p : KM.Po) (f t r : Int) (w : World) (hp : p.wf) (f0 : 0 ≤ f) (f1 : f < 64) (t0 : 0 ≤ t) (t1 : t < 64) (hu : p.turn = 0 ∨ p.turn = 1) (k0 : 0 ≤ p.castle) (k1 : p.castle ≤ 15) (hd : t < f) (hz0 : KM.castle0 p f t ≠ 0) :
    Calls Tryz.prog 38 #[.agg (KM.pval p), .agg #[.int .i64 f, .int .i64 t, .int .i64 r]] w fun e w' => e = .returned (.int .i64 (KM.castleN p f t)) ∧ Below w.heap.size w w' := by
  have hP := pm_p p f t r w
  have hM := pm_m p f t r w
  have hS := pm_s p f t r w
  have HB := Lib.hid (pm_b p f t r w)
  have bd : decide (t < f) = true := by simp; omega
  have hn : (KM.castle0 p f t != 0) = true := by simp [hz0]
  have HH := Lib.hid (KM.castle0_home k0 k1 hz0)
  replace hz0 := Lib.hid hz0
  have e0 : bits .and .i64 (KM.wingN p f t) p.castle = KM.castle0 p f t := rfl
  replace hd := Lib.hid hd
  have HU := Lib.hid hu
  clear hu
  go_enter Tryz.func38, Tryz.ntmps38
  go_wp2_with fail
  generalize (w.alloc (.cells (KM.pval p) 26)).alloc (.cells #[.int .i64 f, .int .i64 t, .int .i64 r] 35) = w0 at *
  have c2 := fun i : Idx (w.heap.size + 2) w0 => (hP.idx (by omega) i).castle
  refine wp_region_idx (w.heap.size + 2) (by kernel_rfl) (by kernel_rfl) ?_
  repeat (first | go_big_quiet_skip | (go_big_quiet_want; first
    | (refine quiet_load_part 26 (.tmp 2) rfl _ 0 rfl (by omega) _ _ hP.part Tryz.underlying26 rfl (hi26 p) ?_; simp only [Act.put, List.setIfInBounds_toArray, List.set_cons_zero, List.set_cons_succ]; go_big_quiet_on)
    | (refine quiet_load_part 35 (.tmp 3) rfl _ 0 rfl (by omega) _ _ hM.part Tryz.underlying35 rfl (hi35 _ _ _) ?_; simp only [Act.put, List.setIfInBounds_toArray, List.set_cons_zero, List.set_cons_succ]; go_big_quiet_on)
    | (go_big_quiet_op; first | go_big_quiet_on | go_big_quiet_call ((go_at_call 60; exact Idx.calls (by omega) (wing_any _ _ _ _ _ hp f0 f1 t0 t1 HU.out))))))
  refine wpQuiet_nil ?_
  intro w1 hwq
  have hbq := Idx.get hwq
  clear hwq c2
  replace hP := hP.below hbq (by omega)
  replace hM := hM.below hbq (by omega)
  replace HB := Lib.hid (HB.out.trans (hbq.mono (Nat.le_add_right _ 2)))
  clear hbq hS
  have d0 := hM.from
  have d1 := hM.to
  go_wp2_with fail
  go_loop [21] (fun i => ∃ k : Nat, k ≤ 3 ∧ i = .int .i64 k ∧ KM.allTo (KM.emptyL p f) k = true) (fun i => 3 - (intOf i).toNat)
  case atStart => exact ⟨0, by omega, rfl, rfl⟩
  case round =>
    obtain ⟨k, hk, rfl, ha⟩ := hrel
    have HA := Lib.hid ha
    clear ha
    by_cases hlt : k < 3
    · have c5 := hP.at (i := (f + -((k : Int) + 1)).toNat) (by have h1 := HH.out; have h2 := HU.out; omega)
      have hr0 : 0 ≤ f + -((k : Int) + 1) := by have h1 := HH.out; have h2 := HU.out; omega
      have hr1 : f + -((k : Int) + 1) < 64 := by have h1 := HH.out; have h2 := HU.out; omega
      by_cases hz : p.b (f + -((k : Int) + 1)).toNat = 0
      · have bz : (p.b (f + -((k : Int) + 1)).toNat != 0) = false := by simp [hz]
        have HE := Lib.hid (show KM.emptyL p f k = true by unfold KM.emptyL; simp [hz])
        replace hz := Lib.hid hz
        go_wp2_with fail
        go_round
        case rel => exact ⟨k + 1, by omega, by go_num, KM.allTo_succ HA.out HE.out⟩
        case measure => simp [intOf]; omega
      · have bz : (p.b (f + -((k : Int) + 1)).toNat != 0) = true := by simp [hz]
        have HV := Lib.hid (show KM.castleN p f t = 0 by
          unfold KM.castleN
          rw [if_pos hd.out, if_neg (fun h => by
            have h2 := KM.allTo_true h.2 (show k < 3 by omega)
            unfold KM.emptyL at h2
            simp at h2
            exact hz h2)])
        go_wp2_with fail
        go_ret
        exact ⟨by rw [HV.out]; rfl, HB.out⟩
    · obtain rfl : k = 3 := by omega
      have HV := Lib.hid (show KM.castleN p f t = KM.castle0 p f t by
        unfold KM.castleN
        rw [if_pos hd.out, if_pos ⟨hz0.out, HA.out⟩])
      go_wp2_with fail
      go_ret
      exact ⟨by rw [HV.out]; rfl, HB.out⟩

theorem castle_gz (p : KM.Po) (f t r : Int) (w : World) (hp : p.wf) (f0 : 0 ≤ f) (f1 : f < 64) (t0 : 0 ≤ t) (t1 : t < 64) (hu : p.turn = 0 ∨ p.turn = 1) (_k0 : 0 ≤ p.castle) (_k1 : p.castle ≤ 15) (hd : ¬ t < f) (hz0 : KM.castle0 p f t = 0) :
    Calls Tryz.prog 38 #[.agg (KM.pval p), .agg #[.int .i64 f, .int .i64 t, .int .i64 r]] w fun e w' => e = .returned (.int .i64 (KM.castleN p f t)) ∧ Below w.heap.size w w' := by
  have hP := pm_p p f t r w
  have hM := pm_m p f t r w
  have hS := pm_s p f t r w
  have HB := Lib.hid (pm_b p f t r w)
  have bd : decide (t < f) = false := by simp; omega
  have hn : (KM.castle0 p f t != 0) = false := by simp [hz0]
  have HZ := Lib.hid hz0
  have HV0 := Lib.hid (show KM.castleN p f t = 0 by unfold KM.castleN; rw [if_neg (fun h => h.1 hz0)])
  clear hz0
  have e0 : bits .and .i64 (KM.wingN p f t) p.castle = KM.castle0 p f t := rfl
  replace hd := Lib.hid hd
  have HU := Lib.hid hu
  clear hu
  go_enter Tryz.func38, Tryz.ntmps38
  go_wp2_with fail
  generalize (w.alloc (.cells (KM.pval p) 26)).alloc (.cells #[.int .i64 f, .int .i64 t, .int .i64 r] 35) = w0 at *
  have c2 := fun i : Idx (w.heap.size + 2) w0 => (hP.idx (by omega) i).castle
  refine wp_region_idx (w.heap.size + 2) (by kernel_rfl) (by kernel_rfl) ?_
  repeat (first | go_big_quiet_skip | (go_big_quiet_want; first
    | (refine quiet_load_part 26 (.tmp 2) rfl _ 0 rfl (by omega) _ _ hP.part Tryz.underlying26 rfl (hi26 p) ?_; simp only [Act.put, List.setIfInBounds_toArray, List.set_cons_zero, List.set_cons_succ]; go_big_quiet_on)
    | (refine quiet_load_part 35 (.tmp 3) rfl _ 0 rfl (by omega) _ _ hM.part Tryz.underlying35 rfl (hi35 _ _ _) ?_; simp only [Act.put, List.setIfInBounds_toArray, List.set_cons_zero, List.set_cons_succ]; go_big_quiet_on)
    | (go_big_quiet_op; first | go_big_quiet_on | go_big_quiet_call ((go_at_call 60; exact Idx.calls (by omega) (wing_any _ _ _ _ _ hp f0 f1 t0 t1 HU.out))))))
  refine wpQuiet_nil ?_
  intro w1 hwq
  have hbq := Idx.get hwq
  clear hwq c2
  replace hP := hP.below hbq (by omega)
  replace hM := hM.below hbq (by omega)
  replace HB := Lib.hid (HB.out.trans (hbq.mono (Nat.le_add_right _ 2)))
  clear hbq hS
  have d0 := hM.from
  have d1 := hM.to
  go_wp2_with fail
  go_loop [21] (fun i => ∃ k : Nat, k ≤ 2 ∧ i = .int .i64 k) (fun i => 2 - (intOf i).toNat)
  case atStart => exact ⟨0, by omega, rfl⟩
  case round =>
    obtain ⟨k, hk, rfl⟩ := hrel
    by_cases hlt : k < 2
    · go_wp2_with fail
      go_round
      case rel => exact ⟨k + 1, by omega, by go_num⟩
      case measure => simp [intOf]; omega
    · obtain rfl : k = 2 := by omega
      go_wp2_with fail
      go_ret
      exact ⟨by rw [HV0.out]; exact congrArg (fun x => Ending.returned (Value.int .i64 x)) HZ.out, HB.out⟩

theorem castle_go (p : KM.Po) (f t r : Int) (w : World) (hp : p.wf) (f0 : 0 ≤ f) (f1 : f < 64) (t0 : 0 ≤ t) (t1 : t < 64) (hu : p.turn = 0 ∨ p.turn = 1) (k0 : 0 ≤ p.castle) (k1 : p.castle ≤ 15) (hd : ¬ t < f) (hz0 : KM.castle0 p f t ≠ 0) :
    Calls Tryz.prog 38 #[.agg (KM.pval p), .agg #[.int .i64 f, .int .i64 t, .int .i64 r]] w fun e w' => e = .returned (.int .i64 (KM.castleN p f t)) ∧ Below w.heap.size w w' := by
  have hP := pm_p p f t r w
  have hM := pm_m p f t r w
  have hS := pm_s p f t r w
  have HB := Lib.hid (pm_b p f t r w)
  have bd : decide (t < f) = false := by simp; omega
  have hn : (KM.castle0 p f t != 0) = true := by simp [hz0]
  have HH := Lib.hid (KM.castle0_home k0 k1 hz0)
  replace hz0 := Lib.hid hz0
  have e0 : bits .and .i64 (KM.wingN p f t) p.castle = KM.castle0 p f t := rfl
  replace hd := Lib.hid hd
  have HU := Lib.hid hu
  clear hu
  go_enter Tryz.func38, Tryz.ntmps38
  go_wp2_with fail
  generalize (w.alloc (.cells (KM.pval p) 26)).alloc (.cells #[.int .i64 f, .int .i64 t, .int .i64 r] 35) = w0 at *
  have c2 := fun i : Idx (w.heap.size + 2) w0 => (hP.idx (by omega) i).castle
  refine wp_region_idx (w.heap.size + 2) (by kernel_rfl) (by kernel_rfl) ?_
  repeat (first | go_big_quiet_skip | (go_big_quiet_want; first
    | (refine quiet_load_part 26 (.tmp 2) rfl _ 0 rfl (by omega) _ _ hP.part Tryz.underlying26 rfl (hi26 p) ?_; simp only [Act.put, List.setIfInBounds_toArray, List.set_cons_zero, List.set_cons_succ]; go_big_quiet_on)
    | (refine quiet_load_part 35 (.tmp 3) rfl _ 0 rfl (by omega) _ _ hM.part Tryz.underlying35 rfl (hi35 _ _ _) ?_; simp only [Act.put, List.setIfInBounds_toArray, List.set_cons_zero, List.set_cons_succ]; go_big_quiet_on)
    | (go_big_quiet_op; first | go_big_quiet_on | go_big_quiet_call ((go_at_call 60; exact Idx.calls (by omega) (wing_any _ _ _ _ _ hp f0 f1 t0 t1 HU.out))))))
  refine wpQuiet_nil ?_
  intro w1 hwq
  have hbq := Idx.get hwq
  clear hwq c2
  replace hP := hP.below hbq (by omega)
  replace hM := hM.below hbq (by omega)
  replace HB := Lib.hid (HB.out.trans (hbq.mono (Nat.le_add_right _ 2)))
  clear hbq hS
  have d0 := hM.from
  have d1 := hM.to
  go_wp2_with fail
  go_loop [21] (fun i => ∃ k : Nat, k ≤ 2 ∧ i = .int .i64 k ∧ KM.allTo (KM.emptyR p f) k = true) (fun i => 2 - (intOf i).toNat)
  case atStart => exact ⟨0, by omega, rfl, rfl⟩
  case round =>
    obtain ⟨k, hk, rfl, ha⟩ := hrel
    have HA := Lib.hid ha
    clear ha
    by_cases hlt : k < 2
    · have c5 := hP.at (i := (f + ((k : Int) + 1)).toNat) (by have h1 := HH.out; have h2 := HU.out; omega)
      have hr0 : 0 ≤ f + ((k : Int) + 1) := by have h1 := HH.out; have h2 := HU.out; omega
      have hr1 : f + ((k : Int) + 1) < 64 := by have h1 := HH.out; have h2 := HU.out; omega
      by_cases hz : p.b (f + ((k : Int) + 1)).toNat = 0
      · have bz : (p.b (f + ((k : Int) + 1)).toNat != 0) = false := by simp [hz]
        have HE := Lib.hid (show KM.emptyR p f k = true by unfold KM.emptyR; simp [hz])
        replace hz := Lib.hid hz
        go_wp2_with fail
        go_round
        case rel => exact ⟨k + 1, by omega, by go_num, KM.allTo_succ HA.out HE.out⟩
        case measure => simp [intOf]; omega
      · have bz : (p.b (f + ((k : Int) + 1)).toNat != 0) = true := by simp [hz]
        have HV := Lib.hid (show KM.castleN p f t = 0 by
          unfold KM.castleN
          rw [if_neg (show ¬ t < f by have := hd.out; omega), if_neg (fun h => by
            have h2 := KM.allTo_true h.2 (show k < 2 by omega)
            unfold KM.emptyR at h2
            simp at h2
            exact hz h2)])
        go_wp2_with fail
        go_ret
        exact ⟨by rw [HV.out]; rfl, HB.out⟩
    · obtain rfl : k = 2 := by omega
      have HV := Lib.hid (show KM.castleN p f t = KM.castle0 p f t by
        unfold KM.castleN
        rw [if_neg (show ¬ t < f by have := hd.out; omega), if_pos ⟨hz0.out, HA.out⟩])
      go_wp2_with fail
      go_ret
      exact ⟨by rw [HV.out]; rfl, HB.out⟩

theorem castle_any (p : KM.Po) (f t r : Int) (w : World) (hp : p.wf) (f0 : 0 ≤ f) (f1 : f < 64) (t0 : 0 ≤ t) (t1 : t < 64) (hu : p.turn = 0 ∨ p.turn = 1) (k0 : 0 ≤ p.castle) (k1 : p.castle ≤ 15) :
    Calls Tryz.prog 38 #[.agg (KM.pval p), .agg #[.int .i64 f, .int .i64 t, .int .i64 r]] w fun e w' => e = .returned (.int .i64 (KM.castleN p f t)) ∧ Below w.heap.size w w' := by
  by_cases hd : t < f
  · by_cases hz : KM.castle0 p f t = 0
    · exact castle_lz p f t r w hp f0 f1 t0 t1 hu k0 k1 hd hz
    · exact castle_lo p f t r w hp f0 f1 t0 t1 hu k0 k1 hd hz
  · by_cases hz : KM.castle0 p f t = 0
    · exact castle_gz p f t r w hp f0 f1 t0 t1 hu k0 k1 hd hz
    · exact castle_go p f t r w hp f0 f1 t0 t1 hu k0 k1 hd hz

theorem KM.wrong_zero {p : KM.Po} (h : KM.wrong p = 0) : (p.turn = 0 ∨ p.turn = 1) ∧ 0 ≤ p.castle ∧ p.castle ≤ 15 := by
  unfold KM.wrong at h
  split at h
  · rename_i h1; exact absurd h h1
  · split at h
    · omega
    · rename_i h2
      have h3 : 0 ≤ KM.other p.turn := by omega
      unfold KM.other at h3
      split at h3
      · omega
      · split at h3 <;> omega
theorem KM.formed_sq {p : KM.Po} {f t r : Int} (h : KM.formed p f t r = true) : (0 ≤ f ∧ f < 64) ∧ (0 ≤ t ∧ t < 64) := by
  unfold KM.formed KM.formed1 at h
  simp only [Bool.and_eq_true, KM.sqR_iff] at h
  exact ⟨h.1.1.1.1, h.1.1.1.2⟩

theorem moveCastles_any (p : KM.Po) (f t r : Int) (w : World) (hp : p.wf) (hw : KM.wrong p = 0) :
    Calls Tryz.prog 68 #[.agg (KM.pval p), .agg #[.int .i64 f, .int .i64 t, .int .i64 r]] w fun e w' => (∃ b, e = .returned (.bool b) ∧ (b = true → KM.formed p f t r = true)) ∧ Below w.heap.size w w' := by
  have hP := pm_p p f t r w
  have hM := pm_m p f t r w
  have HB := Lib.hid (pm_b p f t r w)
  have hpn := Lib.hid (show ∀ w', Calls Tryz.prog 78 #[.agg (KM.pval p), .agg #[.int .i64 f, .int .i64 t, .int .i64 r]] w' fun e w'' => e = .returned (.bool (KM.formed p f t r)) ∧ Below w'.heap.size w' w'' by
    intro w'
    have h := moveFormed_any p f t r w' hp
    rw [hw] at h
    exact h)
  obtain ⟨hu, k0, k1⟩ := KM.wrong_zero hw
  have HU := Lib.hid hu
  clear hw hu
  cases hf : KM.formed p f t r
  · rw [hf] at hpn
    have HF := Lib.hid hf
    clear hf
    go_enter Tryz.func68, Tryz.ntmps68
    go_wp2_with (first
      | (refine wpList_load_part rfl 26 (.tmp 2) rfl _ 0 rfl _ _ hP.part Tryz.underlying26 rfl (hi26 p) ?_)
      | (refine wpList_load_part rfl 35 (.tmp 3) rfl _ 0 rfl _ _ hM.part Tryz.underlying35 rfl (hi35 _ _ _) ?_)
      | (go_at_call 78; refine (hpn.out _).mono ?_; rintro e w2 ⟨rfl, hbl⟩; replace HB := Lib.hid (HB.out.step hbl); clear hbl))
    go_ret
    exact ⟨⟨false, rfl, fun h => by cases h⟩, HB.out⟩
  · rw [hf] at hpn
    have HF := Lib.hid hf
    obtain ⟨⟨f0, f1⟩, t0, t1⟩ := KM.formed_sq hf
    clear hf
    go_enter Tryz.func68, Tryz.ntmps68
    go_wp2_with (first
      | (refine wpList_load_part rfl 26 (.tmp 2) rfl _ 0 rfl _ _ hP.part Tryz.underlying26 rfl (hi26 p) ?_)
      | (refine wpList_load_part rfl 35 (.tmp 3) rfl _ 0 rfl _ _ hM.part Tryz.underlying35 rfl (hi35 _ _ _) ?_)
      | (go_at_call 78; refine (hpn.out _).mono ?_; rintro e w2 ⟨rfl, hbl⟩; replace hP := hP.below hbl hP.lt; replace hM := hM.below hbl hM.lt; replace HB := Lib.hid (HB.out.step hbl); clear hbl)
      | (go_at_call 38; refine (castle_any _ _ _ _ _ hp f0 f1 t0 t1 HU.out k0 k1).mono ?_; rintro e w2 ⟨rfl, hbl⟩; replace HB := Lib.hid (HB.out.step hbl); clear hbl))
    go_ret
    exact ⟨⟨KM.castleN p f t != 0, rfl, fun _ => by first | exact HF.out | trivial⟩, HB.out⟩

end Go.Proofs.YtgikglnfjkbnhaaGreat
