/-
  move.takes, move.wing, walked (printed by mkmove.py).
-/
import Derived.Test.YtgikglnfjkbnhaaGreatLa
namespace Go.Proofs.YtgikglnfjkbnhaaGreat
open Go.RowKit
set_option maxHeartbeats 400000

theorem takes_a (p : KM.Po) (f t r : Int) (w : World) (hp : p.wf) (_f0 : 0 ≤ f) (_f1 : f < 64) (t0 : 0 ≤ t) (t1 : t < 64) (hz : p.b t.toNat ≠ 0) :
    Calls Tryz.prog 37 #[.agg (KM.pval p), .agg #[.int .i64 f, .int .i64 t, .int .i64 r]] w fun e w' => e = .returned (.int .i64 (KM.takesN p f t)) ∧ Below w.heap.size w w' := by
  have hP := pm_p p f t r w
  have hM := pm_m p f t r w
  have hS := pm_s p f t r w
  have HB := Lib.hid (pm_b p f t r w)
  obtain ⟨n0, n1⟩ := hp.b t.toNat (by omega)
  have b0 : (p.b t.toNat != 0) = true := by simp [hz]
  have HV := Lib.hid (show KM.takesN p f t = t by
    unfold KM.takesN
    rw [if_pos hz])
  have d1 := hM.to
  have d2 := hP.at (i := t.toNat) (by omega)
  go_enter Tryz.func37, Tryz.ntmps37
  go_wp2_with fail
  go_ret
  exact ⟨by rw [HV.out]; rfl, HB.out⟩

theorem takes_b (p : KM.Po) (f t r : Int) (w : World) (hp : p.wf) (f0 : 0 ≤ f) (f1 : f < 64) (t0 : 0 ≤ t) (t1 : t < 64) (hz : p.b t.toNat = 0) (hk : KM.kind (p.b f.toNat) ≠ 1) :
    Calls Tryz.prog 37 #[.agg (KM.pval p), .agg #[.int .i64 f, .int .i64 t, .int .i64 r]] w fun e w' => e = .returned (.int .i64 (KM.takesN p f t)) ∧ Below w.heap.size w w' := by
  have hP := pm_p p f t r w
  have hM := pm_m p f t r w
  have hS := pm_s p f t r w
  have HB := Lib.hid (pm_b p f t r w)
  obtain ⟨n0, n1⟩ := hp.b t.toNat (by omega)
  have b0 : (p.b t.toNat != 0) = false := by simp [hz]
  have b4 : (KM.kind (p.b f.toNat) == 1) = false := by simp [hk]
  have hpn := Lib.hid (show ∀ w', Calls Tryz.prog 34 #[.agg (KM.pval p), .agg #[.int .i64 f, .int .i64 t, .int .i64 r]] w' fun e w'' => e = .returned (.bool false) ∧ Below w'.heap.size w' w'' by
    intro w'
    have h := movePawn_any p f t r w' hp f0 f1
    rw [b4] at h
    exact h)
  clear b4
  have HV := Lib.hid (show KM.takesN p f t = -1 by
    unfold KM.takesN
    rw [if_neg (by simp [hz]), if_neg (fun h => hk h.1)])
  have d1 := hM.to
  have d2 := hP.at (i := t.toNat) (by omega)
  replace hz := Lib.hid hz
  go_enter Tryz.func37, Tryz.ntmps37
  go_wp2_with fail
  clear d1 d2
  generalize (w.alloc (.cells (KM.pval p) 26)).alloc (.cells #[.int .i64 f, .int .i64 t, .int .i64 r] 35) = w0 at *
  have c0 := fun i : Idx (w.heap.size + 2) w0 => (hM.below i.below (by omega)).from
  have c1 := fun i : Idx (w.heap.size + 2) w0 => (hM.below i.below (by omega)).to
  have c5 := fun i : Idx (w.heap.size + 2) w0 => (hP.idx (by omega) i).ep
  refine wp_region_idx (w.heap.size + 2) (by kernel_rfl) (by kernel_rfl) ?_
  repeat (first | go_big_quiet_skip | (go_big_quiet_want; first
    | (refine quiet_load_part 26 (.tmp 2) rfl _ 0 rfl (by omega) _ _ hP.part Tryz.underlying26 rfl (hi26 p) ?_; simp only [Act.put, List.setIfInBounds_toArray, List.set_cons_zero, List.set_cons_succ]; go_big_quiet_on)
    | (refine quiet_load_part 35 (.tmp 3) rfl _ 0 rfl (by omega) _ _ hM.part Tryz.underlying35 rfl (hi35 _ _ _) ?_; simp only [Act.put, List.setIfInBounds_toArray, List.set_cons_zero, List.set_cons_succ]; go_big_quiet_on)
    | (go_big_quiet_op; first | go_big_quiet_on | go_big_quiet_call ((first
      | (go_at_call 39; exact Idx.calls_same (sqFile_any _ _))
      | (go_at_call 34; exact Idx.calls (by omega) (hpn.out _)))))))
  refine wpQuiet_nil ?_
  intro w1 hwq
  have hbq := Idx.get hwq
  clear hwq c0 c1 c5
  replace hP := hP.below hbq (by omega)
  replace hM := hM.below hbq (by omega)
  replace hS := Nat.le_trans hS hbq.size
  replace HB := Lib.hid (HB.out.trans (hbq.mono (Nat.le_add_right _ 2)))
  clear hbq
  go_wp2_with fail
  go_ret
  exact ⟨by rw [HV.out]; rfl, HB.out⟩

theorem takes_c (p : KM.Po) (f t r : Int) (w : World) (hp : p.wf) (f0 : 0 ≤ f) (f1 : f < 64) (t0 : 0 ≤ t) (t1 : t < 64) (hz : p.b t.toNat = 0) (hk : KM.kind (p.b f.toNat) = 1) (he : t ≠ p.ep) :
    Calls Tryz.prog 37 #[.agg (KM.pval p), .agg #[.int .i64 f, .int .i64 t, .int .i64 r]] w fun e w' => e = .returned (.int .i64 (KM.takesN p f t)) ∧ Below w.heap.size w w' := by
  have hP := pm_p p f t r w
  have hM := pm_m p f t r w
  have hS := pm_s p f t r w
  have HB := Lib.hid (pm_b p f t r w)
  obtain ⟨n0, n1⟩ := hp.b t.toNat (by omega)
  have b0 : (p.b t.toNat != 0) = false := by simp [hz]
  have b4 : (KM.kind (p.b f.toNat) == 1) = true := by simp [hk]
  have hpn := Lib.hid (show ∀ w', Calls Tryz.prog 34 #[.agg (KM.pval p), .agg #[.int .i64 f, .int .i64 t, .int .i64 r]] w' fun e w'' => e = .returned (.bool true) ∧ Below w'.heap.size w' w'' by
    intro w'
    have h := movePawn_any p f t r w' hp f0 f1
    rw [b4] at h
    exact h)
  clear b4
  have b5 : (t == p.ep) = false := by simp [he]
  have HV := Lib.hid (show KM.takesN p f t = -1 by
    unfold KM.takesN
    rw [if_neg (by simp [hz]), if_neg (fun h => he h.2.1)])
  have d1 := hM.to
  have d2 := hP.at (i := t.toNat) (by omega)
  replace hz := Lib.hid hz
  replace hk := Lib.hid hk
  go_enter Tryz.func37, Tryz.ntmps37
  go_wp2_with fail
  clear d1 d2
  generalize (w.alloc (.cells (KM.pval p) 26)).alloc (.cells #[.int .i64 f, .int .i64 t, .int .i64 r] 35) = w0 at *
  have c0 := fun i : Idx (w.heap.size + 2) w0 => (hM.below i.below (by omega)).from
  have c1 := fun i : Idx (w.heap.size + 2) w0 => (hM.below i.below (by omega)).to
  have c5 := fun i : Idx (w.heap.size + 2) w0 => (hP.idx (by omega) i).ep
  refine wp_region_idx (w.heap.size + 2) (by kernel_rfl) (by kernel_rfl) ?_
  repeat (first | go_big_quiet_skip | (go_big_quiet_want; first
    | (refine quiet_load_part 26 (.tmp 2) rfl _ 0 rfl (by omega) _ _ hP.part Tryz.underlying26 rfl (hi26 p) ?_; simp only [Act.put, List.setIfInBounds_toArray, List.set_cons_zero, List.set_cons_succ]; go_big_quiet_on)
    | (refine quiet_load_part 35 (.tmp 3) rfl _ 0 rfl (by omega) _ _ hM.part Tryz.underlying35 rfl (hi35 _ _ _) ?_; simp only [Act.put, List.setIfInBounds_toArray, List.set_cons_zero, List.set_cons_succ]; go_big_quiet_on)
    | (go_big_quiet_op; first | go_big_quiet_on | go_big_quiet_call ((first
      | (go_at_call 39; exact Idx.calls_same (sqFile_any _ _))
      | (go_at_call 34; exact Idx.calls (by omega) (hpn.out _)))))))
  refine wpQuiet_nil ?_
  intro w1 hwq
  have hbq := Idx.get hwq
  clear hwq c0 c1 c5
  replace hP := hP.below hbq (by omega)
  replace hM := hM.below hbq (by omega)
  replace hS := Nat.le_trans hS hbq.size
  replace HB := Lib.hid (HB.out.trans (hbq.mono (Nat.le_add_right _ 2)))
  clear hbq
  go_wp2_with fail
  go_ret
  exact ⟨by rw [HV.out]; rfl, HB.out⟩

theorem takes_d (p : KM.Po) (f t r : Int) (w : World) (hp : p.wf) (f0 : 0 ≤ f) (f1 : f < 64) (t0 : 0 ≤ t) (t1 : t < 64) (hz : p.b t.toNat = 0) (hk : KM.kind (p.b f.toNat) = 1) (he : t = p.ep) (hf : KM.file f = KM.file t) :
    Calls Tryz.prog 37 #[.agg (KM.pval p), .agg #[.int .i64 f, .int .i64 t, .int .i64 r]] w fun e w' => e = .returned (.int .i64 (KM.takesN p f t)) ∧ Below w.heap.size w w' := by
  have hP := pm_p p f t r w
  have hM := pm_m p f t r w
  have hS := pm_s p f t r w
  have HB := Lib.hid (pm_b p f t r w)
  obtain ⟨n0, n1⟩ := hp.b t.toNat (by omega)
  have b0 : (p.b t.toNat != 0) = false := by simp [hz]
  have b4 : (KM.kind (p.b f.toNat) == 1) = true := by simp [hk]
  have hpn := Lib.hid (show ∀ w', Calls Tryz.prog 34 #[.agg (KM.pval p), .agg #[.int .i64 f, .int .i64 t, .int .i64 r]] w' fun e w'' => e = .returned (.bool true) ∧ Below w'.heap.size w' w'' by
    intro w'
    have h := movePawn_any p f t r w' hp f0 f1
    rw [b4] at h
    exact h)
  clear b4
  have b5 : (t == p.ep) = true := by simp [he]
  have b6 : (KM.file f != KM.file t) = false := by simp [hf]
  have HV := Lib.hid (show KM.takesN p f t = -1 by
    unfold KM.takesN
    rw [if_neg (by simp [hz]), if_neg (fun h => h.2.2.1 hf)])
  have d1 := hM.to
  have d2 := hP.at (i := t.toNat) (by omega)
  replace hz := Lib.hid hz
  replace hk := Lib.hid hk
  replace he := Lib.hid he
  replace hf := Lib.hid hf
  go_enter Tryz.func37, Tryz.ntmps37
  go_wp2_with fail
  clear d1 d2
  generalize (w.alloc (.cells (KM.pval p) 26)).alloc (.cells #[.int .i64 f, .int .i64 t, .int .i64 r] 35) = w0 at *
  have c0 := fun i : Idx (w.heap.size + 2) w0 => (hM.below i.below (by omega)).from
  have c1 := fun i : Idx (w.heap.size + 2) w0 => (hM.below i.below (by omega)).to
  have c5 := fun i : Idx (w.heap.size + 2) w0 => (hP.idx (by omega) i).ep
  refine wp_region_idx (w.heap.size + 2) (by kernel_rfl) (by kernel_rfl) ?_
  repeat (first | go_big_quiet_skip | (go_big_quiet_want; first
    | (refine quiet_load_part 26 (.tmp 2) rfl _ 0 rfl (by omega) _ _ hP.part Tryz.underlying26 rfl (hi26 p) ?_; simp only [Act.put, List.setIfInBounds_toArray, List.set_cons_zero, List.set_cons_succ]; go_big_quiet_on)
    | (refine quiet_load_part 35 (.tmp 3) rfl _ 0 rfl (by omega) _ _ hM.part Tryz.underlying35 rfl (hi35 _ _ _) ?_; simp only [Act.put, List.setIfInBounds_toArray, List.set_cons_zero, List.set_cons_succ]; go_big_quiet_on)
    | (go_big_quiet_op; first | go_big_quiet_on | go_big_quiet_call ((first
      | (go_at_call 39; exact Idx.calls_same (sqFile_any _ _))
      | (go_at_call 34; exact Idx.calls (by omega) (hpn.out _)))))))
  refine wpQuiet_nil ?_
  intro w1 hwq
  have hbq := Idx.get hwq
  clear hwq c0 c1 c5
  replace hP := hP.below hbq (by omega)
  replace hM := hM.below hbq (by omega)
  replace hS := Nat.le_trans hS hbq.size
  replace HB := Lib.hid (HB.out.trans (hbq.mono (Nat.le_add_right _ 2)))
  clear hbq
  go_wp2_with fail
  go_ret
  exact ⟨by rw [HV.out]; rfl, HB.out⟩

theorem takes_e (p : KM.Po) (f t r : Int) (w : World) (hp : p.wf) (f0 : 0 ≤ f) (f1 : f < 64) (t0 : 0 ≤ t) (t1 : t < 64) (hz : p.b t.toNat = 0) (hk : KM.kind (p.b f.toNat) = 1) (he : t = p.ep) (hf : KM.file f ≠ KM.file t) (hq : KM.passB p = true) :
    Calls Tryz.prog 37 #[.agg (KM.pval p), .agg #[.int .i64 f, .int .i64 t, .int .i64 r]] w fun e w' => e = .returned (.int .i64 (KM.takesN p f t)) ∧ Below w.heap.size w w' := by
  have hP := pm_p p f t r w
  have hM := pm_m p f t r w
  have hS := pm_s p f t r w
  have HB := Lib.hid (pm_b p f t r w)
  obtain ⟨n0, n1⟩ := hp.b t.toNat (by omega)
  have b0 : (p.b t.toNat != 0) = false := by simp [hz]
  have b4 : (KM.kind (p.b f.toNat) == 1) = true := by simp [hk]
  have hpn := Lib.hid (show ∀ w', Calls Tryz.prog 34 #[.agg (KM.pval p), .agg #[.int .i64 f, .int .i64 t, .int .i64 r]] w' fun e w'' => e = .returned (.bool true) ∧ Below w'.heap.size w' w'' by
    intro w'
    have h := movePawn_any p f t r w' hp f0 f1
    rw [b4] at h
    exact h)
  clear b4
  have b5 : (t == p.ep) = true := by simp [he]
  have b6 : (KM.file f != KM.file t) = true := by simp [hf]
  have HV := Lib.hid (show KM.takesN p f t = KM.passN p by
    unfold KM.takesN
    rw [if_neg (by simp [hz]), if_pos ⟨hk, he, hf, hq⟩])
  have d1 := hM.to
  have d2 := hP.at (i := t.toNat) (by omega)
  replace hz := Lib.hid hz
  replace hk := Lib.hid hk
  replace he := Lib.hid he
  go_enter Tryz.func37, Tryz.ntmps37
  go_wp2_with fail
  clear d1 d2
  generalize (w.alloc (.cells (KM.pval p) 26)).alloc (.cells #[.int .i64 f, .int .i64 t, .int .i64 r] 35) = w0 at *
  have c0 := fun i : Idx (w.heap.size + 2) w0 => (hM.below i.below (by omega)).from
  have c1 := fun i : Idx (w.heap.size + 2) w0 => (hM.below i.below (by omega)).to
  have c5 := fun i : Idx (w.heap.size + 2) w0 => (hP.idx (by omega) i).ep
  refine wp_region_idx (w.heap.size + 2) (by kernel_rfl) (by kernel_rfl) ?_
  repeat (first | go_big_quiet_skip | (go_big_quiet_want; first
    | (refine quiet_load_part 26 (.tmp 2) rfl _ 0 rfl (by omega) _ _ hP.part Tryz.underlying26 rfl (hi26 p) ?_; simp only [Act.put, List.setIfInBounds_toArray, List.set_cons_zero, List.set_cons_succ]; go_big_quiet_on)
    | (refine quiet_load_part 35 (.tmp 3) rfl _ 0 rfl (by omega) _ _ hM.part Tryz.underlying35 rfl (hi35 _ _ _) ?_; simp only [Act.put, List.setIfInBounds_toArray, List.set_cons_zero, List.set_cons_succ]; go_big_quiet_on)
    | (go_big_quiet_op; first | go_big_quiet_on | go_big_quiet_call ((first
      | (go_at_call 39; exact Idx.calls_same (sqFile_any _ _))
      | (go_at_call 34; exact Idx.calls (by omega) (hpn.out _)))))))
  refine wpQuiet_nil ?_
  intro w1 hwq
  have hbq := Idx.get hwq
  clear hwq c0 c1 c5
  replace hP := hP.below hbq (by omega)
  replace hM := hM.below hbq (by omega)
  replace hS := Nat.le_trans hS hbq.size
  replace HB := Lib.hid (HB.out.trans (hbq.mono (Nat.le_add_right _ 2)))
  clear hbq
  go_wp2_with (first
    | (refine wpList_load_part rfl 26 (.tmp 2) rfl _ 0 rfl _ _ hP.part Tryz.underlying26 rfl (hi26 p) ?_)
    | (go_at_call 26; refine (posPassed_any _ _ hp).mono ?_; rw [hq]; rintro e w2 ⟨rfl, hbl⟩; replace HB := Lib.hid (HB.out.step hbl); clear hbl))
  go_ret
  exact ⟨by rw [HV.out]; rfl, HB.out⟩

theorem takes_f (p : KM.Po) (f t r : Int) (w : World) (hp : p.wf) (f0 : 0 ≤ f) (f1 : f < 64) (t0 : 0 ≤ t) (t1 : t < 64) (hz : p.b t.toNat = 0) (hk : KM.kind (p.b f.toNat) = 1) (he : t = p.ep) (hf : KM.file f ≠ KM.file t) (hq : KM.passB p = false) :
    Calls Tryz.prog 37 #[.agg (KM.pval p), .agg #[.int .i64 f, .int .i64 t, .int .i64 r]] w fun e w' => e = .returned (.int .i64 (KM.takesN p f t)) ∧ Below w.heap.size w w' := by
  have hP := pm_p p f t r w
  have hM := pm_m p f t r w
  have hS := pm_s p f t r w
  have HB := Lib.hid (pm_b p f t r w)
  obtain ⟨n0, n1⟩ := hp.b t.toNat (by omega)
  have b0 : (p.b t.toNat != 0) = false := by simp [hz]
  have b4 : (KM.kind (p.b f.toNat) == 1) = true := by simp [hk]
  have hpn := Lib.hid (show ∀ w', Calls Tryz.prog 34 #[.agg (KM.pval p), .agg #[.int .i64 f, .int .i64 t, .int .i64 r]] w' fun e w'' => e = .returned (.bool true) ∧ Below w'.heap.size w' w'' by
    intro w'
    have h := movePawn_any p f t r w' hp f0 f1
    rw [b4] at h
    exact h)
  clear b4
  have b5 : (t == p.ep) = true := by simp [he]
  have b6 : (KM.file f != KM.file t) = true := by simp [hf]
  have HV := Lib.hid (show KM.takesN p f t = -1 by
    unfold KM.takesN
    rw [if_neg (by simp [hz]), if_neg (fun h => by rw [hq] at h; exact Bool.false_ne_true h.2.2.2)])
  have d1 := hM.to
  have d2 := hP.at (i := t.toNat) (by omega)
  replace hz := Lib.hid hz
  replace hk := Lib.hid hk
  replace he := Lib.hid he
  go_enter Tryz.func37, Tryz.ntmps37
  go_wp2_with fail
  clear d1 d2
  generalize (w.alloc (.cells (KM.pval p) 26)).alloc (.cells #[.int .i64 f, .int .i64 t, .int .i64 r] 35) = w0 at *
  have c0 := fun i : Idx (w.heap.size + 2) w0 => (hM.below i.below (by omega)).from
  have c1 := fun i : Idx (w.heap.size + 2) w0 => (hM.below i.below (by omega)).to
  have c5 := fun i : Idx (w.heap.size + 2) w0 => (hP.idx (by omega) i).ep
  refine wp_region_idx (w.heap.size + 2) (by kernel_rfl) (by kernel_rfl) ?_
  repeat (first | go_big_quiet_skip | (go_big_quiet_want; first
    | (refine quiet_load_part 26 (.tmp 2) rfl _ 0 rfl (by omega) _ _ hP.part Tryz.underlying26 rfl (hi26 p) ?_; simp only [Act.put, List.setIfInBounds_toArray, List.set_cons_zero, List.set_cons_succ]; go_big_quiet_on)
    | (refine quiet_load_part 35 (.tmp 3) rfl _ 0 rfl (by omega) _ _ hM.part Tryz.underlying35 rfl (hi35 _ _ _) ?_; simp only [Act.put, List.setIfInBounds_toArray, List.set_cons_zero, List.set_cons_succ]; go_big_quiet_on)
    | (go_big_quiet_op; first | go_big_quiet_on | go_big_quiet_call ((first
      | (go_at_call 39; exact Idx.calls_same (sqFile_any _ _))
      | (go_at_call 34; exact Idx.calls (by omega) (hpn.out _)))))))
  refine wpQuiet_nil ?_
  intro w1 hwq
  have hbq := Idx.get hwq
  clear hwq c0 c1 c5
  replace hP := hP.below hbq (by omega)
  replace hM := hM.below hbq (by omega)
  replace hS := Nat.le_trans hS hbq.size
  replace HB := Lib.hid (HB.out.trans (hbq.mono (Nat.le_add_right _ 2)))
  clear hbq
  go_wp2_with (first
    | (refine wpList_load_part rfl 26 (.tmp 2) rfl _ 0 rfl _ _ hP.part Tryz.underlying26 rfl (hi26 p) ?_)
    | (go_at_call 26; refine (posPassed_any _ _ hp).mono ?_; rw [hq]; rintro e w2 ⟨rfl, hbl⟩; replace HB := Lib.hid (HB.out.step hbl); clear hbl))
  go_ret
  exact ⟨by rw [HV.out]; rfl, HB.out⟩

theorem takes_any (p : KM.Po) (f t r : Int) (w : World) (hp : p.wf) (f0 : 0 ≤ f) (f1 : f < 64) (t0 : 0 ≤ t) (t1 : t < 64) :
    Calls Tryz.prog 37 #[.agg (KM.pval p), .agg #[.int .i64 f, .int .i64 t, .int .i64 r]] w fun e w' => e = .returned (.int .i64 (KM.takesN p f t)) ∧ Below w.heap.size w w' := by
  by_cases hz : p.b t.toNat = 0
  · by_cases hk : KM.kind (p.b f.toNat) = 1
    · by_cases he : t = p.ep
      · by_cases hf : KM.file f = KM.file t
        · exact takes_d p f t r w hp f0 f1 t0 t1 hz hk he hf
        · cases hq : KM.passB p
          · exact takes_f p f t r w hp f0 f1 t0 t1 hz hk he hf hq
          · exact takes_e p f t r w hp f0 f1 t0 t1 hz hk he hf hq
      · exact takes_c p f t r w hp f0 f1 t0 t1 hz hk he
    · exact takes_b p f t r w hp f0 f1 t0 t1 hz hk
  · exact takes_a p f t r w hp f0 f1 t0 t1 hz

def KM.wingN (p : KM.Po) (f t : Int) : Int :=
  if p.b f.toNat ≠ KM.mk 6 p.turn ∨ f ≠ 4 + 56 * p.turn then 0
  else if t - f = 2 then (if p.turn = 1 then 4 else 1)
  else if t - f = -2 then (if p.turn = 1 then 8 else 2)
  else 0

theorem wing_a0 (p : KM.Po) (f t r : Int) (w : World) (hp : p.wf) (f0 : 0 ≤ f) (f1 : f < 64) (_t0 : 0 ≤ t) (_t1 : t < 64) (hu : p.turn = 0) (h1 : p.b f.toNat ≠ KM.mk 6 0) :
    Calls Tryz.prog 60 #[.agg (KM.pval p), .agg #[.int .i64 f, .int .i64 t, .int .i64 r]] w fun e w' => e = .returned (.int .i64 (KM.wingN p f t)) ∧ Below w.heap.size w w' := by
  have hP := pm_p p f t r w
  have hM := pm_m p f t r w
  have hS := pm_s p f t r w
  have HB := Lib.hid (pm_b p f t r w)
  have b1 : (p.b f.toNat != KM.mk 6 0) = true := by simp [h1]
  have HV := Lib.hid (show KM.wingN p f t = 0 by
    unfold KM.wingN
    rw [hu]
    rw [if_pos (.inl h1)])
  have d1 := hP.turn
  rw [hu] at d1
  replace hu := Lib.hid hu
  go_enter Tryz.func60, Tryz.ntmps60
  go_wp2_with fail
  clear d1
  generalize (w.alloc (.cells (KM.pval p) 26)).alloc (.cells #[.int .i64 f, .int .i64 t, .int .i64 r] 35) = w0 at *
  have c0 := fun i : Idx (w.heap.size + 2) w0 => (hM.below i.below (by omega)).from
  have c3 := fun i : Idx (w.heap.size + 2) w0 => (hu.out ▸ (hP.idx (by omega) i).turn : i.val.cell? ⟨w.heap.size, 64, none⟩ = some (.int .i64 0))
  refine wp_region_idx (w.heap.size + 2) (by kernel_rfl) (by kernel_rfl) ?_
  repeat (first | go_big_quiet_skip | (go_big_quiet_want; first
    | (refine quiet_load_part 26 (.tmp 2) rfl _ 0 rfl (by omega) _ _ hP.part Tryz.underlying26 rfl (hi26 p) ?_; simp only [Act.put, List.setIfInBounds_toArray, List.set_cons_zero, List.set_cons_succ]; go_big_quiet_on)
    | (refine quiet_load_part 35 (.tmp 3) rfl _ 0 rfl (by omega) _ _ hM.part Tryz.underlying35 rfl (hi35 _ _ _) ?_; simp only [Act.put, List.setIfInBounds_toArray, List.set_cons_zero, List.set_cons_succ]; go_big_quiet_on)
    | (go_big_quiet_op; first | go_big_quiet_on | go_big_quiet_call ((first
      | (go_at_call 33; exact Idx.calls (by omega) (moveMan_any _ _ _ _ _ hp f0 f1))
      | (go_at_call 41; exact Idx.calls_same (manMake_any _ _ _)))))))
  refine wpQuiet_nil ?_
  intro w1 hwq
  have hbq := Idx.get hwq
  clear hwq c0 c3
  replace hP := hP.below hbq (by omega)
  replace hM := hM.below hbq (by omega)
  replace hS := Nat.le_trans hS hbq.size
  replace HB := Lib.hid (HB.out.trans (hbq.mono (Nat.le_add_right _ 2)))
  clear hbq
  have d0 := hM.from
  have d1 := hM.to
  have d2 := hP.turn
  rw [hu.out] at d2
  go_wp2_with fail
  go_ret
  exact ⟨by rw [HV.out]; rfl, HB.out⟩

theorem wing_b0 (p : KM.Po) (f t r : Int) (w : World) (hp : p.wf) (f0 : 0 ≤ f) (f1 : f < 64) (_t0 : 0 ≤ t) (_t1 : t < 64) (hu : p.turn = 0) (h1 : p.b f.toNat = KM.mk 6 0) (h2 : f ≠ 4) :
    Calls Tryz.prog 60 #[.agg (KM.pval p), .agg #[.int .i64 f, .int .i64 t, .int .i64 r]] w fun e w' => e = .returned (.int .i64 (KM.wingN p f t)) ∧ Below w.heap.size w w' := by
  have hP := pm_p p f t r w
  have hM := pm_m p f t r w
  have hS := pm_s p f t r w
  have HB := Lib.hid (pm_b p f t r w)
  have b1 : (p.b f.toNat != KM.mk 6 0) = false := by simp [h1]
  have b2 : (f != 4) = true := by simp [h2]
  have HV := Lib.hid (show KM.wingN p f t = 0 by
    unfold KM.wingN
    rw [hu]
    rw [if_pos (.inr (by omega))])
  have d1 := hP.turn
  rw [hu] at d1
  replace h1 := Lib.hid h1
  replace hu := Lib.hid hu
  go_enter Tryz.func60, Tryz.ntmps60
  go_wp2_with fail
  clear d1
  generalize (w.alloc (.cells (KM.pval p) 26)).alloc (.cells #[.int .i64 f, .int .i64 t, .int .i64 r] 35) = w0 at *
  have c0 := fun i : Idx (w.heap.size + 2) w0 => (hM.below i.below (by omega)).from
  have c3 := fun i : Idx (w.heap.size + 2) w0 => (hu.out ▸ (hP.idx (by omega) i).turn : i.val.cell? ⟨w.heap.size, 64, none⟩ = some (.int .i64 0))
  refine wp_region_idx (w.heap.size + 2) (by kernel_rfl) (by kernel_rfl) ?_
  repeat (first | go_big_quiet_skip | (go_big_quiet_want; first
    | (refine quiet_load_part 26 (.tmp 2) rfl _ 0 rfl (by omega) _ _ hP.part Tryz.underlying26 rfl (hi26 p) ?_; simp only [Act.put, List.setIfInBounds_toArray, List.set_cons_zero, List.set_cons_succ]; go_big_quiet_on)
    | (refine quiet_load_part 35 (.tmp 3) rfl _ 0 rfl (by omega) _ _ hM.part Tryz.underlying35 rfl (hi35 _ _ _) ?_; simp only [Act.put, List.setIfInBounds_toArray, List.set_cons_zero, List.set_cons_succ]; go_big_quiet_on)
    | (go_big_quiet_op; first | go_big_quiet_on | go_big_quiet_call ((first
      | (go_at_call 33; exact Idx.calls (by omega) (moveMan_any _ _ _ _ _ hp f0 f1))
      | (go_at_call 41; exact Idx.calls_same (manMake_any _ _ _)))))))
  refine wpQuiet_nil ?_
  intro w1 hwq
  have hbq := Idx.get hwq
  clear hwq c0 c3
  replace hP := hP.below hbq (by omega)
  replace hM := hM.below hbq (by omega)
  replace hS := Nat.le_trans hS hbq.size
  replace HB := Lib.hid (HB.out.trans (hbq.mono (Nat.le_add_right _ 2)))
  clear hbq
  have d0 := hM.from
  have d1 := hM.to
  have d2 := hP.turn
  rw [hu.out] at d2
  go_wp2_with fail
  go_ret
  exact ⟨by rw [HV.out]; rfl, HB.out⟩

theorem wing_c0 (p : KM.Po) (f t r : Int) (w : World) (hp : p.wf) (f0 : 0 ≤ f) (f1 : f < 64) (t0 : 0 ≤ t) (t1 : t < 64) (hu : p.turn = 0) (h1 : p.b f.toNat = KM.mk 6 0) (h2 : f = 4) (h3 : t - f = 2) :
    Calls Tryz.prog 60 #[.agg (KM.pval p), .agg #[.int .i64 f, .int .i64 t, .int .i64 r]] w fun e w' => e = .returned (.int .i64 (KM.wingN p f t)) ∧ Below w.heap.size w w' := by
  have hP := pm_p p f t r w
  have hM := pm_m p f t r w
  have hS := pm_s p f t r w
  have HB := Lib.hid (pm_b p f t r w)
  have b1 : (p.b f.toNat != KM.mk 6 0) = false := by simp [h1]
  have b2 : (f != 4) = false := by simp [h2]
  have b3 : (t - f == 2) = true := by simp [h3]
  have HV := Lib.hid (show KM.wingN p f t = 1 by
    unfold KM.wingN
    rw [hu]
    rw [if_neg (by rw [h1]; simp; omega), if_pos h3, if_neg (by decide)])
  have d1 := hP.turn
  rw [hu] at d1
  replace h1 := Lib.hid h1
  replace h2 := Lib.hid h2
  replace h3 := Lib.hid h3
  replace hu := Lib.hid hu
  go_enter Tryz.func60, Tryz.ntmps60
  go_wp2_with fail
  clear d1
  generalize (w.alloc (.cells (KM.pval p) 26)).alloc (.cells #[.int .i64 f, .int .i64 t, .int .i64 r] 35) = w0 at *
  have c0 := fun i : Idx (w.heap.size + 2) w0 => (hM.below i.below (by omega)).from
  have c3 := fun i : Idx (w.heap.size + 2) w0 => (hu.out ▸ (hP.idx (by omega) i).turn : i.val.cell? ⟨w.heap.size, 64, none⟩ = some (.int .i64 0))
  refine wp_region_idx (w.heap.size + 2) (by kernel_rfl) (by kernel_rfl) ?_
  repeat (first | go_big_quiet_skip | (go_big_quiet_want; first
    | (refine quiet_load_part 26 (.tmp 2) rfl _ 0 rfl (by omega) _ _ hP.part Tryz.underlying26 rfl (hi26 p) ?_; simp only [Act.put, List.setIfInBounds_toArray, List.set_cons_zero, List.set_cons_succ]; go_big_quiet_on)
    | (refine quiet_load_part 35 (.tmp 3) rfl _ 0 rfl (by omega) _ _ hM.part Tryz.underlying35 rfl (hi35 _ _ _) ?_; simp only [Act.put, List.setIfInBounds_toArray, List.set_cons_zero, List.set_cons_succ]; go_big_quiet_on)
    | (go_big_quiet_op; first | go_big_quiet_on | go_big_quiet_call ((first
      | (go_at_call 33; exact Idx.calls (by omega) (moveMan_any _ _ _ _ _ hp f0 f1))
      | (go_at_call 41; exact Idx.calls_same (manMake_any _ _ _)))))))
  refine wpQuiet_nil ?_
  intro w1 hwq
  have hbq := Idx.get hwq
  clear hwq c0 c3
  replace hP := hP.below hbq (by omega)
  replace hM := hM.below hbq (by omega)
  replace hS := Nat.le_trans hS hbq.size
  replace HB := Lib.hid (HB.out.trans (hbq.mono (Nat.le_add_right _ 2)))
  clear hbq
  have d0 := hM.from
  have d1 := hM.to
  have d2 := hP.turn
  rw [hu.out] at d2
  go_wp2_with fail
  go_ret
  exact ⟨by rw [HV.out]; rfl, HB.out⟩

theorem wing_d0 (p : KM.Po) (f t r : Int) (w : World) (hp : p.wf) (f0 : 0 ≤ f) (f1 : f < 64) (t0 : 0 ≤ t) (t1 : t < 64) (hu : p.turn = 0) (h1 : p.b f.toNat = KM.mk 6 0) (h2 : f = 4) (h3 : t - f = -2) :
    Calls Tryz.prog 60 #[.agg (KM.pval p), .agg #[.int .i64 f, .int .i64 t, .int .i64 r]] w fun e w' => e = .returned (.int .i64 (KM.wingN p f t)) ∧ Below w.heap.size w w' := by
  have hP := pm_p p f t r w
  have hM := pm_m p f t r w
  have hS := pm_s p f t r w
  have HB := Lib.hid (pm_b p f t r w)
  have b1 : (p.b f.toNat != KM.mk 6 0) = false := by simp [h1]
  have b2 : (f != 4) = false := by simp [h2]
  have b3 : (t - f == 2) = false := by simp; omega
  have b4 : (t - f == -2) = true := by simp [h3]
  have HV := Lib.hid (show KM.wingN p f t = 2 by
    unfold KM.wingN
    rw [hu]
    rw [if_neg (by rw [h1]; simp; omega), if_neg (by omega), if_pos h3, if_neg (by decide)])
  have d1 := hP.turn
  rw [hu] at d1
  replace h1 := Lib.hid h1
  replace h2 := Lib.hid h2
  replace h3 := Lib.hid h3
  replace hu := Lib.hid hu
  go_enter Tryz.func60, Tryz.ntmps60
  go_wp2_with fail
  clear d1
  generalize (w.alloc (.cells (KM.pval p) 26)).alloc (.cells #[.int .i64 f, .int .i64 t, .int .i64 r] 35) = w0 at *
  have c0 := fun i : Idx (w.heap.size + 2) w0 => (hM.below i.below (by omega)).from
  have c3 := fun i : Idx (w.heap.size + 2) w0 => (hu.out ▸ (hP.idx (by omega) i).turn : i.val.cell? ⟨w.heap.size, 64, none⟩ = some (.int .i64 0))
  refine wp_region_idx (w.heap.size + 2) (by kernel_rfl) (by kernel_rfl) ?_
  repeat (first | go_big_quiet_skip | (go_big_quiet_want; first
    | (refine quiet_load_part 26 (.tmp 2) rfl _ 0 rfl (by omega) _ _ hP.part Tryz.underlying26 rfl (hi26 p) ?_; simp only [Act.put, List.setIfInBounds_toArray, List.set_cons_zero, List.set_cons_succ]; go_big_quiet_on)
    | (refine quiet_load_part 35 (.tmp 3) rfl _ 0 rfl (by omega) _ _ hM.part Tryz.underlying35 rfl (hi35 _ _ _) ?_; simp only [Act.put, List.setIfInBounds_toArray, List.set_cons_zero, List.set_cons_succ]; go_big_quiet_on)
    | (go_big_quiet_op; first | go_big_quiet_on | go_big_quiet_call ((first
      | (go_at_call 33; exact Idx.calls (by omega) (moveMan_any _ _ _ _ _ hp f0 f1))
      | (go_at_call 41; exact Idx.calls_same (manMake_any _ _ _)))))))
  refine wpQuiet_nil ?_
  intro w1 hwq
  have hbq := Idx.get hwq
  clear hwq c0 c3
  replace hP := hP.below hbq (by omega)
  replace hM := hM.below hbq (by omega)
  replace hS := Nat.le_trans hS hbq.size
  replace HB := Lib.hid (HB.out.trans (hbq.mono (Nat.le_add_right _ 2)))
  clear hbq
  have d0 := hM.from
  have d1 := hM.to
  have d2 := hP.turn
  rw [hu.out] at d2
  go_wp2_with fail
  go_ret
  exact ⟨by rw [HV.out]; rfl, HB.out⟩

theorem wing_e0 (p : KM.Po) (f t r : Int) (w : World) (hp : p.wf) (f0 : 0 ≤ f) (f1 : f < 64) (t0 : 0 ≤ t) (t1 : t < 64) (hu : p.turn = 0) (h1 : p.b f.toNat = KM.mk 6 0) (h2 : f = 4) (h3 : t - f ≠ 2) (h4 : t - f ≠ -2) :
    Calls Tryz.prog 60 #[.agg (KM.pval p), .agg #[.int .i64 f, .int .i64 t, .int .i64 r]] w fun e w' => e = .returned (.int .i64 (KM.wingN p f t)) ∧ Below w.heap.size w w' := by
  have hP := pm_p p f t r w
  have hM := pm_m p f t r w
  have hS := pm_s p f t r w
  have HB := Lib.hid (pm_b p f t r w)
  have b1 : (p.b f.toNat != KM.mk 6 0) = false := by simp [h1]
  have b2 : (f != 4) = false := by simp [h2]
  have b3 : (t - f == 2) = false := by simp [h3]
  have b4 : (t - f == -2) = false := by simp [h4]
  have HV := Lib.hid (show KM.wingN p f t = 0 by
    unfold KM.wingN
    rw [hu]
    rw [if_neg (by rw [h1]; simp; omega), if_neg h3, if_neg h4])
  have d1 := hP.turn
  rw [hu] at d1
  replace h1 := Lib.hid h1
  replace h2 := Lib.hid h2
  replace hu := Lib.hid hu
  go_enter Tryz.func60, Tryz.ntmps60
  go_wp2_with fail
  clear d1
  generalize (w.alloc (.cells (KM.pval p) 26)).alloc (.cells #[.int .i64 f, .int .i64 t, .int .i64 r] 35) = w0 at *
  have c0 := fun i : Idx (w.heap.size + 2) w0 => (hM.below i.below (by omega)).from
  have c3 := fun i : Idx (w.heap.size + 2) w0 => (hu.out ▸ (hP.idx (by omega) i).turn : i.val.cell? ⟨w.heap.size, 64, none⟩ = some (.int .i64 0))
  refine wp_region_idx (w.heap.size + 2) (by kernel_rfl) (by kernel_rfl) ?_
  repeat (first | go_big_quiet_skip | (go_big_quiet_want; first
    | (refine quiet_load_part 26 (.tmp 2) rfl _ 0 rfl (by omega) _ _ hP.part Tryz.underlying26 rfl (hi26 p) ?_; simp only [Act.put, List.setIfInBounds_toArray, List.set_cons_zero, List.set_cons_succ]; go_big_quiet_on)
    | (refine quiet_load_part 35 (.tmp 3) rfl _ 0 rfl (by omega) _ _ hM.part Tryz.underlying35 rfl (hi35 _ _ _) ?_; simp only [Act.put, List.setIfInBounds_toArray, List.set_cons_zero, List.set_cons_succ]; go_big_quiet_on)
    | (go_big_quiet_op; first | go_big_quiet_on | go_big_quiet_call ((first
      | (go_at_call 33; exact Idx.calls (by omega) (moveMan_any _ _ _ _ _ hp f0 f1))
      | (go_at_call 41; exact Idx.calls_same (manMake_any _ _ _)))))))
  refine wpQuiet_nil ?_
  intro w1 hwq
  have hbq := Idx.get hwq
  clear hwq c0 c3
  replace hP := hP.below hbq (by omega)
  replace hM := hM.below hbq (by omega)
  replace hS := Nat.le_trans hS hbq.size
  replace HB := Lib.hid (HB.out.trans (hbq.mono (Nat.le_add_right _ 2)))
  clear hbq
  have d0 := hM.from
  have d1 := hM.to
  have d2 := hP.turn
  rw [hu.out] at d2
  go_wp2_with fail
  go_ret
  exact ⟨by rw [HV.out]; rfl, HB.out⟩

theorem wing_any0 (p : KM.Po) (f t r : Int) (w : World) (hp : p.wf) (f0 : 0 ≤ f) (f1 : f < 64) (t0 : 0 ≤ t) (t1 : t < 64) (hu : p.turn = 0) :
    Calls Tryz.prog 60 #[.agg (KM.pval p), .agg #[.int .i64 f, .int .i64 t, .int .i64 r]] w fun e w' => e = .returned (.int .i64 (KM.wingN p f t)) ∧ Below w.heap.size w w' := by
  by_cases h1 : p.b f.toNat = KM.mk 6 0
  · by_cases h2 : f = 4
    · by_cases h3 : t - f = 2
      · exact wing_c0 p f t r w hp f0 f1 t0 t1 hu h1 h2 h3
      · by_cases h4 : t - f = -2
        · exact wing_d0 p f t r w hp f0 f1 t0 t1 hu h1 h2 h4
        · exact wing_e0 p f t r w hp f0 f1 t0 t1 hu h1 h2 h3 h4
    · exact wing_b0 p f t r w hp f0 f1 t0 t1 hu h1 h2
  · exact wing_a0 p f t r w hp f0 f1 t0 t1 hu h1

theorem wing_a1 (p : KM.Po) (f t r : Int) (w : World) (hp : p.wf) (f0 : 0 ≤ f) (f1 : f < 64) (_t0 : 0 ≤ t) (_t1 : t < 64) (hu : p.turn = 1) (h1 : p.b f.toNat ≠ KM.mk 6 1) :
    Calls Tryz.prog 60 #[.agg (KM.pval p), .agg #[.int .i64 f, .int .i64 t, .int .i64 r]] w fun e w' => e = .returned (.int .i64 (KM.wingN p f t)) ∧ Below w.heap.size w w' := by
  have hP := pm_p p f t r w
  have hM := pm_m p f t r w
  have hS := pm_s p f t r w
  have HB := Lib.hid (pm_b p f t r w)
  have b1 : (p.b f.toNat != KM.mk 6 1) = true := by simp [h1]
  have HV := Lib.hid (show KM.wingN p f t = 0 by
    unfold KM.wingN
    rw [hu]
    rw [if_pos (.inl h1)])
  have d1 := hP.turn
  rw [hu] at d1
  replace hu := Lib.hid hu
  go_enter Tryz.func60, Tryz.ntmps60
  go_wp2_with fail
  clear d1
  generalize (w.alloc (.cells (KM.pval p) 26)).alloc (.cells #[.int .i64 f, .int .i64 t, .int .i64 r] 35) = w0 at *
  have c0 := fun i : Idx (w.heap.size + 2) w0 => (hM.below i.below (by omega)).from
  have c3 := fun i : Idx (w.heap.size + 2) w0 => (hu.out ▸ (hP.idx (by omega) i).turn : i.val.cell? ⟨w.heap.size, 64, none⟩ = some (.int .i64 1))
  refine wp_region_idx (w.heap.size + 2) (by kernel_rfl) (by kernel_rfl) ?_
  repeat (first | go_big_quiet_skip | (go_big_quiet_want; first
    | (refine quiet_load_part 26 (.tmp 2) rfl _ 0 rfl (by omega) _ _ hP.part Tryz.underlying26 rfl (hi26 p) ?_; simp only [Act.put, List.setIfInBounds_toArray, List.set_cons_zero, List.set_cons_succ]; go_big_quiet_on)
    | (refine quiet_load_part 35 (.tmp 3) rfl _ 0 rfl (by omega) _ _ hM.part Tryz.underlying35 rfl (hi35 _ _ _) ?_; simp only [Act.put, List.setIfInBounds_toArray, List.set_cons_zero, List.set_cons_succ]; go_big_quiet_on)
    | (go_big_quiet_op; first | go_big_quiet_on | go_big_quiet_call ((first
      | (go_at_call 33; exact Idx.calls (by omega) (moveMan_any _ _ _ _ _ hp f0 f1))
      | (go_at_call 41; exact Idx.calls_same (manMake_any _ _ _)))))))
  refine wpQuiet_nil ?_
  intro w1 hwq
  have hbq := Idx.get hwq
  clear hwq c0 c3
  replace hP := hP.below hbq (by omega)
  replace hM := hM.below hbq (by omega)
  replace hS := Nat.le_trans hS hbq.size
  replace HB := Lib.hid (HB.out.trans (hbq.mono (Nat.le_add_right _ 2)))
  clear hbq
  have d0 := hM.from
  have d1 := hM.to
  have d2 := hP.turn
  rw [hu.out] at d2
  go_wp2_with fail
  go_ret
  exact ⟨by rw [HV.out]; rfl, HB.out⟩

theorem wing_b1 (p : KM.Po) (f t r : Int) (w : World) (hp : p.wf) (f0 : 0 ≤ f) (f1 : f < 64) (_t0 : 0 ≤ t) (_t1 : t < 64) (hu : p.turn = 1) (h1 : p.b f.toNat = KM.mk 6 1) (h2 : f ≠ 60) :
    Calls Tryz.prog 60 #[.agg (KM.pval p), .agg #[.int .i64 f, .int .i64 t, .int .i64 r]] w fun e w' => e = .returned (.int .i64 (KM.wingN p f t)) ∧ Below w.heap.size w w' := by
  have hP := pm_p p f t r w
  have hM := pm_m p f t r w
  have hS := pm_s p f t r w
  have HB := Lib.hid (pm_b p f t r w)
  have b1 : (p.b f.toNat != KM.mk 6 1) = false := by simp [h1]
  have b2 : (f != 60) = true := by simp [h2]
  have HV := Lib.hid (show KM.wingN p f t = 0 by
    unfold KM.wingN
    rw [hu]
    rw [if_pos (.inr (by omega))])
  have d1 := hP.turn
  rw [hu] at d1
  replace h1 := Lib.hid h1
  replace hu := Lib.hid hu
  go_enter Tryz.func60, Tryz.ntmps60
  go_wp2_with fail
  clear d1
  generalize (w.alloc (.cells (KM.pval p) 26)).alloc (.cells #[.int .i64 f, .int .i64 t, .int .i64 r] 35) = w0 at *
  have c0 := fun i : Idx (w.heap.size + 2) w0 => (hM.below i.below (by omega)).from
  have c3 := fun i : Idx (w.heap.size + 2) w0 => (hu.out ▸ (hP.idx (by omega) i).turn : i.val.cell? ⟨w.heap.size, 64, none⟩ = some (.int .i64 1))
  refine wp_region_idx (w.heap.size + 2) (by kernel_rfl) (by kernel_rfl) ?_
  repeat (first | go_big_quiet_skip | (go_big_quiet_want; first
    | (refine quiet_load_part 26 (.tmp 2) rfl _ 0 rfl (by omega) _ _ hP.part Tryz.underlying26 rfl (hi26 p) ?_; simp only [Act.put, List.setIfInBounds_toArray, List.set_cons_zero, List.set_cons_succ]; go_big_quiet_on)
    | (refine quiet_load_part 35 (.tmp 3) rfl _ 0 rfl (by omega) _ _ hM.part Tryz.underlying35 rfl (hi35 _ _ _) ?_; simp only [Act.put, List.setIfInBounds_toArray, List.set_cons_zero, List.set_cons_succ]; go_big_quiet_on)
    | (go_big_quiet_op; first | go_big_quiet_on | go_big_quiet_call ((first
      | (go_at_call 33; exact Idx.calls (by omega) (moveMan_any _ _ _ _ _ hp f0 f1))
      | (go_at_call 41; exact Idx.calls_same (manMake_any _ _ _)))))))
  refine wpQuiet_nil ?_
  intro w1 hwq
  have hbq := Idx.get hwq
  clear hwq c0 c3
  replace hP := hP.below hbq (by omega)
  replace hM := hM.below hbq (by omega)
  replace hS := Nat.le_trans hS hbq.size
  replace HB := Lib.hid (HB.out.trans (hbq.mono (Nat.le_add_right _ 2)))
  clear hbq
  have d0 := hM.from
  have d1 := hM.to
  have d2 := hP.turn
  rw [hu.out] at d2
  go_wp2_with fail
  go_ret
  exact ⟨by rw [HV.out]; rfl, HB.out⟩

theorem wing_c1 (p : KM.Po) (f t r : Int) (w : World) (hp : p.wf) (f0 : 0 ≤ f) (f1 : f < 64) (t0 : 0 ≤ t) (t1 : t < 64) (hu : p.turn = 1) (h1 : p.b f.toNat = KM.mk 6 1) (h2 : f = 60) (h3 : t - f = 2) :
    Calls Tryz.prog 60 #[.agg (KM.pval p), .agg #[.int .i64 f, .int .i64 t, .int .i64 r]] w fun e w' => e = .returned (.int .i64 (KM.wingN p f t)) ∧ Below w.heap.size w w' := by
  have hP := pm_p p f t r w
  have hM := pm_m p f t r w
  have hS := pm_s p f t r w
  have HB := Lib.hid (pm_b p f t r w)
  have b1 : (p.b f.toNat != KM.mk 6 1) = false := by simp [h1]
  have b2 : (f != 60) = false := by simp [h2]
  have b3 : (t - f == 2) = true := by simp [h3]
  have HV := Lib.hid (show KM.wingN p f t = 4 by
    unfold KM.wingN
    rw [hu]
    rw [if_neg (by rw [h1]; simp; omega), if_pos h3, if_pos rfl])
  have d1 := hP.turn
  rw [hu] at d1
  replace h1 := Lib.hid h1
  replace h2 := Lib.hid h2
  replace h3 := Lib.hid h3
  replace hu := Lib.hid hu
  go_enter Tryz.func60, Tryz.ntmps60
  go_wp2_with fail
  clear d1
  generalize (w.alloc (.cells (KM.pval p) 26)).alloc (.cells #[.int .i64 f, .int .i64 t, .int .i64 r] 35) = w0 at *
  have c0 := fun i : Idx (w.heap.size + 2) w0 => (hM.below i.below (by omega)).from
  have c3 := fun i : Idx (w.heap.size + 2) w0 => (hu.out ▸ (hP.idx (by omega) i).turn : i.val.cell? ⟨w.heap.size, 64, none⟩ = some (.int .i64 1))
  refine wp_region_idx (w.heap.size + 2) (by kernel_rfl) (by kernel_rfl) ?_
  repeat (first | go_big_quiet_skip | (go_big_quiet_want; first
    | (refine quiet_load_part 26 (.tmp 2) rfl _ 0 rfl (by omega) _ _ hP.part Tryz.underlying26 rfl (hi26 p) ?_; simp only [Act.put, List.setIfInBounds_toArray, List.set_cons_zero, List.set_cons_succ]; go_big_quiet_on)
    | (refine quiet_load_part 35 (.tmp 3) rfl _ 0 rfl (by omega) _ _ hM.part Tryz.underlying35 rfl (hi35 _ _ _) ?_; simp only [Act.put, List.setIfInBounds_toArray, List.set_cons_zero, List.set_cons_succ]; go_big_quiet_on)
    | (go_big_quiet_op; first | go_big_quiet_on | go_big_quiet_call ((first
      | (go_at_call 33; exact Idx.calls (by omega) (moveMan_any _ _ _ _ _ hp f0 f1))
      | (go_at_call 41; exact Idx.calls_same (manMake_any _ _ _)))))))
  refine wpQuiet_nil ?_
  intro w1 hwq
  have hbq := Idx.get hwq
  clear hwq c0 c3
  replace hP := hP.below hbq (by omega)
  replace hM := hM.below hbq (by omega)
  replace hS := Nat.le_trans hS hbq.size
  replace HB := Lib.hid (HB.out.trans (hbq.mono (Nat.le_add_right _ 2)))
  clear hbq
  have d0 := hM.from
  have d1 := hM.to
  have d2 := hP.turn
  rw [hu.out] at d2
  go_wp2_with fail
  go_ret
  exact ⟨by rw [HV.out]; rfl, HB.out⟩

theorem wing_d1 (p : KM.Po) (f t r : Int) (w : World) (hp : p.wf) (f0 : 0 ≤ f) (f1 : f < 64) (t0 : 0 ≤ t) (t1 : t < 64) (hu : p.turn = 1) (h1 : p.b f.toNat = KM.mk 6 1) (h2 : f = 60) (h3 : t - f = -2) :
    Calls Tryz.prog 60 #[.agg (KM.pval p), .agg #[.int .i64 f, .int .i64 t, .int .i64 r]] w fun e w' => e = .returned (.int .i64 (KM.wingN p f t)) ∧ Below w.heap.size w w' := by
  have hP := pm_p p f t r w
  have hM := pm_m p f t r w
  have hS := pm_s p f t r w
  have HB := Lib.hid (pm_b p f t r w)
  have b1 : (p.b f.toNat != KM.mk 6 1) = false := by simp [h1]
  have b2 : (f != 60) = false := by simp [h2]
  have b3 : (t - f == 2) = false := by simp; omega
  have b4 : (t - f == -2) = true := by simp [h3]
  have HV := Lib.hid (show KM.wingN p f t = 8 by
    unfold KM.wingN
    rw [hu]
    rw [if_neg (by rw [h1]; simp; omega), if_neg (by omega), if_pos h3, if_pos rfl])
  have d1 := hP.turn
  rw [hu] at d1
  replace h1 := Lib.hid h1
  replace h2 := Lib.hid h2
  replace h3 := Lib.hid h3
  replace hu := Lib.hid hu
  go_enter Tryz.func60, Tryz.ntmps60
  go_wp2_with fail
  clear d1
  generalize (w.alloc (.cells (KM.pval p) 26)).alloc (.cells #[.int .i64 f, .int .i64 t, .int .i64 r] 35) = w0 at *
  have c0 := fun i : Idx (w.heap.size + 2) w0 => (hM.below i.below (by omega)).from
  have c3 := fun i : Idx (w.heap.size + 2) w0 => (hu.out ▸ (hP.idx (by omega) i).turn : i.val.cell? ⟨w.heap.size, 64, none⟩ = some (.int .i64 1))
  refine wp_region_idx (w.heap.size + 2) (by kernel_rfl) (by kernel_rfl) ?_
  repeat (first | go_big_quiet_skip | (go_big_quiet_want; first
    | (refine quiet_load_part 26 (.tmp 2) rfl _ 0 rfl (by omega) _ _ hP.part Tryz.underlying26 rfl (hi26 p) ?_; simp only [Act.put, List.setIfInBounds_toArray, List.set_cons_zero, List.set_cons_succ]; go_big_quiet_on)
    | (refine quiet_load_part 35 (.tmp 3) rfl _ 0 rfl (by omega) _ _ hM.part Tryz.underlying35 rfl (hi35 _ _ _) ?_; simp only [Act.put, List.setIfInBounds_toArray, List.set_cons_zero, List.set_cons_succ]; go_big_quiet_on)
    | (go_big_quiet_op; first | go_big_quiet_on | go_big_quiet_call ((first
      | (go_at_call 33; exact Idx.calls (by omega) (moveMan_any _ _ _ _ _ hp f0 f1))
      | (go_at_call 41; exact Idx.calls_same (manMake_any _ _ _)))))))
  refine wpQuiet_nil ?_
  intro w1 hwq
  have hbq := Idx.get hwq
  clear hwq c0 c3
  replace hP := hP.below hbq (by omega)
  replace hM := hM.below hbq (by omega)
  replace hS := Nat.le_trans hS hbq.size
  replace HB := Lib.hid (HB.out.trans (hbq.mono (Nat.le_add_right _ 2)))
  clear hbq
  have d0 := hM.from
  have d1 := hM.to
  have d2 := hP.turn
  rw [hu.out] at d2
  go_wp2_with fail
  go_ret
  exact ⟨by rw [HV.out]; rfl, HB.out⟩

theorem wing_e1 (p : KM.Po) (f t r : Int) (w : World) (hp : p.wf) (f0 : 0 ≤ f) (f1 : f < 64) (t0 : 0 ≤ t) (t1 : t < 64) (hu : p.turn = 1) (h1 : p.b f.toNat = KM.mk 6 1) (h2 : f = 60) (h3 : t - f ≠ 2) (h4 : t - f ≠ -2) :
    Calls Tryz.prog 60 #[.agg (KM.pval p), .agg #[.int .i64 f, .int .i64 t, .int .i64 r]] w fun e w' => e = .returned (.int .i64 (KM.wingN p f t)) ∧ Below w.heap.size w w' := by
  have hP := pm_p p f t r w
  have hM := pm_m p f t r w
  have hS := pm_s p f t r w
  have HB := Lib.hid (pm_b p f t r w)
  have b1 : (p.b f.toNat != KM.mk 6 1) = false := by simp [h1]
  have b2 : (f != 60) = false := by simp [h2]
  have b3 : (t - f == 2) = false := by simp [h3]
  have b4 : (t - f == -2) = false := by simp [h4]
  have HV := Lib.hid (show KM.wingN p f t = 0 by
    unfold KM.wingN
    rw [hu]
    rw [if_neg (by rw [h1]; simp; omega), if_neg h3, if_neg h4])
  have d1 := hP.turn
  rw [hu] at d1
  replace h1 := Lib.hid h1
  replace h2 := Lib.hid h2
  replace hu := Lib.hid hu
  go_enter Tryz.func60, Tryz.ntmps60
  go_wp2_with fail
  clear d1
  generalize (w.alloc (.cells (KM.pval p) 26)).alloc (.cells #[.int .i64 f, .int .i64 t, .int .i64 r] 35) = w0 at *
  have c0 := fun i : Idx (w.heap.size + 2) w0 => (hM.below i.below (by omega)).from
  have c3 := fun i : Idx (w.heap.size + 2) w0 => (hu.out ▸ (hP.idx (by omega) i).turn : i.val.cell? ⟨w.heap.size, 64, none⟩ = some (.int .i64 1))
  refine wp_region_idx (w.heap.size + 2) (by kernel_rfl) (by kernel_rfl) ?_
  repeat (first | go_big_quiet_skip | (go_big_quiet_want; first
    | (refine quiet_load_part 26 (.tmp 2) rfl _ 0 rfl (by omega) _ _ hP.part Tryz.underlying26 rfl (hi26 p) ?_; simp only [Act.put, List.setIfInBounds_toArray, List.set_cons_zero, List.set_cons_succ]; go_big_quiet_on)
    | (refine quiet_load_part 35 (.tmp 3) rfl _ 0 rfl (by omega) _ _ hM.part Tryz.underlying35 rfl (hi35 _ _ _) ?_; simp only [Act.put, List.setIfInBounds_toArray, List.set_cons_zero, List.set_cons_succ]; go_big_quiet_on)
    | (go_big_quiet_op; first | go_big_quiet_on | go_big_quiet_call ((first
      | (go_at_call 33; exact Idx.calls (by omega) (moveMan_any _ _ _ _ _ hp f0 f1))
      | (go_at_call 41; exact Idx.calls_same (manMake_any _ _ _)))))))
  refine wpQuiet_nil ?_
  intro w1 hwq
  have hbq := Idx.get hwq
  clear hwq c0 c3
  replace hP := hP.below hbq (by omega)
  replace hM := hM.below hbq (by omega)
  replace hS := Nat.le_trans hS hbq.size
  replace HB := Lib.hid (HB.out.trans (hbq.mono (Nat.le_add_right _ 2)))
  clear hbq
  have d0 := hM.from
  have d1 := hM.to
  have d2 := hP.turn
  rw [hu.out] at d2
  go_wp2_with fail
  go_ret
  exact ⟨by rw [HV.out]; rfl, HB.out⟩

theorem wing_any1 (p : KM.Po) (f t r : Int) (w : World) (hp : p.wf) (f0 : 0 ≤ f) (f1 : f < 64) (t0 : 0 ≤ t) (t1 : t < 64) (hu : p.turn = 1) :
    Calls Tryz.prog 60 #[.agg (KM.pval p), .agg #[.int .i64 f, .int .i64 t, .int .i64 r]] w fun e w' => e = .returned (.int .i64 (KM.wingN p f t)) ∧ Below w.heap.size w w' := by
  by_cases h1 : p.b f.toNat = KM.mk 6 1
  · by_cases h2 : f = 60
    · by_cases h3 : t - f = 2
      · exact wing_c1 p f t r w hp f0 f1 t0 t1 hu h1 h2 h3
      · by_cases h4 : t - f = -2
        · exact wing_d1 p f t r w hp f0 f1 t0 t1 hu h1 h2 h4
        · exact wing_e1 p f t r w hp f0 f1 t0 t1 hu h1 h2 h3 h4
    · exact wing_b1 p f t r w hp f0 f1 t0 t1 hu h1 h2
  · exact wing_a1 p f t r w hp f0 f1 t0 t1 hu h1

theorem wing_any (p : KM.Po) (f t r : Int) (w : World) (hp : p.wf) (f0 : 0 ≤ f) (f1 : f < 64) (t0 : 0 ≤ t) (t1 : t < 64) (hu : p.turn = 0 ∨ p.turn = 1) :
    Calls Tryz.prog 60 #[.agg (KM.pval p), .agg #[.int .i64 f, .int .i64 t, .int .i64 r]] w fun e w' => e = .returned (.int .i64 (KM.wingN p f t)) ∧ Below w.heap.size w w' := by
  rcases hu with hu | hu
  · exact wing_any0 p f t r w hp f0 f1 t0 t1 hu
  · exact wing_any1 p f t r w hp f0 f1 t0 t1 hu

end Go.Proofs.YtgikglnfjkbnhaaGreat
