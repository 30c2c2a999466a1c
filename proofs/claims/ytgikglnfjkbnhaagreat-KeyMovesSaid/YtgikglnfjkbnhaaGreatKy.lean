/-
  move.formed, move.Formed, walked (printed by mkformed.py).
-/
import Derived.Test.YtgikglnfjkbnhaaGreatKu
namespace Go.Proofs.YtgikglnfjkbnhaaGreat
open Go.RowKit
set_option maxHeartbeats 400000

theorem pm_p (p : KM.Po) (f t r : Int) (w : World) : PBox ((w.alloc (.cells (KM.pval p) 26)).alloc (.cells #[.int .i64 f, .int .i64 t, .int .i64 r] 35)) w.heap.size p := by
  unfold PBox
  rw [Below.heap_alloc _ _ _ (by simp)]
  exact PBox.new w p
theorem pm_m (p : KM.Po) (f t r : Int) (w : World) : MBox ((w.alloc (.cells (KM.pval p) 26)).alloc (.cells #[.int .i64 f, .int .i64 t, .int .i64 r] 35)) (w.heap.size + 1) f t r := by
  have := heap_alloc_new (w.alloc (.cells (KM.pval p) 26)) (Obj.cells #[.int .i64 f, .int .i64 t, .int .i64 r] 35)
  unfold MBox
  simpa using this
theorem pm_b (p : KM.Po) (f t r : Int) (w : World) : Below w.heap.size w ((w.alloc (.cells (KM.pval p) 26)).alloc (.cells #[.int .i64 f, .int .i64 t, .int .i64 r] 35)) :=
  ((Below.refl w.heap.size w).alloc (Nat.le_refl _) (Obj.cells (KM.pval p) 26)).alloc (by simp) (Obj.cells #[.int .i64 f, .int .i64 t, .int .i64 r] 35)
theorem pm_s (p : KM.Po) (f t r : Int) (w : World) : w.heap.size + 2 ≤ ((w.alloc (.cells (KM.pval p) 26)).alloc (.cells #[.int .i64 f, .int .i64 t, .int .i64 r] 35)).heap.size := by simp

/-- None of who is to move. -/
def KM.opn (p : KM.Po) (t : Int) : Bool := decide (p.b t.toNat = 0) || !(decide (KM.side (p.b t.toNat) = p.turn))
def KM.formed1 (p : KM.Po) (f t : Int) : Bool := KM.sqR f && KM.sqR t && decide (KM.side (p.b f.toNat) = p.turn) && KM.opn p t
def KM.promoOk (p : KM.Po) (f t r : Int) : Bool := if KM.kind (p.b f.toNat) = 1 ∧ KM.rank t = KM.last p.turn then decide (2 ≤ r) && decide (r ≤ 5) else r == 0
def KM.formed (p : KM.Po) (f t r : Int) : Bool := KM.formed1 p f t && KM.promoOk p f t r

theorem formed_a (p : KM.Po) (f t r : Int) (w : World) (_hp : p.wf) (hf : KM.sqR f = false) :
    Calls Tryz.prog 19 #[.agg (KM.pval p), .agg #[.int .i64 f, .int .i64 t, .int .i64 r]] w fun e w' => e = .returned (.bool (KM.formed p f t r)) ∧ Below w.heap.size w w' := by
  have hP := pm_p p f t r w
  have hM := pm_m p f t r w
  have hS := pm_s p f t r w
  have HB := Lib.hid (pm_b p f t r w)
  have HV := Lib.hid (show KM.formed p f t r = false by
    unfold KM.formed KM.formed1; rw [hf]; simp)
  go_enter Tryz.func19, Tryz.ntmps19
  go_wp2_with fail
  generalize (w.alloc (.cells (KM.pval p) 26)).alloc (.cells #[.int .i64 f, .int .i64 t, .int .i64 r] 35) = w0 at *
  have c0 := fun i : Idx (w.heap.size + 2) w0 => (hM.below i.below (by omega)).from
  have c1 := fun i : Idx (w.heap.size + 2) w0 => (hM.below i.below (by omega)).to
  have c3 := fun i : Idx (w.heap.size + 2) w0 => (hP.idx (by omega) i).turn
  refine wp_region_idx (w.heap.size + 2) (by kernel_rfl) (by kernel_rfl) ?_
  repeat (first | go_big_quiet_skip | (go_big_quiet_want; first
    | (refine quiet_load_part 26 (.tmp 2) rfl _ 0 rfl (by omega) _ _ hP.part Tryz.underlying26 rfl (hi26 p) ?_; simp only [Act.put, List.setIfInBounds_toArray, List.set_cons_zero, List.set_cons_succ]; go_big_quiet_on)
    | (refine quiet_load_part 35 (.tmp 3) rfl _ 0 rfl (by omega) _ _ hM.part Tryz.underlying35 rfl (hi35 _ _ _) ?_; simp only [Act.put, List.setIfInBounds_toArray, List.set_cons_zero, List.set_cons_succ]; go_big_quiet_on)
    | (go_big_quiet_op; first | go_big_quiet_on | go_big_quiet_call ((first
      | (go_at_call 31; exact Idx.calls_same (sqRight_any _ _))
      | (go_at_call 32; exact Idx.calls_same (manSide_any _ _))
      | (go_at_call 35; exact Idx.calls_same (sqRank_any _ _))
      | (go_at_call 36; exact Idx.calls_same (mvLast_any _ _)))))))
  refine wpQuiet_nil ?_
  intro w1 hwq
  have hbq := Idx.get hwq
  clear hwq c0 c1 c3
  replace hP := hP.below hbq (by omega)
  replace hM := hM.below hbq (by omega)
  replace hS := Nat.le_trans hS hbq.size
  replace HB := Lib.hid (HB.out.trans (hbq.mono (Nat.le_add_right _ 2)))
  clear hbq
  go_wp2_with fail
  go_ret
  exact ⟨by rw [HV.out]; first | rfl | (simp; done), HB.out⟩

theorem formed_b (p : KM.Po) (f t r : Int) (w : World) (hp : p.wf) (hf : KM.sqR f = true) (ht : KM.sqR t = false) :
    Calls Tryz.prog 19 #[.agg (KM.pval p), .agg #[.int .i64 f, .int .i64 t, .int .i64 r]] w fun e w' => e = .returned (.bool (KM.formed p f t r)) ∧ Below w.heap.size w w' := by
  have hP := pm_p p f t r w
  have hM := pm_m p f t r w
  have hS := pm_s p f t r w
  have HB := Lib.hid (pm_b p f t r w)
  obtain ⟨f0, f1⟩ := KM.sqR_iff.1 hf
  obtain ⟨m0, m1⟩ := hp.b f.toNat (by omega)
  have HV := Lib.hid (show KM.formed p f t r = false by
    unfold KM.formed KM.formed1; rw [hf, ht]; simp)
  go_enter Tryz.func19, Tryz.ntmps19
  go_wp2_with fail
  generalize (w.alloc (.cells (KM.pval p) 26)).alloc (.cells #[.int .i64 f, .int .i64 t, .int .i64 r] 35) = w0 at *
  have c0 := fun i : Idx (w.heap.size + 2) w0 => (hM.below i.below (by omega)).from
  have c1 := fun i : Idx (w.heap.size + 2) w0 => (hM.below i.below (by omega)).to
  have c3 := fun i : Idx (w.heap.size + 2) w0 => (hP.idx (by omega) i).turn
  refine wp_region_idx (w.heap.size + 2) (by kernel_rfl) (by kernel_rfl) ?_
  repeat (first | go_big_quiet_skip | (go_big_quiet_want; first
    | (refine quiet_load_part 26 (.tmp 2) rfl _ 0 rfl (by omega) _ _ hP.part Tryz.underlying26 rfl (hi26 p) ?_; simp only [Act.put, List.setIfInBounds_toArray, List.set_cons_zero, List.set_cons_succ]; go_big_quiet_on)
    | (refine quiet_load_part 35 (.tmp 3) rfl _ 0 rfl (by omega) _ _ hM.part Tryz.underlying35 rfl (hi35 _ _ _) ?_; simp only [Act.put, List.setIfInBounds_toArray, List.set_cons_zero, List.set_cons_succ]; go_big_quiet_on)
    | (go_big_quiet_op; first | go_big_quiet_on | go_big_quiet_call ((first
      | (go_at_call 31; exact Idx.calls_same (sqRight_any _ _))
      | (go_at_call 32; exact Idx.calls_same (manSide_any _ _))
      | (go_at_call 35; exact Idx.calls_same (sqRank_any _ _))
      | (go_at_call 36; exact Idx.calls_same (mvLast_any _ _))
      | (go_at_call 33; exact Idx.calls (by omega) (moveMan_any _ _ _ _ _ hp f0 f1))
      | (go_at_call 34; exact Idx.calls (by omega) (hpn.out _)))))))
  refine wpQuiet_nil ?_
  intro w1 hwq
  have hbq := Idx.get hwq
  clear hwq c0 c1 c3
  replace hP := hP.below hbq (by omega)
  replace hM := hM.below hbq (by omega)
  replace hS := Nat.le_trans hS hbq.size
  replace HB := Lib.hid (HB.out.trans (hbq.mono (Nat.le_add_right _ 2)))
  clear hbq
  go_wp2_with fail
  go_ret
  exact ⟨by rw [HV.out]; first | rfl | (simp; done), HB.out⟩

theorem formed_c (p : KM.Po) (f t r : Int) (w : World) (hp : p.wf) (hf : KM.sqR f = true) (ht : KM.sqR t = true) (hs : KM.side (p.b f.toNat) ≠ p.turn) :
    Calls Tryz.prog 19 #[.agg (KM.pval p), .agg #[.int .i64 f, .int .i64 t, .int .i64 r]] w fun e w' => e = .returned (.bool (KM.formed p f t r)) ∧ Below w.heap.size w w' := by
  have hP := pm_p p f t r w
  have hM := pm_m p f t r w
  have hS := pm_s p f t r w
  have HB := Lib.hid (pm_b p f t r w)
  obtain ⟨f0, f1⟩ := KM.sqR_iff.1 hf
  obtain ⟨m0, m1⟩ := hp.b f.toNat (by omega)
  obtain ⟨t0, t1⟩ := KM.sqR_iff.1 ht
  obtain ⟨n0, n1⟩ := hp.b t.toNat (by omega)
  have b1 : (KM.side (p.b f.toNat) != p.turn) = true := by simp [hs]
  have HV := Lib.hid (show KM.formed p f t r = false by
    unfold KM.formed KM.formed1; simp [hs])
  go_enter Tryz.func19, Tryz.ntmps19
  go_wp2_with fail
  generalize (w.alloc (.cells (KM.pval p) 26)).alloc (.cells #[.int .i64 f, .int .i64 t, .int .i64 r] 35) = w0 at *
  have c0 := fun i : Idx (w.heap.size + 2) w0 => (hM.below i.below (by omega)).from
  have c1 := fun i : Idx (w.heap.size + 2) w0 => (hM.below i.below (by omega)).to
  have c3 := fun i : Idx (w.heap.size + 2) w0 => (hP.idx (by omega) i).turn
  have c4 := fun i : Idx (w.heap.size + 2) w0 => (hP.idx (by omega) i).at (i := t.toNat) (by omega)
  refine wp_region_idx (w.heap.size + 2) (by kernel_rfl) (by kernel_rfl) ?_
  repeat (first | go_big_quiet_skip | (go_big_quiet_want; first
    | (refine quiet_load_part 26 (.tmp 2) rfl _ 0 rfl (by omega) _ _ hP.part Tryz.underlying26 rfl (hi26 p) ?_; simp only [Act.put, List.setIfInBounds_toArray, List.set_cons_zero, List.set_cons_succ]; go_big_quiet_on)
    | (refine quiet_load_part 35 (.tmp 3) rfl _ 0 rfl (by omega) _ _ hM.part Tryz.underlying35 rfl (hi35 _ _ _) ?_; simp only [Act.put, List.setIfInBounds_toArray, List.set_cons_zero, List.set_cons_succ]; go_big_quiet_on)
    | (go_big_quiet_op; first | go_big_quiet_on | go_big_quiet_call ((first
      | (go_at_call 31; exact Idx.calls_same (sqRight_any _ _))
      | (go_at_call 32; exact Idx.calls_same (manSide_any _ _))
      | (go_at_call 35; exact Idx.calls_same (sqRank_any _ _))
      | (go_at_call 36; exact Idx.calls_same (mvLast_any _ _))
      | (go_at_call 33; exact Idx.calls (by omega) (moveMan_any _ _ _ _ _ hp f0 f1))
      | (go_at_call 34; exact Idx.calls (by omega) (hpn.out _)))))))
  refine wpQuiet_nil ?_
  intro w1 hwq
  have hbq := Idx.get hwq
  clear hwq c0 c1 c3 c4
  replace hP := hP.below hbq (by omega)
  replace hM := hM.below hbq (by omega)
  replace hS := Nat.le_trans hS hbq.size
  replace HB := Lib.hid (HB.out.trans (hbq.mono (Nat.le_add_right _ 2)))
  clear hbq
  go_wp2_with fail
  go_ret
  exact ⟨by rw [HV.out]; first | rfl | (simp; done), HB.out⟩

theorem formed_d (p : KM.Po) (f t r : Int) (w : World) (hp : p.wf) (hf : KM.sqR f = true) (ht : KM.sqR t = true) (hs : KM.side (p.b f.toNat) = p.turn) (hz : p.b t.toNat ≠ 0) (he : KM.side (p.b t.toNat) = p.turn) :
    Calls Tryz.prog 19 #[.agg (KM.pval p), .agg #[.int .i64 f, .int .i64 t, .int .i64 r]] w fun e w' => e = .returned (.bool (KM.formed p f t r)) ∧ Below w.heap.size w w' := by
  have hP := pm_p p f t r w
  have hM := pm_m p f t r w
  have hS := pm_s p f t r w
  have HB := Lib.hid (pm_b p f t r w)
  obtain ⟨f0, f1⟩ := KM.sqR_iff.1 hf
  obtain ⟨m0, m1⟩ := hp.b f.toNat (by omega)
  obtain ⟨t0, t1⟩ := KM.sqR_iff.1 ht
  obtain ⟨n0, n1⟩ := hp.b t.toNat (by omega)
  have b1 : (KM.side (p.b f.toNat) != p.turn) = false := by simp [hs]
  have b2 : (p.b t.toNat != 0) = true := by simp [hz]
  have b3 : (KM.side (p.b t.toNat) == p.turn) = true := by simp [he]
  have HV := Lib.hid (show KM.formed p f t r = false by
    unfold KM.formed KM.formed1; unfold KM.opn; simp [hz, he])
  replace hs := Lib.hid hs
  replace he := Lib.hid he
  go_enter Tryz.func19, Tryz.ntmps19
  go_wp2_with fail
  generalize (w.alloc (.cells (KM.pval p) 26)).alloc (.cells #[.int .i64 f, .int .i64 t, .int .i64 r] 35) = w0 at *
  have c0 := fun i : Idx (w.heap.size + 2) w0 => (hM.below i.below (by omega)).from
  have c1 := fun i : Idx (w.heap.size + 2) w0 => (hM.below i.below (by omega)).to
  have c3 := fun i : Idx (w.heap.size + 2) w0 => (hP.idx (by omega) i).turn
  have c4 := fun i : Idx (w.heap.size + 2) w0 => (hP.idx (by omega) i).at (i := t.toNat) (by omega)
  refine wp_region_idx (w.heap.size + 2) (by kernel_rfl) (by kernel_rfl) ?_
  repeat (first | go_big_quiet_skip | (go_big_quiet_want; first
    | (refine quiet_load_part 26 (.tmp 2) rfl _ 0 rfl (by omega) _ _ hP.part Tryz.underlying26 rfl (hi26 p) ?_; simp only [Act.put, List.setIfInBounds_toArray, List.set_cons_zero, List.set_cons_succ]; go_big_quiet_on)
    | (refine quiet_load_part 35 (.tmp 3) rfl _ 0 rfl (by omega) _ _ hM.part Tryz.underlying35 rfl (hi35 _ _ _) ?_; simp only [Act.put, List.setIfInBounds_toArray, List.set_cons_zero, List.set_cons_succ]; go_big_quiet_on)
    | (go_big_quiet_op; first | go_big_quiet_on | go_big_quiet_call ((first
      | (go_at_call 31; exact Idx.calls_same (sqRight_any _ _))
      | (go_at_call 32; exact Idx.calls_same (manSide_any _ _))
      | (go_at_call 35; exact Idx.calls_same (sqRank_any _ _))
      | (go_at_call 36; exact Idx.calls_same (mvLast_any _ _))
      | (go_at_call 33; exact Idx.calls (by omega) (moveMan_any _ _ _ _ _ hp f0 f1))
      | (go_at_call 34; exact Idx.calls (by omega) (hpn.out _)))))))
  refine wpQuiet_nil ?_
  intro w1 hwq
  have hbq := Idx.get hwq
  clear hwq c0 c1 c3 c4
  replace hP := hP.below hbq (by omega)
  replace hM := hM.below hbq (by omega)
  replace hS := Nat.le_trans hS hbq.size
  replace HB := Lib.hid (HB.out.trans (hbq.mono (Nat.le_add_right _ 2)))
  clear hbq
  go_wp2_with fail
  go_ret
  exact ⟨by rw [HV.out]; first | rfl | (simp; done), HB.out⟩

theorem formed_zn (p : KM.Po) (f t r : Int) (w : World) (hp : p.wf) (hf : KM.sqR f = true) (ht : KM.sqR t = true) (hs : KM.side (p.b f.toNat) = p.turn) (hz : p.b t.toNat = 0) (hk : KM.kind (p.b f.toNat) ≠ 1) :
    Calls Tryz.prog 19 #[.agg (KM.pval p), .agg #[.int .i64 f, .int .i64 t, .int .i64 r]] w fun e w' => e = .returned (.bool (KM.formed p f t r)) ∧ Below w.heap.size w w' := by
  have hP := pm_p p f t r w
  have hM := pm_m p f t r w
  have hS := pm_s p f t r w
  have HB := Lib.hid (pm_b p f t r w)
  obtain ⟨f0, f1⟩ := KM.sqR_iff.1 hf
  obtain ⟨m0, m1⟩ := hp.b f.toNat (by omega)
  obtain ⟨t0, t1⟩ := KM.sqR_iff.1 ht
  obtain ⟨n0, n1⟩ := hp.b t.toNat (by omega)
  have b1 : (KM.side (p.b f.toNat) != p.turn) = false := by simp [hs]
  have b2 : (p.b t.toNat != 0) = false := by simp [hz]
  have b4 : (KM.kind (p.b f.toNat) == 1) = false := by simp [hk]
  have h1 : KM.formed1 p f t = true := by unfold KM.formed1 KM.opn; simp [hf, ht, hs, hz]
  have HV := Lib.hid (show KM.formed p f t r = (r == 0) by
    unfold KM.formed; rw [h1, Bool.true_and]; unfold KM.promoOk; rw [if_neg (fun h => hk h.1)])
  have hpn := Lib.hid (show ∀ w', Calls Tryz.prog 34 #[.agg (KM.pval p), .agg #[.int .i64 f, .int .i64 t, .int .i64 r]] w' fun e w'' => e = .returned (.bool false) ∧ Below w'.heap.size w' w'' by
    intro w'
    have h := movePawn_any p f t r w' hp f0 f1
    rw [b4] at h
    exact h)
  clear b4
  clear h1
  replace hs := Lib.hid hs
  replace hz := Lib.hid hz
  go_enter Tryz.func19, Tryz.ntmps19
  go_wp2_with fail
  generalize (w.alloc (.cells (KM.pval p) 26)).alloc (.cells #[.int .i64 f, .int .i64 t, .int .i64 r] 35) = w0 at *
  have c0 := fun i : Idx (w.heap.size + 2) w0 => (hM.below i.below (by omega)).from
  have c1 := fun i : Idx (w.heap.size + 2) w0 => (hM.below i.below (by omega)).to
  have c3 := fun i : Idx (w.heap.size + 2) w0 => (hP.idx (by omega) i).turn
  have c4 := fun i : Idx (w.heap.size + 2) w0 => (hP.idx (by omega) i).at (i := t.toNat) (by omega)
  refine wp_region_idx (w.heap.size + 2) (by kernel_rfl) (by kernel_rfl) ?_
  repeat (first | go_big_quiet_skip | (go_big_quiet_want; first
    | (refine quiet_load_part 26 (.tmp 2) rfl _ 0 rfl (by omega) _ _ hP.part Tryz.underlying26 rfl (hi26 p) ?_; simp only [Act.put, List.setIfInBounds_toArray, List.set_cons_zero, List.set_cons_succ]; go_big_quiet_on)
    | (refine quiet_load_part 35 (.tmp 3) rfl _ 0 rfl (by omega) _ _ hM.part Tryz.underlying35 rfl (hi35 _ _ _) ?_; simp only [Act.put, List.setIfInBounds_toArray, List.set_cons_zero, List.set_cons_succ]; go_big_quiet_on)
    | (go_big_quiet_op; first | go_big_quiet_on | go_big_quiet_call ((first
      | (go_at_call 31; exact Idx.calls_same (sqRight_any _ _))
      | (go_at_call 32; exact Idx.calls_same (manSide_any _ _))
      | (go_at_call 35; exact Idx.calls_same (sqRank_any _ _))
      | (go_at_call 36; exact Idx.calls_same (mvLast_any _ _))
      | (go_at_call 33; exact Idx.calls (by omega) (moveMan_any _ _ _ _ _ hp f0 f1))
      | (go_at_call 34; exact Idx.calls (by omega) (hpn.out _)))))))
  refine wpQuiet_nil ?_
  intro w1 hwq
  have hbq := Idx.get hwq
  clear hwq c0 c1 c3 c4
  replace hP := hP.below hbq (by omega)
  replace hM := hM.below hbq (by omega)
  replace hS := Nat.le_trans hS hbq.size
  replace HB := Lib.hid (HB.out.trans (hbq.mono (Nat.le_add_right _ 2)))
  clear hbq
  go_wp2_with fail
  have c0 := fun i : Idx (w.heap.size + 2) w1 => (hM.below i.below (by omega)).from
  have c1 := fun i : Idx (w.heap.size + 2) w1 => (hM.below i.below (by omega)).to
  have c3 := fun i : Idx (w.heap.size + 2) w1 => (hP.idx (by omega) i).turn
  have c4 := fun i : Idx (w.heap.size + 2) w1 => (hP.idx (by omega) i).at (i := t.toNat) (by omega)
  refine wp_region_idx (w.heap.size + 2) (by kernel_rfl) (by kernel_rfl) ?_
  repeat (first | go_big_quiet_skip | (go_big_quiet_want; first
    | (refine quiet_load_part 26 (.tmp 2) rfl _ 0 rfl (by omega) _ _ hP.part Tryz.underlying26 rfl (hi26 p) ?_; simp only [Act.put, List.setIfInBounds_toArray, List.set_cons_zero, List.set_cons_succ]; go_big_quiet_on)
    | (refine quiet_load_part 35 (.tmp 3) rfl _ 0 rfl (by omega) _ _ hM.part Tryz.underlying35 rfl (hi35 _ _ _) ?_; simp only [Act.put, List.setIfInBounds_toArray, List.set_cons_zero, List.set_cons_succ]; go_big_quiet_on)
    | (go_big_quiet_op; first | go_big_quiet_on | go_big_quiet_call ((first
      | (go_at_call 31; exact Idx.calls_same (sqRight_any _ _))
      | (go_at_call 32; exact Idx.calls_same (manSide_any _ _))
      | (go_at_call 35; exact Idx.calls_same (sqRank_any _ _))
      | (go_at_call 36; exact Idx.calls_same (mvLast_any _ _))
      | (go_at_call 33; exact Idx.calls (by omega) (moveMan_any _ _ _ _ _ hp f0 f1))
      | (go_at_call 34; exact Idx.calls (by omega) (hpn.out _)))))))
  refine wpQuiet_nil ?_
  intro w2 hwq
  have hbq := Idx.get hwq
  clear hwq c0 c1 c3 c4
  replace hP := hP.below hbq (by omega)
  replace hM := hM.below hbq (by omega)
  replace hS := Nat.le_trans hS hbq.size
  replace HB := Lib.hid (HB.out.trans (hbq.mono (Nat.le_add_right _ 2)))
  clear hbq
  have c2 := hM.promo
  go_wp2_with fail
  go_ret
  exact ⟨by rw [HV.out]; first | rfl | (simp; done), HB.out⟩

theorem formed_zr (p : KM.Po) (f t r : Int) (w : World) (hp : p.wf) (hf : KM.sqR f = true) (ht : KM.sqR t = true) (hs : KM.side (p.b f.toNat) = p.turn) (hz : p.b t.toNat = 0) (hk : KM.kind (p.b f.toNat) = 1) (hr : KM.rank t ≠ KM.last p.turn) :
    Calls Tryz.prog 19 #[.agg (KM.pval p), .agg #[.int .i64 f, .int .i64 t, .int .i64 r]] w fun e w' => e = .returned (.bool (KM.formed p f t r)) ∧ Below w.heap.size w w' := by
  have hP := pm_p p f t r w
  have hM := pm_m p f t r w
  have hS := pm_s p f t r w
  have HB := Lib.hid (pm_b p f t r w)
  obtain ⟨f0, f1⟩ := KM.sqR_iff.1 hf
  obtain ⟨m0, m1⟩ := hp.b f.toNat (by omega)
  obtain ⟨t0, t1⟩ := KM.sqR_iff.1 ht
  obtain ⟨n0, n1⟩ := hp.b t.toNat (by omega)
  have b1 : (KM.side (p.b f.toNat) != p.turn) = false := by simp [hs]
  have b2 : (p.b t.toNat != 0) = false := by simp [hz]
  have b4 : (KM.kind (p.b f.toNat) == 1) = true := by simp [hk]
  have b5 : (KM.rank t == KM.last p.turn) = false := by simp [hr]
  have h1 : KM.formed1 p f t = true := by unfold KM.formed1 KM.opn; simp [hf, ht, hs, hz]
  have HV := Lib.hid (show KM.formed p f t r = (r == 0) by
    unfold KM.formed; rw [h1, Bool.true_and]; unfold KM.promoOk; rw [if_neg (fun h => hr h.2)])
  have hpn := Lib.hid (show ∀ w', Calls Tryz.prog 34 #[.agg (KM.pval p), .agg #[.int .i64 f, .int .i64 t, .int .i64 r]] w' fun e w'' => e = .returned (.bool true) ∧ Below w'.heap.size w' w'' by
    intro w'
    have h := movePawn_any p f t r w' hp f0 f1
    rw [b4] at h
    exact h)
  clear b4
  clear h1
  replace hs := Lib.hid hs
  replace hz := Lib.hid hz
  replace hk := Lib.hid hk
  go_enter Tryz.func19, Tryz.ntmps19
  go_wp2_with fail
  generalize (w.alloc (.cells (KM.pval p) 26)).alloc (.cells #[.int .i64 f, .int .i64 t, .int .i64 r] 35) = w0 at *
  have c0 := fun i : Idx (w.heap.size + 2) w0 => (hM.below i.below (by omega)).from
  have c1 := fun i : Idx (w.heap.size + 2) w0 => (hM.below i.below (by omega)).to
  have c3 := fun i : Idx (w.heap.size + 2) w0 => (hP.idx (by omega) i).turn
  have c4 := fun i : Idx (w.heap.size + 2) w0 => (hP.idx (by omega) i).at (i := t.toNat) (by omega)
  refine wp_region_idx (w.heap.size + 2) (by kernel_rfl) (by kernel_rfl) ?_
  repeat (first | go_big_quiet_skip | (go_big_quiet_want; first
    | (refine quiet_load_part 26 (.tmp 2) rfl _ 0 rfl (by omega) _ _ hP.part Tryz.underlying26 rfl (hi26 p) ?_; simp only [Act.put, List.setIfInBounds_toArray, List.set_cons_zero, List.set_cons_succ]; go_big_quiet_on)
    | (refine quiet_load_part 35 (.tmp 3) rfl _ 0 rfl (by omega) _ _ hM.part Tryz.underlying35 rfl (hi35 _ _ _) ?_; simp only [Act.put, List.setIfInBounds_toArray, List.set_cons_zero, List.set_cons_succ]; go_big_quiet_on)
    | (go_big_quiet_op; first | go_big_quiet_on | go_big_quiet_call ((first
      | (go_at_call 31; exact Idx.calls_same (sqRight_any _ _))
      | (go_at_call 32; exact Idx.calls_same (manSide_any _ _))
      | (go_at_call 35; exact Idx.calls_same (sqRank_any _ _))
      | (go_at_call 36; exact Idx.calls_same (mvLast_any _ _))
      | (go_at_call 33; exact Idx.calls (by omega) (moveMan_any _ _ _ _ _ hp f0 f1))
      | (go_at_call 34; exact Idx.calls (by omega) (hpn.out _)))))))
  refine wpQuiet_nil ?_
  intro w1 hwq
  have hbq := Idx.get hwq
  clear hwq c0 c1 c3 c4
  replace hP := hP.below hbq (by omega)
  replace hM := hM.below hbq (by omega)
  replace hS := Nat.le_trans hS hbq.size
  replace HB := Lib.hid (HB.out.trans (hbq.mono (Nat.le_add_right _ 2)))
  clear hbq
  go_wp2_with fail
  have c0 := fun i : Idx (w.heap.size + 2) w1 => (hM.below i.below (by omega)).from
  have c1 := fun i : Idx (w.heap.size + 2) w1 => (hM.below i.below (by omega)).to
  have c3 := fun i : Idx (w.heap.size + 2) w1 => (hP.idx (by omega) i).turn
  have c4 := fun i : Idx (w.heap.size + 2) w1 => (hP.idx (by omega) i).at (i := t.toNat) (by omega)
  refine wp_region_idx (w.heap.size + 2) (by kernel_rfl) (by kernel_rfl) ?_
  repeat (first | go_big_quiet_skip | (go_big_quiet_want; first
    | (refine quiet_load_part 26 (.tmp 2) rfl _ 0 rfl (by omega) _ _ hP.part Tryz.underlying26 rfl (hi26 p) ?_; simp only [Act.put, List.setIfInBounds_toArray, List.set_cons_zero, List.set_cons_succ]; go_big_quiet_on)
    | (refine quiet_load_part 35 (.tmp 3) rfl _ 0 rfl (by omega) _ _ hM.part Tryz.underlying35 rfl (hi35 _ _ _) ?_; simp only [Act.put, List.setIfInBounds_toArray, List.set_cons_zero, List.set_cons_succ]; go_big_quiet_on)
    | (go_big_quiet_op; first | go_big_quiet_on | go_big_quiet_call ((first
      | (go_at_call 31; exact Idx.calls_same (sqRight_any _ _))
      | (go_at_call 32; exact Idx.calls_same (manSide_any _ _))
      | (go_at_call 35; exact Idx.calls_same (sqRank_any _ _))
      | (go_at_call 36; exact Idx.calls_same (mvLast_any _ _))
      | (go_at_call 33; exact Idx.calls (by omega) (moveMan_any _ _ _ _ _ hp f0 f1))
      | (go_at_call 34; exact Idx.calls (by omega) (hpn.out _)))))))
  refine wpQuiet_nil ?_
  intro w2 hwq
  have hbq := Idx.get hwq
  clear hwq c0 c1 c3 c4
  replace hP := hP.below hbq (by omega)
  replace hM := hM.below hbq (by omega)
  replace hS := Nat.le_trans hS hbq.size
  replace HB := Lib.hid (HB.out.trans (hbq.mono (Nat.le_add_right _ 2)))
  clear hbq
  have c2 := hM.promo
  go_wp2_with fail
  go_ret
  exact ⟨by rw [HV.out]; first | rfl | (simp; done), HB.out⟩

theorem formed_zl (p : KM.Po) (f t r : Int) (w : World) (hp : p.wf) (hf : KM.sqR f = true) (ht : KM.sqR t = true) (hs : KM.side (p.b f.toNat) = p.turn) (hz : p.b t.toNat = 0) (hk : KM.kind (p.b f.toNat) = 1) (hr : KM.rank t = KM.last p.turn) (h2 : 2 ≤ r) :
    Calls Tryz.prog 19 #[.agg (KM.pval p), .agg #[.int .i64 f, .int .i64 t, .int .i64 r]] w fun e w' => e = .returned (.bool (KM.formed p f t r)) ∧ Below w.heap.size w w' := by
  have hP := pm_p p f t r w
  have hM := pm_m p f t r w
  have hS := pm_s p f t r w
  have HB := Lib.hid (pm_b p f t r w)
  obtain ⟨f0, f1⟩ := KM.sqR_iff.1 hf
  obtain ⟨m0, m1⟩ := hp.b f.toNat (by omega)
  obtain ⟨t0, t1⟩ := KM.sqR_iff.1 ht
  obtain ⟨n0, n1⟩ := hp.b t.toNat (by omega)
  have b1 : (KM.side (p.b f.toNat) != p.turn) = false := by simp [hs]
  have b2 : (p.b t.toNat != 0) = false := by simp [hz]
  have b4 : (KM.kind (p.b f.toNat) == 1) = true := by simp [hk]
  have b5 : (KM.rank t == KM.last p.turn) = true := by simp [hr]
  have b6 : decide (2 ≤ r) = true := by simp [h2]
  have h1 : KM.formed1 p f t = true := by unfold KM.formed1 KM.opn; simp [hf, ht, hs, hz]
  have HV := Lib.hid (show KM.formed p f t r = decide (r ≤ 5) by
    unfold KM.formed; rw [h1, Bool.true_and]; unfold KM.promoOk; rw [if_pos ⟨hk, hr⟩]; simp [h2])
  have hpn := Lib.hid (show ∀ w', Calls Tryz.prog 34 #[.agg (KM.pval p), .agg #[.int .i64 f, .int .i64 t, .int .i64 r]] w' fun e w'' => e = .returned (.bool true) ∧ Below w'.heap.size w' w'' by
    intro w'
    have h := movePawn_any p f t r w' hp f0 f1
    rw [b4] at h
    exact h)
  clear b4
  clear h1
  replace hs := Lib.hid hs
  replace hz := Lib.hid hz
  replace hk := Lib.hid hk
  replace hr := Lib.hid hr
  go_enter Tryz.func19, Tryz.ntmps19
  go_wp2_with fail
  generalize (w.alloc (.cells (KM.pval p) 26)).alloc (.cells #[.int .i64 f, .int .i64 t, .int .i64 r] 35) = w0 at *
  have c0 := fun i : Idx (w.heap.size + 2) w0 => (hM.below i.below (by omega)).from
  have c1 := fun i : Idx (w.heap.size + 2) w0 => (hM.below i.below (by omega)).to
  have c3 := fun i : Idx (w.heap.size + 2) w0 => (hP.idx (by omega) i).turn
  have c4 := fun i : Idx (w.heap.size + 2) w0 => (hP.idx (by omega) i).at (i := t.toNat) (by omega)
  refine wp_region_idx (w.heap.size + 2) (by kernel_rfl) (by kernel_rfl) ?_
  repeat (first | go_big_quiet_skip | (go_big_quiet_want; first
    | (refine quiet_load_part 26 (.tmp 2) rfl _ 0 rfl (by omega) _ _ hP.part Tryz.underlying26 rfl (hi26 p) ?_; simp only [Act.put, List.setIfInBounds_toArray, List.set_cons_zero, List.set_cons_succ]; go_big_quiet_on)
    | (refine quiet_load_part 35 (.tmp 3) rfl _ 0 rfl (by omega) _ _ hM.part Tryz.underlying35 rfl (hi35 _ _ _) ?_; simp only [Act.put, List.setIfInBounds_toArray, List.set_cons_zero, List.set_cons_succ]; go_big_quiet_on)
    | (go_big_quiet_op; first | go_big_quiet_on | go_big_quiet_call ((first
      | (go_at_call 31; exact Idx.calls_same (sqRight_any _ _))
      | (go_at_call 32; exact Idx.calls_same (manSide_any _ _))
      | (go_at_call 35; exact Idx.calls_same (sqRank_any _ _))
      | (go_at_call 36; exact Idx.calls_same (mvLast_any _ _))
      | (go_at_call 33; exact Idx.calls (by omega) (moveMan_any _ _ _ _ _ hp f0 f1))
      | (go_at_call 34; exact Idx.calls (by omega) (hpn.out _)))))))
  refine wpQuiet_nil ?_
  intro w1 hwq
  have hbq := Idx.get hwq
  clear hwq c0 c1 c3 c4
  replace hP := hP.below hbq (by omega)
  replace hM := hM.below hbq (by omega)
  replace hS := Nat.le_trans hS hbq.size
  replace HB := Lib.hid (HB.out.trans (hbq.mono (Nat.le_add_right _ 2)))
  clear hbq
  go_wp2_with fail
  have c0 := fun i : Idx (w.heap.size + 2) w1 => (hM.below i.below (by omega)).from
  have c1 := fun i : Idx (w.heap.size + 2) w1 => (hM.below i.below (by omega)).to
  have c3 := fun i : Idx (w.heap.size + 2) w1 => (hP.idx (by omega) i).turn
  have c4 := fun i : Idx (w.heap.size + 2) w1 => (hP.idx (by omega) i).at (i := t.toNat) (by omega)
  refine wp_region_idx (w.heap.size + 2) (by kernel_rfl) (by kernel_rfl) ?_
  repeat (first | go_big_quiet_skip | (go_big_quiet_want; first
    | (refine quiet_load_part 26 (.tmp 2) rfl _ 0 rfl (by omega) _ _ hP.part Tryz.underlying26 rfl (hi26 p) ?_; simp only [Act.put, List.setIfInBounds_toArray, List.set_cons_zero, List.set_cons_succ]; go_big_quiet_on)
    | (refine quiet_load_part 35 (.tmp 3) rfl _ 0 rfl (by omega) _ _ hM.part Tryz.underlying35 rfl (hi35 _ _ _) ?_; simp only [Act.put, List.setIfInBounds_toArray, List.set_cons_zero, List.set_cons_succ]; go_big_quiet_on)
    | (go_big_quiet_op; first | go_big_quiet_on | go_big_quiet_call ((first
      | (go_at_call 31; exact Idx.calls_same (sqRight_any _ _))
      | (go_at_call 32; exact Idx.calls_same (manSide_any _ _))
      | (go_at_call 35; exact Idx.calls_same (sqRank_any _ _))
      | (go_at_call 36; exact Idx.calls_same (mvLast_any _ _))
      | (go_at_call 33; exact Idx.calls (by omega) (moveMan_any _ _ _ _ _ hp f0 f1))
      | (go_at_call 34; exact Idx.calls (by omega) (hpn.out _)))))))
  refine wpQuiet_nil ?_
  intro w2 hwq
  have hbq := Idx.get hwq
  clear hwq c0 c1 c3 c4
  replace hP := hP.below hbq (by omega)
  replace hM := hM.below hbq (by omega)
  replace hS := Nat.le_trans hS hbq.size
  replace HB := Lib.hid (HB.out.trans (hbq.mono (Nat.le_add_right _ 2)))
  clear hbq
  have c2 := hM.promo
  go_wp2_with fail
  go_ret
  exact ⟨by rw [HV.out]; first | rfl | (simp; done), HB.out⟩

theorem formed_zs (p : KM.Po) (f t r : Int) (w : World) (hp : p.wf) (hf : KM.sqR f = true) (ht : KM.sqR t = true) (hs : KM.side (p.b f.toNat) = p.turn) (hz : p.b t.toNat = 0) (hk : KM.kind (p.b f.toNat) = 1) (hr : KM.rank t = KM.last p.turn) (h2 : ¬ 2 ≤ r) :
    Calls Tryz.prog 19 #[.agg (KM.pval p), .agg #[.int .i64 f, .int .i64 t, .int .i64 r]] w fun e w' => e = .returned (.bool (KM.formed p f t r)) ∧ Below w.heap.size w w' := by
  have hP := pm_p p f t r w
  have hM := pm_m p f t r w
  have hS := pm_s p f t r w
  have HB := Lib.hid (pm_b p f t r w)
  obtain ⟨f0, f1⟩ := KM.sqR_iff.1 hf
  obtain ⟨m0, m1⟩ := hp.b f.toNat (by omega)
  obtain ⟨t0, t1⟩ := KM.sqR_iff.1 ht
  obtain ⟨n0, n1⟩ := hp.b t.toNat (by omega)
  have b1 : (KM.side (p.b f.toNat) != p.turn) = false := by simp [hs]
  have b2 : (p.b t.toNat != 0) = false := by simp [hz]
  have b4 : (KM.kind (p.b f.toNat) == 1) = true := by simp [hk]
  have b5 : (KM.rank t == KM.last p.turn) = true := by simp [hr]
  have b6 : decide (2 ≤ r) = false := by simp [h2]
  have h1 : KM.formed1 p f t = true := by unfold KM.formed1 KM.opn; simp [hf, ht, hs, hz]
  have HV := Lib.hid (show KM.formed p f t r = false by
    unfold KM.formed; rw [h1, Bool.true_and]; unfold KM.promoOk; rw [if_pos ⟨hk, hr⟩]; simp [h2])
  have hpn := Lib.hid (show ∀ w', Calls Tryz.prog 34 #[.agg (KM.pval p), .agg #[.int .i64 f, .int .i64 t, .int .i64 r]] w' fun e w'' => e = .returned (.bool true) ∧ Below w'.heap.size w' w'' by
    intro w'
    have h := movePawn_any p f t r w' hp f0 f1
    rw [b4] at h
    exact h)
  clear b4
  clear h1
  replace hs := Lib.hid hs
  replace hz := Lib.hid hz
  replace hk := Lib.hid hk
  replace hr := Lib.hid hr
  go_enter Tryz.func19, Tryz.ntmps19
  go_wp2_with fail
  generalize (w.alloc (.cells (KM.pval p) 26)).alloc (.cells #[.int .i64 f, .int .i64 t, .int .i64 r] 35) = w0 at *
  have c0 := fun i : Idx (w.heap.size + 2) w0 => (hM.below i.below (by omega)).from
  have c1 := fun i : Idx (w.heap.size + 2) w0 => (hM.below i.below (by omega)).to
  have c3 := fun i : Idx (w.heap.size + 2) w0 => (hP.idx (by omega) i).turn
  have c4 := fun i : Idx (w.heap.size + 2) w0 => (hP.idx (by omega) i).at (i := t.toNat) (by omega)
  refine wp_region_idx (w.heap.size + 2) (by kernel_rfl) (by kernel_rfl) ?_
  repeat (first | go_big_quiet_skip | (go_big_quiet_want; first
    | (refine quiet_load_part 26 (.tmp 2) rfl _ 0 rfl (by omega) _ _ hP.part Tryz.underlying26 rfl (hi26 p) ?_; simp only [Act.put, List.setIfInBounds_toArray, List.set_cons_zero, List.set_cons_succ]; go_big_quiet_on)
    | (refine quiet_load_part 35 (.tmp 3) rfl _ 0 rfl (by omega) _ _ hM.part Tryz.underlying35 rfl (hi35 _ _ _) ?_; simp only [Act.put, List.setIfInBounds_toArray, List.set_cons_zero, List.set_cons_succ]; go_big_quiet_on)
    | (go_big_quiet_op; first | go_big_quiet_on | go_big_quiet_call ((first
      | (go_at_call 31; exact Idx.calls_same (sqRight_any _ _))
      | (go_at_call 32; exact Idx.calls_same (manSide_any _ _))
      | (go_at_call 35; exact Idx.calls_same (sqRank_any _ _))
      | (go_at_call 36; exact Idx.calls_same (mvLast_any _ _))
      | (go_at_call 33; exact Idx.calls (by omega) (moveMan_any _ _ _ _ _ hp f0 f1))
      | (go_at_call 34; exact Idx.calls (by omega) (hpn.out _)))))))
  refine wpQuiet_nil ?_
  intro w1 hwq
  have hbq := Idx.get hwq
  clear hwq c0 c1 c3 c4
  replace hP := hP.below hbq (by omega)
  replace hM := hM.below hbq (by omega)
  replace hS := Nat.le_trans hS hbq.size
  replace HB := Lib.hid (HB.out.trans (hbq.mono (Nat.le_add_right _ 2)))
  clear hbq
  go_wp2_with fail
  have c0 := fun i : Idx (w.heap.size + 2) w1 => (hM.below i.below (by omega)).from
  have c1 := fun i : Idx (w.heap.size + 2) w1 => (hM.below i.below (by omega)).to
  have c3 := fun i : Idx (w.heap.size + 2) w1 => (hP.idx (by omega) i).turn
  have c4 := fun i : Idx (w.heap.size + 2) w1 => (hP.idx (by omega) i).at (i := t.toNat) (by omega)
  refine wp_region_idx (w.heap.size + 2) (by kernel_rfl) (by kernel_rfl) ?_
  repeat (first | go_big_quiet_skip | (go_big_quiet_want; first
    | (refine quiet_load_part 26 (.tmp 2) rfl _ 0 rfl (by omega) _ _ hP.part Tryz.underlying26 rfl (hi26 p) ?_; simp only [Act.put, List.setIfInBounds_toArray, List.set_cons_zero, List.set_cons_succ]; go_big_quiet_on)
    | (refine quiet_load_part 35 (.tmp 3) rfl _ 0 rfl (by omega) _ _ hM.part Tryz.underlying35 rfl (hi35 _ _ _) ?_; simp only [Act.put, List.setIfInBounds_toArray, List.set_cons_zero, List.set_cons_succ]; go_big_quiet_on)
    | (go_big_quiet_op; first | go_big_quiet_on | go_big_quiet_call ((first
      | (go_at_call 31; exact Idx.calls_same (sqRight_any _ _))
      | (go_at_call 32; exact Idx.calls_same (manSide_any _ _))
      | (go_at_call 35; exact Idx.calls_same (sqRank_any _ _))
      | (go_at_call 36; exact Idx.calls_same (mvLast_any _ _))
      | (go_at_call 33; exact Idx.calls (by omega) (moveMan_any _ _ _ _ _ hp f0 f1))
      | (go_at_call 34; exact Idx.calls (by omega) (hpn.out _)))))))
  refine wpQuiet_nil ?_
  intro w2 hwq
  have hbq := Idx.get hwq
  clear hwq c0 c1 c3 c4
  replace hP := hP.below hbq (by omega)
  replace hM := hM.below hbq (by omega)
  replace hS := Nat.le_trans hS hbq.size
  replace HB := Lib.hid (HB.out.trans (hbq.mono (Nat.le_add_right _ 2)))
  clear hbq
  have c2 := hM.promo
  go_wp2_with fail
  go_ret
  exact ⟨by rw [HV.out]; first | rfl | (simp; done), HB.out⟩

theorem formed_on (p : KM.Po) (f t r : Int) (w : World) (hp : p.wf) (hf : KM.sqR f = true) (ht : KM.sqR t = true) (hs : KM.side (p.b f.toNat) = p.turn) (hz : p.b t.toNat ≠ 0) (he : KM.side (p.b t.toNat) ≠ p.turn) (hk : KM.kind (p.b f.toNat) ≠ 1) :
    Calls Tryz.prog 19 #[.agg (KM.pval p), .agg #[.int .i64 f, .int .i64 t, .int .i64 r]] w fun e w' => e = .returned (.bool (KM.formed p f t r)) ∧ Below w.heap.size w w' := by
  have hP := pm_p p f t r w
  have hM := pm_m p f t r w
  have hS := pm_s p f t r w
  have HB := Lib.hid (pm_b p f t r w)
  obtain ⟨f0, f1⟩ := KM.sqR_iff.1 hf
  obtain ⟨m0, m1⟩ := hp.b f.toNat (by omega)
  obtain ⟨t0, t1⟩ := KM.sqR_iff.1 ht
  obtain ⟨n0, n1⟩ := hp.b t.toNat (by omega)
  have b1 : (KM.side (p.b f.toNat) != p.turn) = false := by simp [hs]
  have b2 : (p.b t.toNat != 0) = true := by simp [hz]
  have b3 : (KM.side (p.b t.toNat) == p.turn) = false := by simp [he]
  have b4 : (KM.kind (p.b f.toNat) == 1) = false := by simp [hk]
  have h1 : KM.formed1 p f t = true := by unfold KM.formed1 KM.opn; simp [hf, ht, hs, hz, he]
  have HV := Lib.hid (show KM.formed p f t r = (r == 0) by
    unfold KM.formed; rw [h1, Bool.true_and]; unfold KM.promoOk; rw [if_neg (fun h => hk h.1)])
  have hpn := Lib.hid (show ∀ w', Calls Tryz.prog 34 #[.agg (KM.pval p), .agg #[.int .i64 f, .int .i64 t, .int .i64 r]] w' fun e w'' => e = .returned (.bool false) ∧ Below w'.heap.size w' w'' by
    intro w'
    have h := movePawn_any p f t r w' hp f0 f1
    rw [b4] at h
    exact h)
  clear b4
  clear h1
  replace hs := Lib.hid hs
  go_enter Tryz.func19, Tryz.ntmps19
  go_wp2_with fail
  generalize (w.alloc (.cells (KM.pval p) 26)).alloc (.cells #[.int .i64 f, .int .i64 t, .int .i64 r] 35) = w0 at *
  have c0 := fun i : Idx (w.heap.size + 2) w0 => (hM.below i.below (by omega)).from
  have c1 := fun i : Idx (w.heap.size + 2) w0 => (hM.below i.below (by omega)).to
  have c3 := fun i : Idx (w.heap.size + 2) w0 => (hP.idx (by omega) i).turn
  have c4 := fun i : Idx (w.heap.size + 2) w0 => (hP.idx (by omega) i).at (i := t.toNat) (by omega)
  refine wp_region_idx (w.heap.size + 2) (by kernel_rfl) (by kernel_rfl) ?_
  repeat (first | go_big_quiet_skip | (go_big_quiet_want; first
    | (refine quiet_load_part 26 (.tmp 2) rfl _ 0 rfl (by omega) _ _ hP.part Tryz.underlying26 rfl (hi26 p) ?_; simp only [Act.put, List.setIfInBounds_toArray, List.set_cons_zero, List.set_cons_succ]; go_big_quiet_on)
    | (refine quiet_load_part 35 (.tmp 3) rfl _ 0 rfl (by omega) _ _ hM.part Tryz.underlying35 rfl (hi35 _ _ _) ?_; simp only [Act.put, List.setIfInBounds_toArray, List.set_cons_zero, List.set_cons_succ]; go_big_quiet_on)
    | (go_big_quiet_op; first | go_big_quiet_on | go_big_quiet_call ((first
      | (go_at_call 31; exact Idx.calls_same (sqRight_any _ _))
      | (go_at_call 32; exact Idx.calls_same (manSide_any _ _))
      | (go_at_call 35; exact Idx.calls_same (sqRank_any _ _))
      | (go_at_call 36; exact Idx.calls_same (mvLast_any _ _))
      | (go_at_call 33; exact Idx.calls (by omega) (moveMan_any _ _ _ _ _ hp f0 f1))
      | (go_at_call 34; exact Idx.calls (by omega) (hpn.out _)))))))
  refine wpQuiet_nil ?_
  intro w1 hwq
  have hbq := Idx.get hwq
  clear hwq c0 c1 c3 c4
  replace hP := hP.below hbq (by omega)
  replace hM := hM.below hbq (by omega)
  replace hS := Nat.le_trans hS hbq.size
  replace HB := Lib.hid (HB.out.trans (hbq.mono (Nat.le_add_right _ 2)))
  clear hbq
  go_wp2_with fail
  have c0 := fun i : Idx (w.heap.size + 2) w1 => (hM.below i.below (by omega)).from
  have c1 := fun i : Idx (w.heap.size + 2) w1 => (hM.below i.below (by omega)).to
  have c3 := fun i : Idx (w.heap.size + 2) w1 => (hP.idx (by omega) i).turn
  have c4 := fun i : Idx (w.heap.size + 2) w1 => (hP.idx (by omega) i).at (i := t.toNat) (by omega)
  refine wp_region_idx (w.heap.size + 2) (by kernel_rfl) (by kernel_rfl) ?_
  repeat (first | go_big_quiet_skip | (go_big_quiet_want; first
    | (refine quiet_load_part 26 (.tmp 2) rfl _ 0 rfl (by omega) _ _ hP.part Tryz.underlying26 rfl (hi26 p) ?_; simp only [Act.put, List.setIfInBounds_toArray, List.set_cons_zero, List.set_cons_succ]; go_big_quiet_on)
    | (refine quiet_load_part 35 (.tmp 3) rfl _ 0 rfl (by omega) _ _ hM.part Tryz.underlying35 rfl (hi35 _ _ _) ?_; simp only [Act.put, List.setIfInBounds_toArray, List.set_cons_zero, List.set_cons_succ]; go_big_quiet_on)
    | (go_big_quiet_op; first | go_big_quiet_on | go_big_quiet_call ((first
      | (go_at_call 31; exact Idx.calls_same (sqRight_any _ _))
      | (go_at_call 32; exact Idx.calls_same (manSide_any _ _))
      | (go_at_call 35; exact Idx.calls_same (sqRank_any _ _))
      | (go_at_call 36; exact Idx.calls_same (mvLast_any _ _))
      | (go_at_call 33; exact Idx.calls (by omega) (moveMan_any _ _ _ _ _ hp f0 f1))
      | (go_at_call 34; exact Idx.calls (by omega) (hpn.out _)))))))
  refine wpQuiet_nil ?_
  intro w2 hwq
  have hbq := Idx.get hwq
  clear hwq c0 c1 c3 c4
  replace hP := hP.below hbq (by omega)
  replace hM := hM.below hbq (by omega)
  replace hS := Nat.le_trans hS hbq.size
  replace HB := Lib.hid (HB.out.trans (hbq.mono (Nat.le_add_right _ 2)))
  clear hbq
  have c2 := hM.promo
  go_wp2_with fail
  go_ret
  exact ⟨by rw [HV.out]; first | rfl | (simp; done), HB.out⟩

theorem formed_or (p : KM.Po) (f t r : Int) (w : World) (hp : p.wf) (hf : KM.sqR f = true) (ht : KM.sqR t = true) (hs : KM.side (p.b f.toNat) = p.turn) (hz : p.b t.toNat ≠ 0) (he : KM.side (p.b t.toNat) ≠ p.turn) (hk : KM.kind (p.b f.toNat) = 1) (hr : KM.rank t ≠ KM.last p.turn) :
    Calls Tryz.prog 19 #[.agg (KM.pval p), .agg #[.int .i64 f, .int .i64 t, .int .i64 r]] w fun e w' => e = .returned (.bool (KM.formed p f t r)) ∧ Below w.heap.size w w' := by
  have hP := pm_p p f t r w
  have hM := pm_m p f t r w
  have hS := pm_s p f t r w
  have HB := Lib.hid (pm_b p f t r w)
  obtain ⟨f0, f1⟩ := KM.sqR_iff.1 hf
  obtain ⟨m0, m1⟩ := hp.b f.toNat (by omega)
  obtain ⟨t0, t1⟩ := KM.sqR_iff.1 ht
  obtain ⟨n0, n1⟩ := hp.b t.toNat (by omega)
  have b1 : (KM.side (p.b f.toNat) != p.turn) = false := by simp [hs]
  have b2 : (p.b t.toNat != 0) = true := by simp [hz]
  have b3 : (KM.side (p.b t.toNat) == p.turn) = false := by simp [he]
  have b4 : (KM.kind (p.b f.toNat) == 1) = true := by simp [hk]
  have b5 : (KM.rank t == KM.last p.turn) = false := by simp [hr]
  have h1 : KM.formed1 p f t = true := by unfold KM.formed1 KM.opn; simp [hf, ht, hs, hz, he]
  have HV := Lib.hid (show KM.formed p f t r = (r == 0) by
    unfold KM.formed; rw [h1, Bool.true_and]; unfold KM.promoOk; rw [if_neg (fun h => hr h.2)])
  have hpn := Lib.hid (show ∀ w', Calls Tryz.prog 34 #[.agg (KM.pval p), .agg #[.int .i64 f, .int .i64 t, .int .i64 r]] w' fun e w'' => e = .returned (.bool true) ∧ Below w'.heap.size w' w'' by
    intro w'
    have h := movePawn_any p f t r w' hp f0 f1
    rw [b4] at h
    exact h)
  clear b4
  clear h1
  replace hs := Lib.hid hs
  replace hk := Lib.hid hk
  go_enter Tryz.func19, Tryz.ntmps19
  go_wp2_with fail
  generalize (w.alloc (.cells (KM.pval p) 26)).alloc (.cells #[.int .i64 f, .int .i64 t, .int .i64 r] 35) = w0 at *
  have c0 := fun i : Idx (w.heap.size + 2) w0 => (hM.below i.below (by omega)).from
  have c1 := fun i : Idx (w.heap.size + 2) w0 => (hM.below i.below (by omega)).to
  have c3 := fun i : Idx (w.heap.size + 2) w0 => (hP.idx (by omega) i).turn
  have c4 := fun i : Idx (w.heap.size + 2) w0 => (hP.idx (by omega) i).at (i := t.toNat) (by omega)
  refine wp_region_idx (w.heap.size + 2) (by kernel_rfl) (by kernel_rfl) ?_
  repeat (first | go_big_quiet_skip | (go_big_quiet_want; first
    | (refine quiet_load_part 26 (.tmp 2) rfl _ 0 rfl (by omega) _ _ hP.part Tryz.underlying26 rfl (hi26 p) ?_; simp only [Act.put, List.setIfInBounds_toArray, List.set_cons_zero, List.set_cons_succ]; go_big_quiet_on)
    | (refine quiet_load_part 35 (.tmp 3) rfl _ 0 rfl (by omega) _ _ hM.part Tryz.underlying35 rfl (hi35 _ _ _) ?_; simp only [Act.put, List.setIfInBounds_toArray, List.set_cons_zero, List.set_cons_succ]; go_big_quiet_on)
    | (go_big_quiet_op; first | go_big_quiet_on | go_big_quiet_call ((first
      | (go_at_call 31; exact Idx.calls_same (sqRight_any _ _))
      | (go_at_call 32; exact Idx.calls_same (manSide_any _ _))
      | (go_at_call 35; exact Idx.calls_same (sqRank_any _ _))
      | (go_at_call 36; exact Idx.calls_same (mvLast_any _ _))
      | (go_at_call 33; exact Idx.calls (by omega) (moveMan_any _ _ _ _ _ hp f0 f1))
      | (go_at_call 34; exact Idx.calls (by omega) (hpn.out _)))))))
  refine wpQuiet_nil ?_
  intro w1 hwq
  have hbq := Idx.get hwq
  clear hwq c0 c1 c3 c4
  replace hP := hP.below hbq (by omega)
  replace hM := hM.below hbq (by omega)
  replace hS := Nat.le_trans hS hbq.size
  replace HB := Lib.hid (HB.out.trans (hbq.mono (Nat.le_add_right _ 2)))
  clear hbq
  go_wp2_with fail
  have c0 := fun i : Idx (w.heap.size + 2) w1 => (hM.below i.below (by omega)).from
  have c1 := fun i : Idx (w.heap.size + 2) w1 => (hM.below i.below (by omega)).to
  have c3 := fun i : Idx (w.heap.size + 2) w1 => (hP.idx (by omega) i).turn
  have c4 := fun i : Idx (w.heap.size + 2) w1 => (hP.idx (by omega) i).at (i := t.toNat) (by omega)
  refine wp_region_idx (w.heap.size + 2) (by kernel_rfl) (by kernel_rfl) ?_
  repeat (first | go_big_quiet_skip | (go_big_quiet_want; first
    | (refine quiet_load_part 26 (.tmp 2) rfl _ 0 rfl (by omega) _ _ hP.part Tryz.underlying26 rfl (hi26 p) ?_; simp only [Act.put, List.setIfInBounds_toArray, List.set_cons_zero, List.set_cons_succ]; go_big_quiet_on)
    | (refine quiet_load_part 35 (.tmp 3) rfl _ 0 rfl (by omega) _ _ hM.part Tryz.underlying35 rfl (hi35 _ _ _) ?_; simp only [Act.put, List.setIfInBounds_toArray, List.set_cons_zero, List.set_cons_succ]; go_big_quiet_on)
    | (go_big_quiet_op; first | go_big_quiet_on | go_big_quiet_call ((first
      | (go_at_call 31; exact Idx.calls_same (sqRight_any _ _))
      | (go_at_call 32; exact Idx.calls_same (manSide_any _ _))
      | (go_at_call 35; exact Idx.calls_same (sqRank_any _ _))
      | (go_at_call 36; exact Idx.calls_same (mvLast_any _ _))
      | (go_at_call 33; exact Idx.calls (by omega) (moveMan_any _ _ _ _ _ hp f0 f1))
      | (go_at_call 34; exact Idx.calls (by omega) (hpn.out _)))))))
  refine wpQuiet_nil ?_
  intro w2 hwq
  have hbq := Idx.get hwq
  clear hwq c0 c1 c3 c4
  replace hP := hP.below hbq (by omega)
  replace hM := hM.below hbq (by omega)
  replace hS := Nat.le_trans hS hbq.size
  replace HB := Lib.hid (HB.out.trans (hbq.mono (Nat.le_add_right _ 2)))
  clear hbq
  have c2 := hM.promo
  go_wp2_with fail
  go_ret
  exact ⟨by rw [HV.out]; first | rfl | (simp; done), HB.out⟩

theorem formed_ol (p : KM.Po) (f t r : Int) (w : World) (hp : p.wf) (hf : KM.sqR f = true) (ht : KM.sqR t = true) (hs : KM.side (p.b f.toNat) = p.turn) (hz : p.b t.toNat ≠ 0) (he : KM.side (p.b t.toNat) ≠ p.turn) (hk : KM.kind (p.b f.toNat) = 1) (hr : KM.rank t = KM.last p.turn) (h2 : 2 ≤ r) :
    Calls Tryz.prog 19 #[.agg (KM.pval p), .agg #[.int .i64 f, .int .i64 t, .int .i64 r]] w fun e w' => e = .returned (.bool (KM.formed p f t r)) ∧ Below w.heap.size w w' := by
  have hP := pm_p p f t r w
  have hM := pm_m p f t r w
  have hS := pm_s p f t r w
  have HB := Lib.hid (pm_b p f t r w)
  obtain ⟨f0, f1⟩ := KM.sqR_iff.1 hf
  obtain ⟨m0, m1⟩ := hp.b f.toNat (by omega)
  obtain ⟨t0, t1⟩ := KM.sqR_iff.1 ht
  obtain ⟨n0, n1⟩ := hp.b t.toNat (by omega)
  have b1 : (KM.side (p.b f.toNat) != p.turn) = false := by simp [hs]
  have b2 : (p.b t.toNat != 0) = true := by simp [hz]
  have b3 : (KM.side (p.b t.toNat) == p.turn) = false := by simp [he]
  have b4 : (KM.kind (p.b f.toNat) == 1) = true := by simp [hk]
  have b5 : (KM.rank t == KM.last p.turn) = true := by simp [hr]
  have b6 : decide (2 ≤ r) = true := by simp [h2]
  have h1 : KM.formed1 p f t = true := by unfold KM.formed1 KM.opn; simp [hf, ht, hs, hz, he]
  have HV := Lib.hid (show KM.formed p f t r = decide (r ≤ 5) by
    unfold KM.formed; rw [h1, Bool.true_and]; unfold KM.promoOk; rw [if_pos ⟨hk, hr⟩]; simp [h2])
  have hpn := Lib.hid (show ∀ w', Calls Tryz.prog 34 #[.agg (KM.pval p), .agg #[.int .i64 f, .int .i64 t, .int .i64 r]] w' fun e w'' => e = .returned (.bool true) ∧ Below w'.heap.size w' w'' by
    intro w'
    have h := movePawn_any p f t r w' hp f0 f1
    rw [b4] at h
    exact h)
  clear b4
  clear h1
  replace hs := Lib.hid hs
  replace hk := Lib.hid hk
  replace hr := Lib.hid hr
  go_enter Tryz.func19, Tryz.ntmps19
  go_wp2_with fail
  generalize (w.alloc (.cells (KM.pval p) 26)).alloc (.cells #[.int .i64 f, .int .i64 t, .int .i64 r] 35) = w0 at *
  have c0 := fun i : Idx (w.heap.size + 2) w0 => (hM.below i.below (by omega)).from
  have c1 := fun i : Idx (w.heap.size + 2) w0 => (hM.below i.below (by omega)).to
  have c3 := fun i : Idx (w.heap.size + 2) w0 => (hP.idx (by omega) i).turn
  have c4 := fun i : Idx (w.heap.size + 2) w0 => (hP.idx (by omega) i).at (i := t.toNat) (by omega)
  refine wp_region_idx (w.heap.size + 2) (by kernel_rfl) (by kernel_rfl) ?_
  repeat (first | go_big_quiet_skip | (go_big_quiet_want; first
    | (refine quiet_load_part 26 (.tmp 2) rfl _ 0 rfl (by omega) _ _ hP.part Tryz.underlying26 rfl (hi26 p) ?_; simp only [Act.put, List.setIfInBounds_toArray, List.set_cons_zero, List.set_cons_succ]; go_big_quiet_on)
    | (refine quiet_load_part 35 (.tmp 3) rfl _ 0 rfl (by omega) _ _ hM.part Tryz.underlying35 rfl (hi35 _ _ _) ?_; simp only [Act.put, List.setIfInBounds_toArray, List.set_cons_zero, List.set_cons_succ]; go_big_quiet_on)
    | (go_big_quiet_op; first | go_big_quiet_on | go_big_quiet_call ((first
      | (go_at_call 31; exact Idx.calls_same (sqRight_any _ _))
      | (go_at_call 32; exact Idx.calls_same (manSide_any _ _))
      | (go_at_call 35; exact Idx.calls_same (sqRank_any _ _))
      | (go_at_call 36; exact Idx.calls_same (mvLast_any _ _))
      | (go_at_call 33; exact Idx.calls (by omega) (moveMan_any _ _ _ _ _ hp f0 f1))
      | (go_at_call 34; exact Idx.calls (by omega) (hpn.out _)))))))
  refine wpQuiet_nil ?_
  intro w1 hwq
  have hbq := Idx.get hwq
  clear hwq c0 c1 c3 c4
  replace hP := hP.below hbq (by omega)
  replace hM := hM.below hbq (by omega)
  replace hS := Nat.le_trans hS hbq.size
  replace HB := Lib.hid (HB.out.trans (hbq.mono (Nat.le_add_right _ 2)))
  clear hbq
  go_wp2_with fail
  have c0 := fun i : Idx (w.heap.size + 2) w1 => (hM.below i.below (by omega)).from
  have c1 := fun i : Idx (w.heap.size + 2) w1 => (hM.below i.below (by omega)).to
  have c3 := fun i : Idx (w.heap.size + 2) w1 => (hP.idx (by omega) i).turn
  have c4 := fun i : Idx (w.heap.size + 2) w1 => (hP.idx (by omega) i).at (i := t.toNat) (by omega)
  refine wp_region_idx (w.heap.size + 2) (by kernel_rfl) (by kernel_rfl) ?_
  repeat (first | go_big_quiet_skip | (go_big_quiet_want; first
    | (refine quiet_load_part 26 (.tmp 2) rfl _ 0 rfl (by omega) _ _ hP.part Tryz.underlying26 rfl (hi26 p) ?_; simp only [Act.put, List.setIfInBounds_toArray, List.set_cons_zero, List.set_cons_succ]; go_big_quiet_on)
    | (refine quiet_load_part 35 (.tmp 3) rfl _ 0 rfl (by omega) _ _ hM.part Tryz.underlying35 rfl (hi35 _ _ _) ?_; simp only [Act.put, List.setIfInBounds_toArray, List.set_cons_zero, List.set_cons_succ]; go_big_quiet_on)
    | (go_big_quiet_op; first | go_big_quiet_on | go_big_quiet_call ((first
      | (go_at_call 31; exact Idx.calls_same (sqRight_any _ _))
      | (go_at_call 32; exact Idx.calls_same (manSide_any _ _))
      | (go_at_call 35; exact Idx.calls_same (sqRank_any _ _))
      | (go_at_call 36; exact Idx.calls_same (mvLast_any _ _))
      | (go_at_call 33; exact Idx.calls (by omega) (moveMan_any _ _ _ _ _ hp f0 f1))
      | (go_at_call 34; exact Idx.calls (by omega) (hpn.out _)))))))
  refine wpQuiet_nil ?_
  intro w2 hwq
  have hbq := Idx.get hwq
  clear hwq c0 c1 c3 c4
  replace hP := hP.below hbq (by omega)
  replace hM := hM.below hbq (by omega)
  replace hS := Nat.le_trans hS hbq.size
  replace HB := Lib.hid (HB.out.trans (hbq.mono (Nat.le_add_right _ 2)))
  clear hbq
  have c2 := hM.promo
  go_wp2_with fail
  go_ret
  exact ⟨by rw [HV.out]; first | rfl | (simp; done), HB.out⟩

theorem formed_os (p : KM.Po) (f t r : Int) (w : World) (hp : p.wf) (hf : KM.sqR f = true) (ht : KM.sqR t = true) (hs : KM.side (p.b f.toNat) = p.turn) (hz : p.b t.toNat ≠ 0) (he : KM.side (p.b t.toNat) ≠ p.turn) (hk : KM.kind (p.b f.toNat) = 1) (hr : KM.rank t = KM.last p.turn) (h2 : ¬ 2 ≤ r) :
    Calls Tryz.prog 19 #[.agg (KM.pval p), .agg #[.int .i64 f, .int .i64 t, .int .i64 r]] w fun e w' => e = .returned (.bool (KM.formed p f t r)) ∧ Below w.heap.size w w' := by
  have hP := pm_p p f t r w
  have hM := pm_m p f t r w
  have hS := pm_s p f t r w
  have HB := Lib.hid (pm_b p f t r w)
  obtain ⟨f0, f1⟩ := KM.sqR_iff.1 hf
  obtain ⟨m0, m1⟩ := hp.b f.toNat (by omega)
  obtain ⟨t0, t1⟩ := KM.sqR_iff.1 ht
  obtain ⟨n0, n1⟩ := hp.b t.toNat (by omega)
  have b1 : (KM.side (p.b f.toNat) != p.turn) = false := by simp [hs]
  have b2 : (p.b t.toNat != 0) = true := by simp [hz]
  have b3 : (KM.side (p.b t.toNat) == p.turn) = false := by simp [he]
  have b4 : (KM.kind (p.b f.toNat) == 1) = true := by simp [hk]
  have b5 : (KM.rank t == KM.last p.turn) = true := by simp [hr]
  have b6 : decide (2 ≤ r) = false := by simp [h2]
  have h1 : KM.formed1 p f t = true := by unfold KM.formed1 KM.opn; simp [hf, ht, hs, hz, he]
  have HV := Lib.hid (show KM.formed p f t r = false by
    unfold KM.formed; rw [h1, Bool.true_and]; unfold KM.promoOk; rw [if_pos ⟨hk, hr⟩]; simp [h2])
  have hpn := Lib.hid (show ∀ w', Calls Tryz.prog 34 #[.agg (KM.pval p), .agg #[.int .i64 f, .int .i64 t, .int .i64 r]] w' fun e w'' => e = .returned (.bool true) ∧ Below w'.heap.size w' w'' by
    intro w'
    have h := movePawn_any p f t r w' hp f0 f1
    rw [b4] at h
    exact h)
  clear b4
  clear h1
  replace hs := Lib.hid hs
  replace hk := Lib.hid hk
  replace hr := Lib.hid hr
  go_enter Tryz.func19, Tryz.ntmps19
  go_wp2_with fail
  generalize (w.alloc (.cells (KM.pval p) 26)).alloc (.cells #[.int .i64 f, .int .i64 t, .int .i64 r] 35) = w0 at *
  have c0 := fun i : Idx (w.heap.size + 2) w0 => (hM.below i.below (by omega)).from
  have c1 := fun i : Idx (w.heap.size + 2) w0 => (hM.below i.below (by omega)).to
  have c3 := fun i : Idx (w.heap.size + 2) w0 => (hP.idx (by omega) i).turn
  have c4 := fun i : Idx (w.heap.size + 2) w0 => (hP.idx (by omega) i).at (i := t.toNat) (by omega)
  refine wp_region_idx (w.heap.size + 2) (by kernel_rfl) (by kernel_rfl) ?_
  repeat (first | go_big_quiet_skip | (go_big_quiet_want; first
    | (refine quiet_load_part 26 (.tmp 2) rfl _ 0 rfl (by omega) _ _ hP.part Tryz.underlying26 rfl (hi26 p) ?_; simp only [Act.put, List.setIfInBounds_toArray, List.set_cons_zero, List.set_cons_succ]; go_big_quiet_on)
    | (refine quiet_load_part 35 (.tmp 3) rfl _ 0 rfl (by omega) _ _ hM.part Tryz.underlying35 rfl (hi35 _ _ _) ?_; simp only [Act.put, List.setIfInBounds_toArray, List.set_cons_zero, List.set_cons_succ]; go_big_quiet_on)
    | (go_big_quiet_op; first | go_big_quiet_on | go_big_quiet_call ((first
      | (go_at_call 31; exact Idx.calls_same (sqRight_any _ _))
      | (go_at_call 32; exact Idx.calls_same (manSide_any _ _))
      | (go_at_call 35; exact Idx.calls_same (sqRank_any _ _))
      | (go_at_call 36; exact Idx.calls_same (mvLast_any _ _))
      | (go_at_call 33; exact Idx.calls (by omega) (moveMan_any _ _ _ _ _ hp f0 f1))
      | (go_at_call 34; exact Idx.calls (by omega) (hpn.out _)))))))
  refine wpQuiet_nil ?_
  intro w1 hwq
  have hbq := Idx.get hwq
  clear hwq c0 c1 c3 c4
  replace hP := hP.below hbq (by omega)
  replace hM := hM.below hbq (by omega)
  replace hS := Nat.le_trans hS hbq.size
  replace HB := Lib.hid (HB.out.trans (hbq.mono (Nat.le_add_right _ 2)))
  clear hbq
  go_wp2_with fail
  have c0 := fun i : Idx (w.heap.size + 2) w1 => (hM.below i.below (by omega)).from
  have c1 := fun i : Idx (w.heap.size + 2) w1 => (hM.below i.below (by omega)).to
  have c3 := fun i : Idx (w.heap.size + 2) w1 => (hP.idx (by omega) i).turn
  have c4 := fun i : Idx (w.heap.size + 2) w1 => (hP.idx (by omega) i).at (i := t.toNat) (by omega)
  refine wp_region_idx (w.heap.size + 2) (by kernel_rfl) (by kernel_rfl) ?_
  repeat (first | go_big_quiet_skip | (go_big_quiet_want; first
    | (refine quiet_load_part 26 (.tmp 2) rfl _ 0 rfl (by omega) _ _ hP.part Tryz.underlying26 rfl (hi26 p) ?_; simp only [Act.put, List.setIfInBounds_toArray, List.set_cons_zero, List.set_cons_succ]; go_big_quiet_on)
    | (refine quiet_load_part 35 (.tmp 3) rfl _ 0 rfl (by omega) _ _ hM.part Tryz.underlying35 rfl (hi35 _ _ _) ?_; simp only [Act.put, List.setIfInBounds_toArray, List.set_cons_zero, List.set_cons_succ]; go_big_quiet_on)
    | (go_big_quiet_op; first | go_big_quiet_on | go_big_quiet_call ((first
      | (go_at_call 31; exact Idx.calls_same (sqRight_any _ _))
      | (go_at_call 32; exact Idx.calls_same (manSide_any _ _))
      | (go_at_call 35; exact Idx.calls_same (sqRank_any _ _))
      | (go_at_call 36; exact Idx.calls_same (mvLast_any _ _))
      | (go_at_call 33; exact Idx.calls (by omega) (moveMan_any _ _ _ _ _ hp f0 f1))
      | (go_at_call 34; exact Idx.calls (by omega) (hpn.out _)))))))
  refine wpQuiet_nil ?_
  intro w2 hwq
  have hbq := Idx.get hwq
  clear hwq c0 c1 c3 c4
  replace hP := hP.below hbq (by omega)
  replace hM := hM.below hbq (by omega)
  replace hS := Nat.le_trans hS hbq.size
  replace HB := Lib.hid (HB.out.trans (hbq.mono (Nat.le_add_right _ 2)))
  clear hbq
  have c2 := hM.promo
  go_wp2_with fail
  go_ret
  exact ⟨by rw [HV.out]; first | rfl | (simp; done), HB.out⟩

theorem formed_any (p : KM.Po) (f t r : Int) (w : World) (hp : p.wf) :
    Calls Tryz.prog 19 #[.agg (KM.pval p), .agg #[.int .i64 f, .int .i64 t, .int .i64 r]] w fun e w' => e = .returned (.bool (KM.formed p f t r)) ∧ Below w.heap.size w w' := by
  cases hf : KM.sqR f
  · exact formed_a p f t r w hp hf
  · cases ht : KM.sqR t
    · exact formed_b p f t r w hp hf ht
    · by_cases hs : KM.side (p.b f.toNat) = p.turn
      · by_cases hz : p.b t.toNat = 0
        · by_cases hk : KM.kind (p.b f.toNat) = 1
          · by_cases hr : KM.rank t = KM.last p.turn
            · by_cases h2 : 2 ≤ r
              · exact formed_zl p f t r w hp hf ht hs hz hk hr h2
              · exact formed_zs p f t r w hp hf ht hs hz hk hr h2
            · exact formed_zr p f t r w hp hf ht hs hz hk hr
          · exact formed_zn p f t r w hp hf ht hs hz hk
        · by_cases he : KM.side (p.b t.toNat) = p.turn
          · exact formed_d p f t r w hp hf ht hs hz he
          · by_cases hk : KM.kind (p.b f.toNat) = 1
            · by_cases hr : KM.rank t = KM.last p.turn
              · by_cases h2 : 2 ≤ r
                · exact formed_ol p f t r w hp hf ht hs hz he hk hr h2
                · exact formed_os p f t r w hp hf ht hs hz he hk hr h2
              · exact formed_or p f t r w hp hf ht hs hz he hk hr
            · exact formed_on p f t r w hp hf ht hs hz he hk
      · exact formed_c p f t r w hp hf ht hs

end Go.Proofs.YtgikglnfjkbnhaaGreat
