/-
  gen.open, walked.
-/
import Derived.Test.YtgikglnfjkbnhaaGreatKy
namespace Go.Proofs.YtgikglnfjkbnhaaGreat
open Go.RowKit
set_option maxHeartbeats 400000

theorem gopen_a (p : KM.Po) (t : Int) (w : World) (_hp : p.wf) (ht : KM.sqR t = false) :
    Calls Tryz.prog 65 #[.agg (KM.pval p), .int .i64 t] w fun e w' => e = .returned (.bool (KM.sqR t && KM.opn p t)) ∧ Below w.heap.size w w' := by
  have hP := PBox.new w p
  have HB := Lib.hid ((Below.refl w.heap.size w).alloc (Nat.le_refl _) (Obj.cells (KM.pval p) 26))
  have hS : w.heap.size + 1 ≤ (w.alloc (Obj.cells (KM.pval p) 26)).heap.size := by simp
  have HV := Lib.hid (show (KM.sqR t && KM.opn p t) = false by rw [ht]; rfl)
  have hq := Lib.hid (show ∀ w', Calls Tryz.prog 31 #[.int .i64 t] w' fun e w'' => e = .returned (.bool false) ∧ w' = w'' by intro w'; have h := sqRight_any t w'; rw [ht] at h; exact h)
  clear ht
  go_enter Tryz.func65, Tryz.ntmps65
  go_wp2_with fail
  generalize w.alloc (Obj.cells (KM.pval p) 26) = w0 at *
  refine wp_region_idx (w.heap.size + 1) (by kernel_rfl) (by kernel_rfl) ?_
  repeat (first | go_big_quiet_skip | (go_big_quiet_want; (go_big_quiet_op; first | go_big_quiet_on | go_big_quiet_call ((first | (go_at_call 31; exact Idx.calls_same (hq.out _)) | (go_at_call 32; exact Idx.calls_same (manSide_any _ _)))))))
  refine wpQuiet_nil ?_
  intro w1 hwq
  have hbq := Idx.get hwq
  clear hwq hP
  replace HB := Lib.hid (HB.out.trans (hbq.mono (by omega)))
  clear hbq
  go_wp2_with fail
  go_ret
  exact ⟨by rw [HV.out]; rfl, HB.out⟩

theorem gopen_b (p : KM.Po) (t : Int) (w : World) (hp : p.wf) (ht : KM.sqR t = true) :
    Calls Tryz.prog 65 #[.agg (KM.pval p), .int .i64 t] w fun e w' => e = .returned (.bool (KM.sqR t && KM.opn p t)) ∧ Below w.heap.size w w' := by
  have hP := PBox.new w p
  have HB := Lib.hid ((Below.refl w.heap.size w).alloc (Nat.le_refl _) (Obj.cells (KM.pval p) 26))
  have hS : w.heap.size + 1 ≤ (w.alloc (Obj.cells (KM.pval p) 26)).heap.size := by simp
  obtain ⟨t0, t1⟩ := KM.sqR_iff.1 ht
  obtain ⟨n0, n1⟩ := hp.b t.toNat (by omega)
  have hq := Lib.hid (show ∀ w', Calls Tryz.prog 31 #[.int .i64 t] w' fun e w'' => e = .returned (.bool true) ∧ w' = w'' by intro w'; have h := sqRight_any t w'; rw [ht] at h; exact h)
  by_cases hz : p.b t.toNat = 0
  · have b1 : (p.b t.toNat == 0) = true := by simp [hz]
    have HV := Lib.hid (show (KM.sqR t && KM.opn p t) = true by rw [ht]; unfold KM.opn; simp [hz])
    clear ht
    replace hz := Lib.hid hz
    go_enter Tryz.func65, Tryz.ntmps65
    go_wp2_with fail
    generalize w.alloc (Obj.cells (KM.pval p) 26) = w0 at *
    have c0 := fun i : Idx (w.heap.size + 1) w0 => (hP.idx (by omega) i).at (i := t.toNat) (by omega)
    have c1 := fun i : Idx (w.heap.size + 1) w0 => (hP.idx (by omega) i).turn
    refine wp_region_idx (w.heap.size + 1) (by kernel_rfl) (by kernel_rfl) ?_
    repeat (first | go_big_quiet_skip | (go_big_quiet_want; (go_big_quiet_op; first | go_big_quiet_on | go_big_quiet_call ((first | (go_at_call 31; exact Idx.calls_same (hq.out _)) | (go_at_call 32; exact Idx.calls_same (manSide_any _ _)))))))
    refine wpQuiet_nil ?_
    intro w1 hwq
    have hbq := Idx.get hwq
    clear hwq hP c0 c1
    replace HB := Lib.hid (HB.out.trans (hbq.mono (by omega)))
    clear hbq
    go_wp2_with fail
    go_ret
    exact ⟨by rw [HV.out]; rfl, HB.out⟩
  · have b1 : (p.b t.toNat == 0) = false := by simp [hz]
    have HV := Lib.hid (show (KM.sqR t && KM.opn p t) = (KM.side (p.b t.toNat) != p.turn) by rw [ht]; unfold KM.opn; by_cases h : KM.side (p.b t.toNat) = p.turn <;> simp [hz, h])
    clear ht
    go_enter Tryz.func65, Tryz.ntmps65
    go_wp2_with fail
    generalize w.alloc (Obj.cells (KM.pval p) 26) = w0 at *
    have c0 := fun i : Idx (w.heap.size + 1) w0 => (hP.idx (by omega) i).at (i := t.toNat) (by omega)
    have c1 := fun i : Idx (w.heap.size + 1) w0 => (hP.idx (by omega) i).turn
    refine wp_region_idx (w.heap.size + 1) (by kernel_rfl) (by kernel_rfl) ?_
    repeat (first | go_big_quiet_skip | (go_big_quiet_want; (go_big_quiet_op; first | go_big_quiet_on | go_big_quiet_call ((first | (go_at_call 31; exact Idx.calls_same (hq.out _)) | (go_at_call 32; exact Idx.calls_same (manSide_any _ _)))))))
    refine wpQuiet_nil ?_
    intro w1 hwq
    have hbq := Idx.get hwq
    clear hwq hP c0 c1
    replace HB := Lib.hid (HB.out.trans (hbq.mono (by omega)))
    clear hbq
    go_wp2_with fail
    go_ret
    exact ⟨by rw [HV.out]; rfl, HB.out⟩

theorem gopen_any (p : KM.Po) (t : Int) (w : World) (hp : p.wf) :
    Calls Tryz.prog 65 #[.agg (KM.pval p), .int .i64 t] w fun e w' => e = .returned (.bool (KM.sqR t && KM.opn p t)) ∧ Below w.heap.size w w' := by
  cases ht : KM.sqR t
  · have h := gopen_a p t w hp ht; rw [ht] at h; exact h
  · have h := gopen_b p t w hp ht; rw [ht] at h; exact h

end Go.Proofs.YtgikglnfjkbnhaaGreat
