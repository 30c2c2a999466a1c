/-
  pos.touch, pos.homes, pos.Backed, walked.
-/
import Derived.Test.YtgikglnfjkbnhaaGreatKe
import Derived.Test.YtgikglnfjkbnhaaGreatKx
namespace Go.Proofs.YtgikglnfjkbnhaaGreat
open Go.RowKit
set_option maxHeartbeats 400000

theorem posTouch_any (p : KM.Po) (w : World) (hp : p.wf) :
    Calls Tryz.prog 28 #[.agg (KM.pval p)] w fun e w' => e = .returned (.bool (KM.touch p.b)) ∧ Below w.heap.size w w' := by
  have hP := PBox.new w p
  have HB := Lib.hid ((Below.refl w.heap.size w).alloc (Nat.le_refl _) (Obj.cells (KM.pval p) 26))
  have hsz : w.heap.size < (w.alloc (Obj.cells (KM.pval p) 26)).heap.size := by simp
  go_enter Tryz.func28, Tryz.ntmps28
  go_wp2_with fail
  generalize w.alloc (Obj.cells (KM.pval p) 26) = W at *
  refine wp_region_idx (w.heap.size + 1) (by kernel_rfl) (by kernel_rfl) ?_
  repeat (first | go_big_quiet_skip | (go_big_quiet_want; first | (refine quiet_load_part 24 (.tmp 3) rfl _ 0 rfl (by omega) _ _ hP.board Tryz.underlying24 rfl (hi24 p.b) ?_; simp only [Act.put, List.setIfInBounds_toArray, List.set_cons_zero, List.set_cons_succ]; go_big_quiet_on) | (refine quiet_load_part 24 (.tmp 6) rfl _ 0 rfl (by omega) _ _ hP.board Tryz.underlying24 rfl (hi24 p.b) ?_; simp only [Act.put, List.setIfInBounds_toArray, List.set_cons_zero, List.set_cons_succ]; go_big_quiet_on) | (go_big_quiet_op; first | go_big_quiet_on | go_big_quiet_call ((first | (go_at_call 55; exact Idx.calls (by omega) (boardKing_any p.b _ _ hp.b)) | (go_at_call 40; exact Idx.calls_same (sqFar_any _ _ _)))))))
  refine wpQuiet_nil ?_
  intro w3 hwq
  have hbq := Idx.get hwq
  clear hwq
  replace HB := Lib.hid (HB.out.trans (hbq.mono (Nat.le_add_right _ 1)))
  clear hbq
  go_wp2_with fail
  go_ret
  exact ⟨rfl, HB.out⟩

def homeCells : Array Value := #[.int .i64 1, .int .i64 0, .int .i64 4, .int .i64 7, .int .i64 2, .int .i64 0, .int .i64 4, .int .i64 0, .int .i64 4, .int .i64 1, .int .i64 60, .int .i64 63, .int .i64 8, .int .i64 1, .int .i64 60, .int .i64 56]
theorem homes_any (w : World) :
    Calls Tryz.prog 57 #[] w fun e w' => e = .returned (.agg homeCells) ∧ Below w.heap.size w w' := by
  go_enter Tryz.func57, Tryz.ntmps57
  go_wp2
  refine bodyPost_ret (v := .agg homeCells) ?_ rfl ⟨rfl, ?_⟩
  · exact results_cell_row rfl _ _ w.heap.size 83 homeCells (0, 0) _ rfl (heap_alloc_new w _) Tryz.underlying83 rfl (by kernel_rfl)
  · exact ((Below.refl _ _).alloc (Nat.le_refl _) _)
attribute [irreducible] homeCells
theorem home0 (w : World) : (Instr.index 83 (.agg homeCells) (.int .i64 0)).run Tryz.prog w = .ok (.agg #[.int .i64 1, .int .i64 0, .int .i64 4, .int .i64 7]) w := by kernel_rfl
theorem home1 (w : World) : (Instr.index 83 (.agg homeCells) (.int .i64 1)).run Tryz.prog w = .ok (.agg #[.int .i64 2, .int .i64 0, .int .i64 4, .int .i64 0]) w := by kernel_rfl
theorem home2 (w : World) : (Instr.index 83 (.agg homeCells) (.int .i64 2)).run Tryz.prog w = .ok (.agg #[.int .i64 4, .int .i64 1, .int .i64 60, .int .i64 63]) w := by kernel_rfl
theorem home3 (w : World) : (Instr.index 83 (.agg homeCells) (.int .i64 3)).run Tryz.prog w = .ok (.agg #[.int .i64 8, .int .i64 1, .int .i64 60, .int .i64 56]) w := by kernel_rfl

set_option maxHeartbeats 800000 in
theorem backed1_any (p : KM.Po) (w : World) (hp : p.wf) :
    Calls Tryz.prog 58 #[.agg (KM.pval p), .int .i64 1] w fun e w' => e = .returned (.bool (KM.bk p.b 4 7 0)) ∧ Below w.heap.size w w' := by
  by_cases b0 : (KM.manAt p.b 4 == KM.mk 6 0) = true
  · have HV := Lib.hid (show KM.bk p.b 4 7 0 = (KM.manAt p.b 7 == KM.mk 4 0) by unfold KM.bk; rw [b0, Bool.true_and])
    have hP := PBox.new w p
    have HB := Lib.hid ((Below.refl w.heap.size w).alloc (Nat.le_refl _) (Obj.cells (KM.pval p) 26))
    have ih0 := home0
    go_enter Tryz.func58, Tryz.ntmps58
    go_wp2_with (go_at_call 57; refine (homes_any _).mono ?_; rintro e w1 ⟨rfl, hb⟩; replace hP := hP.below hb hP.lt; replace HB := Lib.hid (HB.out.step hb); clear hb)
    refine wp_loop_rounds 1 ?_
    rw [rounds_succ]
    go_wp2_with fail
    have hsz := hP.lt
    have hN : (w1.alloc (Obj.cells #[.int .i64 1, .int .i64 0, .int .i64 4, .int .i64 7] 82)).heap[w1.heap.size]? = some (.cells #[.int .i64 1, .int .i64 0, .int .i64 4, .int .i64 7] 82 (0, 0)) := heap_alloc_new w1 _
    have hZ : (w1.alloc (Obj.cells #[.int .i64 1, .int .i64 0, .int .i64 4, .int .i64 7] 82)).heap.size = w1.heap.size + 1 := by simp
    replace hP := hP.below ((Below.refl _ _).alloc (Nat.le_refl _) (Obj.cells #[.int .i64 1, .int .i64 0, .int .i64 4, .int .i64 7] 82)) hP.lt
    replace HB := Lib.hid (HB.out.alloc HB.out.size (Obj.cells #[.int .i64 1, .int .i64 0, .int .i64 4, .int .i64 7] 82))
    have hle := HB.out.size
    generalize w1.alloc (Obj.cells #[.int .i64 1, .int .i64 0, .int .i64 4, .int .i64 7] 82) = WW at *
    have k1 := fun i : Idx (w1.heap.size + 1) WW => (i.below.cell (p := ⟨w1.heap.size, 1, none⟩) (Nat.lt_succ_self _)).trans (cell_of_row WW w1.heap.size 1 _ _ _ hN)
    have k2 := fun i : Idx (w1.heap.size + 1) WW => (i.below.cell (p := ⟨w1.heap.size, 2, none⟩) (Nat.lt_succ_self _)).trans (cell_of_row WW w1.heap.size 2 _ _ _ hN)
    have k3 := fun i : Idx (w1.heap.size + 1) WW => (i.below.cell (p := ⟨w1.heap.size, 3, none⟩) (Nat.lt_succ_self _)).trans (cell_of_row WW w1.heap.size 3 _ _ _ hN)
    clear hN
    have hwW : w.heap.size ≤ w1.heap.size := by omega
    have HZ := Lib.hid hZ
    clear hZ
    refine wp_region_idx (w1.heap.size + 1) (by kernel_rfl) (by kernel_rfl) ?_
    repeat (first | go_big_quiet_skip | (go_big_quiet_want; first | (refine quiet_load_part 24 (.tmp 15) rfl _ 0 rfl (by omega) _ _ hP.board Tryz.underlying24 rfl (hi24 p.b) ?_; simp only [Act.put, List.setIfInBounds_toArray, List.set_cons_zero, List.set_cons_succ]; go_big_quiet_on) | (refine quiet_load_part 24 (.tmp 25) rfl _ 0 rfl (by omega) _ _ hP.board Tryz.underlying24 rfl (hi24 p.b) ?_; simp only [Act.put, List.setIfInBounds_toArray, List.set_cons_zero, List.set_cons_succ]; go_big_quiet_on) | (go_big_quiet_op; first | go_big_quiet_on | go_big_quiet_call ((first | (go_at_call 74; exact Idx.calls (by rw [HZ.out]; omega) (boardMan_any p.b _ _ hp.b)) | (go_at_call 41; exact Idx.calls_same (manMake_any _ _ _)))))))
    refine wpQuiet_nil ?_
    intro w3 hwq
    have hbq := Idx.get hwq
    clear hwq
    replace HB := Lib.hid (HB.out.trans (hbq.mono (by omega)))
    clear hbq
    go_wp2_with fail
    go_ret
    exact ⟨by rw [HV.out]; rfl, HB.out⟩
  · replace b0 : (KM.manAt p.b 4 == KM.mk 6 0) = false := by simpa using b0
    have HV := Lib.hid (show KM.bk p.b 4 7 0 = false by unfold KM.bk; rw [b0, Bool.false_and])
    have hP := PBox.new w p
    have HB := Lib.hid ((Below.refl w.heap.size w).alloc (Nat.le_refl _) (Obj.cells (KM.pval p) 26))
    have ih0 := home0
    go_enter Tryz.func58, Tryz.ntmps58
    go_wp2_with (go_at_call 57; refine (homes_any _).mono ?_; rintro e w1 ⟨rfl, hb⟩; replace hP := hP.below hb hP.lt; replace HB := Lib.hid (HB.out.step hb); clear hb)
    refine wp_loop_rounds 1 ?_
    rw [rounds_succ]
    go_wp2_with fail
    have hsz := hP.lt
    have hN : (w1.alloc (Obj.cells #[.int .i64 1, .int .i64 0, .int .i64 4, .int .i64 7] 82)).heap[w1.heap.size]? = some (.cells #[.int .i64 1, .int .i64 0, .int .i64 4, .int .i64 7] 82 (0, 0)) := heap_alloc_new w1 _
    have hZ : (w1.alloc (Obj.cells #[.int .i64 1, .int .i64 0, .int .i64 4, .int .i64 7] 82)).heap.size = w1.heap.size + 1 := by simp
    replace hP := hP.below ((Below.refl _ _).alloc (Nat.le_refl _) (Obj.cells #[.int .i64 1, .int .i64 0, .int .i64 4, .int .i64 7] 82)) hP.lt
    replace HB := Lib.hid (HB.out.alloc HB.out.size (Obj.cells #[.int .i64 1, .int .i64 0, .int .i64 4, .int .i64 7] 82))
    have hle := HB.out.size
    generalize w1.alloc (Obj.cells #[.int .i64 1, .int .i64 0, .int .i64 4, .int .i64 7] 82) = WW at *
    have k1 := fun i : Idx (w1.heap.size + 1) WW => (i.below.cell (p := ⟨w1.heap.size, 1, none⟩) (Nat.lt_succ_self _)).trans (cell_of_row WW w1.heap.size 1 _ _ _ hN)
    have k2 := fun i : Idx (w1.heap.size + 1) WW => (i.below.cell (p := ⟨w1.heap.size, 2, none⟩) (Nat.lt_succ_self _)).trans (cell_of_row WW w1.heap.size 2 _ _ _ hN)
    have k3 := fun i : Idx (w1.heap.size + 1) WW => (i.below.cell (p := ⟨w1.heap.size, 3, none⟩) (Nat.lt_succ_self _)).trans (cell_of_row WW w1.heap.size 3 _ _ _ hN)
    clear hN
    have hwW : w.heap.size ≤ w1.heap.size := by omega
    have HZ := Lib.hid hZ
    clear hZ
    refine wp_region_idx (w1.heap.size + 1) (by kernel_rfl) (by kernel_rfl) ?_
    repeat (first | go_big_quiet_skip | (go_big_quiet_want; first | (refine quiet_load_part 24 (.tmp 15) rfl _ 0 rfl (by omega) _ _ hP.board Tryz.underlying24 rfl (hi24 p.b) ?_; simp only [Act.put, List.setIfInBounds_toArray, List.set_cons_zero, List.set_cons_succ]; go_big_quiet_on) | (refine quiet_load_part 24 (.tmp 25) rfl _ 0 rfl (by omega) _ _ hP.board Tryz.underlying24 rfl (hi24 p.b) ?_; simp only [Act.put, List.setIfInBounds_toArray, List.set_cons_zero, List.set_cons_succ]; go_big_quiet_on) | (go_big_quiet_op; first | go_big_quiet_on | go_big_quiet_call ((first | (go_at_call 74; exact Idx.calls (by rw [HZ.out]; omega) (boardMan_any p.b _ _ hp.b)) | (go_at_call 41; exact Idx.calls_same (manMake_any _ _ _)))))))
    refine wpQuiet_nil ?_
    intro w3 hwq
    have hbq := Idx.get hwq
    clear hwq
    replace HB := Lib.hid (HB.out.trans (hbq.mono (by omega)))
    clear hbq
    go_wp2_with fail
    go_ret
    exact ⟨by rw [HV.out]; rfl, HB.out⟩

set_option maxHeartbeats 800000 in
theorem backed2_any (p : KM.Po) (w : World) (hp : p.wf) :
    Calls Tryz.prog 58 #[.agg (KM.pval p), .int .i64 2] w fun e w' => e = .returned (.bool (KM.bk p.b 4 0 0)) ∧ Below w.heap.size w w' := by
  by_cases b0 : (KM.manAt p.b 4 == KM.mk 6 0) = true
  · have HV := Lib.hid (show KM.bk p.b 4 0 0 = (KM.manAt p.b 0 == KM.mk 4 0) by unfold KM.bk; rw [b0, Bool.true_and])
    have hP := PBox.new w p
    have HB := Lib.hid ((Below.refl w.heap.size w).alloc (Nat.le_refl _) (Obj.cells (KM.pval p) 26))
    have ih0 := home0
    have ih1 := home1
    go_enter Tryz.func58, Tryz.ntmps58
    go_wp2_with (go_at_call 57; refine (homes_any _).mono ?_; rintro e w1 ⟨rfl, hb⟩; replace hP := hP.below hb hP.lt; replace HB := Lib.hid (HB.out.step hb); clear hb)
    refine wp_loop_rounds 2 ?_
    rw [rounds_succ]
    go_wp2_with fail
    replace hP := hP.below ((Below.refl _ _).alloc (Nat.le_refl _) (Obj.cells #[.int .i64 1, .int .i64 0, .int .i64 4, .int .i64 7] 82)) hP.lt
    replace HB := Lib.hid (HB.out.alloc HB.out.size (Obj.cells #[.int .i64 1, .int .i64 0, .int .i64 4, .int .i64 7] 82))
    generalize w1.alloc (Obj.cells #[.int .i64 1, .int .i64 0, .int .i64 4, .int .i64 7] 82) = w2 at *
    rw [rounds_succ]
    go_wp2_with fail
    have hsz := hP.lt
    have hN : (w2.alloc (Obj.cells #[.int .i64 2, .int .i64 0, .int .i64 4, .int .i64 0] 82)).heap[w2.heap.size]? = some (.cells #[.int .i64 2, .int .i64 0, .int .i64 4, .int .i64 0] 82 (0, 0)) := heap_alloc_new w2 _
    have hZ : (w2.alloc (Obj.cells #[.int .i64 2, .int .i64 0, .int .i64 4, .int .i64 0] 82)).heap.size = w2.heap.size + 1 := by simp
    replace hP := hP.below ((Below.refl _ _).alloc (Nat.le_refl _) (Obj.cells #[.int .i64 2, .int .i64 0, .int .i64 4, .int .i64 0] 82)) hP.lt
    replace HB := Lib.hid (HB.out.alloc HB.out.size (Obj.cells #[.int .i64 2, .int .i64 0, .int .i64 4, .int .i64 0] 82))
    have hle := HB.out.size
    generalize w2.alloc (Obj.cells #[.int .i64 2, .int .i64 0, .int .i64 4, .int .i64 0] 82) = WW at *
    have k1 := fun i : Idx (w2.heap.size + 1) WW => (i.below.cell (p := ⟨w2.heap.size, 1, none⟩) (Nat.lt_succ_self _)).trans (cell_of_row WW w2.heap.size 1 _ _ _ hN)
    have k2 := fun i : Idx (w2.heap.size + 1) WW => (i.below.cell (p := ⟨w2.heap.size, 2, none⟩) (Nat.lt_succ_self _)).trans (cell_of_row WW w2.heap.size 2 _ _ _ hN)
    have k3 := fun i : Idx (w2.heap.size + 1) WW => (i.below.cell (p := ⟨w2.heap.size, 3, none⟩) (Nat.lt_succ_self _)).trans (cell_of_row WW w2.heap.size 3 _ _ _ hN)
    clear hN
    have hwW : w.heap.size ≤ w2.heap.size := by omega
    have HZ := Lib.hid hZ
    clear hZ
    refine wp_region_idx (w2.heap.size + 1) (by kernel_rfl) (by kernel_rfl) ?_
    repeat (first | go_big_quiet_skip | (go_big_quiet_want; first | (refine quiet_load_part 24 (.tmp 15) rfl _ 0 rfl (by omega) _ _ hP.board Tryz.underlying24 rfl (hi24 p.b) ?_; simp only [Act.put, List.setIfInBounds_toArray, List.set_cons_zero, List.set_cons_succ]; go_big_quiet_on) | (refine quiet_load_part 24 (.tmp 25) rfl _ 0 rfl (by omega) _ _ hP.board Tryz.underlying24 rfl (hi24 p.b) ?_; simp only [Act.put, List.setIfInBounds_toArray, List.set_cons_zero, List.set_cons_succ]; go_big_quiet_on) | (go_big_quiet_op; first | go_big_quiet_on | go_big_quiet_call ((first | (go_at_call 74; exact Idx.calls (by rw [HZ.out]; omega) (boardMan_any p.b _ _ hp.b)) | (go_at_call 41; exact Idx.calls_same (manMake_any _ _ _)))))))
    refine wpQuiet_nil ?_
    intro w3 hwq
    have hbq := Idx.get hwq
    clear hwq
    replace HB := Lib.hid (HB.out.trans (hbq.mono (by omega)))
    clear hbq
    go_wp2_with fail
    go_ret
    exact ⟨by rw [HV.out]; rfl, HB.out⟩
  · replace b0 : (KM.manAt p.b 4 == KM.mk 6 0) = false := by simpa using b0
    have HV := Lib.hid (show KM.bk p.b 4 0 0 = false by unfold KM.bk; rw [b0, Bool.false_and])
    have hP := PBox.new w p
    have HB := Lib.hid ((Below.refl w.heap.size w).alloc (Nat.le_refl _) (Obj.cells (KM.pval p) 26))
    have ih0 := home0
    have ih1 := home1
    go_enter Tryz.func58, Tryz.ntmps58
    go_wp2_with (go_at_call 57; refine (homes_any _).mono ?_; rintro e w1 ⟨rfl, hb⟩; replace hP := hP.below hb hP.lt; replace HB := Lib.hid (HB.out.step hb); clear hb)
    refine wp_loop_rounds 2 ?_
    rw [rounds_succ]
    go_wp2_with fail
    replace hP := hP.below ((Below.refl _ _).alloc (Nat.le_refl _) (Obj.cells #[.int .i64 1, .int .i64 0, .int .i64 4, .int .i64 7] 82)) hP.lt
    replace HB := Lib.hid (HB.out.alloc HB.out.size (Obj.cells #[.int .i64 1, .int .i64 0, .int .i64 4, .int .i64 7] 82))
    generalize w1.alloc (Obj.cells #[.int .i64 1, .int .i64 0, .int .i64 4, .int .i64 7] 82) = w2 at *
    rw [rounds_succ]
    go_wp2_with fail
    have hsz := hP.lt
    have hN : (w2.alloc (Obj.cells #[.int .i64 2, .int .i64 0, .int .i64 4, .int .i64 0] 82)).heap[w2.heap.size]? = some (.cells #[.int .i64 2, .int .i64 0, .int .i64 4, .int .i64 0] 82 (0, 0)) := heap_alloc_new w2 _
    have hZ : (w2.alloc (Obj.cells #[.int .i64 2, .int .i64 0, .int .i64 4, .int .i64 0] 82)).heap.size = w2.heap.size + 1 := by simp
    replace hP := hP.below ((Below.refl _ _).alloc (Nat.le_refl _) (Obj.cells #[.int .i64 2, .int .i64 0, .int .i64 4, .int .i64 0] 82)) hP.lt
    replace HB := Lib.hid (HB.out.alloc HB.out.size (Obj.cells #[.int .i64 2, .int .i64 0, .int .i64 4, .int .i64 0] 82))
    have hle := HB.out.size
    generalize w2.alloc (Obj.cells #[.int .i64 2, .int .i64 0, .int .i64 4, .int .i64 0] 82) = WW at *
    have k1 := fun i : Idx (w2.heap.size + 1) WW => (i.below.cell (p := ⟨w2.heap.size, 1, none⟩) (Nat.lt_succ_self _)).trans (cell_of_row WW w2.heap.size 1 _ _ _ hN)
    have k2 := fun i : Idx (w2.heap.size + 1) WW => (i.below.cell (p := ⟨w2.heap.size, 2, none⟩) (Nat.lt_succ_self _)).trans (cell_of_row WW w2.heap.size 2 _ _ _ hN)
    have k3 := fun i : Idx (w2.heap.size + 1) WW => (i.below.cell (p := ⟨w2.heap.size, 3, none⟩) (Nat.lt_succ_self _)).trans (cell_of_row WW w2.heap.size 3 _ _ _ hN)
    clear hN
    have hwW : w.heap.size ≤ w2.heap.size := by omega
    have HZ := Lib.hid hZ
    clear hZ
    refine wp_region_idx (w2.heap.size + 1) (by kernel_rfl) (by kernel_rfl) ?_
    repeat (first | go_big_quiet_skip | (go_big_quiet_want; first | (refine quiet_load_part 24 (.tmp 15) rfl _ 0 rfl (by omega) _ _ hP.board Tryz.underlying24 rfl (hi24 p.b) ?_; simp only [Act.put, List.setIfInBounds_toArray, List.set_cons_zero, List.set_cons_succ]; go_big_quiet_on) | (refine quiet_load_part 24 (.tmp 25) rfl _ 0 rfl (by omega) _ _ hP.board Tryz.underlying24 rfl (hi24 p.b) ?_; simp only [Act.put, List.setIfInBounds_toArray, List.set_cons_zero, List.set_cons_succ]; go_big_quiet_on) | (go_big_quiet_op; first | go_big_quiet_on | go_big_quiet_call ((first | (go_at_call 74; exact Idx.calls (by rw [HZ.out]; omega) (boardMan_any p.b _ _ hp.b)) | (go_at_call 41; exact Idx.calls_same (manMake_any _ _ _)))))))
    refine wpQuiet_nil ?_
    intro w3 hwq
    have hbq := Idx.get hwq
    clear hwq
    replace HB := Lib.hid (HB.out.trans (hbq.mono (by omega)))
    clear hbq
    go_wp2_with fail
    go_ret
    exact ⟨by rw [HV.out]; rfl, HB.out⟩

set_option maxHeartbeats 800000 in
theorem backed4_any (p : KM.Po) (w : World) (hp : p.wf) :
    Calls Tryz.prog 58 #[.agg (KM.pval p), .int .i64 4] w fun e w' => e = .returned (.bool (KM.bk p.b 60 63 1)) ∧ Below w.heap.size w w' := by
  by_cases b0 : (KM.manAt p.b 60 == KM.mk 6 1) = true
  · have HV := Lib.hid (show KM.bk p.b 60 63 1 = (KM.manAt p.b 63 == KM.mk 4 1) by unfold KM.bk; rw [b0, Bool.true_and])
    have hP := PBox.new w p
    have HB := Lib.hid ((Below.refl w.heap.size w).alloc (Nat.le_refl _) (Obj.cells (KM.pval p) 26))
    have ih0 := home0
    have ih1 := home1
    have ih2 := home2
    go_enter Tryz.func58, Tryz.ntmps58
    go_wp2_with (go_at_call 57; refine (homes_any _).mono ?_; rintro e w1 ⟨rfl, hb⟩; replace hP := hP.below hb hP.lt; replace HB := Lib.hid (HB.out.step hb); clear hb)
    refine wp_loop_rounds 3 ?_
    rw [rounds_succ]
    go_wp2_with fail
    replace hP := hP.below ((Below.refl _ _).alloc (Nat.le_refl _) (Obj.cells #[.int .i64 1, .int .i64 0, .int .i64 4, .int .i64 7] 82)) hP.lt
    replace HB := Lib.hid (HB.out.alloc HB.out.size (Obj.cells #[.int .i64 1, .int .i64 0, .int .i64 4, .int .i64 7] 82))
    generalize w1.alloc (Obj.cells #[.int .i64 1, .int .i64 0, .int .i64 4, .int .i64 7] 82) = w2 at *
    rw [rounds_succ]
    go_wp2_with fail
    replace hP := hP.below ((Below.refl _ _).alloc (Nat.le_refl _) (Obj.cells #[.int .i64 2, .int .i64 0, .int .i64 4, .int .i64 0] 82)) hP.lt
    replace HB := Lib.hid (HB.out.alloc HB.out.size (Obj.cells #[.int .i64 2, .int .i64 0, .int .i64 4, .int .i64 0] 82))
    generalize w2.alloc (Obj.cells #[.int .i64 2, .int .i64 0, .int .i64 4, .int .i64 0] 82) = w3 at *
    rw [rounds_succ]
    go_wp2_with fail
    have hsz := hP.lt
    have hN : (w3.alloc (Obj.cells #[.int .i64 4, .int .i64 1, .int .i64 60, .int .i64 63] 82)).heap[w3.heap.size]? = some (.cells #[.int .i64 4, .int .i64 1, .int .i64 60, .int .i64 63] 82 (0, 0)) := heap_alloc_new w3 _
    have hZ : (w3.alloc (Obj.cells #[.int .i64 4, .int .i64 1, .int .i64 60, .int .i64 63] 82)).heap.size = w3.heap.size + 1 := by simp
    replace hP := hP.below ((Below.refl _ _).alloc (Nat.le_refl _) (Obj.cells #[.int .i64 4, .int .i64 1, .int .i64 60, .int .i64 63] 82)) hP.lt
    replace HB := Lib.hid (HB.out.alloc HB.out.size (Obj.cells #[.int .i64 4, .int .i64 1, .int .i64 60, .int .i64 63] 82))
    have hle := HB.out.size
    generalize w3.alloc (Obj.cells #[.int .i64 4, .int .i64 1, .int .i64 60, .int .i64 63] 82) = WW at *
    have k1 := fun i : Idx (w3.heap.size + 1) WW => (i.below.cell (p := ⟨w3.heap.size, 1, none⟩) (Nat.lt_succ_self _)).trans (cell_of_row WW w3.heap.size 1 _ _ _ hN)
    have k2 := fun i : Idx (w3.heap.size + 1) WW => (i.below.cell (p := ⟨w3.heap.size, 2, none⟩) (Nat.lt_succ_self _)).trans (cell_of_row WW w3.heap.size 2 _ _ _ hN)
    have k3 := fun i : Idx (w3.heap.size + 1) WW => (i.below.cell (p := ⟨w3.heap.size, 3, none⟩) (Nat.lt_succ_self _)).trans (cell_of_row WW w3.heap.size 3 _ _ _ hN)
    clear hN
    have hwW : w.heap.size ≤ w3.heap.size := by omega
    have HZ := Lib.hid hZ
    clear hZ
    refine wp_region_idx (w3.heap.size + 1) (by kernel_rfl) (by kernel_rfl) ?_
    repeat (first | go_big_quiet_skip | (go_big_quiet_want; first | (refine quiet_load_part 24 (.tmp 15) rfl _ 0 rfl (by omega) _ _ hP.board Tryz.underlying24 rfl (hi24 p.b) ?_; simp only [Act.put, List.setIfInBounds_toArray, List.set_cons_zero, List.set_cons_succ]; go_big_quiet_on) | (refine quiet_load_part 24 (.tmp 25) rfl _ 0 rfl (by omega) _ _ hP.board Tryz.underlying24 rfl (hi24 p.b) ?_; simp only [Act.put, List.setIfInBounds_toArray, List.set_cons_zero, List.set_cons_succ]; go_big_quiet_on) | (go_big_quiet_op; first | go_big_quiet_on | go_big_quiet_call ((first | (go_at_call 74; exact Idx.calls (by rw [HZ.out]; omega) (boardMan_any p.b _ _ hp.b)) | (go_at_call 41; exact Idx.calls_same (manMake_any _ _ _)))))))
    refine wpQuiet_nil ?_
    intro w3 hwq
    have hbq := Idx.get hwq
    clear hwq
    replace HB := Lib.hid (HB.out.trans (hbq.mono (by omega)))
    clear hbq
    go_wp2_with fail
    go_ret
    exact ⟨by rw [HV.out]; rfl, HB.out⟩
  · replace b0 : (KM.manAt p.b 60 == KM.mk 6 1) = false := by simpa using b0
    have HV := Lib.hid (show KM.bk p.b 60 63 1 = false by unfold KM.bk; rw [b0, Bool.false_and])
    have hP := PBox.new w p
    have HB := Lib.hid ((Below.refl w.heap.size w).alloc (Nat.le_refl _) (Obj.cells (KM.pval p) 26))
    have ih0 := home0
    have ih1 := home1
    have ih2 := home2
    go_enter Tryz.func58, Tryz.ntmps58
    go_wp2_with (go_at_call 57; refine (homes_any _).mono ?_; rintro e w1 ⟨rfl, hb⟩; replace hP := hP.below hb hP.lt; replace HB := Lib.hid (HB.out.step hb); clear hb)
    refine wp_loop_rounds 3 ?_
    rw [rounds_succ]
    go_wp2_with fail
    replace hP := hP.below ((Below.refl _ _).alloc (Nat.le_refl _) (Obj.cells #[.int .i64 1, .int .i64 0, .int .i64 4, .int .i64 7] 82)) hP.lt
    replace HB := Lib.hid (HB.out.alloc HB.out.size (Obj.cells #[.int .i64 1, .int .i64 0, .int .i64 4, .int .i64 7] 82))
    generalize w1.alloc (Obj.cells #[.int .i64 1, .int .i64 0, .int .i64 4, .int .i64 7] 82) = w2 at *
    rw [rounds_succ]
    go_wp2_with fail
    replace hP := hP.below ((Below.refl _ _).alloc (Nat.le_refl _) (Obj.cells #[.int .i64 2, .int .i64 0, .int .i64 4, .int .i64 0] 82)) hP.lt
    replace HB := Lib.hid (HB.out.alloc HB.out.size (Obj.cells #[.int .i64 2, .int .i64 0, .int .i64 4, .int .i64 0] 82))
    generalize w2.alloc (Obj.cells #[.int .i64 2, .int .i64 0, .int .i64 4, .int .i64 0] 82) = w3 at *
    rw [rounds_succ]
    go_wp2_with fail
    have hsz := hP.lt
    have hN : (w3.alloc (Obj.cells #[.int .i64 4, .int .i64 1, .int .i64 60, .int .i64 63] 82)).heap[w3.heap.size]? = some (.cells #[.int .i64 4, .int .i64 1, .int .i64 60, .int .i64 63] 82 (0, 0)) := heap_alloc_new w3 _
    have hZ : (w3.alloc (Obj.cells #[.int .i64 4, .int .i64 1, .int .i64 60, .int .i64 63] 82)).heap.size = w3.heap.size + 1 := by simp
    replace hP := hP.below ((Below.refl _ _).alloc (Nat.le_refl _) (Obj.cells #[.int .i64 4, .int .i64 1, .int .i64 60, .int .i64 63] 82)) hP.lt
    replace HB := Lib.hid (HB.out.alloc HB.out.size (Obj.cells #[.int .i64 4, .int .i64 1, .int .i64 60, .int .i64 63] 82))
    have hle := HB.out.size
    generalize w3.alloc (Obj.cells #[.int .i64 4, .int .i64 1, .int .i64 60, .int .i64 63] 82) = WW at *
    have k1 := fun i : Idx (w3.heap.size + 1) WW => (i.below.cell (p := ⟨w3.heap.size, 1, none⟩) (Nat.lt_succ_self _)).trans (cell_of_row WW w3.heap.size 1 _ _ _ hN)
    have k2 := fun i : Idx (w3.heap.size + 1) WW => (i.below.cell (p := ⟨w3.heap.size, 2, none⟩) (Nat.lt_succ_self _)).trans (cell_of_row WW w3.heap.size 2 _ _ _ hN)
    have k3 := fun i : Idx (w3.heap.size + 1) WW => (i.below.cell (p := ⟨w3.heap.size, 3, none⟩) (Nat.lt_succ_self _)).trans (cell_of_row WW w3.heap.size 3 _ _ _ hN)
    clear hN
    have hwW : w.heap.size ≤ w3.heap.size := by omega
    have HZ := Lib.hid hZ
    clear hZ
    refine wp_region_idx (w3.heap.size + 1) (by kernel_rfl) (by kernel_rfl) ?_
    repeat (first | go_big_quiet_skip | (go_big_quiet_want; first | (refine quiet_load_part 24 (.tmp 15) rfl _ 0 rfl (by omega) _ _ hP.board Tryz.underlying24 rfl (hi24 p.b) ?_; simp only [Act.put, List.setIfInBounds_toArray, List.set_cons_zero, List.set_cons_succ]; go_big_quiet_on) | (refine quiet_load_part 24 (.tmp 25) rfl _ 0 rfl (by omega) _ _ hP.board Tryz.underlying24 rfl (hi24 p.b) ?_; simp only [Act.put, List.setIfInBounds_toArray, List.set_cons_zero, List.set_cons_succ]; go_big_quiet_on) | (go_big_quiet_op; first | go_big_quiet_on | go_big_quiet_call ((first | (go_at_call 74; exact Idx.calls (by rw [HZ.out]; omega) (boardMan_any p.b _ _ hp.b)) | (go_at_call 41; exact Idx.calls_same (manMake_any _ _ _)))))))
    refine wpQuiet_nil ?_
    intro w3 hwq
    have hbq := Idx.get hwq
    clear hwq
    replace HB := Lib.hid (HB.out.trans (hbq.mono (by omega)))
    clear hbq
    go_wp2_with fail
    go_ret
    exact ⟨by rw [HV.out]; rfl, HB.out⟩

set_option maxHeartbeats 800000 in
theorem backed8_any (p : KM.Po) (w : World) (hp : p.wf) :
    Calls Tryz.prog 58 #[.agg (KM.pval p), .int .i64 8] w fun e w' => e = .returned (.bool (KM.bk p.b 60 56 1)) ∧ Below w.heap.size w w' := by
  by_cases b0 : (KM.manAt p.b 60 == KM.mk 6 1) = true
  · have HV := Lib.hid (show KM.bk p.b 60 56 1 = (KM.manAt p.b 56 == KM.mk 4 1) by unfold KM.bk; rw [b0, Bool.true_and])
    have hP := PBox.new w p
    have HB := Lib.hid ((Below.refl w.heap.size w).alloc (Nat.le_refl _) (Obj.cells (KM.pval p) 26))
    have ih0 := home0
    have ih1 := home1
    have ih2 := home2
    have ih3 := home3
    go_enter Tryz.func58, Tryz.ntmps58
    go_wp2_with (go_at_call 57; refine (homes_any _).mono ?_; rintro e w1 ⟨rfl, hb⟩; replace hP := hP.below hb hP.lt; replace HB := Lib.hid (HB.out.step hb); clear hb)
    refine wp_loop_rounds 4 ?_
    rw [rounds_succ]
    go_wp2_with fail
    replace hP := hP.below ((Below.refl _ _).alloc (Nat.le_refl _) (Obj.cells #[.int .i64 1, .int .i64 0, .int .i64 4, .int .i64 7] 82)) hP.lt
    replace HB := Lib.hid (HB.out.alloc HB.out.size (Obj.cells #[.int .i64 1, .int .i64 0, .int .i64 4, .int .i64 7] 82))
    generalize w1.alloc (Obj.cells #[.int .i64 1, .int .i64 0, .int .i64 4, .int .i64 7] 82) = w2 at *
    rw [rounds_succ]
    go_wp2_with fail
    replace hP := hP.below ((Below.refl _ _).alloc (Nat.le_refl _) (Obj.cells #[.int .i64 2, .int .i64 0, .int .i64 4, .int .i64 0] 82)) hP.lt
    replace HB := Lib.hid (HB.out.alloc HB.out.size (Obj.cells #[.int .i64 2, .int .i64 0, .int .i64 4, .int .i64 0] 82))
    generalize w2.alloc (Obj.cells #[.int .i64 2, .int .i64 0, .int .i64 4, .int .i64 0] 82) = w3 at *
    rw [rounds_succ]
    go_wp2_with fail
    replace hP := hP.below ((Below.refl _ _).alloc (Nat.le_refl _) (Obj.cells #[.int .i64 4, .int .i64 1, .int .i64 60, .int .i64 63] 82)) hP.lt
    replace HB := Lib.hid (HB.out.alloc HB.out.size (Obj.cells #[.int .i64 4, .int .i64 1, .int .i64 60, .int .i64 63] 82))
    generalize w3.alloc (Obj.cells #[.int .i64 4, .int .i64 1, .int .i64 60, .int .i64 63] 82) = w4 at *
    rw [rounds_succ]
    go_wp2_with fail
    have hsz := hP.lt
    have hN : (w4.alloc (Obj.cells #[.int .i64 8, .int .i64 1, .int .i64 60, .int .i64 56] 82)).heap[w4.heap.size]? = some (.cells #[.int .i64 8, .int .i64 1, .int .i64 60, .int .i64 56] 82 (0, 0)) := heap_alloc_new w4 _
    have hZ : (w4.alloc (Obj.cells #[.int .i64 8, .int .i64 1, .int .i64 60, .int .i64 56] 82)).heap.size = w4.heap.size + 1 := by simp
    replace hP := hP.below ((Below.refl _ _).alloc (Nat.le_refl _) (Obj.cells #[.int .i64 8, .int .i64 1, .int .i64 60, .int .i64 56] 82)) hP.lt
    replace HB := Lib.hid (HB.out.alloc HB.out.size (Obj.cells #[.int .i64 8, .int .i64 1, .int .i64 60, .int .i64 56] 82))
    have hle := HB.out.size
    generalize w4.alloc (Obj.cells #[.int .i64 8, .int .i64 1, .int .i64 60, .int .i64 56] 82) = WW at *
    have k1 := fun i : Idx (w4.heap.size + 1) WW => (i.below.cell (p := ⟨w4.heap.size, 1, none⟩) (Nat.lt_succ_self _)).trans (cell_of_row WW w4.heap.size 1 _ _ _ hN)
    have k2 := fun i : Idx (w4.heap.size + 1) WW => (i.below.cell (p := ⟨w4.heap.size, 2, none⟩) (Nat.lt_succ_self _)).trans (cell_of_row WW w4.heap.size 2 _ _ _ hN)
    have k3 := fun i : Idx (w4.heap.size + 1) WW => (i.below.cell (p := ⟨w4.heap.size, 3, none⟩) (Nat.lt_succ_self _)).trans (cell_of_row WW w4.heap.size 3 _ _ _ hN)
    clear hN
    have hwW : w.heap.size ≤ w4.heap.size := by omega
    have HZ := Lib.hid hZ
    clear hZ
    refine wp_region_idx (w4.heap.size + 1) (by kernel_rfl) (by kernel_rfl) ?_
    repeat (first | go_big_quiet_skip | (go_big_quiet_want; first | (refine quiet_load_part 24 (.tmp 15) rfl _ 0 rfl (by omega) _ _ hP.board Tryz.underlying24 rfl (hi24 p.b) ?_; simp only [Act.put, List.setIfInBounds_toArray, List.set_cons_zero, List.set_cons_succ]; go_big_quiet_on) | (refine quiet_load_part 24 (.tmp 25) rfl _ 0 rfl (by omega) _ _ hP.board Tryz.underlying24 rfl (hi24 p.b) ?_; simp only [Act.put, List.setIfInBounds_toArray, List.set_cons_zero, List.set_cons_succ]; go_big_quiet_on) | (go_big_quiet_op; first | go_big_quiet_on | go_big_quiet_call ((first | (go_at_call 74; exact Idx.calls (by rw [HZ.out]; omega) (boardMan_any p.b _ _ hp.b)) | (go_at_call 41; exact Idx.calls_same (manMake_any _ _ _)))))))
    refine wpQuiet_nil ?_
    intro w3 hwq
    have hbq := Idx.get hwq
    clear hwq
    replace HB := Lib.hid (HB.out.trans (hbq.mono (by omega)))
    clear hbq
    go_wp2_with fail
    go_ret
    exact ⟨by rw [HV.out]; rfl, HB.out⟩
  · replace b0 : (KM.manAt p.b 60 == KM.mk 6 1) = false := by simpa using b0
    have HV := Lib.hid (show KM.bk p.b 60 56 1 = false by unfold KM.bk; rw [b0, Bool.false_and])
    have hP := PBox.new w p
    have HB := Lib.hid ((Below.refl w.heap.size w).alloc (Nat.le_refl _) (Obj.cells (KM.pval p) 26))
    have ih0 := home0
    have ih1 := home1
    have ih2 := home2
    have ih3 := home3
    go_enter Tryz.func58, Tryz.ntmps58
    go_wp2_with (go_at_call 57; refine (homes_any _).mono ?_; rintro e w1 ⟨rfl, hb⟩; replace hP := hP.below hb hP.lt; replace HB := Lib.hid (HB.out.step hb); clear hb)
    refine wp_loop_rounds 4 ?_
    rw [rounds_succ]
    go_wp2_with fail
    replace hP := hP.below ((Below.refl _ _).alloc (Nat.le_refl _) (Obj.cells #[.int .i64 1, .int .i64 0, .int .i64 4, .int .i64 7] 82)) hP.lt
    replace HB := Lib.hid (HB.out.alloc HB.out.size (Obj.cells #[.int .i64 1, .int .i64 0, .int .i64 4, .int .i64 7] 82))
    generalize w1.alloc (Obj.cells #[.int .i64 1, .int .i64 0, .int .i64 4, .int .i64 7] 82) = w2 at *
    rw [rounds_succ]
    go_wp2_with fail
    replace hP := hP.below ((Below.refl _ _).alloc (Nat.le_refl _) (Obj.cells #[.int .i64 2, .int .i64 0, .int .i64 4, .int .i64 0] 82)) hP.lt
    replace HB := Lib.hid (HB.out.alloc HB.out.size (Obj.cells #[.int .i64 2, .int .i64 0, .int .i64 4, .int .i64 0] 82))
    generalize w2.alloc (Obj.cells #[.int .i64 2, .int .i64 0, .int .i64 4, .int .i64 0] 82) = w3 at *
    rw [rounds_succ]
    go_wp2_with fail
    replace hP := hP.below ((Below.refl _ _).alloc (Nat.le_refl _) (Obj.cells #[.int .i64 4, .int .i64 1, .int .i64 60, .int .i64 63] 82)) hP.lt
    replace HB := Lib.hid (HB.out.alloc HB.out.size (Obj.cells #[.int .i64 4, .int .i64 1, .int .i64 60, .int .i64 63] 82))
    generalize w3.alloc (Obj.cells #[.int .i64 4, .int .i64 1, .int .i64 60, .int .i64 63] 82) = w4 at *
    rw [rounds_succ]
    go_wp2_with fail
    have hsz := hP.lt
    have hN : (w4.alloc (Obj.cells #[.int .i64 8, .int .i64 1, .int .i64 60, .int .i64 56] 82)).heap[w4.heap.size]? = some (.cells #[.int .i64 8, .int .i64 1, .int .i64 60, .int .i64 56] 82 (0, 0)) := heap_alloc_new w4 _
    have hZ : (w4.alloc (Obj.cells #[.int .i64 8, .int .i64 1, .int .i64 60, .int .i64 56] 82)).heap.size = w4.heap.size + 1 := by simp
    replace hP := hP.below ((Below.refl _ _).alloc (Nat.le_refl _) (Obj.cells #[.int .i64 8, .int .i64 1, .int .i64 60, .int .i64 56] 82)) hP.lt
    replace HB := Lib.hid (HB.out.alloc HB.out.size (Obj.cells #[.int .i64 8, .int .i64 1, .int .i64 60, .int .i64 56] 82))
    have hle := HB.out.size
    generalize w4.alloc (Obj.cells #[.int .i64 8, .int .i64 1, .int .i64 60, .int .i64 56] 82) = WW at *
    have k1 := fun i : Idx (w4.heap.size + 1) WW => (i.below.cell (p := ⟨w4.heap.size, 1, none⟩) (Nat.lt_succ_self _)).trans (cell_of_row WW w4.heap.size 1 _ _ _ hN)
    have k2 := fun i : Idx (w4.heap.size + 1) WW => (i.below.cell (p := ⟨w4.heap.size, 2, none⟩) (Nat.lt_succ_self _)).trans (cell_of_row WW w4.heap.size 2 _ _ _ hN)
    have k3 := fun i : Idx (w4.heap.size + 1) WW => (i.below.cell (p := ⟨w4.heap.size, 3, none⟩) (Nat.lt_succ_self _)).trans (cell_of_row WW w4.heap.size 3 _ _ _ hN)
    clear hN
    have hwW : w.heap.size ≤ w4.heap.size := by omega
    have HZ := Lib.hid hZ
    clear hZ
    refine wp_region_idx (w4.heap.size + 1) (by kernel_rfl) (by kernel_rfl) ?_
    repeat (first | go_big_quiet_skip | (go_big_quiet_want; first | (refine quiet_load_part 24 (.tmp 15) rfl _ 0 rfl (by omega) _ _ hP.board Tryz.underlying24 rfl (hi24 p.b) ?_; simp only [Act.put, List.setIfInBounds_toArray, List.set_cons_zero, List.set_cons_succ]; go_big_quiet_on) | (refine quiet_load_part 24 (.tmp 25) rfl _ 0 rfl (by omega) _ _ hP.board Tryz.underlying24 rfl (hi24 p.b) ?_; simp only [Act.put, List.setIfInBounds_toArray, List.set_cons_zero, List.set_cons_succ]; go_big_quiet_on) | (go_big_quiet_op; first | go_big_quiet_on | go_big_quiet_call ((first | (go_at_call 74; exact Idx.calls (by rw [HZ.out]; omega) (boardMan_any p.b _ _ hp.b)) | (go_at_call 41; exact Idx.calls_same (manMake_any _ _ _)))))))
    refine wpQuiet_nil ?_
    intro w3 hwq
    have hbq := Idx.get hwq
    clear hwq
    replace HB := Lib.hid (HB.out.trans (hbq.mono (by omega)))
    clear hbq
    go_wp2_with fail
    go_ret
    exact ⟨by rw [HV.out]; rfl, HB.out⟩

end Go.Proofs.YtgikglnfjkbnhaaGreat
