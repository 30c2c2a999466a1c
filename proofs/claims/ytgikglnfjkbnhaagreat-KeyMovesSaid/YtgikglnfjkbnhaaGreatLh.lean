/-
  gen.jumps, walked (printed by mkjumps.py).
-/
import Derived.Test.YtgikglnfjkbnhaaGreatLf
import Derived.Test.YtgikglnfjkbnhaaGreatLg
namespace Go.Proofs.YtgikglnfjkbnhaaGreat
open Go.RowKit
set_option maxHeartbeats 400000
set_option maxRecDepth 20000

/-- Block g holds a generator. -/
def GBox (w : World) (g ge : Nat) : Prop := w.heap[g]? = some (.cells #[.pointer (some ⟨ge, 0, none⟩)] 47 (0, 0))
theorem GBox.below {w w' : World} {B g ge : Nat} (h : GBox w g ge) (hb : Below B w w') (hg : g < B) : GBox w' g ge := by
  unfold GBox; rw [hb.block g hg]; exact h
theorem GBox.cell {w : World} {g ge : Nat} (h : GBox w g ge) : w.cell? ⟨g, 0, none⟩ = some (.pointer (some ⟨ge, 0, none⟩)) := by rw [cell_of_row w g 0 _ _ _ h]; rfl

theorem jumps_any2 (gg ge : Nat) (p : KM.Po) (s : Int) (w : World) (hp : p.wf) (hG : GBox w gg ge) (hr : KM.rightB p.b = true) (s0 : 0 ≤ s) (s1 : s < 64) (hz : p.b s.toNat ≠ 0) :
    Calls Tryz.prog 45 #[.pointer (some ⟨gg, 0, none⟩), .agg (KM.pval p), .int .i64 s] w fun e w' => ∃ l, RetInts w l e w' ∧ l.length ≤ 512 ∧ ∀ x ∈ l, KM.sqR x = true ∧ KM.opn p x = true := by
  have hP := PBox.new w p
  have HB := Lib.hid ((Below.refl w.heap.size w).alloc (Nat.le_refl _) (Obj.cells (KM.pval p) 26))
  have hG' := hG.below ((Below.refl w.heap.size w).alloc (Nat.le_refl _) (Obj.cells (KM.pval p) 26)) (heap_lt hG)
  have hgl := heap_lt hG
  have hS : w.heap.size + 1 ≤ (w.alloc (Obj.cells (KM.pval p) 26)).heap.size := by simp
  have HR := Lib.hid hr
  have HZ := Lib.hid hz
  clear hr hz hG
  go_enter Tryz.func45, Tryz.ntmps45
  go_wp2_with fail
  generalize w.alloc (Obj.cells (KM.pval p) 26) = w0 at *
  refine wp_region_plan (fun w' => Below (w.heap.size + 1) w0 w') [(0, false), (1, false), (2, false), (3, false), (4, false), (5, false), (6, false), (8, false), (7, true), (9, true), (10, false)] (by kernel_rfl) (by kernel_rfl) (fun c a w d v h => by cases d <;> exact h) ((Below.refl _ _).drew) ?_
  refine plan_val (v := .pointer (some ⟨gg, 0, none⟩)) rfl ?c0 (fun w' _ => ?d0) ?_
  case c0 => rfl
  case d0 => kernel_rfl
  simp only [Act.put, List.setIfInBounds_toArray, List.set_cons_zero, List.set_cons_succ]
  refine plan_val (v := .pointer (some ⟨gg, 0, none⟩)) rfl ?c1 (fun w' _ => ?d1) ?_
  case c1 => rfl
  case d1 => kernel_rfl
  simp only [Act.put, List.setIfInBounds_toArray, List.set_cons_zero, List.set_cons_succ]
  refine plan_val (v := .pointer (some ⟨gg, 0, none⟩)) rfl ?c2 (fun w' _ => ?d2) ?_
  case c2 => rfl
  case d2 => kernel_rfl
  simp only [Act.put, List.setIfInBounds_toArray, List.set_cons_zero, List.set_cons_succ]
  refine plan_cell rfl ?c3 44 (.tmp 9) rfl gg 0 rfl (.pointer (some ⟨ge, 0, none⟩)) _ ?d3 Tryz.underlying44 rfl ?_
  case c3 => rfl
  case d3 => exact fun w' hC => (hG'.below hC (by omega)).cell
  simp only [Act.put, List.setIfInBounds_toArray, List.set_cons_zero, List.set_cons_succ]
  refine plan_val (v := .pointer (some ⟨w.heap.size, 0, none⟩)) rfl ?c4 (fun w' _ => ?d4) ?_
  case c4 => rfl
  case d4 => kernel_rfl
  simp only [Act.put, List.setIfInBounds_toArray, List.set_cons_zero, List.set_cons_succ]
  refine plan_load rfl ?c5 24 (.tmp 11) rfl w.heap.size 0 rfl (KM.bval p.b) _ ?d5 Tryz.underlying24 rfl (hi24 p.b) ?_
  case c5 => rfl
  case d5 => exact fun w' hC => (hP.below hC (by omega)).board
  simp only [Act.put, List.setIfInBounds_toArray, List.set_cons_zero, List.set_cons_succ]
  refine plan_val (v := .int .i64 s) rfl ?c6 (fun w' _ => ?d6) ?_
  case c6 => rfl
  case d6 => kernel_rfl
  simp only [Act.put, List.setIfInBounds_toArray, List.set_cons_zero, List.set_cons_succ]
  refine plan_val (v := .func (.func 67) #[] #[.pointer (some ⟨w.heap.size, 0, none⟩)]) rfl ?c8 (fun w' _ => ?d8) ?_
  case c8 => rfl
  case d8 => kernel_rfl
  simp only [Act.put, List.setIfInBounds_toArray, List.set_cons_zero, List.set_cons_succ]
  refine plan_call 64 #[.pointer (some ⟨ge, 0, none⟩), .agg (KM.bval p.b), .int .i64 s] rfl ?c7 (fun w' => ?d7) ?_
  case c7 => rfl
  case d7 => kernel_rfl
  refine (strikes_any ge p.b s _ hp.b HR.out s0 s1 HZ.out).mono ?_
  rintro e w1 ⟨l, ⟨a, cap, rfl, hown, hb1⟩, hl, hin⟩
  have hb01 : Below (w.heap.size + 1) w0 w1 := (Below.refl _ _).drew.trans (hb1.mono hS)
  refine ⟨_, rfl, hb01, ?_⟩
  simp only [Act.put, List.setIfInBounds_toArray, List.set_cons_zero, List.set_cons_succ]
  have hP1 := hP.below hb01 (by omega)
  refine plan_call 66 #[.slice a l.length cap, .func (.func 67) #[] #[.pointer (some ⟨w.heap.size, 0, none⟩)]] rfl ?c9 (fun w' => ?d9) ?_
  case c9 => rfl
  case d9 => kernel_rfl
  refine (deleteFunc_any p w.heap.size (w.heap.size + 1) a cap l w1 hp hP1 (by omega) (Nat.le_trans hS hb01.size) (ownsRow_base hown hS) (by omega)).mono ?_
  rintro e w2 ⟨⟨l', a', cap', rfl, hown', hin', hl'⟩, hb2⟩
  have hb02 := hb01.trans hb2
  refine ⟨_, rfl, hb02, ?_⟩
  simp only [Act.put, List.setIfInBounds_toArray, List.set_cons_zero, List.set_cons_succ]
  refine plan_val (v := .slice a' l'.length cap') rfl ?c10 (fun w' _ => ?d10) ?_
  case c10 => rfl
  case d10 => kernel_rfl
  simp only [Act.put, List.setIfInBounds_toArray, List.set_cons_zero, List.set_cons_succ]
  simp only [wpPlan]
  have HB2 := Lib.hid (HB.out.trans (hb02.mono (by omega)))
  have HO := Lib.hid (ownsRow_base hown' (show w.heap.size ≤ w.heap.size + 1 by omega))
  have HI := Lib.hid hin'
  clear hb02 hb2 hb01 hb1 hown hin hown' hin' hP hP1
  go_wp2_with fail
  go_ret
  refine ⟨l', ⟨a', cap', rfl, HO.out, HB2.out⟩, by omega, fun x hx => ?_⟩
  have h := (HI.out x hx).2
  unfold KM.shut at h
  simpa using h

end Go.Proofs.YtgikglnfjkbnhaaGreat
