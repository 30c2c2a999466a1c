/-
  Moves: who moves, whether a pawn does; boxes of moves.
-/
import Derived.Test.YtgikglnfjkbnhaaGreatKt
namespace Go.Proofs.YtgikglnfjkbnhaaGreat
open Go.RowKit
set_option maxHeartbeats 400000

/-- A move's cells. -/
def KM.mval (f t r : Int) : Array Value := #[.int .i64 f, .int .i64 t, .int .i64 r]
/-- Block g holds a move. -/
def MBox (w : World) (g : Nat) (f t r : Int) : Prop := w.heap[g]? = some (.cells #[.int .i64 f, .int .i64 t, .int .i64 r] 35 (0, 0))
theorem MBox.below {w w' : World} {B g : Nat} {f t r : Int} (h : MBox w g f t r) (hb : Below B w w') (hg : g < B) : MBox w' g f t r := by
  unfold MBox; rw [hb.block g hg]; exact h
theorem MBox.lt {w : World} {g : Nat} {f t r : Int} (h : MBox w g f t r) : g < w.heap.size := heap_lt h
theorem MBox.from {w : World} {g : Nat} {f t r : Int} (h : MBox w g f t r) : w.cell? ⟨g, 0, none⟩ = some (.int .i64 f) := by rw [cell_of_row w g 0 _ _ _ h]; rfl
theorem MBox.to {w : World} {g : Nat} {f t r : Int} (h : MBox w g f t r) : w.cell? ⟨g, 1, none⟩ = some (.int .i64 t) := by rw [cell_of_row w g 1 _ _ _ h]; rfl
theorem MBox.promo {w : World} {g : Nat} {f t r : Int} (h : MBox w g f t r) : w.cell? ⟨g, 2, none⟩ = some (.int .i64 r) := by rw [cell_of_row w g 2 _ _ _ h]; rfl
theorem MBox.part {w : World} {g : Nat} {f t r : Int} (h : MBox w g f t r) : ∀ j v, (#[.int .i64 f, .int .i64 t, .int .i64 r] : Array Value)[j]? = some v → w.cell? ⟨g, 0 + j, none⟩ = some v := by
  intro j v hv
  rw [Nat.zero_add, cell_of_row w g j _ _ _ h]
  exact hv
theorem hi35 (x y z : Value) : (Tryz.prog.info? 35).map (·.size) = some (#[x, y, z] : Array Value).size := by kernel_rfl

theorem moveMan_any (p : KM.Po) (f t r : Int) (w : World) (hp : p.wf) (f0 : 0 ≤ f) (f1 : f < 64) :
    Calls Tryz.prog 33 #[.agg (KM.pval p), .agg #[.int .i64 f, .int .i64 t, .int .i64 r]] w fun e w' => e = .returned (.int .i64 (p.b f.toNat)) ∧ Below w.heap.size w w' := by
  have hP : PBox ((w.alloc (.cells (KM.pval p) 26)).alloc (.cells #[.int .i64 f, .int .i64 t, .int .i64 r] 35)) w.heap.size p := by
    unfold PBox
    rw [Below.heap_alloc _ _ _ (by simp)]
    exact PBox.new w p
  have hM : MBox ((w.alloc (.cells (KM.pval p) 26)).alloc (.cells #[.int .i64 f, .int .i64 t, .int .i64 r] 35)) (w.heap.size + 1) f t r := by
    have := heap_alloc_new (w.alloc (.cells (KM.pval p) 26)) (Obj.cells #[.int .i64 f, .int .i64 t, .int .i64 r] 35)
    unfold MBox
    simpa using this
  have HB := Lib.hid (((Below.refl w.heap.size w).alloc (Nat.le_refl _) (Obj.cells (KM.pval p) 26)).alloc (by simp) (Obj.cells #[.int .i64 f, .int .i64 t, .int .i64 r] 35))
  obtain ⟨m0, m1⟩ := hp.b f.toNat (by omega)
  have c0 := hM.from
  have c1 := hP.at (i := f.toNat) (by omega)
  have HM := Lib.hid hM
  have HP := Lib.hid hP
  have HW := Lib.hid hp
  clear hM hP hp
  go_enter Tryz.func33, Tryz.ntmps33
  go_wp2_with fail
  go_ret
  exact ⟨rfl, HB.out⟩

theorem movePawn_any (p : KM.Po) (f t r : Int) (w : World) (hp : p.wf) (f0 : 0 ≤ f) (f1 : f < 64) :
    Calls Tryz.prog 34 #[.agg (KM.pval p), .agg #[.int .i64 f, .int .i64 t, .int .i64 r]] w fun e w' => e = .returned (.bool (KM.kind (p.b f.toNat) == 1)) ∧ Below w.heap.size w w' := by
  have hP : PBox ((w.alloc (.cells (KM.pval p) 26)).alloc (.cells #[.int .i64 f, .int .i64 t, .int .i64 r] 35)) w.heap.size p := by
    unfold PBox
    rw [Below.heap_alloc _ _ _ (by simp)]
    exact PBox.new w p
  have hM : MBox ((w.alloc (.cells (KM.pval p) 26)).alloc (.cells #[.int .i64 f, .int .i64 t, .int .i64 r] 35)) (w.heap.size + 1) f t r := by
    have := heap_alloc_new (w.alloc (.cells (KM.pval p) 26)) (Obj.cells #[.int .i64 f, .int .i64 t, .int .i64 r] 35)
    unfold MBox
    simpa using this
  have HB := Lib.hid (((Below.refl w.heap.size w).alloc (Nat.le_refl _) (Obj.cells (KM.pval p) 26)).alloc (by simp) (Obj.cells #[.int .i64 f, .int .i64 t, .int .i64 r] 35))
  have hMp := hM.part
  have hPp := hP.part
  have HM := Lib.hid hM
  have HP := Lib.hid hP
  have hmp := hMp
  have hpp := hPp
  clear hM hP hMp hPp
  go_enter Tryz.func34, Tryz.ntmps34
  go_wp2_with (first
    | (refine wpList_load_part rfl 26 (.tmp 2) rfl _ 0 rfl _ _ hpp Tryz.underlying26 rfl (hi26 p) ?_)
    | (refine wpList_load_part rfl 35 (.tmp 3) rfl _ 0 rfl _ _ hmp Tryz.underlying35 rfl (hi35 _ _ _) ?_)
    | (go_at_call 33; refine (moveMan_any _ _ _ _ _ hp f0 f1).mono ?_; rintro e w2 ⟨rfl, hbl⟩; replace HB := Lib.hid (HB.out.step hbl); clear hbl)
    | (go_at_call 47; refine (manKind_any _ _).mono ?_; rintro e w' ⟨rfl, rfl⟩))
  go_ret
  exact ⟨rfl, HB.out⟩

end Go.Proofs.YtgikglnfjkbnhaaGreat
