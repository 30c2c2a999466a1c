/-
  Moves: Formed, wing, castle, Castles, takes, corners, walked.
-/
import Derived.Test.YtgikglnfjkbnhaaGreatKy
namespace Go.Proofs.YtgikglnfjkbnhaaGreat
open Go.RowKit
set_option maxHeartbeats 400000

theorem moveFormed_any (p : KM.Po) (f t r : Int) (w : World) (hp : p.wf) :
    Calls Tryz.prog 78 #[.agg (KM.pval p), .agg #[.int .i64 f, .int .i64 t, .int .i64 r]] w fun e w' => e = .returned (.bool (KM.wrong p == 0 && KM.formed p f t r)) ∧ Below w.heap.size w w' := by
  have hP := pm_p p f t r w
  have hM := pm_m p f t r w
  have HB := Lib.hid (pm_b p f t r w)
  cases hw : (KM.wrong p == 0)
  · have HV := Lib.hid (show (false && KM.formed p f t r) = false from rfl)
    have hPp := hP.part
    go_enter Tryz.func78, Tryz.ntmps78
    go_wp2_with (first
      | (refine wpList_load_part rfl 26 (.tmp 2) rfl _ 0 rfl _ _ hP.part Tryz.underlying26 rfl (hi26 p) ?_)
      | (go_at_call 18; refine (posWrong_any _ _ hp).mono ?_; rintro e w2 ⟨rfl, hbl⟩; replace HB := Lib.hid (HB.out.step hbl); clear hbl))
    go_ret
    exact ⟨rfl, HB.out⟩
  · have HV := Lib.hid (show (true && KM.formed p f t r) = KM.formed p f t r from Bool.true_and _)
    go_enter Tryz.func78, Tryz.ntmps78
    go_wp2_with (first
      | (refine wpList_load_part rfl 26 (.tmp 2) rfl _ 0 rfl _ _ hP.part Tryz.underlying26 rfl (hi26 p) ?_)
      | (refine wpList_load_part rfl 35 (.tmp 3) rfl _ 0 rfl _ _ hM.part Tryz.underlying35 rfl (hi35 _ _ _) ?_)
      | (go_at_call 18; refine (posWrong_any _ _ hp).mono ?_; rintro e w2 ⟨rfl, hbl⟩; replace hP := hP.below hbl hP.lt; replace hM := hM.below hbl hM.lt; replace HB := Lib.hid (HB.out.step hbl); clear hbl)
      | (go_at_call 19; refine (formed_any _ _ _ _ _ hp).mono ?_; rintro e w2 ⟨rfl, hbl⟩; replace HB := Lib.hid (HB.out.step hbl); clear hbl))
    go_ret
    exact ⟨by rw [HV.out]; rfl, HB.out⟩

def KM.takesN (p : KM.Po) (f t : Int) : Int :=
  if p.b t.toNat ≠ 0 then t else if KM.kind (p.b f.toNat) = 1 ∧ t = p.ep ∧ KM.file f ≠ KM.file t ∧ KM.passB p = true then KM.passN p else -1
theorem KM.takesN_range (p : KM.Po) (f t : Int) (t0 : 0 ≤ t) (t1 : t < 64) : -1 ≤ KM.takesN p f t ∧ KM.takesN p f t < 64 := by
  unfold KM.takesN
  split
  · omega
  · split
    · rename_i h
      have := KM.passB_range h.2.2.2
      unfold KM.passN
      rw [if_pos h.2.2.2]
      omega
    · omega

def cornerCells : Array Value := #[.int .i64 0, .int .i64 2, .int .i64 4, .int .i64 3, .int .i64 7, .int .i64 1, .int .i64 56, .int .i64 8, .int .i64 60, .int .i64 12, .int .i64 63, .int .i64 4]
theorem corners_any (w : World) : Calls Tryz.prog 42 #[] w fun e w' => e = .returned (.agg cornerCells) ∧ Below w.heap.size w w' := by
  go_enter Tryz.func42, Tryz.ntmps42
  go_wp2_with fail
  refine bodyPost_ret (v := .agg cornerCells) ?_ rfl ⟨rfl, ?_⟩
  · exact results_cell_row rfl _ _ w.heap.size 66 cornerCells (0, 0) _ rfl (heap_alloc_new w _) Tryz.underlying66 rfl (by kernel_rfl)
  · exact ((Below.refl _ _).alloc (Nat.le_refl _) _)

theorem corner_at (k : Nat) (hk : k < 6) : ∃ a r : Int, ∀ w, (Instr.index 66 (.agg cornerCells) (.int .i64 k)).run Tryz.prog w = .ok (.agg #[.int .i64 a, .int .i64 r]) w := by
  have : k = 0 ∨ k = 1 ∨ k = 2 ∨ k = 3 ∨ k = 4 ∨ k = 5 := by omega
  rcases this with rfl | rfl | rfl | rfl | rfl | rfl
  · exact ⟨0, 2, fun w => by kernel_rfl⟩
  · exact ⟨4, 3, fun w => by kernel_rfl⟩
  · exact ⟨7, 1, fun w => by kernel_rfl⟩
  · exact ⟨56, 8, fun w => by kernel_rfl⟩
  · exact ⟨60, 12, fun w => by kernel_rfl⟩
  · exact ⟨63, 4, fun w => by kernel_rfl⟩
attribute [irreducible] cornerCells

end Go.Proofs.YtgikglnfjkbnhaaGreat
