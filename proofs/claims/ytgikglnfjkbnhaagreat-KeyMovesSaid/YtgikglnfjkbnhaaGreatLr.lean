/-
  A position that came in, opened; the row's step, over a walk of KeyMoves.
-/
import Derived.Test.YtgikglnfjkbnhaaGreatRows
import Derived.Test.YtgikglnfjkbnhaaGreatKm
import Derived.WalkKit
import Derived.ProofKit
import Derived.OpenShut
namespace Go.Proofs.YtgikglnfjkbnhaaGreat
open Go.ChangeShapes Go.WideShapes Go.ChangeAt Go.RowKit
set_option maxRecDepth 100000

theorem cells26o : Tryz.prog.cellsOf 26 = 67 := by kernel_rfl
theorem cells24o : Tryz.prog.cellsOf 24 = 64 := by kernel_rfl
theorem cells22o : Tryz.prog.cellsOf 22 = 1 := by kernel_rfl
theorem cells3o : Tryz.prog.cellsOf 3 = 1 := by kernel_rfl

def KM.numOf : Option Value → Int
  | some (.int _ n) => n
  | _ => 0

theorem get_of_take {l : List Value} {i : Nat} {v : Value} (h : (l.drop i).take 1 = [v]) : l[i]? = some v := by
  have h1 : ((l.drop i).take 1)[0]? = some v := by rw [h]; rfl
  simpa [List.getElem?_take, List.getElem?_drop] using h1

/-- A position by value: the value is that of a position whose numbers fit. -/
theorem open_pos {H : Type} {enc : TypeId × Value → H} {W : World} {r : Reach} {base b0 : Nat} {sp : Nat → Bool} {held : Bool} {v : Value} {d : DataW H} {ps : List MemPlace}
    (hv : Value.okWide Tryz.prog W r base 26 v) (h : DataW.Trod enc Tryz.prog W b0 sp held 26 v d ps) : ∃ p : KM.Po, p.wf ∧ v = .agg (KM.pval p) := by
  obtain ⟨cs, rfl, hsz⟩ := okWide_struct Tryz.underlying26 hv
  rw [cells26o] at hsz
  obtain ⟨fuel, hf⟩ := h
  obtain ⟨xs, n, _, _, hl, hlen, hfl⟩ := DataW.trod_struct Tryz.underlying26 hf
  have hl4 : xs.length = 4 := hlen
  have num : ∀ j, (∃ i o, o = j ∧ i < 4 ∧ DataW.trod enc Tryz.prog W b0 sp held n 3 (((Value.agg cs).cells.toList.drop o).take (Tryz.prog.cellsOf 3)) = xs[i]?) → ∃ k, cs[j]? = some (.int .i64 k) ∧ KM.i64ok k := by
    rintro j ⟨i, o, rfl, hi, hx⟩
    rw [List.getElem?_eq_getElem (by omega), cells3o] at hx
    obtain ⟨k, hk, _, hw⟩ := DataW.trod_int Tryz.underlying3 hx
    refine ⟨k, ?_, bounds_i64 hw⟩
    have := get_of_take hk
    simpa [Value.cells] using this
  obtain ⟨a, ha, wa⟩ := num 64 ⟨1, _, rfl, by omega, hfl 1 _ rfl⟩
  obtain ⟨c, hc, wc⟩ := num 65 ⟨2, _, rfl, by omega, hfl 2 _ rfl⟩
  obtain ⟨e, he, we⟩ := num 66 ⟨3, _, rfl, by omega, hfl 3 _ rfl⟩
  have h0 := hfl 0 _ rfl
  rw [List.getElem?_eq_getElem (by omega)] at h0
  obtain ⟨ys, m, _, _, _, hy, hya⟩ := DataW.trod_array Tryz.underlying24 h0
  have man : ∀ i, i < 64 → ∃ k, cs[i]? = some (.int .i8 k) ∧ -128 ≤ k ∧ k ≤ 127 := by
    intro i hi
    have hx := hya i hi
    rw [List.getElem?_eq_getElem (by omega), cells22o, Nat.mul_one] at hx
    obtain ⟨k, hk, _, hw⟩ := DataW.trod_int Tryz.underlying22 hx
    refine ⟨k, ?_, bounds_i8 hw⟩
    have h1 := get_of_take hk
    have h2 : (((Value.agg cs).cells.toList.drop 0).take (Tryz.prog.cellsOf 24))[i]? = some (.int .i8 k) := h1
    rw [cells24o, List.getElem?_take, if_pos hi] at h2
    simpa [Value.cells] using h2
  refine ⟨⟨fun i => KM.numOf cs[i]?, a, c, e⟩, ⟨fun i hi => ?_, wa, wc, we⟩, ?_⟩
  · obtain ⟨k, hk, k0, k1⟩ := man i hi
    simp only [hk, KM.numOf]
    exact ⟨k0, k1⟩
  · congr 1
    apply Array.ext_getElem?
    intro i
    by_cases hi : i < 64
    · obtain ⟨k, hk, _⟩ := man i hi
      rw [KM.pval_get _ hi]
      simp only [hk, KM.numOf]
    · by_cases h67 : i < 67
      · have h3 : i = 64 ∨ i = 65 ∨ i = 66 := by omega
        rcases h3 with rfl | rfl | rfl
        · rw [KM.pval_turn, ha]
        · rw [KM.pval_castle, hc]
        · rw [KM.pval_ep, he]
      · rw [Array.getElem?_eq_none (by omega), Array.getElem?_eq_none (by rw [KM.pval_size]; omega)]

theorem own : ownKnob Tryz.prog.godebug = none := by kernel_rfl
theorem laidOut : laidOutB Tryz.prog = true := by kernel_rfl
theorem readable26 : Tryz.prog.readableRec 26 = true := by kernel_rfl

/-- The walk that the row wants. -/
def KeyWalk : Prop := ∀ (p : KM.Po) (w : World), p.wf → Calls Tryz.prog 3 #[.agg (KM.pval p)] w fun e w' => e = .returned (.bool true) ∧ Below w.heap.size w w'

theorem lifted (hwalk : KeyWalk) (os : Os) (started : os.Started) (H : Type) (enc : TypeId × Value → H) :
    ReturnsInHanded {} Tryz.checked os 3 .any (Rows.keyMovesSpec.pre6 enc Tryz.prog Tryz.f3 Rows.keyMovesRow.domain false) (Rows.keyMovesSpec.post enc Tryz.prog Tryz.f3 false true false false) := by
  refine returnsInHanded_of_change (C := Tryz.checked) own started (by kernel_rfl) Tryz.func3
    (ChangeSpec.witness6 (enc := enc) (C := Tryz.checked) false ⟨#[], #[.agg (KM.pval ⟨fun _ => 0, 0, 0, 0⟩)], []⟩ 8 (by kernel_rfl) (by kernel_rfl) (by kernel_rfl) (by kernel_rfl)) ?_
  intro W base args ds gs before hval0 hW hcnd _
  have hval : ∀ (j : Nat) t v, Tryz.f3.params[j]? = some t → args[j]? = some v → Value.okWide Tryz.prog W .any base t v := hval0
  have hW' := hW
  have hlt : ∀ x ∈ before, x.block < W.heap.size := fun x hx => hW.lt x hx
  obtain ⟨p, q, hA0, hV, rfl, hfz, hnd⟩ := hW
  have hA : DataW.TrodAll enc Tryz.prog W 0 (fun _ => true) true Tryz.f3.params.toList args.toList ds p := hA0
  rw [Tryz.params3] at hA hval
  obtain ⟨v0, d0, rfl, rfl, h0⟩ := trodAll_one hA
  obtain ⟨rfl, rfl⟩ := trodVars_none hV
  obtain ⟨po, hpo, rfl⟩ := open_pos (hval 0 26 v0 rfl rfl) h0
  clear hA0 hval0
  simp only [List.append_nil] at hW' hlt
  refine (hwalk po W hpo).mono fun e W' ⟨he, hb⟩ => ?_
  subst he
  have hagain := Below.trod laidOut readable26 (of_decide_eq_true (by kernel_rfl)) h0 hb hlt
  refine ⟨_, rfl, _, _, _, [], p, [], hW', trodAll_mk1 (shut_bool Tryz.underlying4 true), trodAll_mk1 hagain, ?_, ?_, fun h => by cases h⟩
  · exact rfl
  · exact World.keptBut_mono (fun x hx => ⟨hx, by simpa using hx⟩) (hb.frame (· ∈ p))

theorem keyMoves_of (hwalk : KeyWalk) : Rows.KeyMovesSaid :=
  OpenClaim.holds_of_wide 3 Tryz.f3 rfl rfl rfl rfl rfl rfl rfl ⟨rfl, rfl, rfl, rfl, rfl⟩ rfl rfl rfl rfl rfl (by kernel_rfl) Tryz.func3 (by kernel_rfl)
    (of_decide_eq_true (by kernel_rfl)) (by unfold Func.isWrapper; first | (rw [if_pos (by decide +kernel)]; kernel_rfl) | (rw [if_neg (by decide +kernel)]; exact ⟨rfl, rfl⟩))
    (fun os started H enc _ => lifted hwalk os started H enc)

end Go.Proofs.YtgikglnfjkbnhaaGreat
