/-
  Strikes: the squares that a man strikes, sorted; walked.
-/
import Derived.Test.YtgikglnfjkbnhaaGreatKr
import Derived.Deep.Cut
namespace Go.Proofs.YtgikglnfjkbnhaaGreat
open Go.RowKit Go.Sort
set_option maxHeartbeats 400000

/-- slices.Sort on a slice of the call's own: it owns the same numbers, in some order. -/
theorem sort_own (base : Nat) (a : Option Addr) (cap : Nat) (l : List Int) (w : World) (h : w.ownsRow base 3 1 (.slice a l.length cap) l.length (KM.ints l)) (hl : l.length ≤ 1000000) :
    Calls Tryz.prog 48 #[.slice a l.length cap] w fun e w' => e = .returned (.tuple #[]) ∧ (∃ l', l'.length = l.length ∧ (∀ x ∈ l', x ∈ l) ∧ w'.ownsRow base 3 1 (.slice a l.length cap) l.length (KM.ints l'))
      ∧ w.grownBy w' (Value.slice a l.length cap).ownBlock := by
  rcases h.2 with ⟨h1, h0⟩ | ⟨g, cap', cur, h1, hbg, hg, h2, h3, h4, h5⟩
  · injection h1 with e1 e2 e3
    subst e1
    have hl0 : l = [] := List.length_eq_zero_iff.1 h0
    subst hl0
    refine (Tryz.slices_Sort_int_none none cap w).mono ?_
    rintro e w' ⟨rfl, rfl⟩
    exact ⟨rfl, ⟨[], rfl, fun x h => h, h⟩, ⟨rfl, rfl, rfl, Nat.le_refl _, fun _ _ _ => rfl⟩⟩
  · injection h1 with e1 e2 e3
    subst e1
    subst e3
    refine (Tryz.slices_Sort_int g 0 cap l w (holds_of_blockI hg (by rw [Nat.mul_one] at h5; exact h5)) (heap_lt hg) (by omega)).mono ?_
    rintro e w' ⟨rfl, k, os, rfl⟩
    refine ⟨rfl, ⟨l.mergeSort (fun x y => decide (x ≤ y)), by simp, fun x hx => by simpa using hx, ?_⟩, grownBy_sortedI _⟩
    exact ownsRow_sortedI (by simp) hbg hg h2 h3 h4

set_option maxRecDepth 20000 in
theorem strikes_any (ge : Nat) (b : Nat → Int) (s : Int) (w : World) (hb : KM.bok b) (hr : KM.rightB b = true) (s0 : 0 ≤ s) (s1 : s < 64) (hz : b s.toNat ≠ 0) :
    Calls Tryz.prog 64 #[.pointer (some ⟨ge, 0, none⟩), .agg (KM.bval b), .int .i64 s] w fun e w' => ∃ l, RetInts w l e w' ∧ l.length ≤ 512 ∧ ∀ x ∈ l, x ∈ KM.strikes b s := by
  have hP := BBox.new w b
  have HB := Lib.hid ((Below.refl w.heap.size w).alloc (Nat.le_refl _) (Obj.cells (KM.bval b) 24))
  have hsee := Lib.hid (show ∀ w', Calls Tryz.prog 72 #[.pointer (some ⟨ge, 0, none⟩), .agg (KM.bval b), .int .i64 s] w' fun e w'' => e = .returned (.bool true) ∧ Below w'.heap.size w' w'' by
    intro w'
    have h := sees_any ge b s w' hb
    rw [hr, KM.sqR_iff.2 ⟨s0, s1⟩] at h
    exact h)
  have bz : (b s.toNat == 0) = false := by simp [hz]
  obtain ⟨m0, m1⟩ := hb s.toNat (by omega)
  clear hr
  replace hz := Lib.hid hz
  go_enter Tryz.func64, Tryz.ntmps64
  go_upto_region 4 with (first
    | (go_at_call 72; refine (hsee.out _).mono ?_; rintro e w2 ⟨rfl, hbl⟩; replace hP := hP.below hbl hP.lt; replace HB := Lib.hid (HB.out.step hbl); have c1 := hP.at (i := s.toNat) (by omega); clear hbl)
    | (refine wpList_load_part rfl 24 (.tmp 4) rfl _ 0 rfl _ _ hP.part Tryz.underlying24 rfl (hi24 b) ?_))
  have hba := (Below.refl w2.heap.size w2).alloc (Nat.le_refl _) (Obj.cells #[Value.slice none 0 0] 73)
  have hlt := hP.lt
  have hov : OutVar w2.heap.size [] (w2.alloc (Obj.cells #[Value.slice none 0 0] 73)) := ⟨none, 0, by have := heap_alloc_new w2 (Obj.cells #[Value.slice none 0 0] 73); simpa using this, World.ownsRow_nil _ _ _ _⟩
  have hsi : SI b w2.heap.size w.heap.size [] (w2.alloc (Obj.cells #[Value.slice none 0 0] 73)) := ⟨hov, hP.below hba hlt, fun hf => by have := hov.lt hf; omega⟩
  have hB0 := HB.out.size
  replace HB := Lib.hid (HB.out.alloc hB0 (Obj.cells #[Value.slice none 0 0] 73))
  clear c1 hov hP hba
  generalize hgo : w2.heap.size = go at *
  have hwo : go ≤ (w2.alloc (Obj.cells #[Value.slice none 0 0] 73)).heap.size := by simp [hgo]
  generalize w2.alloc (Obj.cells #[Value.slice none 0 0] 73) = w3 at *
  have c1 := hsi.2.1.at (i := s.toNat) (by omega)
  have hcl := along_any (strikes_clo b go w.heap.size hb) (b s.toNat) s [] w3 hsi s0 s1 (by simp)
  have hlen := KM.along_len (KM.gStrikes_len b) (b s.toNat) s []
  have HL := Lib.hid hlen
  have HF := Lib.hid (show ∀ k, SF go w3 k → go ≤ k from fun k hk => (hsi.1.lt hk).2)
  have HS := Lib.hid (show KM.along (KM.gStrikes b) (b s.toNat) s [] = KM.strikes b s from rfl)
  clear hsi hlen hgo
  generalize KM.along (KM.gStrikes b) (b s.toNat) s [] = l at *
  go_upto_region 5 with (go_at_call 75; refine hcl.mono ?_; rintro e w4 ⟨rfl, hi4, hc4⟩)
  obtain ⟨⟨a, cap, hc, hown⟩, -, -⟩ := hi4
  replace HB := Lib.hid (HB.out.trans (hc4.below w.heap.size (by omega) (fun k hk => by have := HF.out k hk; omega)))
  have hgl := heap_lt hc
  have c2 := OutVar.cell hc
  have hso := sort_own (go + 1) a cap l w4 hown (by have := HL.out; simp at this; omega)
  clear hc4 hcl hc
  go_wp2_with (go_at_call 48; refine hso.mono ?_; rintro e w5 ⟨rfl, ⟨l', hl1, hl2, hown5⟩, hg5⟩; have c3 := (World.cell?_of_block (a := ⟨go, 0, none⟩) (hg5.block go hgl (fun e => by have := hown.lt go e.symm; omega))).trans c2; replace HB := Lib.hid (HB.out.grown hg5 (by omega) (fun k hk => by have := hown.lt k hk; omega)))
  go_ret
  refine ⟨l', ⟨a, cap, by rw [hl1]; rfl, by rw [hl1]; exact ownsRow_base hown5 (by omega), HB.out⟩, by have := HL.out; simp at this; omega, fun x hx => by rw [← HS.out]; exact hl2 x hx⟩

end Go.Proofs.YtgikglnfjkbnhaaGreat
