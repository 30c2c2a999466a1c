/-
  Plain laws: where a pawn strikes; what gen's moves are.
-/
import Derived.Test.YtgikglnfjkbnhaaGreatKy
namespace Go.Proofs.YtgikglnfjkbnhaaGreat.KM

theorem mem_runRay (b : Nat → Int) (x : Int) : ∀ (q : List Int) (l : List Int), x ∈ runRay (gStrikes b) q l → x ∈ l ∨ x ∈ q
  | [], l, h => .inl h
  | y :: q, l, h => by
    unfold runRay at h
    have e : (gStrikes b l y).1 = l ++ [y] := rfl
    split at h
    · rcases mem_runRay b x q _ h with h1 | h1
      · rw [e] at h1
        rcases List.mem_append.1 h1 with h2 | h2
        · exact .inl h2
        · rw [List.mem_singleton] at h2; exact .inr (by rw [h2]; exact List.mem_cons_self ..)
      · exact .inr (List.mem_cons_of_mem _ h1)
    · rw [e] at h
      rcases List.mem_append.1 h with h2 | h2
      · exact .inl h2
      · rw [List.mem_singleton] at h2; exact .inr (by rw [h2]; exact List.mem_cons_self ..)
theorem mem_runRays (b : Nat → Int) (m : Nat) (sq x : Int) : ∀ (st : List (Int × Int)) (l : List Int), x ∈ runRays (gStrikes b) m sq st l → x ∈ l ∨ ∃ d ∈ st, x ∈ walkL d.1 d.2 m sq
  | [], l, h => .inl h
  | d :: st, l, h => by
    unfold runRays at h
    rcases mem_runRays b m sq x st _ h with h1 | ⟨e, he, h1⟩
    · rcases mem_runRay b x _ _ h1 with h2 | h2
      · exact .inl h2
      · exact .inr ⟨d, List.mem_cons_self .., h2⟩
    · exact .inr ⟨e, List.mem_cons_of_mem _ he, h1⟩
theorem strikes_in {b : Nat → Int} {s x : Int} (h : x ∈ strikes b s) : 0 ≤ x ∧ x < 64 := by
  unfold strikes along at h
  rcases mem_runRays b _ s x _ _ h with h1 | ⟨d, _, h1⟩
  · cases h1
  · exact walkL_in _ _ _ _ _ h1

/-- Ahead of the square, as the pawn goes. -/
def fore (p : Po) (s x : Int) : Prop := (p.turn = 0 → s / 8 < x / 8) ∧ (p.turn = 1 → x / 8 < s / 8)

theorem walkL_one {f r s x : Int} (h : x ∈ walkL f r 1 s) : x / 8 = s / 8 + r := by
  unfold walkL at h
  split at h
  · rename_i h1
    have h2 := stepB_range h1.1
    rcases List.mem_cons.1 h with rfl | h3
    · exact h2.2.2.2.2.2
    · cases h3
  · cases h
theorem strikes_pawn {p : Po} {s x : Int} (hk : kind (p.b s.toNat) = 1) (hs : side (p.b s.toNat) = p.turn) (h : x ∈ strikes p.b s) : fore p s x := by
  unfold strikes along at h
  rw [show mostN (p.b s.toNat) = 1 by unfold mostN; rw [if_pos (.inl hk)], show stepsL (p.b s.toNat) = pawnL (p.b s.toNat) by unfold stepsL; rw [if_pos hk]] at h
  rcases mem_runRays p.b 1 s x _ _ h with h1 | ⟨d, hd, h1⟩
  · cases h1
  · have h2 := walkL_one h1
    unfold pawnL at hd
    unfold fore
    split at hd
    · rename_i ht
      simp at hd
      rcases hd with rfl | rfl <;> simp at h2 <;> omega
    · rename_i ht
      simp at hd
      rcases hd with rfl | rfl <;> simp at h2 <;> omega

theorem fore_last {p : Po} {s x : Int} (h : fore p s x) (hu : p.turn = 0 ∨ p.turn = 1) (s0 : 0 ≤ s) (s1 : s < 64) (x0 : 0 ≤ x) (x1 : x < 64) (hr : rank x = 0 ∨ rank x = 7) : rank x = last p.turn := by
  have e : rank x = x / 8 := by unfold rank; rw [if_pos (sqR_iff.2 ⟨x0, x1⟩)]
  unfold last
  rw [e] at hr ⊢
  unfold fore at h
  rcases hu with hu | hu
  · have := h.1 hu; rw [hu]; simp; omega
  · have := h.2 hu; rw [hu]; simp; omega

end Go.Proofs.YtgikglnfjkbnhaaGreat.KM
