/-
  Rays: the steps of a man, and the squares of a ray, walked.
-/
import Derived.Test.YtgikglnfjkbnhaaGreatKa
import Derived.Test.YtgikglnfjkbnhaaGreatKv
import Derived.Test.YtgikglnfjkbnhaaGreatKp
namespace Go.Proofs.YtgikglnfjkbnhaaGreat
open Go.RowKit
set_option maxHeartbeats 400000

/-- A slice in memory of the call's own. -/
def RetRow (w : World) (E size : Nat) (n : Nat) (xs : List Value) (e : Ending) (w' : World) : Prop :=
  ∃ g cap, e = .returned (.slice (some ⟨g, 0, none⟩) n cap) ∧ w'.ownsRow w.heap.size E size (.slice (some ⟨g, 0, none⟩) n cap) n xs ∧ Below w.heap.size w w'

theorem straight_any (w : World) : Calls Tryz.prog 102 #[] w (RetRow w 112 2 4 (KM.pcs KM.straightL)) := by
  go_enter Tryz.func102, Tryz.ntmps102
  go_wp2
  go_ret
  exact ⟨_, _, rfl, World.ownsRow_lit w _ 4 (Nat.le_refl _) (by decide) rfl, (Below.refl _ _).alloc (Nat.le_refl _) _⟩

theorem slant_any (w : World) : Calls Tryz.prog 101 #[] w (RetRow w 112 2 4 (KM.pcs KM.slantL)) := by
  go_enter Tryz.func101, Tryz.ntmps101
  go_wp2
  go_ret
  exact ⟨_, _, rfl, World.ownsRow_lit w _ 4 (Nat.le_refl _) (by decide) rfl, (Below.refl _ _).alloc (Nat.le_refl _) _⟩

theorem jumps_any (w : World) : Calls Tryz.prog 100 #[] w (RetRow w 112 2 8 (KM.pcs KM.jumpsL)) := by
  go_enter Tryz.func100, Tryz.ntmps100
  go_wp2
  go_ret
  exact ⟨_, _, rfl, World.ownsRow_lit w _ 8 (Nat.le_refl _) (by decide) rfl, (Below.refl _ _).alloc (Nat.le_refl _) _⟩

/-- A slice in memory of the call's own, and a number. -/
def RetRowN (w : World) (E size : Nat) (n : Nat) (xs : List Value) (k : Int) (e : Ending) (w' : World) : Prop :=
  ∃ v, e = .returned (.tuple #[v, .int .i64 k]) ∧ w'.ownsRow w.heap.size E size v n xs ∧ Below w.heap.size w w'

theorem steps1_any (m : Int) (w : World) (hk : KM.kind m = 1) : Calls Tryz.prog 92 #[.int .i64 m] w (RetRowN w 112 2 (KM.stepsL m).length (KM.pcs (KM.stepsL m)) (KM.mostN m)) := by
  have b1 : (KM.kind m == 1) = true := by simp [hk]
  have hm : KM.mostN m = 1 := by unfold KM.mostN; rw [if_pos (.inl hk)]
  by_cases hs : KM.side m = 1
  · have b2 : (KM.side m == 1) = true := by simp [hs]
    have hl : KM.stepsL m = [(1, -1), (-1, -1)] := by unfold KM.stepsL KM.pawnL; rw [if_pos hk, if_pos hs]
    rw [hl, hm]
    clear hl hm hs hk
    go_enter Tryz.func92, Tryz.ntmps92
    go_wp2_with (first | (go_at_call 47; refine (manKind_any _ _).mono ?_; rintro e w' ⟨rfl, rfl⟩) | (go_at_call 32; refine (manSide_any _ _).mono ?_; rintro e w' ⟨rfl, rfl⟩))
    go_ret2
    exact ⟨_, rfl, World.ownsRow_lit w _ 2 (Nat.le_refl _) (by decide) rfl, (Below.refl _ _).alloc (Nat.le_refl _) _⟩
  · have b2 : (KM.side m == 1) = false := by simp [hs]
    have hl : KM.stepsL m = [(1, 1), (-1, 1)] := by unfold KM.stepsL KM.pawnL; rw [if_pos hk, if_neg hs]
    rw [hl, hm]
    clear hl hm hs hk
    go_enter Tryz.func92, Tryz.ntmps92
    go_wp2_with (first | (go_at_call 47; refine (manKind_any _ _).mono ?_; rintro e w' ⟨rfl, rfl⟩) | (go_at_call 32; refine (manSide_any _ _).mono ?_; rintro e w' ⟨rfl, rfl⟩))
    go_ret2
    exact ⟨_, rfl, World.ownsRow_lit w _ 2 (Nat.le_refl _) (by decide) rfl, (Below.refl _ _).alloc (Nat.le_refl _) _⟩

theorem steps2_any (m : Int) (w : World) (hk : KM.kind m = 2) : Calls Tryz.prog 92 #[.int .i64 m] w (RetRowN w 112 2 (KM.stepsL m).length (KM.pcs (KM.stepsL m)) (KM.mostN m)) := by
  have b1 : (KM.kind m == 1) = false := by simp [hk]
  have b2 : (KM.kind m == 2) = true := by simp [hk]
  have hm : KM.mostN m = 1 := by unfold KM.mostN; rw [if_pos (.inr (.inl hk))]
  have hl : KM.stepsL m = KM.jumpsL := by unfold KM.stepsL; rw [if_neg (by omega), if_pos hk]
  rw [hl, hm]
  clear hl hm hk
  go_enter Tryz.func92, Tryz.ntmps92
  go_wp2_with (first | (go_at_call 47; refine (manKind_any _ _).mono ?_; rintro e w' ⟨rfl, rfl⟩) | (go_at_call 100; refine (jumps_any _).mono ?_; rintro e w1 ⟨g, cap, rfl, hown, hb⟩))
  go_ret2
  exact ⟨_, rfl, hown, hb⟩

theorem steps3_any (m : Int) (w : World) (hk : KM.kind m = 3) : Calls Tryz.prog 92 #[.int .i64 m] w (RetRowN w 112 2 (KM.stepsL m).length (KM.pcs (KM.stepsL m)) (KM.mostN m)) := by
  have b1 : (KM.kind m == 1) = false := by simp [hk]
  have b2 : (KM.kind m == 2) = false := by simp [hk]
  have b3 : (KM.kind m == 3) = true := by simp [hk]
  have hm : KM.mostN m = 64 := by unfold KM.mostN; rw [if_neg (by omega)]
  have hl : KM.stepsL m = KM.slantL := by unfold KM.stepsL; rw [if_neg (by omega), if_neg (by omega), if_pos hk]
  rw [hl, hm]
  clear hl hm hk
  go_enter Tryz.func92, Tryz.ntmps92
  go_wp2_with (first | (go_at_call 47; refine (manKind_any _ _).mono ?_; rintro e w' ⟨rfl, rfl⟩) | (go_at_call 101; refine (slant_any _).mono ?_; rintro e w1 ⟨g, cap, rfl, hown, hb⟩))
  go_ret2
  exact ⟨_, rfl, hown, hb⟩

theorem steps4_any (m : Int) (w : World) (hk : KM.kind m = 4) : Calls Tryz.prog 92 #[.int .i64 m] w (RetRowN w 112 2 (KM.stepsL m).length (KM.pcs (KM.stepsL m)) (KM.mostN m)) := by
  have b1 : (KM.kind m == 1) = false := by simp [hk]
  have b2 : (KM.kind m == 2) = false := by simp [hk]
  have b3 : (KM.kind m == 3) = false := by simp [hk]
  have b4 : (KM.kind m == 4) = true := by simp [hk]
  have hm : KM.mostN m = 64 := by unfold KM.mostN; rw [if_neg (by omega)]
  have hl : KM.stepsL m = KM.straightL := by unfold KM.stepsL; rw [if_neg (by omega), if_neg (by omega), if_neg (by omega), if_pos hk]
  rw [hl, hm]
  clear hl hm hk
  go_enter Tryz.func92, Tryz.ntmps92
  go_wp2_with (first | (go_at_call 47; refine (manKind_any _ _).mono ?_; rintro e w' ⟨rfl, rfl⟩) | (go_at_call 102; refine (straight_any _).mono ?_; rintro e w1 ⟨g, cap, rfl, hown, hb⟩))
  go_ret2
  exact ⟨_, rfl, hown, hb⟩

theorem info112 : (Tryz.prog.info? 112).map (fun i => (i.zero, i.size, i.bytes)) = some (some (.agg #[.int .i64 0, .int .i64 0]), 2, 16) := by kernel_rfl
theorem info3s : (Tryz.prog.info? 3).map (fun i => (i.zero, i.size, i.bytes)) = some (some (.int .i64 0), 1, 8) := by kernel_rfl
theorem pcs_one {l : List (Int × Int)} : ∀ u ∈ KM.pcs l, u.oneCell' = true := by
  intro u hu
  unfold KM.pcs at hu
  obtain ⟨x, _, hx⟩ := List.mem_flatMap.1 hu
  simp at hx
  rcases hx with rfl | rfl <;> rfl
theorem ints_one {l : List Int} : ∀ u ∈ KM.ints l, u.oneCell' = true := by
  intro u hu
  unfold KM.ints at hu
  obtain ⟨x, _, hx⟩ := List.mem_map.1 hu
  subst hx; rfl

theorem steps5_any (m : Int) (w : World) (h1 : KM.kind m ≠ 1) (h2 : KM.kind m ≠ 2) (h3 : KM.kind m ≠ 3) (h4 : KM.kind m ≠ 4) :
    Calls Tryz.prog 92 #[.int .i64 m] w (RetRowN w 112 2 (KM.stepsL m).length (KM.pcs (KM.stepsL m)) (KM.mostN m)) := by
  have b1 : (KM.kind m == 1) = false := by simp [h1]
  have b2 : (KM.kind m == 2) = false := by simp [h2]
  have b3 : (KM.kind m == 3) = false := by simp [h3]
  have b4 : (KM.kind m == 4) = false := by simp [h4]
  have hl : KM.stepsL m = KM.straightL ++ KM.slantL := by unfold KM.stepsL; rw [if_neg h1, if_neg h2, if_neg h3, if_neg h4]
  rw [hl, KM.pcs_append]
  clear hl
  obtain ⟨i0, hi, hz0, hz1, hz2⟩ := info_parts info112
  by_cases h6 : KM.kind m = 6
  · have b6 : (KM.kind m == 6) = true := by simp [h6]
    have hm : KM.mostN m = 1 := by unfold KM.mostN; rw [if_pos (.inr (.inr h6))]
    rw [hm]
    clear hm h1 h2 h3 h4 h6
    go_enter Tryz.func92, Tryz.ntmps92
    go_wp2_with (first
      | (go_at_call 47; refine (manKind_any _ _).mono ?_; rintro e w' ⟨rfl, rfl⟩)
      | (go_at_call 102; refine (straight_any _).mono ?_; rintro e w1 ⟨g, cap, rfl, hown, hb⟩)
      | (go_at_call 101; refine (slant_any _).mono ?_; rintro e w2 ⟨g2, cap2, rfl, hown2, hb2⟩; have hown1 := ownsRow_below hown hb2; have hb3 := hb.step hb2)
      | (at_builtin; refine wpList_append_own _ rfl _ _ 108 rfl w.heap.size 112 i0 _ 2 16 Tryz.underlying108 hi hz0 hz1 hz2 rfl (by decide) _ _ _ rfl hown1 ⟨g2, 0, none⟩ 4 cap2 (KM.pcs KM.slantL) rfl rfl ?c1 pcs_one ?c3 ?c4 ?c5 ?_))
    case c1 => exact hown2.cells rfl
    case c3 => decide
    case c4 => decide
    case c5 => exact hb3.size
    intro v' w3 hown3 hgrow hnn3
    have HF := Lib.hid (hb3.grown hgrow hb3.size (fun k hk => (hown1.lt k hk).1))
    have HO := Lib.hid hown3
    clear hgrow hnn3 hown3 hown1 hown2 hown hb3 hb2 hb hz0 hz1 hz2 hi
    go_wp2_with (go_at_call 47; refine (manKind_any _ _).mono ?_; rintro e w' ⟨rfl, rfl⟩)
    go_ret2
    exact ⟨_, rfl, HO.out, HF.out⟩
  · have b6 : (KM.kind m == 6) = false := by simp [h6]
    have hm : KM.mostN m = 64 := by unfold KM.mostN; rw [if_neg (by omega)]
    rw [hm]
    clear hm h1 h2 h3 h4 h6
    go_enter Tryz.func92, Tryz.ntmps92
    go_wp2_with (first
      | (go_at_call 47; refine (manKind_any _ _).mono ?_; rintro e w' ⟨rfl, rfl⟩)
      | (go_at_call 102; refine (straight_any _).mono ?_; rintro e w1 ⟨g, cap, rfl, hown, hb⟩)
      | (go_at_call 101; refine (slant_any _).mono ?_; rintro e w2 ⟨g2, cap2, rfl, hown2, hb2⟩; have hown1 := ownsRow_below hown hb2; have hb3 := hb.step hb2)
      | (at_builtin; refine wpList_append_own _ rfl _ _ 108 rfl w.heap.size 112 i0 _ 2 16 Tryz.underlying108 hi hz0 hz1 hz2 rfl (by decide) _ _ _ rfl hown1 ⟨g2, 0, none⟩ 4 cap2 (KM.pcs KM.slantL) rfl rfl ?c1 pcs_one ?c3 ?c4 ?c5 ?_))
    case c1 => exact hown2.cells rfl
    case c3 => decide
    case c4 => decide
    case c5 => exact hb3.size
    intro v' w3 hown3 hgrow hnn3
    have HF := Lib.hid (hb3.grown hgrow hb3.size (fun k hk => (hown1.lt k hk).1))
    have HO := Lib.hid hown3
    clear hgrow hnn3 hown3 hown1 hown2 hown hb3 hb2 hb hz0 hz1 hz2 hi
    go_wp2_with (go_at_call 47; refine (manKind_any _ _).mono ?_; rintro e w' ⟨rfl, rfl⟩)
    go_ret2
    exact ⟨_, rfl, HO.out, HF.out⟩

theorem steps_any (m : Int) (w : World) : Calls Tryz.prog 92 #[.int .i64 m] w (RetRowN w 112 2 (KM.stepsL m).length (KM.pcs (KM.stepsL m)) (KM.mostN m)) := by
  by_cases h1 : KM.kind m = 1
  · exact steps1_any m w h1
  · by_cases h2 : KM.kind m = 2
    · exact steps2_any m w h2
    · by_cases h3 : KM.kind m = 3
      · exact steps3_any m w h3
      · by_cases h4 : KM.kind m = 4
        · exact steps4_any m w h4
        · exact steps5_any m w h1 h2 h3 h4

/-- A slice of numbers in memory of the call's own, nil perhaps. -/
def RetInts (w : World) (l : List Int) (e : Ending) (w' : World) : Prop :=
  ∃ a cap, e = .returned (.slice a l.length cap) ∧ w'.ownsRow w.heap.size 3 1 (.slice a l.length cap) l.length (KM.ints l) ∧ Below w.heap.size w w'

/-- Block g holds a step. -/
def SBox (w : World) (g : Nat) (f r : Int) : Prop := w.heap[g]? = some (.cells #[.int .i64 f, .int .i64 r] 112 (0, 0))
theorem SBox.below {w w' : World} {B g : Nat} {f r : Int} (h : SBox w g f r) (hb : Below B w w') (hg : g < B) : SBox w' g f r := by
  unfold SBox; rw [hb.block g hg]; exact h
theorem SBox.lt {w : World} {g : Nat} {f r : Int} (h : SBox w g f r) : g < w.heap.size := by
  unfold SBox at h
  by_cases hlt : g < w.heap.size
  · exact hlt
  · simp [Array.getElem?_eq_none (Nat.le_of_not_lt hlt)] at h
theorem SBox.files {w : World} {g : Nat} {f r : Int} (h : SBox w g f r) : w.cell? ⟨g, 0, none⟩ = some (.int .i64 f) := by
  rw [cell_of_row w g 0 _ _ _ h]; rfl
theorem SBox.ranks {w : World} {g : Nat} {f r : Int} (h : SBox w g f r) : w.cell? ⟨g, 1, none⟩ = some (.int .i64 r) := by
  rw [cell_of_row w g 1 _ _ _ h]; rfl

theorem walk_any (s f r : Int) (m : Nat) (w : World) (hm : m ≤ 64) (hs0 : 0 ≤ s) (hs1 : s < 64) (hne : ¬ (f = 0 ∧ r = 0)) :
    Calls Tryz.prog 93 #[.int .i64 s, .agg #[.int .i64 f, .int .i64 r], .int .i64 m] w (RetInts w (KM.walkL f r m s)) := by
  have hP : SBox (w.alloc (.cells #[.int .i64 f, .int .i64 r] 112)) w.heap.size f r := heap_alloc_new w _
  have HB := Lib.hid ((Below.refl w.heap.size w).alloc (Nat.le_refl _) (Obj.cells #[.int .i64 f, .int .i64 r] 112))
  have hO : (w.alloc (.cells #[.int .i64 f, .int .i64 r] 112)).ownsRow (w.heap.size + 1) 3 1 (.slice none 0 0) 0 [] := World.ownsRow_nil _ _ _ _
  obtain ⟨i0, hi, hz0, hz1, hz2⟩ := info_parts info3s
  go_enter Tryz.func93, Tryz.ntmps93
  go_wp2_with fail
  generalize w.alloc (Obj.cells #[.int .i64 f, .int .i64 r] 112) = w0 at *
  go_loopw [0, 7] (fun x v wr => ∃ (c : Int) (l : List Int) (a : Option Addr) (cap : Nat), x = .int .i64 c ∧ 0 ≤ c ∧ c < 64 ∧ v = .slice a l.length cap ∧ l.length ≤ m ∧ wr.ownsRow (w.heap.size + 1) 3 1 (.slice a l.length cap) l.length (KM.ints l) ∧ KM.walkL f r m s = l ++ KM.walkL f r (m - l.length) c ∧ SBox wr w.heap.size f r ∧ Below w.heap.size w wr) (fun _ v _ => m - (match v with | .slice _ n _ => n | _ => 0))
  case atStart => exact ⟨s, [], none, 0, rfl, hs0, hs1, rfl, Nat.zero_le _, hO, rfl, hP, HB.out⟩
  case round =>
    obtain ⟨c, l, a, cap, rfl, c0, c1, rfl, hl, hown, hw, hP1, hb1⟩ := hrel
    have HW := Lib.hid hw
    have HB1 := Lib.hid hb1
    clear hw hb1 hP hO
    have k0 := hP1.files
    have k1 := hP1.ranks
    have hsz := hP1.lt
    by_cases hlt : l.length < m
    · by_cases hst : KM.stepB c f r = true
      · obtain ⟨s0, s1, -, -, -, -⟩ := KM.stepB_range hst
        have HN := Lib.hid (show KM.walkL f r (m - l.length) c = KM.stepN c f r :: KM.walkL f r (m - (l.length + 1)) (KM.stepN c f r) by
          rw [show m - l.length = (m - (l.length + 1)) + 1 by omega, KM.walkL, if_pos ⟨hst, hne⟩])
        by_cases hf : f = 0
        · have bf : (f == 0) = true := by simp [hf]
          have br : (r == 0) = false := by simp; exact fun h => hne ⟨hf, h⟩
          clear hf
          go_wp2_with (first
            | (go_at_call 53; refine (sqStep_any _ _ _ _).mono ?_; rintro e w' ⟨rfl, rfl⟩)
            | (at_builtin; refine wpList_append_own _ rfl _ _ 73 rfl (w.heap.size + 1) 3 i0 _ 1 8 Tryz.underlying73 hi hz0 hz1 hz2 rfl (by decide) _ _ _ rfl (hown.alloc _) ⟨wr.heap.size, 0, none⟩ 1 1 [.int .i64 (KM.stepN c f r)] rfl rfl ?c1 ?c2 ?c3 ?c4 ?c5 ?_))
          case c1 => intro j u hu; exact one_cell wr _ _ j u hu
          case c2 => intro u hu; simp at hu; subst hu; rfl
          case c3 => unfold maxLen; omega
          case c4 => omega
          case c5 => simp; omega
          intro v' w3 hown3 hgrow _
          obtain ⟨a3, cap3, rfl⟩ := ownsRow_shape hown3
          have HB3 := Lib.hid ((HB1.out.alloc HB1.out.size _).grown hgrow (by simp; omega) (fun k hk => by have := hown.lt k hk; omega))
          have hP3 : SBox w3 w.heap.size f r := by
            unfold SBox
            rw [hgrow.block _ (by simp; omega) (fun e => by have := hown.lt _ e.symm; omega), Below.heap_alloc _ _ _ hP1.lt]
            exact hP1
          have HO := Lib.hid hown3
          have HP := Lib.hid hP3
          clear hgrow hown3 hP3 hP1 hown k0 k1
          go_wp2_with fail
          go_roundw
          case rel => exact ⟨KM.stepN c f r, l ++ [KM.stepN c f r], a3, cap3, rfl, s0, s1, by simp, by simp; omega, by rw [show KM.ints (l ++ [KM.stepN c f r]) = KM.ints l ++ [.int .i64 (KM.stepN c f r)] from KM.ints_append _ _]; simpa using HO.out, by rw [HW.out, HN.out]; simp, HP.out, HB3.out⟩
          case measure => simp; omega
        · have bf : (f == 0) = false := by simp [hf]
          clear hf
          go_wp2_with (first
            | (go_at_call 53; refine (sqStep_any _ _ _ _).mono ?_; rintro e w' ⟨rfl, rfl⟩)
            | (at_builtin; refine wpList_append_own _ rfl _ _ 73 rfl (w.heap.size + 1) 3 i0 _ 1 8 Tryz.underlying73 hi hz0 hz1 hz2 rfl (by decide) _ _ _ rfl (hown.alloc _) ⟨wr.heap.size, 0, none⟩ 1 1 [.int .i64 (KM.stepN c f r)] rfl rfl ?c1 ?c2 ?c3 ?c4 ?c5 ?_))
          case c1 => intro j u hu; exact one_cell wr _ _ j u hu
          case c2 => intro u hu; simp at hu; subst hu; rfl
          case c3 => unfold maxLen; omega
          case c4 => omega
          case c5 => simp; omega
          intro v' w3 hown3 hgrow _
          obtain ⟨a3, cap3, rfl⟩ := ownsRow_shape hown3
          have HB3 := Lib.hid ((HB1.out.alloc HB1.out.size _).grown hgrow (by simp; omega) (fun k hk => by have := hown.lt k hk; omega))
          have hP3 : SBox w3 w.heap.size f r := by
            unfold SBox
            rw [hgrow.block _ (by simp; omega) (fun e => by have := hown.lt _ e.symm; omega), Below.heap_alloc _ _ _ hP1.lt]
            exact hP1
          have HO := Lib.hid hown3
          have HP := Lib.hid hP3
          clear hgrow hown3 hP3 hP1 hown k0 k1
          go_wp2_with fail
          go_roundw
          case rel => exact ⟨KM.stepN c f r, l ++ [KM.stepN c f r], a3, cap3, rfl, s0, s1, by simp, by simp; omega, by rw [show KM.ints (l ++ [KM.stepN c f r]) = KM.ints l ++ [.int .i64 (KM.stepN c f r)] from KM.ints_append _ _]; simpa using HO.out, by rw [HW.out, HN.out]; simp, HP.out, HB3.out⟩
          case measure => simp; omega
      · replace hst := Bool.eq_false_iff.2 hst
        have HN := Lib.hid (show KM.walkL f r m s = l by
          rw [HW.out, show m - l.length = (m - (l.length + 1)) + 1 by omega, KM.walkL, if_neg (by rw [hst]; simp), List.append_nil])
        go_wp2_with (go_at_call 53; refine (sqStep_any _ _ _ _).mono ?_; rintro e w' ⟨rfl, rfl⟩)
        go_ret
        rw [HN.out]
        exact ⟨a, cap, rfl, ownsRow_base hown (by omega), HB1.out⟩
    · have HN := Lib.hid (show KM.walkL f r m s = l by
        rw [HW.out, show m - l.length = 0 by omega, KM.walkL, List.append_nil])
      go_wp2_with fail
      go_ret
      rw [HN.out]
      exact ⟨a, cap, rfl, ownsRow_base hown (by omega), HB1.out⟩

end Go.Proofs.YtgikglnfjkbnhaaGreat
