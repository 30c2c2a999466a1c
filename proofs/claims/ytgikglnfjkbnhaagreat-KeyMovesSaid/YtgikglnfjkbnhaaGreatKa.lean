/-
  The small functions of squares, men and moves that only compute with numbers: what each call returns. No world is changed.
-/
import Derived.Test.YtgikglnfjkbnhaaGreatProg
import Derived.Test.YtgikglnfjkbnhaaGreatKs
import Derived.WalkKit
import Derived.WalkSpells
import Derived.WalkLawsBesides
import Derived.Lib.Hide
namespace Go.Proofs.YtgikglnfjkbnhaaGreat
open Go.RowKit

theorem ret_bool {a b : Bool} (h : a = b) : Ending.returned (.bool a) = .returned (.bool b) := by rw [h]
theorem ret_int {k : IntKind} {a b : Int} (h : a = b) : Ending.returned (.int k a) = .returned (.int k b) := by rw [h]
theorem ret_ib {k : IntKind} {a b : Int} {c d : Bool} (h : a = b) (h' : c = d) : Ending.returned (.tuple #[.int k a, .bool c]) = .returned (.tuple #[.int k b, .bool d]) := by rw [h, h']

set_option maxHeartbeats 400000

theorem sqRight_any (s : Int) (w : World) :
    Calls Tryz.prog 31 #[.int .i64 s] w fun e w' => e = .returned (.bool (KM.sqR s)) ∧ w = w' := by
  go_enter Tryz.func31, Tryz.ntmps31
  go_wp2
  all_goals go_ret
  all_goals exact ⟨ret_bool (by simp [KM.sqR]; try omega), rfl⟩

theorem sqOn_any (s : Int) (w : World) :
    Calls Tryz.prog 90 #[.int .i64 s] w fun e w' => e = .returned (.bool (KM.onB s)) ∧ w = w' := by
  go_enter Tryz.func90, Tryz.ntmps90
  go_wp2
  all_goals go_ret
  all_goals exact ⟨ret_bool (by simp [KM.onB]; try omega), rfl⟩

theorem manRight_any (m : Int) (w : World) :
    Calls Tryz.prog 59 #[.int .i64 m] w fun e w' => e = .returned (.bool (KM.manR m)) ∧ w = w' := by
  go_enter Tryz.func59, Tryz.ntmps59
  go_wp2
  all_goals go_ret
  all_goals exact ⟨ret_bool (by rw [Bool.eq_iff_iff]; simp [KM.manR]; try omega), rfl⟩

theorem sqRank_any (s : Int) (w : World) :
    Calls Tryz.prog 35 #[.int .i64 s] w fun e w' => e = .returned (.int .i64 (KM.rank s)) ∧ w = w' := by
  by_cases h : KM.sqR s = true
  · obtain ⟨h0, h1⟩ := KM.sqR_iff.1 h
    go_enter Tryz.func35, Tryz.ntmps35
    go_wp2_with (go_at_call 31; refine (sqRight_any _ _).mono ?_; rintro e w' ⟨rfl, rfl⟩)
    go_ret
    exact ⟨ret_int (by simp [KM.rank, h]), rfl⟩
  · replace h := Bool.eq_false_iff.2 h
    go_enter Tryz.func35, Tryz.ntmps35
    go_wp2_with (go_at_call 31; refine (sqRight_any _ _).mono ?_; rintro e w' ⟨rfl, rfl⟩)
    go_ret
    exact ⟨ret_int (by simp [KM.rank, h]), rfl⟩

theorem sqFile_any (s : Int) (w : World) :
    Calls Tryz.prog 39 #[.int .i64 s] w fun e w' => e = .returned (.int .i64 (KM.file s)) ∧ w = w' := by
  by_cases h : KM.sqR s = true
  · obtain ⟨h0, h1⟩ := KM.sqR_iff.1 h
    go_enter Tryz.func39, Tryz.ntmps39
    go_wp2_with (go_at_call 31; refine (sqRight_any _ _).mono ?_; rintro e w' ⟨rfl, rfl⟩)
    go_ret
    exact ⟨ret_int (by simp [KM.file, h]), rfl⟩
  · replace h := Bool.eq_false_iff.2 h
    go_enter Tryz.func39, Tryz.ntmps39
    go_wp2_with (go_at_call 31; refine (sqRight_any _ _).mono ?_; rintro e w' ⟨rfl, rfl⟩)
    go_ret
    exact ⟨ret_int (by simp [KM.file, h]), rfl⟩

theorem manKind_any (m : Int) (w : World) :
    Calls Tryz.prog 47 #[.int .i64 m] w fun e w' => e = .returned (.int .i64 (KM.kind m)) ∧ w = w' := by
  by_cases h : KM.manR m = true
  · obtain ⟨h0, h1⟩ := KM.manR_iff.1 h
    go_enter Tryz.func47, Tryz.ntmps47
    go_wp2_with (go_at_call 59; refine (manRight_any _ _).mono ?_; rintro e w' ⟨rfl, rfl⟩)
    all_goals go_ret
    all_goals exact ⟨ret_int (by simp only [KM.kind, *, if_true]; split <;> omega), rfl⟩
  · replace h := Bool.eq_false_iff.2 h
    go_enter Tryz.func47, Tryz.ntmps47
    go_wp2_with (go_at_call 59; refine (manRight_any _ _).mono ?_; rintro e w' ⟨rfl, rfl⟩)
    go_ret
    exact ⟨ret_int (by simp [KM.kind, h]), rfl⟩

theorem manSide_any (m : Int) (w : World) :
    Calls Tryz.prog 32 #[.int .i64 m] w fun e w' => e = .returned (.int .i64 (KM.side m)) ∧ w = w' := by
  by_cases h : KM.manR m = true
  · obtain ⟨h0, h1⟩ := KM.manR_iff.1 h
    go_enter Tryz.func32, Tryz.ntmps32
    go_wp2_with (go_at_call 59; refine (manRight_any _ _).mono ?_; rintro e w' ⟨rfl, rfl⟩)
    all_goals go_ret
    all_goals exact ⟨ret_int (by simp only [KM.side, *, if_true]; all_goals (split <;> first | rfl | omega)), rfl⟩
  · replace h := Bool.eq_false_iff.2 h
    go_enter Tryz.func32, Tryz.ntmps32
    go_wp2_with (go_at_call 59; refine (manRight_any _ _).mono ?_; rintro e w' ⟨rfl, rfl⟩)
    go_ret
    exact ⟨ret_int (by simp [KM.side, h]), rfl⟩

theorem manOther_any (m : Int) (w : World) :
    Calls Tryz.prog 27 #[.int .i64 m] w fun e w' => e = .returned (.int .i64 (KM.other m)) ∧ w = w' := by
  by_cases h : m = 0
  · subst h
    go_enter Tryz.func27, Tryz.ntmps27
    go_wp2
    go_ret
    exact ⟨rfl, rfl⟩
  · by_cases h' : m = 1
    · subst h'
      go_enter Tryz.func27, Tryz.ntmps27
      go_wp2
      go_ret
      exact ⟨rfl, rfl⟩
    · rw [show KM.other m = -1 by unfold KM.other; rw [if_neg h, if_neg h']]
      have b0 : (m != 0) = true := by simp [h]
      have b1 : (m != 1) = true := by simp [h']
      clear h h'
      go_enter Tryz.func27, Tryz.ntmps27
      go_wp2
      go_ret
      exact ⟨rfl, rfl⟩

theorem mvLast_any (m : Int) (w : World) :
    Calls Tryz.prog 36 #[.int .i64 m] w fun e w' => e = .returned (.int .i64 (KM.last m)) ∧ w = w' := by
  go_enter Tryz.func36, Tryz.ntmps36
  go_wp2
  all_goals go_ret
  all_goals exact ⟨ret_int (by unfold KM.last; repeat' split; all_goals (first | omega | simp_all)), rfl⟩

theorem posAhead_any (m : Int) (w : World) :
    Calls Tryz.prog 54 #[.int .i64 m] w fun e w' => e = .returned (.int .i64 (KM.ahead m)) ∧ w = w' := by
  go_enter Tryz.func54, Tryz.ntmps54
  go_wp2
  all_goals go_ret
  all_goals exact ⟨ret_int (by unfold KM.ahead; repeat' split; all_goals (first | omega | simp_all)), rfl⟩

theorem manMake_any (k m : Int) (w : World) :
    Calls Tryz.prog 41 #[.int .i64 k, .int .i64 m] w fun e w' => e = .returned (.int .i64 (KM.mk k m)) ∧ w = w' := by
  go_enter Tryz.func41, Tryz.ntmps41
  go_wp2
  all_goals go_ret
  all_goals exact ⟨ret_int (by unfold KM.mk; repeat' split; all_goals (first | omega | simp_all)), rfl⟩

theorem sqAt_any (f r : Int) (w : World) :
    Calls Tryz.prog 71 #[.int .i64 f, .int .i64 r] w fun e w' => e = .returned (.tuple #[.int .i64 (KM.atN f r), .bool (KM.atB f r)]) ∧ w = w' := by
  by_cases h : KM.onB f = true
  · by_cases h' : KM.onB r = true
    · obtain ⟨h0, h1⟩ := KM.onB_iff.1 h
      obtain ⟨h2, h3⟩ := KM.onB_iff.1 h'
      go_enter Tryz.func71, Tryz.ntmps71
      go_wp2_with (go_at_call 90; refine (sqOn_any _ _).mono ?_; rintro e w' ⟨rfl, rfl⟩)
      go_ret2
      exact ⟨ret_ib (by simp [KM.atN, KM.atB, h, h']) (by simp [KM.atB, h, h']), rfl⟩
    · replace h' := Bool.eq_false_iff.2 h'
      go_enter Tryz.func71, Tryz.ntmps71
      go_wp2_with (go_at_call 90; refine (sqOn_any _ _).mono ?_; rintro e w' ⟨rfl, rfl⟩)
      go_ret2
      exact ⟨ret_ib (by simp [KM.atN, KM.atB, h, h']) (by simp [KM.atB, h, h']), rfl⟩
  · replace h := Bool.eq_false_iff.2 h
    go_enter Tryz.func71, Tryz.ntmps71
    go_wp2_with (go_at_call 90; refine (sqOn_any _ _).mono ?_; rintro e w' ⟨rfl, rfl⟩)
    go_ret2
    exact ⟨ret_ib (by simp [KM.atN, KM.atB, h]) (by simp [KM.atB, h]), rfl⟩

theorem sqGap_any (a b : Int) (w : World) (h0 : -64 ≤ a) (h1 : a ≤ 64) (h2 : -64 ≤ b) (h3 : b ≤ 64) :
    Calls Tryz.prog 61 #[.int .i64 a, .int .i64 b] w fun e w' => e = .returned (.int .i64 (KM.gap a b)) ∧ w = w' := by
  go_enter Tryz.func61, Tryz.ntmps61
  go_wp2
  all_goals go_ret
  all_goals exact ⟨ret_int (by unfold KM.gap; split <;> omega), rfl⟩

theorem sqStep_any (s f r : Int) (w : World) :
    Calls Tryz.prog 53 #[.int .i64 s, .int .i64 f, .int .i64 r] w fun e w' => e = .returned (.tuple #[.int .i64 (KM.stepN s f r), .bool (KM.stepB s f r)]) ∧ w = w' := by
  by_cases h : KM.stepOk s f r = true
  · obtain ⟨h0, h1, h2, h3, h4, h5⟩ := KM.stepOk_iff.1 h
    have hs := KM.sqR_iff.2 ⟨h0, h1⟩
    go_enter Tryz.func53, Tryz.ntmps53
    go_wp2_with (first | (go_at_call 31; refine (sqRight_any _ _).mono ?_; rintro e w' ⟨rfl, rfl⟩) | (go_at_call 71; refine (sqAt_any _ _ _).mono ?_; rintro e w' ⟨rfl, rfl⟩))
    go_ret2
    exact ⟨ret_ib (KM.stepN_eq h) (by simp [KM.stepB, h]), rfl⟩
  · replace h := Bool.eq_false_iff.2 h
    have hn : KM.stepN s f r = 0 := by simp [KM.stepN, KM.stepB, h]
    have hb : KM.stepB s f r = false := by simp [KM.stepB, h]
    rw [hn, hb]
    clear hn hb
    have H := Lib.hid h
    clear h
    by_cases hs : KM.sqR s = true
    · go_enter Tryz.func53, Tryz.ntmps53
      go_wp2_with (first | (go_at_call 31; refine (sqRight_any _ _).mono ?_; rintro e w' ⟨rfl, rfl⟩) | (go_at_call 71; exfalso; have h := H.out; have h' := KM.sqR_iff.1 hs; rw [KM.stepOk_false] at h; omega))
      all_goals go_ret2
      all_goals exact ⟨rfl, rfl⟩
    · replace hs := Bool.eq_false_iff.2 hs
      go_enter Tryz.func53, Tryz.ntmps53
      go_wp2_with (go_at_call 31; refine (sqRight_any _ _).mono ?_; rintro e w' ⟨rfl, rfl⟩)
      go_ret2
      exact ⟨rfl, rfl⟩

theorem sqFar_any (a b : Int) (w : World) :
    Calls Tryz.prog 40 #[.int .i64 a, .int .i64 b] w fun e w' => e = .returned (.int .i64 (KM.far a b)) ∧ w = w' := by
  by_cases ha : KM.sqR a = true
  · by_cases hb : KM.sqR b = true
    · have a0 := KM.sqR_iff.1 ha
      have b0 := KM.sqR_iff.1 hb
      have e1 : KM.file a = a % 8 := by simp [KM.file, ha]
      have e2 : KM.file b = b % 8 := by simp [KM.file, hb]
      have e3 : KM.rank a = a / 8 := by simp [KM.rank, ha]
      have e4 : KM.rank b = b / 8 := by simp [KM.rank, hb]
      go_enter Tryz.func40, Tryz.ntmps40
      go_wp2_with (first | (go_at_call 31; refine (sqRight_any _ _).mono ?_; rintro e w' ⟨rfl, rfl⟩) | (go_at_call 39; refine (sqFile_any _ _).mono ?_; rintro e w' ⟨rfl, rfl⟩) | (go_at_call 35; refine (sqRank_any _ _).mono ?_; rintro e w' ⟨rfl, rfl⟩) | (go_at_call 61; refine (sqGap_any _ _ _ (by omega) (by omega) (by omega) (by omega)).mono ?_; rintro e w' ⟨rfl, rfl⟩))
      all_goals go_ret
      all_goals exact ⟨ret_int (by simp only [KM.far, ha, hb, and_self, if_true]; split <;> omega), rfl⟩
    · replace hb := Bool.eq_false_iff.2 hb
      go_enter Tryz.func40, Tryz.ntmps40
      go_wp2_with (go_at_call 31; refine (sqRight_any _ _).mono ?_; rintro e w' ⟨rfl, rfl⟩)
      go_ret
      exact ⟨ret_int (by simp [KM.far, hb]), rfl⟩
  · replace ha := Bool.eq_false_iff.2 ha
    go_enter Tryz.func40, Tryz.ntmps40
    go_wp2_with (go_at_call 31; refine (sqRight_any _ _).mono ?_; rintro e w' ⟨rfl, rfl⟩)
    go_ret
    exact ⟨ret_int (by simp [KM.far, ha]), rfl⟩

theorem genRanks_any (m : Int) (w : World) :
    Calls Tryz.prog 63 #[.int .i64 m] w fun e w' => e = .returned (.tuple #[.int .i64 (if m = 0 then 1 else -1), .int .i64 (if m = 0 then 1 else 6)]) ∧ w = w' := by
  by_cases h : m = 0
  · subst h
    go_enter Tryz.func63, Tryz.ntmps63
    go_wp2
    go_ret2
    exact ⟨rfl, rfl⟩
  · go_enter Tryz.func63, Tryz.ntmps63
    go_wp2
    go_ret2
    exact ⟨rfl, rfl⟩

end Go.Proofs.YtgikglnfjkbnhaaGreat
