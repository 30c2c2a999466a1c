/-
  Boards: board.Man, Right, King, rim, Many, walked.
-/
import Derived.Test.YtgikglnfjkbnhaaGreatKa
import Derived.Test.YtgikglnfjkbnhaaGreatKw
namespace Go.Proofs.YtgikglnfjkbnhaaGreat
open Go.RowKit
set_option maxHeartbeats 400000

theorem boardMan_any (b : Nat → Int) (s : Int) (w : World) (hb : KM.bok b) :
    Calls Tryz.prog 74 #[.agg (KM.bval b), .int .i64 s] w fun e w' => e = .returned (.int .i64 (KM.manAt b s)) ∧ Below w.heap.size w w' := by
  have HB := Lib.hid ((Below.refl w.heap.size w).alloc (Nat.le_refl _) (Obj.cells (KM.bval b) 24))
  by_cases h : KM.sqR s = true
  · obtain ⟨h0, h1⟩ := KM.sqR_iff.1 h
    have hg := KM.bval_get b (i := s.toNat) (by omega)
    obtain ⟨m0, m1⟩ := hb s.toNat (by omega)
    have HV := Lib.hid (show KM.manAt b s = b s.toNat by unfold KM.manAt; rw [if_pos h])
    go_enter Tryz.func74, Tryz.ntmps74
    go_wp2_with (go_at_call 31; refine (sqRight_any _ _).mono ?_; rintro e w' ⟨rfl, rfl⟩)
    go_ret
    exact ⟨by rw [HV.out]; rfl, HB.out⟩
  · replace h := Bool.eq_false_iff.2 h
    have HV := Lib.hid (show KM.manAt b s = 0 by unfold KM.manAt; rw [h]; rfl)
    go_enter Tryz.func74, Tryz.ntmps74
    go_wp2_with (go_at_call 31; refine (sqRight_any _ _).mono ?_; rintro e w' ⟨rfl, rfl⟩)
    go_ret
    exact ⟨by rw [HV.out]; rfl, HB.out⟩

theorem boardRight_any (b : Nat → Int) (w : World) (hb : KM.bok b) :
    Calls Tryz.prog 50 #[.agg (KM.bval b)] w fun e w' => e = .returned (.bool (KM.rightB b)) ∧ Below w.heap.size w w' := by
  have HB := Lib.hid ((Below.refl w.heap.size w).alloc (Nat.le_refl _) (Obj.cells (KM.bval b) 24))
  have hB := BBox.new w b
  go_enter Tryz.func50, Tryz.ntmps50
  go_wp2_with (refine wpList_load_part rfl 24 (.tmp 1) rfl _ 0 rfl _ _ hB.part Tryz.underlying24 rfl (hi24 b) ?_)
  go_loop [6] (fun i => ∃ n : Nat, n ≤ 64 ∧ i = .int .i64 n ∧ KM.allTo (KM.okc b) n = true) (fun i => 64 - (intOf i).toNat)
  case atStart => exact ⟨0, Nat.zero_le _, rfl, rfl⟩
  case round =>
    obtain ⟨n, hn, rfl, ha⟩ := hrel
    have HA := Lib.hid ha
    clear ha
    by_cases hlt : n < 64
    · have hg := run_index_b b n hlt
      obtain ⟨m0, m1⟩ := hb n hlt
      by_cases hz : b n = 0
      · have bz : (b n != 0) = false := by simp [hz]
        have HO := Lib.hid (show KM.okc b n = true by simp [KM.okc, hz])
        clear hz
        go_wp2_with (go_at_call 59; refine (manRight_any _ _).mono ?_; rintro e w' ⟨rfl, rfl⟩)
        go_round
        case rel => exact ⟨n + 1, by omega, by go_num, KM.allTo_succ HA.out HO.out⟩
        case measure => simp [intOf]; omega
      · have bz : (b n != 0) = true := by simp [hz]
        by_cases hm : KM.manR (b n) = true
        · have HO := Lib.hid (show KM.okc b n = true by simp [KM.okc, hm])
          clear hz
          go_wp2_with (go_at_call 59; refine (manRight_any _ _).mono ?_; rintro e w' ⟨rfl, rfl⟩)
          go_round
          case rel => exact ⟨n + 1, by omega, by go_num, KM.allTo_succ HA.out HO.out⟩
          case measure => simp [intOf]; omega
        · replace hm := Bool.eq_false_iff.2 hm
          have HV := Lib.hid (show KM.rightB b = false from KM.allTo_false (by simp [KM.okc, hm, hz]) hlt)
          clear hz
          go_wp2_with (go_at_call 59; refine (manRight_any _ _).mono ?_; rintro e w' ⟨rfl, rfl⟩)
          go_ret
          exact ⟨by rw [HV.out]; rfl, HB.out⟩
    · obtain rfl : n = 64 := by omega
      go_wp2_with fail
      go_ret
      exact ⟨by rw [show KM.rightB b = true from HA.out]; rfl, HB.out⟩

theorem boardKing_any (b : Nat → Int) (s : Int) (w : World) (hb : KM.bok b) :
    Calls Tryz.prog 55 #[.agg (KM.bval b), .int .i64 s] w fun e w' => e = .returned (.int .i64 (KM.king b s)) ∧ Below w.heap.size w w' := by
  have HB := Lib.hid ((Below.refl w.heap.size w).alloc (Nat.le_refl _) (Obj.cells (KM.bval b) 24))
  have hB := BBox.new w b
  go_enter Tryz.func55, Tryz.ntmps55
  go_wp2_with (first | (go_at_call 41; refine (manMake_any _ _ _).mono ?_; rintro e w' ⟨rfl, rfl⟩) | (refine wpList_load_part rfl 24 (.tmp 2) rfl _ 0 rfl _ _ hB.part Tryz.underlying24 rfl (hi24 b) ?_))
  go_loop [11] (fun i => ∃ n : Nat, n ≤ 64 ∧ i = .int .i64 n ∧ KM.find (KM.isK b (KM.mk 6 s)) (64 - n) n = KM.king b s) (fun i => 64 - (intOf i).toNat)
  case atStart => exact ⟨0, Nat.zero_le _, rfl, rfl⟩
  case round =>
    obtain ⟨n, hn, rfl, ha⟩ := hrel
    have HA := Lib.hid ha
    clear ha
    by_cases hlt : n < 64
    · have hg := run_index_b b n hlt
      obtain ⟨m0, m1⟩ := hb n hlt
      by_cases hf : KM.isK b (KM.mk 6 s) n = true
      · have hf' : KM.mk 6 s ≠ 0 ∧ b n = KM.mk 6 s := by simpa [KM.isK] using hf
        have b0 : (KM.mk 6 s != 0) = true := by simp [hf'.1]
        have b1 : (b n == KM.mk 6 s) = true := by simp [hf'.2]
        have HV := Lib.hid (show KM.king b s = n by rw [← HA.out]; exact KM.find_yes hf (by omega))
        clear hf hf'
        go_wp2_with fail
        go_ret
        exact ⟨by rw [HV.out]; rfl, HB.out⟩
      · replace hf := Bool.eq_false_iff.2 hf
        have HV := Lib.hid (show KM.find (KM.isK b (KM.mk 6 s)) (64 - (n + 1)) (n + 1) = KM.king b s by rw [← HA.out, KM.find_no hf (by omega)]; rfl)
        by_cases h0 : KM.mk 6 s = 0
        · have b0 : (KM.mk 6 s != 0) = false := by simp [h0]
          clear h0 hf
          go_wp2_with fail
          go_round
          case rel => exact ⟨n + 1, by omega, by go_num, HV.out⟩
          case measure => simp [intOf]; omega
        · have b0 : (KM.mk 6 s != 0) = true := by simp [h0]
          have b1 : (b n == KM.mk 6 s) = false := by simpa [KM.isK, h0] using hf
          clear h0 hf
          go_wp2_with fail
          go_round
          case rel => exact ⟨n + 1, by omega, by go_num, HV.out⟩
          case measure => simp [intOf]; omega
    · obtain rfl : n = 64 := by omega
      go_wp2_with fail
      go_ret
      exact ⟨by rw [← HA.out]; rfl, HB.out⟩

theorem boardRim_any (b : Nat → Int) (w : World) (hb : KM.bok b) :
    Calls Tryz.prog 52 #[.agg (KM.bval b)] w fun e w' => e = .returned (.bool (KM.rimB b)) ∧ Below w.heap.size w w' := by
  have HB := Lib.hid ((Below.refl w.heap.size w).alloc (Nat.le_refl _) (Obj.cells (KM.bval b) 24))
  have hB := BBox.new w b
  go_enter Tryz.func52, Tryz.ntmps52
  go_wp2_with (refine wpList_load_part rfl 24 (.tmp 1) rfl _ 0 rfl _ _ hB.part Tryz.underlying24 rfl (hi24 b) ?_)
  go_loop [7] (fun i => ∃ n : Nat, n ≤ 64 ∧ i = .int .i64 n ∧ KM.allTo (KM.rimc b) n = true) (fun i => 64 - (intOf i).toNat)
  case atStart => exact ⟨0, Nat.zero_le _, rfl, rfl⟩
  case round =>
    obtain ⟨n, hn, rfl, ha⟩ := hrel
    have HA := Lib.hid ha
    clear ha
    by_cases hlt : n < 64
    · have hg := run_index_b b n hlt
      obtain ⟨m0, m1⟩ := hb n hlt
      have hsq : KM.sqR n = true := KM.sqR_iff.2 ⟨by omega, by omega⟩
      have hr : KM.rank n = (n : Int) / 8 := by unfold KM.rank; rw [if_pos hsq]
      by_cases hk : KM.kind (b n) = 1
      · have bk : (KM.kind (b n) == 1) = true := by simp [hk]
        by_cases h0 : (n : Int) / 8 = 0
        · have c0 : (KM.rank n == 0) = true := by rw [hr]; simp [h0]
          have HV := Lib.hid (show KM.rimB b = true by unfold KM.rimB; rw [KM.allTo_false (f := KM.rimc b) (by simp [KM.rimc, hk, h0]) hlt]; rfl)
          clear hk h0 hsq hr
          go_wp2_with (first | (go_at_call 35; refine (sqRank_any _ _).mono ?_; rintro e w' ⟨rfl, rfl⟩) | (go_at_call 47; refine (manKind_any _ _).mono ?_; rintro e w' ⟨rfl, rfl⟩))
          go_ret
          exact ⟨by rw [HV.out]; rfl, HB.out⟩
        · have c0 : (KM.rank n == 0) = false := by rw [hr]; simp [h0]
          by_cases h7 : (n : Int) / 8 = 7
          · have c7 : (KM.rank n == 7) = true := by rw [hr]; simp [h7]
            have HV := Lib.hid (show KM.rimB b = true by unfold KM.rimB; rw [KM.allTo_false (f := KM.rimc b) (by simp [KM.rimc, hk, h7]) hlt]; rfl)
            clear hk h0 h7 hsq hr
            go_wp2_with (first | (go_at_call 35; refine (sqRank_any _ _).mono ?_; rintro e w' ⟨rfl, rfl⟩) | (go_at_call 47; refine (manKind_any _ _).mono ?_; rintro e w' ⟨rfl, rfl⟩))
            go_ret
            exact ⟨by rw [HV.out]; rfl, HB.out⟩
          · have c7 : (KM.rank n == 7) = false := by rw [hr]; simp [h7]
            have HO := Lib.hid (show KM.rimc b n = true by simp [KM.rimc, h0, h7])
            clear hk h0 h7 hsq hr
            go_wp2_with (first | (go_at_call 35; refine (sqRank_any _ _).mono ?_; rintro e w' ⟨rfl, rfl⟩) | (go_at_call 47; refine (manKind_any _ _).mono ?_; rintro e w' ⟨rfl, rfl⟩))
            go_round
            case rel => exact ⟨n + 1, by omega, by go_num, KM.allTo_succ HA.out HO.out⟩
            case measure => simp [intOf]; omega
      · have bk : (KM.kind (b n) == 1) = false := by simp [hk]
        have HO := Lib.hid (show KM.rimc b n = true by simp [KM.rimc, hk])
        clear hk hsq hr
        go_wp2_with (first | (go_at_call 35; refine (sqRank_any _ _).mono ?_; rintro e w' ⟨rfl, rfl⟩) | (go_at_call 47; refine (manKind_any _ _).mono ?_; rintro e w' ⟨rfl, rfl⟩))
        go_round
        case rel => exact ⟨n + 1, by omega, by go_num, KM.allTo_succ HA.out HO.out⟩
        case measure => simp [intOf]; omega
    · obtain rfl : n = 64 := by omega
      go_wp2_with fail
      go_ret
      exact ⟨by rw [show KM.rimB b = false by unfold KM.rimB; rw [HA.out]; rfl]; rfl, HB.out⟩

theorem boardMany_any (b : Nat → Int) (k s : Int) (w : World) (hb : KM.bok b) :
    Calls Tryz.prog 51 #[.agg (KM.bval b), .int .i64 k, .int .i64 s] w fun e w' => e = .returned (.int .i64 (KM.many b k s)) ∧ Below w.heap.size w w' := by
  have HB := Lib.hid ((Below.refl w.heap.size w).alloc (Nat.le_refl _) (Obj.cells (KM.bval b) 24))
  have hB := BBox.new w b
  go_enter Tryz.func51, Tryz.ntmps51
  go_wp2_with (refine wpList_load_part rfl 24 (.tmp 3) rfl _ 0 rfl _ _ hB.part Tryz.underlying24 rfl (hi24 b) ?_)
  go_loop [7, 12] (fun c i => ∃ n : Nat, n ≤ 64 ∧ i = .int .i64 n ∧ c = .int .i64 (KM.manyTo b k s n)) (fun _ i => 64 - (intOf i).toNat)
  case atStart => exact ⟨0, Nat.zero_le _, rfl, rfl⟩
  case round =>
    obtain ⟨n, hn, rfl, rfl⟩ := hrel
    have hle := KM.manyTo_le b k s n
    by_cases hlt : n < 64
    · have hg := run_index_b b n hlt
      obtain ⟨m0, m1⟩ := hb n hlt
      by_cases hm : KM.manR (b n) = true
      · by_cases hs : KM.side (b n) = s
        · have bs : (KM.side (b n) == s) = true := by simp [hs]
          by_cases hk : k = 0
          · have bk : (k == 0) = true := by simp [hk]
            have HO := Lib.hid (show KM.manyTo b k s (n + 1) = KM.manyTo b k s n + 1 by rw [KM.manyTo, if_pos (by simp [KM.cnt, hm, hs, hk])])
            clear hs hk
            go_wp2_with (first | (go_at_call 59; refine (manRight_any _ _).mono ?_; rintro e w' ⟨rfl, rfl⟩) | (go_at_call 32; refine (manSide_any _ _).mono ?_; rintro e w' ⟨rfl, rfl⟩) | (go_at_call 47; refine (manKind_any _ _).mono ?_; rintro e w' ⟨rfl, rfl⟩))
            go_round
            case rel => exact ⟨n + 1, by omega, by go_num, by rw [HO.out]; go_num⟩
            case measure => simp [intOf]; omega
          · have bk : (k == 0) = false := by simp [hk]
            by_cases hk' : KM.kind (b n) = k
            · have bk' : (KM.kind (b n) == k) = true := by simp [hk']
              have HO := Lib.hid (show KM.manyTo b k s (n + 1) = KM.manyTo b k s n + 1 by rw [KM.manyTo, if_pos (by simp [KM.cnt, hm, hs, hk'])])
              clear hs hk hk'
              go_wp2_with (first | (go_at_call 59; refine (manRight_any _ _).mono ?_; rintro e w' ⟨rfl, rfl⟩) | (go_at_call 32; refine (manSide_any _ _).mono ?_; rintro e w' ⟨rfl, rfl⟩) | (go_at_call 47; refine (manKind_any _ _).mono ?_; rintro e w' ⟨rfl, rfl⟩))
              go_round
              case rel => exact ⟨n + 1, by omega, by go_num, by rw [HO.out]; go_num⟩
              case measure => simp [intOf]; omega
            · have bk' : (KM.kind (b n) == k) = false := by simp [hk']
              have HO := Lib.hid (show KM.manyTo b k s (n + 1) = KM.manyTo b k s n by rw [KM.manyTo, if_neg (by simp [KM.cnt, hk, hk'])])
              clear hs hk hk'
              go_wp2_with (first | (go_at_call 59; refine (manRight_any _ _).mono ?_; rintro e w' ⟨rfl, rfl⟩) | (go_at_call 32; refine (manSide_any _ _).mono ?_; rintro e w' ⟨rfl, rfl⟩) | (go_at_call 47; refine (manKind_any _ _).mono ?_; rintro e w' ⟨rfl, rfl⟩))
              go_round
              case rel => exact ⟨n + 1, by omega, by go_num, by rw [HO.out]⟩
              case measure => simp [intOf]; omega
        · have bs : (KM.side (b n) == s) = false := by simp [hs]
          have HO := Lib.hid (show KM.manyTo b k s (n + 1) = KM.manyTo b k s n by rw [KM.manyTo, if_neg (by simp [KM.cnt, hs])])
          clear hs
          go_wp2_with (first | (go_at_call 59; refine (manRight_any _ _).mono ?_; rintro e w' ⟨rfl, rfl⟩) | (go_at_call 32; refine (manSide_any _ _).mono ?_; rintro e w' ⟨rfl, rfl⟩) | (go_at_call 47; refine (manKind_any _ _).mono ?_; rintro e w' ⟨rfl, rfl⟩))
          go_round
          case rel => exact ⟨n + 1, by omega, by go_num, by rw [HO.out]⟩
          case measure => simp [intOf]; omega
      · replace hm := Bool.eq_false_iff.2 hm
        have HO := Lib.hid (show KM.manyTo b k s (n + 1) = KM.manyTo b k s n by rw [KM.manyTo, if_neg (by simp [KM.cnt, hm])])
        go_wp2_with (first | (go_at_call 59; refine (manRight_any _ _).mono ?_; rintro e w' ⟨rfl, rfl⟩) | (go_at_call 32; refine (manSide_any _ _).mono ?_; rintro e w' ⟨rfl, rfl⟩) | (go_at_call 47; refine (manKind_any _ _).mono ?_; rintro e w' ⟨rfl, rfl⟩))
        go_round
        case rel => exact ⟨n + 1, by omega, by go_num, by rw [HO.out]⟩
        case measure => simp [intOf]; omega
    · obtain rfl : n = 64 := by omega
      go_wp2_with fail
      go_ret
      exact ⟨rfl, HB.out⟩


theorem boardWrong_any (b : Nat → Int) (w : World) (hb : KM.bok b) :
    Calls Tryz.prog 25 #[.agg (KM.bval b)] w fun e w' => e = .returned (.int .i64 (KM.wrongB b)) ∧ Below w.heap.size w w' := by
  have hB := BBox.new w b
  have HB := Lib.hid ((Below.refl w.heap.size w).alloc (Nat.le_refl _) (Obj.cells (KM.bval b) 24))
  obtain ⟨q, hq, hq0⟩ := run_equalIn_array (P := Tryz.prog) 9999 9998 24 22 64 rfl .i8 Tryz.underlying24 Tryz.underlying22 info22 b (fun _ => 0) (KM.bval b) (KM.bval fun _ => 0) (fun i hi => KM.bval_get b hi) (fun i hi => KM.bval_get _ hi)
  have hq1 : q = true → KM.many b 6 0 = 0 := fun h => KM.many_zero (hq0 h)
  clear hq0
  have k00 := KM.manyTo_le b 0 0 64
  have k01 := KM.manyTo_le b 0 1 64
  have k60 := KM.manyTo_le b 6 0 64
  have k61 := KM.manyTo_le b 6 1 64
  change KM.many b 0 0 ≤ 64 at k00
  change KM.many b 0 1 ≤ 64 at k01
  change KM.many b 6 0 ≤ 64 at k60
  change KM.many b 6 1 ≤ 64 at k61
  by_cases hr : KM.rightB b = false
  · have HV := Lib.hid (show KM.wrongB b = 5 by unfold KM.wrongB; rw [if_pos hr])
    clear hq hq1
    go_enter Tryz.func25, Tryz.ntmps25
    go_wp2_with (first | (refine wpList_load_part rfl 24 (.tmp 1) rfl _ 0 rfl _ _ hB.part Tryz.underlying24 rfl (hi24 b) ?_) | (refine wpList_build0 rfl 24 _ rfl build24 ?_) | (go_at_call 50; refine (boardRight_any _ _ hb).mono ?_; rintro e w2 ⟨rfl, hbx⟩; replace hB := hB.below hbx hB.lt; replace HB := Lib.hid (HB.out.step hbx); clear hbx) | (go_at_call 51; refine (boardMany_any _ _ _ _ hb).mono ?_; rintro e w2 ⟨rfl, hbx⟩; replace hB := hB.below hbx hB.lt; replace HB := Lib.hid (HB.out.step hbx); clear hbx) | (go_at_call 52; refine (boardRim_any _ _ hb).mono ?_; rintro e w2 ⟨rfl, hbx⟩; replace hB := hB.below hbx hB.lt; replace HB := Lib.hid (HB.out.step hbx); clear hbx))
    go_ret
    exact ⟨by rw [HV.out]; rfl, HB.out⟩
  · replace hr : KM.rightB b = true := by simpa using hr
    have hrn : ¬ KM.rightB b = false := by rw [hr]; exact Bool.noConfusion
    cases q with
    | true =>
      have h0 := hq1 rfl
      have HV := Lib.hid (show KM.wrongB b = 6 by unfold KM.wrongB; rw [if_neg hrn, if_pos (.inl (by omega))])
      clear h0 hq1 hrn
      go_enter Tryz.func25, Tryz.ntmps25
      go_wp2_with (first | (refine wpList_load_part rfl 24 (.tmp 1) rfl _ 0 rfl _ _ hB.part Tryz.underlying24 rfl (hi24 b) ?_) | (refine wpList_build0 rfl 24 _ rfl build24 ?_) | (go_at_call 50; refine (boardRight_any _ _ hb).mono ?_; rintro e w2 ⟨rfl, hbx⟩; replace hB := hB.below hbx hB.lt; replace HB := Lib.hid (HB.out.step hbx); clear hbx) | (go_at_call 51; refine (boardMany_any _ _ _ _ hb).mono ?_; rintro e w2 ⟨rfl, hbx⟩; replace hB := hB.below hbx hB.lt; replace HB := Lib.hid (HB.out.step hbx); clear hbx) | (go_at_call 52; refine (boardRim_any _ _ hb).mono ?_; rintro e w2 ⟨rfl, hbx⟩; replace hB := hB.below hbx hB.lt; replace HB := Lib.hid (HB.out.step hbx); clear hbx))
      go_ret
      exact ⟨by rw [HV.out]; rfl, HB.out⟩
    | false =>
      clear hq1
      by_cases h0 : KM.many b 6 0 = 1
      · by_cases h1 : KM.many b 6 1 = 1
        · have b0 : ((KM.many b 6 0 : Int) != 1) = false := by simp [h0]
          have b1 : ((KM.many b 6 1 : Int) != 1) = false := by simp [h1]
          by_cases h2 : KM.rimB b = true
          · have HV := Lib.hid (show KM.wrongB b = 7 by unfold KM.wrongB; rw [if_neg hrn, if_neg (by omega), if_pos h2])
            clear h0 h1 hrn
            go_enter Tryz.func25, Tryz.ntmps25
            go_wp2_with (first | (refine wpList_load_part rfl 24 (.tmp 1) rfl _ 0 rfl _ _ hB.part Tryz.underlying24 rfl (hi24 b) ?_) | (refine wpList_build0 rfl 24 _ rfl build24 ?_) | (go_at_call 50; refine (boardRight_any _ _ hb).mono ?_; rintro e w2 ⟨rfl, hbx⟩; replace hB := hB.below hbx hB.lt; replace HB := Lib.hid (HB.out.step hbx); clear hbx) | (go_at_call 51; refine (boardMany_any _ _ _ _ hb).mono ?_; rintro e w2 ⟨rfl, hbx⟩; replace hB := hB.below hbx hB.lt; replace HB := Lib.hid (HB.out.step hbx); clear hbx) | (go_at_call 52; refine (boardRim_any _ _ hb).mono ?_; rintro e w2 ⟨rfl, hbx⟩; replace hB := hB.below hbx hB.lt; replace HB := Lib.hid (HB.out.step hbx); clear hbx))
            go_ret
            exact ⟨by rw [HV.out]; rfl, HB.out⟩
          · replace h2 := Bool.eq_false_iff.2 h2
            by_cases h3 : 16 < KM.many b 0 0
            · have b3 : decide (16 < (KM.many b 0 0 : Int)) = true := by simp; omega
              have HV := Lib.hid (show KM.wrongB b = 8 by unfold KM.wrongB; rw [if_neg hrn, if_neg (by omega), if_neg (by rw [h2]; exact Bool.false_ne_true), if_pos (.inl h3)])
              clear h0 h1 hrn
              go_enter Tryz.func25, Tryz.ntmps25
              go_wp2_with (first | (refine wpList_load_part rfl 24 (.tmp 1) rfl _ 0 rfl _ _ hB.part Tryz.underlying24 rfl (hi24 b) ?_) | (refine wpList_build0 rfl 24 _ rfl build24 ?_) | (go_at_call 50; refine (boardRight_any _ _ hb).mono ?_; rintro e w2 ⟨rfl, hbx⟩; replace hB := hB.below hbx hB.lt; replace HB := Lib.hid (HB.out.step hbx); clear hbx) | (go_at_call 51; refine (boardMany_any _ _ _ _ hb).mono ?_; rintro e w2 ⟨rfl, hbx⟩; replace hB := hB.below hbx hB.lt; replace HB := Lib.hid (HB.out.step hbx); clear hbx) | (go_at_call 52; refine (boardRim_any _ _ hb).mono ?_; rintro e w2 ⟨rfl, hbx⟩; replace hB := hB.below hbx hB.lt; replace HB := Lib.hid (HB.out.step hbx); clear hbx))
              go_ret
              exact ⟨by rw [HV.out]; rfl, HB.out⟩
            · have b3 : decide (16 < (KM.many b 0 0 : Int)) = false := by simp; omega
              by_cases h4 : 16 < KM.many b 0 1
              · have b4 : decide (16 < (KM.many b 0 1 : Int)) = true := by simp; omega
                have HV := Lib.hid (show KM.wrongB b = 8 by unfold KM.wrongB; rw [if_neg hrn, if_neg (by omega), if_neg (by rw [h2]; exact Bool.false_ne_true), if_pos (.inr h4)])
                clear h0 h1 hrn
                go_enter Tryz.func25, Tryz.ntmps25
                go_wp2_with (first | (refine wpList_load_part rfl 24 (.tmp 1) rfl _ 0 rfl _ _ hB.part Tryz.underlying24 rfl (hi24 b) ?_) | (refine wpList_build0 rfl 24 _ rfl build24 ?_) | (go_at_call 50; refine (boardRight_any _ _ hb).mono ?_; rintro e w2 ⟨rfl, hbx⟩; replace hB := hB.below hbx hB.lt; replace HB := Lib.hid (HB.out.step hbx); clear hbx) | (go_at_call 51; refine (boardMany_any _ _ _ _ hb).mono ?_; rintro e w2 ⟨rfl, hbx⟩; replace hB := hB.below hbx hB.lt; replace HB := Lib.hid (HB.out.step hbx); clear hbx) | (go_at_call 52; refine (boardRim_any _ _ hb).mono ?_; rintro e w2 ⟨rfl, hbx⟩; replace hB := hB.below hbx hB.lt; replace HB := Lib.hid (HB.out.step hbx); clear hbx))
                go_ret
                exact ⟨by rw [HV.out]; rfl, HB.out⟩
              · have b4 : decide (16 < (KM.many b 0 1 : Int)) = false := by simp; omega
                have HV := Lib.hid (show KM.wrongB b = 0 by unfold KM.wrongB; rw [if_neg hrn, if_neg (by omega), if_neg (by rw [h2]; exact Bool.false_ne_true), if_neg (by omega)])
                clear h0 h1 hrn
                go_enter Tryz.func25, Tryz.ntmps25
                go_wp2_with (first | (refine wpList_load_part rfl 24 (.tmp 1) rfl _ 0 rfl _ _ hB.part Tryz.underlying24 rfl (hi24 b) ?_) | (refine wpList_build0 rfl 24 _ rfl build24 ?_) | (go_at_call 50; refine (boardRight_any _ _ hb).mono ?_; rintro e w2 ⟨rfl, hbx⟩; replace hB := hB.below hbx hB.lt; replace HB := Lib.hid (HB.out.step hbx); clear hbx) | (go_at_call 51; refine (boardMany_any _ _ _ _ hb).mono ?_; rintro e w2 ⟨rfl, hbx⟩; replace hB := hB.below hbx hB.lt; replace HB := Lib.hid (HB.out.step hbx); clear hbx) | (go_at_call 52; refine (boardRim_any _ _ hb).mono ?_; rintro e w2 ⟨rfl, hbx⟩; replace hB := hB.below hbx hB.lt; replace HB := Lib.hid (HB.out.step hbx); clear hbx))
                go_ret
                exact ⟨by rw [HV.out]; rfl, HB.out⟩
        · have b0 : ((KM.many b 6 0 : Int) != 1) = false := by simp [h0]
          have b1 : ((KM.many b 6 1 : Int) != 1) = true := by simp; omega
          have HV := Lib.hid (show KM.wrongB b = 6 by unfold KM.wrongB; rw [if_neg hrn, if_pos (.inr h1)])
          clear h0 h1 hrn
          go_enter Tryz.func25, Tryz.ntmps25
          go_wp2_with (first | (refine wpList_load_part rfl 24 (.tmp 1) rfl _ 0 rfl _ _ hB.part Tryz.underlying24 rfl (hi24 b) ?_) | (refine wpList_build0 rfl 24 _ rfl build24 ?_) | (go_at_call 50; refine (boardRight_any _ _ hb).mono ?_; rintro e w2 ⟨rfl, hbx⟩; replace hB := hB.below hbx hB.lt; replace HB := Lib.hid (HB.out.step hbx); clear hbx) | (go_at_call 51; refine (boardMany_any _ _ _ _ hb).mono ?_; rintro e w2 ⟨rfl, hbx⟩; replace hB := hB.below hbx hB.lt; replace HB := Lib.hid (HB.out.step hbx); clear hbx) | (go_at_call 52; refine (boardRim_any _ _ hb).mono ?_; rintro e w2 ⟨rfl, hbx⟩; replace hB := hB.below hbx hB.lt; replace HB := Lib.hid (HB.out.step hbx); clear hbx))
          go_ret
          exact ⟨by rw [HV.out]; rfl, HB.out⟩
      · have b0 : ((KM.many b 6 0 : Int) != 1) = true := by simp; omega
        have HV := Lib.hid (show KM.wrongB b = 6 by unfold KM.wrongB; rw [if_neg hrn, if_pos (.inl h0)])
        clear h0 hrn
        go_enter Tryz.func25, Tryz.ntmps25
        go_wp2_with (first | (refine wpList_load_part rfl 24 (.tmp 1) rfl _ 0 rfl _ _ hB.part Tryz.underlying24 rfl (hi24 b) ?_) | (refine wpList_build0 rfl 24 _ rfl build24 ?_) | (go_at_call 50; refine (boardRight_any _ _ hb).mono ?_; rintro e w2 ⟨rfl, hbx⟩; replace hB := hB.below hbx hB.lt; replace HB := Lib.hid (HB.out.step hbx); clear hbx) | (go_at_call 51; refine (boardMany_any _ _ _ _ hb).mono ?_; rintro e w2 ⟨rfl, hbx⟩; replace hB := hB.below hbx hB.lt; replace HB := Lib.hid (HB.out.step hbx); clear hbx) | (go_at_call 52; refine (boardRim_any _ _ hb).mono ?_; rintro e w2 ⟨rfl, hbx⟩; replace hB := hB.below hbx hB.lt; replace HB := Lib.hid (HB.out.step hbx); clear hbx))
        go_ret
        exact ⟨by rw [HV.out]; rfl, HB.out⟩

end Go.Proofs.YtgikglnfjkbnhaaGreat
