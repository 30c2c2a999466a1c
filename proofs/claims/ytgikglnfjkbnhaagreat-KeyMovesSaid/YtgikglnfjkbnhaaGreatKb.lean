/-
  Keys: what the program's key.Mix, key.man, key.rest, key.Of and the reference's Mix and Of answer, walked.
-/
import Derived.Test.YtgikglnfjkbnhaaGreatKa
import Derived.Test.YtgikglnfjkbnhaaGreatKw
namespace Go.Proofs.YtgikglnfjkbnhaaGreat
open Go.RowKit
set_option maxHeartbeats 400000
theorem mix_any (n : Int) (w : World) :
    Calls Tryz.prog 12 #[.int .u64 n] w fun e w' => e = .returned (.int .u64 (KM.mix n)) ∧ w = w' := by
  go_enter Tryz.func12, Tryz.ntmps12
  go_wp2
  go_ret
  exact ⟨rfl, rfl⟩

theorem rmix_any (n : Int) (w : World) :
    Calls Tryz.prog 21 #[.int .u64 n] w fun e w' => e = .returned (.int .u64 (KM.mix n)) ∧ w = w' := by
  rw [← KM.rmix_eq n]
  go_enter Tryz.func21, Tryz.ntmps21
  go_wp2
  go_ret
  exact ⟨rfl, rfl⟩

theorem rest_any (p : KM.Po) (w : World) (hp : p.wf) :
    Calls Tryz.prog 13 #[.agg (KM.pval p)] w fun e w' => e = .returned (.int .u64 (KM.rest p)) ∧ Below w.heap.size w w' := by
  have t64 := KM.pval_turn p
  have t65 := KM.pval_castle p
  have t66 := KM.pval_ep p
  have he := hp.ep
  unfold KM.i64ok at he
  obtain ⟨e0, e1⟩ := he
  have BH := Lib.hid ((Below.refl w.heap.size w).alloc (Nat.le_refl _) (Obj.cells (KM.pval p) 26))
  by_cases h1 : p.turn = 1
  · have b1 : (p.turn == 1) = true := by simp [h1]
    have E0 := Lib.hid (show KM.re0 p = KM.xo 0 (KM.mix 1024) by unfold KM.re0; rw [if_pos h1])
    clear h1
    go_enter Tryz.func13, Tryz.ntmps13
    go_wp2_with (go_at_call 12; refine (mix_any _ _).mono ?_; rintro e w1 ⟨rfl, rfl⟩)
    go_loop [3, 4] (fun k r => (r = .int .i64 1 ∧ k = .int .u64 (KM.re0 p)) ∨ (r = .int .i64 2 ∧ k = .int .u64 (KM.reS p.castle 1 (KM.re0 p))) ∨ (r = .int .i64 4 ∧ k = .int .u64 (KM.reS p.castle 2 (KM.reS p.castle 1 (KM.re0 p)))) ∨ (r = .int .i64 8 ∧ k = .int .u64 (KM.reS p.castle 4 (KM.reS p.castle 2 (KM.reS p.castle 1 (KM.re0 p))))) ∨ (r = .int .i64 16 ∧ k = .int .u64 (KM.reS p.castle 8 (KM.reS p.castle 4 (KM.reS p.castle 2 (KM.reS p.castle 1 (KM.re0 p))))))) (fun _ r => 16 - (intOf r).toNat)
    case atStart => exact .inl ⟨rfl, by first | (rw [E0.out]; done) | (rw [E0.out]; rfl)⟩
    case round =>
      rcases hrel with ⟨rfl, rfl⟩ | ⟨rfl, rfl⟩ | ⟨rfl, rfl⟩ | ⟨rfl, rfl⟩ | ⟨rfl, rfl⟩
      · by_cases hf : KM.fl p.castle 1 = true
        · have bf : (bits .and .i64 p.castle 1 != 0) = true := hf
          have HF := Lib.hid hf
          clear hf
          go_wp2_with (go_at_call 12; refine (mix_any _ _).mono ?_; rintro e w1 ⟨rfl, rfl⟩)
          go_round
          case rel => exact .inr (.inl ⟨rfl, by first | (rw [KM.reS_pos HF.out]; done) | (rw [KM.reS_pos HF.out]; rfl)⟩)
          case measure => simp [intOf]
        · have bf : (bits .and .i64 p.castle 1 != 0) = false := Bool.eq_false_iff.2 hf
          have HF := Lib.hid hf
          clear hf
          go_wp2_with (go_at_call 12; refine (mix_any _ _).mono ?_; rintro e w1 ⟨rfl, rfl⟩)
          go_round
          case rel => exact .inr (.inl ⟨rfl, by first | (rw [KM.reS_neg HF.out]; done) | (rw [KM.reS_neg HF.out]; rfl)⟩)
          case measure => simp [intOf]
      · by_cases hf : KM.fl p.castle 2 = true
        · have bf : (bits .and .i64 p.castle 2 != 0) = true := hf
          have HF := Lib.hid hf
          clear hf
          go_wp2_with (go_at_call 12; refine (mix_any _ _).mono ?_; rintro e w1 ⟨rfl, rfl⟩)
          go_round
          case rel => exact .inr (.inr (.inl ⟨rfl, by first | (rw [KM.reS_pos HF.out]; done) | (rw [KM.reS_pos HF.out]; rfl)⟩))
          case measure => simp [intOf]
        · have bf : (bits .and .i64 p.castle 2 != 0) = false := Bool.eq_false_iff.2 hf
          have HF := Lib.hid hf
          clear hf
          go_wp2_with (go_at_call 12; refine (mix_any _ _).mono ?_; rintro e w1 ⟨rfl, rfl⟩)
          go_round
          case rel => exact .inr (.inr (.inl ⟨rfl, by first | (rw [KM.reS_neg HF.out]; done) | (rw [KM.reS_neg HF.out]; rfl)⟩))
          case measure => simp [intOf]
      · by_cases hf : KM.fl p.castle 4 = true
        · have bf : (bits .and .i64 p.castle 4 != 0) = true := hf
          have HF := Lib.hid hf
          clear hf
          go_wp2_with (go_at_call 12; refine (mix_any _ _).mono ?_; rintro e w1 ⟨rfl, rfl⟩)
          go_round
          case rel => exact .inr (.inr (.inr (.inl ⟨rfl, by first | (rw [KM.reS_pos HF.out]; done) | (rw [KM.reS_pos HF.out]; rfl)⟩)))
          case measure => simp [intOf]
        · have bf : (bits .and .i64 p.castle 4 != 0) = false := Bool.eq_false_iff.2 hf
          have HF := Lib.hid hf
          clear hf
          go_wp2_with (go_at_call 12; refine (mix_any _ _).mono ?_; rintro e w1 ⟨rfl, rfl⟩)
          go_round
          case rel => exact .inr (.inr (.inr (.inl ⟨rfl, by first | (rw [KM.reS_neg HF.out]; done) | (rw [KM.reS_neg HF.out]; rfl)⟩)))
          case measure => simp [intOf]
      · by_cases hf : KM.fl p.castle 8 = true
        · have bf : (bits .and .i64 p.castle 8 != 0) = true := hf
          have HF := Lib.hid hf
          clear hf
          go_wp2_with (go_at_call 12; refine (mix_any _ _).mono ?_; rintro e w1 ⟨rfl, rfl⟩)
          go_round
          case rel => exact .inr (.inr (.inr (.inr (⟨rfl, by first | (rw [KM.reS_pos HF.out]; done) | (rw [KM.reS_pos HF.out]; rfl)⟩))))
          case measure => simp [intOf]
        · have bf : (bits .and .i64 p.castle 8 != 0) = false := Bool.eq_false_iff.2 hf
          have HF := Lib.hid hf
          clear hf
          go_wp2_with (go_at_call 12; refine (mix_any _ _).mono ?_; rintro e w1 ⟨rfl, rfl⟩)
          go_round
          case rel => exact .inr (.inr (.inr (.inr (⟨rfl, by first | (rw [KM.reS_neg HF.out]; done) | (rw [KM.reS_neg HF.out]; rfl)⟩))))
          case measure => simp [intOf]
      · by_cases hE : -1 < p.ep
        · have HR := Lib.hid (show KM.rest p = KM.xo (KM.re4 p) (KM.mix (1056 + p.ep)) by unfold KM.rest; rw [if_pos hE])
          go_wp2_with (go_at_call 12; refine (mix_any _ _).mono ?_; rintro e w1 ⟨rfl, rfl⟩)
          go_ret
          exact ⟨by rw [HR.out]; rfl, BH.out⟩
        · have HR := Lib.hid (show KM.rest p = KM.re4 p by unfold KM.rest; rw [if_neg hE])
          go_wp2_with (go_at_call 12; refine (mix_any _ _).mono ?_; rintro e w1 ⟨rfl, rfl⟩)
          go_ret
          exact ⟨by rw [HR.out]; rfl, BH.out⟩
  · have b1 : (p.turn == 1) = false := by simp [h1]
    have E0 := Lib.hid (show KM.re0 p = 0 by unfold KM.re0; rw [if_neg h1])
    clear h1
    go_enter Tryz.func13, Tryz.ntmps13
    go_wp2_with (go_at_call 12; refine (mix_any _ _).mono ?_; rintro e w1 ⟨rfl, rfl⟩)
    go_loop [3, 4] (fun k r => (r = .int .i64 1 ∧ k = .int .u64 (KM.re0 p)) ∨ (r = .int .i64 2 ∧ k = .int .u64 (KM.reS p.castle 1 (KM.re0 p))) ∨ (r = .int .i64 4 ∧ k = .int .u64 (KM.reS p.castle 2 (KM.reS p.castle 1 (KM.re0 p)))) ∨ (r = .int .i64 8 ∧ k = .int .u64 (KM.reS p.castle 4 (KM.reS p.castle 2 (KM.reS p.castle 1 (KM.re0 p))))) ∨ (r = .int .i64 16 ∧ k = .int .u64 (KM.reS p.castle 8 (KM.reS p.castle 4 (KM.reS p.castle 2 (KM.reS p.castle 1 (KM.re0 p))))))) (fun _ r => 16 - (intOf r).toNat)
    case atStart => exact .inl ⟨rfl, by first | (rw [E0.out]; done) | (rw [E0.out]; rfl)⟩
    case round =>
      rcases hrel with ⟨rfl, rfl⟩ | ⟨rfl, rfl⟩ | ⟨rfl, rfl⟩ | ⟨rfl, rfl⟩ | ⟨rfl, rfl⟩
      · by_cases hf : KM.fl p.castle 1 = true
        · have bf : (bits .and .i64 p.castle 1 != 0) = true := hf
          have HF := Lib.hid hf
          clear hf
          go_wp2_with (go_at_call 12; refine (mix_any _ _).mono ?_; rintro e w1 ⟨rfl, rfl⟩)
          go_round
          case rel => exact .inr (.inl ⟨rfl, by first | (rw [KM.reS_pos HF.out]; done) | (rw [KM.reS_pos HF.out]; rfl)⟩)
          case measure => simp [intOf]
        · have bf : (bits .and .i64 p.castle 1 != 0) = false := Bool.eq_false_iff.2 hf
          have HF := Lib.hid hf
          clear hf
          go_wp2_with (go_at_call 12; refine (mix_any _ _).mono ?_; rintro e w1 ⟨rfl, rfl⟩)
          go_round
          case rel => exact .inr (.inl ⟨rfl, by first | (rw [KM.reS_neg HF.out]; done) | (rw [KM.reS_neg HF.out]; rfl)⟩)
          case measure => simp [intOf]
      · by_cases hf : KM.fl p.castle 2 = true
        · have bf : (bits .and .i64 p.castle 2 != 0) = true := hf
          have HF := Lib.hid hf
          clear hf
          go_wp2_with (go_at_call 12; refine (mix_any _ _).mono ?_; rintro e w1 ⟨rfl, rfl⟩)
          go_round
          case rel => exact .inr (.inr (.inl ⟨rfl, by first | (rw [KM.reS_pos HF.out]; done) | (rw [KM.reS_pos HF.out]; rfl)⟩))
          case measure => simp [intOf]
        · have bf : (bits .and .i64 p.castle 2 != 0) = false := Bool.eq_false_iff.2 hf
          have HF := Lib.hid hf
          clear hf
          go_wp2_with (go_at_call 12; refine (mix_any _ _).mono ?_; rintro e w1 ⟨rfl, rfl⟩)
          go_round
          case rel => exact .inr (.inr (.inl ⟨rfl, by first | (rw [KM.reS_neg HF.out]; done) | (rw [KM.reS_neg HF.out]; rfl)⟩))
          case measure => simp [intOf]
      · by_cases hf : KM.fl p.castle 4 = true
        · have bf : (bits .and .i64 p.castle 4 != 0) = true := hf
          have HF := Lib.hid hf
          clear hf
          go_wp2_with (go_at_call 12; refine (mix_any _ _).mono ?_; rintro e w1 ⟨rfl, rfl⟩)
          go_round
          case rel => exact .inr (.inr (.inr (.inl ⟨rfl, by first | (rw [KM.reS_pos HF.out]; done) | (rw [KM.reS_pos HF.out]; rfl)⟩)))
          case measure => simp [intOf]
        · have bf : (bits .and .i64 p.castle 4 != 0) = false := Bool.eq_false_iff.2 hf
          have HF := Lib.hid hf
          clear hf
          go_wp2_with (go_at_call 12; refine (mix_any _ _).mono ?_; rintro e w1 ⟨rfl, rfl⟩)
          go_round
          case rel => exact .inr (.inr (.inr (.inl ⟨rfl, by first | (rw [KM.reS_neg HF.out]; done) | (rw [KM.reS_neg HF.out]; rfl)⟩)))
          case measure => simp [intOf]
      · by_cases hf : KM.fl p.castle 8 = true
        · have bf : (bits .and .i64 p.castle 8 != 0) = true := hf
          have HF := Lib.hid hf
          clear hf
          go_wp2_with (go_at_call 12; refine (mix_any _ _).mono ?_; rintro e w1 ⟨rfl, rfl⟩)
          go_round
          case rel => exact .inr (.inr (.inr (.inr (⟨rfl, by first | (rw [KM.reS_pos HF.out]; done) | (rw [KM.reS_pos HF.out]; rfl)⟩))))
          case measure => simp [intOf]
        · have bf : (bits .and .i64 p.castle 8 != 0) = false := Bool.eq_false_iff.2 hf
          have HF := Lib.hid hf
          clear hf
          go_wp2_with (go_at_call 12; refine (mix_any _ _).mono ?_; rintro e w1 ⟨rfl, rfl⟩)
          go_round
          case rel => exact .inr (.inr (.inr (.inr (⟨rfl, by first | (rw [KM.reS_neg HF.out]; done) | (rw [KM.reS_neg HF.out]; rfl)⟩))))
          case measure => simp [intOf]
      · by_cases hE : -1 < p.ep
        · have HR := Lib.hid (show KM.rest p = KM.xo (KM.re4 p) (KM.mix (1056 + p.ep)) by unfold KM.rest; rw [if_pos hE])
          go_wp2_with (go_at_call 12; refine (mix_any _ _).mono ?_; rintro e w1 ⟨rfl, rfl⟩)
          go_ret
          exact ⟨by rw [HR.out]; rfl, BH.out⟩
        · have HR := Lib.hid (show KM.rest p = KM.re4 p by unfold KM.rest; rw [if_neg hE])
          go_wp2_with (go_at_call 12; refine (mix_any _ _).mono ?_; rintro e w1 ⟨rfl, rfl⟩)
          go_ret
          exact ⟨by rw [HR.out]; rfl, BH.out⟩

theorem kman_any (s m : Int) (w : World) (h0 : 0 ≤ s) (h1 : s < 64) (h2 : -128 ≤ m) (h3 : m ≤ 127) :
    Calls Tryz.prog 14 #[.int .i64 s, .int .i8 m] w fun e w' => e = .returned (.int .u64 (KM.kman s m)) ∧ w = w' := by
  by_cases h : m = 0
  · subst h
    go_enter Tryz.func14, Tryz.ntmps14
    go_wp2
    go_ret
    exact ⟨rfl, rfl⟩
  · have b0 : (m == 0) = false := by simp [h]
    have HK := Lib.hid (show KM.kman s m = KM.mix (KM.u64 (16 * s + m + 8)) by unfold KM.kman; rw [if_neg h])
    go_enter Tryz.func14, Tryz.ntmps14
    go_wp2_with (go_at_call 12; refine (mix_any _ _).mono ?_; rintro e w' ⟨rfl, rfl⟩)
    go_ret
    exact ⟨by rw [HK.out]; rfl, rfl⟩

theorem keyOf_any (p : KM.Po) (w : World) (hp : p.wf) :
    Calls Tryz.prog 5 #[.agg (KM.pval p)] w fun e w' => e = .returned (.int .u64 (KM.kOf p)) ∧ Below w.heap.size w w' := by
  have hB := PBox.new w p
  have hs : (w.alloc (.cells (KM.pval p) 26)).heap.size = w.heap.size + 1 := by simp
  have b0 : Below w.heap.size w (w.alloc (.cells (KM.pval p) 26)) := (Below.refl _ _).alloc (Nat.le_refl _) _
  have HS := Lib.hid hs
  clear hs
  have HB0 := Lib.hid b0
  clear b0
  go_enter Tryz.func5, Tryz.ntmps5
  go_wp2_with (first
    | (refine wpList_load_part rfl 26 _ rfl _ 0 rfl _ _ hB.part Tryz.underlying26 rfl (hi26 p) ?_)
    | (refine wpList_load_part rfl 24 _ rfl _ 0 rfl _ _ hB1.board Tryz.underlying24 rfl (hi24 p.b) ?_)
    | (go_at_call 13; refine (rest_any p _ hp).mono ?_; rintro e w1 ⟨rfl, hb1⟩; have hB1 := hB.below hb1 hB.lt; have HB1 := Lib.hid (HB0.out.trans (hb1.mono (by rw [HS.out]; omega))); clear hb1))
  go_loop [3, 10] (fun k i => ∃ n : Nat, n ≤ 64 ∧ i = .int .i64 n ∧ k = .int .u64 (KM.ofTo p n)) (fun _ i => 64 - (intOf i).toNat)
  case atStart => exact ⟨0, Nat.zero_le _, rfl, rfl⟩
  case round =>
    obtain ⟨n, hn, rfl, rfl⟩ := hrel
    by_cases hlt : n < 64
    · have hg := run_index_b p.b n hlt
      have hw := hp.b n hlt
      obtain ⟨m0, m1⟩ := hw
      go_wp2_with (go_at_call 14; refine (kman_any _ _ _ (by omega) (by omega) (by omega) (by omega)).mono ?_; rintro e w2 ⟨rfl, rfl⟩)
      go_round
      case rel => exact ⟨n + 1, by omega, by go_num, rfl⟩
      case measure => simp [intOf]; omega
    · obtain rfl : n = 64 := by omega
      go_wp2
      go_ret
      exact ⟨rfl, HB1.out⟩

theorem refOf_any (p : KM.Po) (w : World) (hp : p.wf) :
    Calls Tryz.prog 10 #[.agg (KM.pval p)] w fun e w' => e = .returned (.int .u64 (KM.kOf p)) ∧ Below w.heap.size w w' := by
  rw [← KM.rOf_eq p]
  have t64 := KM.pval_turn p
  have t65 := KM.pval_castle p
  have t66 := KM.pval_ep p
  have he := hp.ep
  unfold KM.i64ok at he
  obtain ⟨e0, e1⟩ := he
  have BH := Lib.hid ((Below.refl w.heap.size w).alloc (Nat.le_refl _) (Obj.cells (KM.pval p) 26))
  go_enter Tryz.func10, Tryz.ntmps10
  go_wp2_with (go_at_call 21; refine (rmix_any _ _).mono ?_; rintro e w1 ⟨rfl, rfl⟩)
  go_loop [3, 4] (fun k i => ∃ n : Nat, n ≤ 64 ∧ i = .int .i64 n ∧ k = .int .u64 (KM.rbTo p n)) (fun _ i => 64 - (intOf i).toNat)
  case atStart => exact ⟨0, Nat.zero_le _, rfl, rfl⟩
  case round =>
    obtain ⟨n, hn, rfl, rfl⟩ := hrel
    by_cases hlt : n < 64
    · have hg := KM.pval_get p hlt
      obtain ⟨m0, m1⟩ := hp.b n hlt
      by_cases hz : p.b n = 0
      · have bz : (p.b n != 0) = false := by simp [hz]
        have HZ := Lib.hid (show KM.rbTo p (n + 1) = KM.rbTo p n by rw [KM.rbTo, if_pos hz])
        clear hz
        go_wp2_with (go_at_call 21; refine (rmix_any _ _).mono ?_; rintro e w1 ⟨rfl, rfl⟩)
        go_round
        case rel => exact ⟨n + 1, by omega, by go_num, by rw [HZ.out]⟩
        case measure => simp [intOf]; omega
      · have bz : (p.b n != 0) = true := by simp [hz]
        have HZ := Lib.hid (show KM.rbTo p (n + 1) = KM.xo (KM.rbTo p n) (KM.mix (KM.u64 (16 * n + p.b n + 8))) by rw [KM.rbTo, if_neg hz])
        clear hz
        go_wp2_with (go_at_call 21; refine (rmix_any _ _).mono ?_; rintro e w1 ⟨rfl, rfl⟩)
        go_round
        case rel => exact ⟨n + 1, by omega, by go_num, by rw [HZ.out]; rfl⟩
        case measure => simp [intOf]; omega
    · obtain rfl : n = 64 := by omega
      by_cases h1 : p.turn = 1
      · have b1 : (p.turn == 1) = true := by simp [h1]
        have E0 := Lib.hid (show KM.rf0 p = KM.xo (KM.rbTo p 64) (KM.mix 1024) by unfold KM.rf0; rw [if_pos h1])
        clear h1
        go_wp2_with (go_at_call 21; refine (rmix_any _ _).mono ?_; rintro e w1 ⟨rfl, rfl⟩)
        go_loop [3, 5] (fun k r => (r = .int .i64 1 ∧ k = .int .u64 (KM.rf0 p)) ∨ (r = .int .i64 2 ∧ k = .int .u64 (KM.reS p.castle 1 (KM.rf0 p))) ∨ (r = .int .i64 4 ∧ k = .int .u64 (KM.reS p.castle 2 (KM.reS p.castle 1 (KM.rf0 p)))) ∨ (r = .int .i64 8 ∧ k = .int .u64 (KM.reS p.castle 4 (KM.reS p.castle 2 (KM.reS p.castle 1 (KM.rf0 p))))) ∨ (r = .int .i64 16 ∧ k = .int .u64 (KM.reS p.castle 8 (KM.reS p.castle 4 (KM.reS p.castle 2 (KM.reS p.castle 1 (KM.rf0 p))))))) (fun _ r => 16 - (intOf r).toNat)
        case atStart => exact .inl ⟨rfl, by first | (rw [E0.out]; done) | (rw [E0.out]; rfl)⟩
        case round =>
          rcases hrel with ⟨rfl, rfl⟩ | ⟨rfl, rfl⟩ | ⟨rfl, rfl⟩ | ⟨rfl, rfl⟩ | ⟨rfl, rfl⟩
          · by_cases hf : KM.fl p.castle 1 = true
            · have bf : (bits .and .i64 p.castle 1 != 0) = true := hf
              have HF := Lib.hid hf
              clear hf
              go_wp2_with (go_at_call 21; refine (rmix_any _ _).mono ?_; rintro e w1 ⟨rfl, rfl⟩)
              go_round
              case rel => exact .inr (.inl ⟨rfl, by first | (rw [KM.reS_pos HF.out]; done) | (rw [KM.reS_pos HF.out]; rfl)⟩)
              case measure => simp [intOf]
            · have bf : (bits .and .i64 p.castle 1 != 0) = false := Bool.eq_false_iff.2 hf
              have HF := Lib.hid hf
              clear hf
              go_wp2_with (go_at_call 21; refine (rmix_any _ _).mono ?_; rintro e w1 ⟨rfl, rfl⟩)
              go_round
              case rel => exact .inr (.inl ⟨rfl, by first | (rw [KM.reS_neg HF.out]; done) | (rw [KM.reS_neg HF.out]; rfl)⟩)
              case measure => simp [intOf]
          · by_cases hf : KM.fl p.castle 2 = true
            · have bf : (bits .and .i64 p.castle 2 != 0) = true := hf
              have HF := Lib.hid hf
              clear hf
              go_wp2_with (go_at_call 21; refine (rmix_any _ _).mono ?_; rintro e w1 ⟨rfl, rfl⟩)
              go_round
              case rel => exact .inr (.inr (.inl ⟨rfl, by first | (rw [KM.reS_pos HF.out]; done) | (rw [KM.reS_pos HF.out]; rfl)⟩))
              case measure => simp [intOf]
            · have bf : (bits .and .i64 p.castle 2 != 0) = false := Bool.eq_false_iff.2 hf
              have HF := Lib.hid hf
              clear hf
              go_wp2_with (go_at_call 21; refine (rmix_any _ _).mono ?_; rintro e w1 ⟨rfl, rfl⟩)
              go_round
              case rel => exact .inr (.inr (.inl ⟨rfl, by first | (rw [KM.reS_neg HF.out]; done) | (rw [KM.reS_neg HF.out]; rfl)⟩))
              case measure => simp [intOf]
          · by_cases hf : KM.fl p.castle 4 = true
            · have bf : (bits .and .i64 p.castle 4 != 0) = true := hf
              have HF := Lib.hid hf
              clear hf
              go_wp2_with (go_at_call 21; refine (rmix_any _ _).mono ?_; rintro e w1 ⟨rfl, rfl⟩)
              go_round
              case rel => exact .inr (.inr (.inr (.inl ⟨rfl, by first | (rw [KM.reS_pos HF.out]; done) | (rw [KM.reS_pos HF.out]; rfl)⟩)))
              case measure => simp [intOf]
            · have bf : (bits .and .i64 p.castle 4 != 0) = false := Bool.eq_false_iff.2 hf
              have HF := Lib.hid hf
              clear hf
              go_wp2_with (go_at_call 21; refine (rmix_any _ _).mono ?_; rintro e w1 ⟨rfl, rfl⟩)
              go_round
              case rel => exact .inr (.inr (.inr (.inl ⟨rfl, by first | (rw [KM.reS_neg HF.out]; done) | (rw [KM.reS_neg HF.out]; rfl)⟩)))
              case measure => simp [intOf]
          · by_cases hf : KM.fl p.castle 8 = true
            · have bf : (bits .and .i64 p.castle 8 != 0) = true := hf
              have HF := Lib.hid hf
              clear hf
              go_wp2_with (go_at_call 21; refine (rmix_any _ _).mono ?_; rintro e w1 ⟨rfl, rfl⟩)
              go_round
              case rel => exact .inr (.inr (.inr (.inr (⟨rfl, by first | (rw [KM.reS_pos HF.out]; done) | (rw [KM.reS_pos HF.out]; rfl)⟩))))
              case measure => simp [intOf]
            · have bf : (bits .and .i64 p.castle 8 != 0) = false := Bool.eq_false_iff.2 hf
              have HF := Lib.hid hf
              clear hf
              go_wp2_with (go_at_call 21; refine (rmix_any _ _).mono ?_; rintro e w1 ⟨rfl, rfl⟩)
              go_round
              case rel => exact .inr (.inr (.inr (.inr (⟨rfl, by first | (rw [KM.reS_neg HF.out]; done) | (rw [KM.reS_neg HF.out]; rfl)⟩))))
              case measure => simp [intOf]
          · by_cases hE : -1 < p.ep
            · have HR := Lib.hid (show KM.rOf p = KM.xo (KM.rf4 p) (KM.mix (1056 + p.ep)) by unfold KM.rOf; rw [if_pos hE])
              go_wp2_with (go_at_call 21; refine (rmix_any _ _).mono ?_; rintro e w1 ⟨rfl, rfl⟩)
              go_ret
              exact ⟨by rw [HR.out]; rfl, BH.out⟩
            · have HR := Lib.hid (show KM.rOf p = KM.rf4 p by unfold KM.rOf; rw [if_neg hE])
              go_wp2_with (go_at_call 21; refine (rmix_any _ _).mono ?_; rintro e w1 ⟨rfl, rfl⟩)
              go_ret
              exact ⟨by rw [HR.out]; rfl, BH.out⟩
      · have b1 : (p.turn == 1) = false := by simp [h1]
        have E0 := Lib.hid (show KM.rf0 p = KM.rbTo p 64 by unfold KM.rf0; rw [if_neg h1])
        clear h1
        go_wp2_with (go_at_call 21; refine (rmix_any _ _).mono ?_; rintro e w1 ⟨rfl, rfl⟩)
        go_loop [3, 5] (fun k r => (r = .int .i64 1 ∧ k = .int .u64 (KM.rf0 p)) ∨ (r = .int .i64 2 ∧ k = .int .u64 (KM.reS p.castle 1 (KM.rf0 p))) ∨ (r = .int .i64 4 ∧ k = .int .u64 (KM.reS p.castle 2 (KM.reS p.castle 1 (KM.rf0 p)))) ∨ (r = .int .i64 8 ∧ k = .int .u64 (KM.reS p.castle 4 (KM.reS p.castle 2 (KM.reS p.castle 1 (KM.rf0 p))))) ∨ (r = .int .i64 16 ∧ k = .int .u64 (KM.reS p.castle 8 (KM.reS p.castle 4 (KM.reS p.castle 2 (KM.reS p.castle 1 (KM.rf0 p))))))) (fun _ r => 16 - (intOf r).toNat)
        case atStart => exact .inl ⟨rfl, by first | (rw [E0.out]; done) | (rw [E0.out]; rfl)⟩
        case round =>
          rcases hrel with ⟨rfl, rfl⟩ | ⟨rfl, rfl⟩ | ⟨rfl, rfl⟩ | ⟨rfl, rfl⟩ | ⟨rfl, rfl⟩
          · by_cases hf : KM.fl p.castle 1 = true
            · have bf : (bits .and .i64 p.castle 1 != 0) = true := hf
              have HF := Lib.hid hf
              clear hf
              go_wp2_with (go_at_call 21; refine (rmix_any _ _).mono ?_; rintro e w1 ⟨rfl, rfl⟩)
              go_round
              case rel => exact .inr (.inl ⟨rfl, by first | (rw [KM.reS_pos HF.out]; done) | (rw [KM.reS_pos HF.out]; rfl)⟩)
              case measure => simp [intOf]
            · have bf : (bits .and .i64 p.castle 1 != 0) = false := Bool.eq_false_iff.2 hf
              have HF := Lib.hid hf
              clear hf
              go_wp2_with (go_at_call 21; refine (rmix_any _ _).mono ?_; rintro e w1 ⟨rfl, rfl⟩)
              go_round
              case rel => exact .inr (.inl ⟨rfl, by first | (rw [KM.reS_neg HF.out]; done) | (rw [KM.reS_neg HF.out]; rfl)⟩)
              case measure => simp [intOf]
          · by_cases hf : KM.fl p.castle 2 = true
            · have bf : (bits .and .i64 p.castle 2 != 0) = true := hf
              have HF := Lib.hid hf
              clear hf
              go_wp2_with (go_at_call 21; refine (rmix_any _ _).mono ?_; rintro e w1 ⟨rfl, rfl⟩)
              go_round
              case rel => exact .inr (.inr (.inl ⟨rfl, by first | (rw [KM.reS_pos HF.out]; done) | (rw [KM.reS_pos HF.out]; rfl)⟩))
              case measure => simp [intOf]
            · have bf : (bits .and .i64 p.castle 2 != 0) = false := Bool.eq_false_iff.2 hf
              have HF := Lib.hid hf
              clear hf
              go_wp2_with (go_at_call 21; refine (rmix_any _ _).mono ?_; rintro e w1 ⟨rfl, rfl⟩)
              go_round
              case rel => exact .inr (.inr (.inl ⟨rfl, by first | (rw [KM.reS_neg HF.out]; done) | (rw [KM.reS_neg HF.out]; rfl)⟩))
              case measure => simp [intOf]
          · by_cases hf : KM.fl p.castle 4 = true
            · have bf : (bits .and .i64 p.castle 4 != 0) = true := hf
              have HF := Lib.hid hf
              clear hf
              go_wp2_with (go_at_call 21; refine (rmix_any _ _).mono ?_; rintro e w1 ⟨rfl, rfl⟩)
              go_round
              case rel => exact .inr (.inr (.inr (.inl ⟨rfl, by first | (rw [KM.reS_pos HF.out]; done) | (rw [KM.reS_pos HF.out]; rfl)⟩)))
              case measure => simp [intOf]
            · have bf : (bits .and .i64 p.castle 4 != 0) = false := Bool.eq_false_iff.2 hf
              have HF := Lib.hid hf
              clear hf
              go_wp2_with (go_at_call 21; refine (rmix_any _ _).mono ?_; rintro e w1 ⟨rfl, rfl⟩)
              go_round
              case rel => exact .inr (.inr (.inr (.inl ⟨rfl, by first | (rw [KM.reS_neg HF.out]; done) | (rw [KM.reS_neg HF.out]; rfl)⟩)))
              case measure => simp [intOf]
          · by_cases hf : KM.fl p.castle 8 = true
            · have bf : (bits .and .i64 p.castle 8 != 0) = true := hf
              have HF := Lib.hid hf
              clear hf
              go_wp2_with (go_at_call 21; refine (rmix_any _ _).mono ?_; rintro e w1 ⟨rfl, rfl⟩)
              go_round
              case rel => exact .inr (.inr (.inr (.inr (⟨rfl, by first | (rw [KM.reS_pos HF.out]; done) | (rw [KM.reS_pos HF.out]; rfl)⟩))))
              case measure => simp [intOf]
            · have bf : (bits .and .i64 p.castle 8 != 0) = false := Bool.eq_false_iff.2 hf
              have HF := Lib.hid hf
              clear hf
              go_wp2_with (go_at_call 21; refine (rmix_any _ _).mono ?_; rintro e w1 ⟨rfl, rfl⟩)
              go_round
              case rel => exact .inr (.inr (.inr (.inr (⟨rfl, by first | (rw [KM.reS_neg HF.out]; done) | (rw [KM.reS_neg HF.out]; rfl)⟩))))
              case measure => simp [intOf]
          · by_cases hE : -1 < p.ep
            · have HR := Lib.hid (show KM.rOf p = KM.xo (KM.rf4 p) (KM.mix (1056 + p.ep)) by unfold KM.rOf; rw [if_pos hE])
              go_wp2_with (go_at_call 21; refine (rmix_any _ _).mono ?_; rintro e w1 ⟨rfl, rfl⟩)
              go_ret
              exact ⟨by rw [HR.out]; rfl, BH.out⟩
            · have HR := Lib.hid (show KM.rOf p = KM.rf4 p by unfold KM.rOf; rw [if_neg hE])
              go_wp2_with (go_at_call 21; refine (rmix_any _ _).mono ?_; rintro e w1 ⟨rfl, rfl⟩)
              go_ret
              exact ⟨by rw [HR.out]; rfl, BH.out⟩

end Go.Proofs.YtgikglnfjkbnhaaGreat
