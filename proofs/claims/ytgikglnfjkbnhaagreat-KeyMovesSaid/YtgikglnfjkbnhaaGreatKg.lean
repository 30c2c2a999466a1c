/-
  pos.castles, walked.
-/
import Derived.Test.YtgikglnfjkbnhaaGreatKf
import Derived.Test.YtgikglnfjkbnhaaGreatKx
namespace Go.Proofs.YtgikglnfjkbnhaaGreat
open Go.RowKit
set_option maxHeartbeats 400000

set_option maxHeartbeats 1000000 in
theorem posCastles_any (p : KM.Po) (w : World) (hp : p.wf) :
    Calls Tryz.prog 30 #[.agg (KM.pval p)] w fun e w' => e = .returned (.bool (KM.castlesB p)) ∧ Below w.heap.size w w' := by
  have hP := PBox.new w p
  have HB := Lib.hid ((Below.refl w.heap.size w).alloc (Nat.le_refl _) (Obj.cells (KM.pval p) 26))
  go_enter Tryz.func30, Tryz.ntmps30
  go_wp2_with (go_at_call 57; refine (homes_any _).mono ?_; rintro e w1 ⟨rfl, hb⟩; replace hP := hP.below hb hP.lt; replace HB := Lib.hid (HB.out.step hb); clear hb)
  go_loopw [6] (fun i wr => PBox wr w.heap.size p ∧ Below w.heap.size w wr ∧ ((i = .int .i64 0 ∧ True) ∨ (i = .int .i64 1 ∧ KM.cs p 0 = true) ∨ (i = .int .i64 2 ∧ KM.cs p 0 = true ∧ KM.cs p 1 = true) ∨ (i = .int .i64 3 ∧ KM.cs p 0 = true ∧ KM.cs p 1 = true ∧ KM.cs p 2 = true) ∨ (i = .int .i64 4 ∧ KM.cs p 0 = true ∧ KM.cs p 1 = true ∧ KM.cs p 2 = true ∧ KM.cs p 3 = true))) (fun i _ => 4 - (intOf i).toNat)
  case atStart => exact ⟨hP, HB.out, .inl ⟨rfl, trivial⟩⟩
  case round =>
    clear hP HB
    obtain ⟨hP, hB, hrel⟩ := hrel
    have HB := Lib.hid hB
    clear hB
    have hlt := hP.lt
    rcases hrel with ⟨rfl, hs⟩ | ⟨rfl, hs⟩ | ⟨rfl, hs⟩ | ⟨rfl, hs⟩ | ⟨rfl, hs⟩
    · have ih := home0
      have HS := Lib.hid hs
      clear hs
      have c65 := hP.castle
      have hP2 := hP.below ((Below.refl _ _).alloc (Nat.le_refl _) (Obj.cells #[.int .i64 1, .int .i64 0, .int .i64 4, .int .i64 7] 82)) hP.lt
      have HB2 := Lib.hid (HB.out.alloc HB.out.size (Obj.cells #[.int .i64 1, .int .i64 0, .int .i64 4, .int .i64 7] 82))
      by_cases hf : KM.fl p.castle 1 = true
      · have bf : (bits .and .i64 p.castle 1 != 0) = true := hf
        by_cases hb : KM.bk p.b 4 7 0 = true
        · have HC := Lib.hid (show KM.cs p 0 = true by unfold KM.cs; rw [hb]; simp)
          clear hf
          go_wp2_with (first | (refine wpList_load_part rfl 26 (.tmp 1) rfl _ 0 rfl _ _ hP2.part Tryz.underlying26 rfl (hi26 p) ?_) | (go_at_call 58; refine (backed1_any p _ hp).mono ?_; rintro e w2 ⟨rfl, hb⟩; replace hP2 := hP2.below hb hP2.lt; replace HB2 := Lib.hid (HB2.out.step hb); clear hb))
          go_roundw
          case rel => exact ⟨hP2, HB2.out, .inr (.inl ⟨rfl, HC.out⟩)⟩
          case measure => simp [intOf]
        · replace hb := Bool.eq_false_iff.2 hb
          have HV := Lib.hid (show KM.castlesB p = false from KM.castlesB_no p 0 (by omega) (by unfold KM.cs; rw [hb]; simp only [hf]; rfl))
          clear hf
          go_wp2_with (first | (refine wpList_load_part rfl 26 (.tmp 1) rfl _ 0 rfl _ _ hP2.part Tryz.underlying26 rfl (hi26 p) ?_) | (go_at_call 58; refine (backed1_any p _ hp).mono ?_; rintro e w2 ⟨rfl, hb⟩; replace hP2 := hP2.below hb hP2.lt; replace HB2 := Lib.hid (HB2.out.step hb); clear hb))
          go_ret
          exact ⟨by rw [HV.out]; rfl, HB2.out⟩
      · have bf : (bits .and .i64 p.castle 1 != 0) = false := Bool.eq_false_iff.2 hf
        have HC := Lib.hid (show KM.cs p 0 = true by unfold KM.cs; simp only [Bool.eq_false_iff.2 hf]; rfl)
        clear hf
        go_wp2_with (first | (refine wpList_load_part rfl 26 (.tmp 1) rfl _ 0 rfl _ _ hP2.part Tryz.underlying26 rfl (hi26 p) ?_) | (go_at_call 58; refine (backed1_any p _ hp).mono ?_; rintro e w2 ⟨rfl, hb⟩; replace hP2 := hP2.below hb hP2.lt; replace HB2 := Lib.hid (HB2.out.step hb); clear hb))
        go_roundw
        case rel => exact ⟨hP2, HB2.out, .inr (.inl ⟨rfl, HC.out⟩)⟩
        case measure => simp [intOf]
    · have ih := home1
      have HS := Lib.hid hs
      clear hs
      have c65 := hP.castle
      have hP2 := hP.below ((Below.refl _ _).alloc (Nat.le_refl _) (Obj.cells #[.int .i64 2, .int .i64 0, .int .i64 4, .int .i64 0] 82)) hP.lt
      have HB2 := Lib.hid (HB.out.alloc HB.out.size (Obj.cells #[.int .i64 2, .int .i64 0, .int .i64 4, .int .i64 0] 82))
      by_cases hf : KM.fl p.castle 2 = true
      · have bf : (bits .and .i64 p.castle 2 != 0) = true := hf
        by_cases hb : KM.bk p.b 4 0 0 = true
        · have HC := Lib.hid (show KM.cs p 1 = true by unfold KM.cs; rw [hb]; simp)
          clear hf
          go_wp2_with (first | (refine wpList_load_part rfl 26 (.tmp 1) rfl _ 0 rfl _ _ hP2.part Tryz.underlying26 rfl (hi26 p) ?_) | (go_at_call 58; refine (backed2_any p _ hp).mono ?_; rintro e w2 ⟨rfl, hb⟩; replace hP2 := hP2.below hb hP2.lt; replace HB2 := Lib.hid (HB2.out.step hb); clear hb))
          go_roundw
          case rel => exact ⟨hP2, HB2.out, .inr (.inr (.inl ⟨rfl, HS.out, HC.out⟩))⟩
          case measure => simp [intOf]
        · replace hb := Bool.eq_false_iff.2 hb
          have HV := Lib.hid (show KM.castlesB p = false from KM.castlesB_no p 1 (by omega) (by unfold KM.cs; rw [hb]; simp only [hf]; rfl))
          clear hf
          go_wp2_with (first | (refine wpList_load_part rfl 26 (.tmp 1) rfl _ 0 rfl _ _ hP2.part Tryz.underlying26 rfl (hi26 p) ?_) | (go_at_call 58; refine (backed2_any p _ hp).mono ?_; rintro e w2 ⟨rfl, hb⟩; replace hP2 := hP2.below hb hP2.lt; replace HB2 := Lib.hid (HB2.out.step hb); clear hb))
          go_ret
          exact ⟨by rw [HV.out]; rfl, HB2.out⟩
      · have bf : (bits .and .i64 p.castle 2 != 0) = false := Bool.eq_false_iff.2 hf
        have HC := Lib.hid (show KM.cs p 1 = true by unfold KM.cs; simp only [Bool.eq_false_iff.2 hf]; rfl)
        clear hf
        go_wp2_with (first | (refine wpList_load_part rfl 26 (.tmp 1) rfl _ 0 rfl _ _ hP2.part Tryz.underlying26 rfl (hi26 p) ?_) | (go_at_call 58; refine (backed2_any p _ hp).mono ?_; rintro e w2 ⟨rfl, hb⟩; replace hP2 := hP2.below hb hP2.lt; replace HB2 := Lib.hid (HB2.out.step hb); clear hb))
        go_roundw
        case rel => exact ⟨hP2, HB2.out, .inr (.inr (.inl ⟨rfl, HS.out, HC.out⟩))⟩
        case measure => simp [intOf]
    · have ih := home2
      have HS := Lib.hid hs
      clear hs
      have c65 := hP.castle
      have hP2 := hP.below ((Below.refl _ _).alloc (Nat.le_refl _) (Obj.cells #[.int .i64 4, .int .i64 1, .int .i64 60, .int .i64 63] 82)) hP.lt
      have HB2 := Lib.hid (HB.out.alloc HB.out.size (Obj.cells #[.int .i64 4, .int .i64 1, .int .i64 60, .int .i64 63] 82))
      by_cases hf : KM.fl p.castle 4 = true
      · have bf : (bits .and .i64 p.castle 4 != 0) = true := hf
        by_cases hb : KM.bk p.b 60 63 1 = true
        · have HC := Lib.hid (show KM.cs p 2 = true by unfold KM.cs; rw [hb]; simp)
          clear hf
          go_wp2_with (first | (refine wpList_load_part rfl 26 (.tmp 1) rfl _ 0 rfl _ _ hP2.part Tryz.underlying26 rfl (hi26 p) ?_) | (go_at_call 58; refine (backed4_any p _ hp).mono ?_; rintro e w2 ⟨rfl, hb⟩; replace hP2 := hP2.below hb hP2.lt; replace HB2 := Lib.hid (HB2.out.step hb); clear hb))
          go_roundw
          case rel => exact ⟨hP2, HB2.out, .inr (.inr (.inr (.inl ⟨rfl, HS.out.1, HS.out.2, HC.out⟩)))⟩
          case measure => simp [intOf]
        · replace hb := Bool.eq_false_iff.2 hb
          have HV := Lib.hid (show KM.castlesB p = false from KM.castlesB_no p 2 (by omega) (by unfold KM.cs; rw [hb]; simp only [hf]; rfl))
          clear hf
          go_wp2_with (first | (refine wpList_load_part rfl 26 (.tmp 1) rfl _ 0 rfl _ _ hP2.part Tryz.underlying26 rfl (hi26 p) ?_) | (go_at_call 58; refine (backed4_any p _ hp).mono ?_; rintro e w2 ⟨rfl, hb⟩; replace hP2 := hP2.below hb hP2.lt; replace HB2 := Lib.hid (HB2.out.step hb); clear hb))
          go_ret
          exact ⟨by rw [HV.out]; rfl, HB2.out⟩
      · have bf : (bits .and .i64 p.castle 4 != 0) = false := Bool.eq_false_iff.2 hf
        have HC := Lib.hid (show KM.cs p 2 = true by unfold KM.cs; simp only [Bool.eq_false_iff.2 hf]; rfl)
        clear hf
        go_wp2_with (first | (refine wpList_load_part rfl 26 (.tmp 1) rfl _ 0 rfl _ _ hP2.part Tryz.underlying26 rfl (hi26 p) ?_) | (go_at_call 58; refine (backed4_any p _ hp).mono ?_; rintro e w2 ⟨rfl, hb⟩; replace hP2 := hP2.below hb hP2.lt; replace HB2 := Lib.hid (HB2.out.step hb); clear hb))
        go_roundw
        case rel => exact ⟨hP2, HB2.out, .inr (.inr (.inr (.inl ⟨rfl, HS.out.1, HS.out.2, HC.out⟩)))⟩
        case measure => simp [intOf]
    · have ih := home3
      have HS := Lib.hid hs
      clear hs
      have c65 := hP.castle
      have hP2 := hP.below ((Below.refl _ _).alloc (Nat.le_refl _) (Obj.cells #[.int .i64 8, .int .i64 1, .int .i64 60, .int .i64 56] 82)) hP.lt
      have HB2 := Lib.hid (HB.out.alloc HB.out.size (Obj.cells #[.int .i64 8, .int .i64 1, .int .i64 60, .int .i64 56] 82))
      by_cases hf : KM.fl p.castle 8 = true
      · have bf : (bits .and .i64 p.castle 8 != 0) = true := hf
        by_cases hb : KM.bk p.b 60 56 1 = true
        · have HC := Lib.hid (show KM.cs p 3 = true by unfold KM.cs; rw [hb]; simp)
          clear hf
          go_wp2_with (first | (refine wpList_load_part rfl 26 (.tmp 1) rfl _ 0 rfl _ _ hP2.part Tryz.underlying26 rfl (hi26 p) ?_) | (go_at_call 58; refine (backed8_any p _ hp).mono ?_; rintro e w2 ⟨rfl, hb⟩; replace hP2 := hP2.below hb hP2.lt; replace HB2 := Lib.hid (HB2.out.step hb); clear hb))
          go_roundw
          case rel => exact ⟨hP2, HB2.out, .inr (.inr (.inr (.inr (⟨rfl, HS.out.1, HS.out.2.1, HS.out.2.2, HC.out⟩))))⟩
          case measure => simp [intOf]
        · replace hb := Bool.eq_false_iff.2 hb
          have HV := Lib.hid (show KM.castlesB p = false from KM.castlesB_no p 3 (by omega) (by unfold KM.cs; rw [hb]; simp only [hf]; rfl))
          clear hf
          go_wp2_with (first | (refine wpList_load_part rfl 26 (.tmp 1) rfl _ 0 rfl _ _ hP2.part Tryz.underlying26 rfl (hi26 p) ?_) | (go_at_call 58; refine (backed8_any p _ hp).mono ?_; rintro e w2 ⟨rfl, hb⟩; replace hP2 := hP2.below hb hP2.lt; replace HB2 := Lib.hid (HB2.out.step hb); clear hb))
          go_ret
          exact ⟨by rw [HV.out]; rfl, HB2.out⟩
      · have bf : (bits .and .i64 p.castle 8 != 0) = false := Bool.eq_false_iff.2 hf
        have HC := Lib.hid (show KM.cs p 3 = true by unfold KM.cs; simp only [Bool.eq_false_iff.2 hf]; rfl)
        clear hf
        go_wp2_with (first | (refine wpList_load_part rfl 26 (.tmp 1) rfl _ 0 rfl _ _ hP2.part Tryz.underlying26 rfl (hi26 p) ?_) | (go_at_call 58; refine (backed8_any p _ hp).mono ?_; rintro e w2 ⟨rfl, hb⟩; replace hP2 := hP2.below hb hP2.lt; replace HB2 := Lib.hid (HB2.out.step hb); clear hb))
        go_roundw
        case rel => exact ⟨hP2, HB2.out, .inr (.inr (.inr (.inr (⟨rfl, HS.out.1, HS.out.2.1, HS.out.2.2, HC.out⟩))))⟩
        case measure => simp [intOf]
    · go_wp2_with fail
      go_ret
      exact ⟨by rw [KM.castlesB_yes p hs.1 hs.2.1 hs.2.2.1 hs.2.2.2]; rfl, HB.out⟩

end Go.Proofs.YtgikglnfjkbnhaaGreat
