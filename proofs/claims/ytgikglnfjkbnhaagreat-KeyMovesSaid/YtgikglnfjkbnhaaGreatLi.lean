/-
  gen.king, walked (printed by mkking.py).
-/
import Derived.Test.YtgikglnfjkbnhaaGreatLh
import Derived.Test.YtgikglnfjkbnhaaGreatLc
namespace Go.Proofs.YtgikglnfjkbnhaaGreat
open Go.RowKit
set_option maxHeartbeats 1000000
set_option maxRecDepth 20000

theorem index90_0 (x y : Int) (w : World) : (Instr.index 90 (.agg #[.int .i64 x, .int .i64 y]) (.int .i64 0)).run Tryz.prog w = .ok (.int .i64 x) w := by kernel_rfl
theorem index90_1 (x y : Int) (w : World) : (Instr.index 90 (.agg #[.int .i64 x, .int .i64 y]) (.int .i64 1)).run Tryz.prog w = .ok (.int .i64 y) w := by kernel_rfl

theorem king_any (gg ge : Nat) (p : KM.Po) (s : Int) (w : World) (hp : p.wf) (hG : GBox w gg ge) (hw : KM.wrong p = 0) (hr : KM.rightB p.b = true) (s0 : 0 ≤ s) (s1 : s < 64) (hz : p.b s.toNat ≠ 0) :
    Calls Tryz.prog 46 #[.pointer (some ⟨gg, 0, none⟩), .agg (KM.pval p), .int .i64 s] w fun e w' => ∃ l, RetInts w l e w' ∧ l.length ≤ 514 ∧ ∀ x ∈ l, KM.sqR x = true ∧ KM.opn p x = true := by
  have hP := PBox.new w p
  have HB := Lib.hid ((Below.refl w.heap.size w).alloc (Nat.le_refl _) (Obj.cells (KM.pval p) 26))
  have hG' := hG.below ((Below.refl w.heap.size w).alloc (Nat.le_refl _) (Obj.cells (KM.pval p) 26)) (heap_lt hG)
  have hjm := jumps_any2 gg ge p s _ hp hG' hr s0 s1 hz
  obtain ⟨i0, hi, hz0, hz1, hz2⟩ := info_parts info3s
  have HW := Lib.hid hw
  have hS : w.heap.size + 1 ≤ (w.alloc (Obj.cells (KM.pval p) 26)).heap.size := by simp
  clear hw hr hz hG hG'
  go_enter Tryz.func46, Tryz.ntmps46
  go_wp2_with (first
    | (refine wpList_load_part rfl 26 (.tmp 4) rfl _ 0 rfl _ _ hP.part Tryz.underlying26 rfl (hi26 p) ?_)
    | (go_at_call 45; refine hjm.mono ?_; rintro e w1 ⟨l0, ⟨a0, cap0, rfl, hown0, hb1⟩, hl0, hin0⟩))
  have hown1 := ownsRow_base hown0 hS
  replace hP := hP.below hb1 hP.lt
  replace HB := Lib.hid (HB.out.step hb1)
  have HO0 := Lib.hid hown1
  have HI0 := Lib.hid hin0
  have HP0 := Lib.hid hP
  clear hjm hown0 hown1 hb1 hin0 hP
  go_loopw [7, 19] (fun v7 v19 wr => ∃ (k : Nat) (l : List Int) (a : Option Addr) (cap : Nat), v7 = .slice a l.length cap ∧ v19 = .int .i64 k ∧ k ≤ 2 ∧ l.length ≤ 512 + k ∧ wr.ownsRow (w.heap.size + 1) 3 1 (.slice a l.length cap) l.length (KM.ints l)
    ∧ (∀ x ∈ l, KM.sqR x = true ∧ KM.opn p x = true) ∧ PBox wr w.heap.size p ∧ Below w.heap.size w wr) (fun _ v _ => 2 - (intOf v).toNat)
  case atStart => exact ⟨0, l0, a0, cap0, rfl, rfl, by omega, by omega, HO0.out, HI0.out, HP0.out, HB.out⟩
  case round =>
    obtain ⟨k, l, a, cap, rfl, rfl, hk, hl, hown, hin, hP, hb⟩ := hrel
    have HO := Lib.hid hown
    have HI := Lib.hid hin
    have HB1 := Lib.hid hb
    clear hown hin hb
    by_cases hlt : k < 2
    · have h2 : k = 0 ∨ k = 1 := by omega
      rcases h2 with rfl | rfl
      · have c18 := hP.part
        have ih := index90_0 (s + 2) (s - 2)
        rw [show ((0 : Nat) : Int) = 0 from rfl]
        have HP := Lib.hid hP
        cases hs : KM.sqR (s + 2)
        · have hq := Lib.hid (show ∀ w', Calls Tryz.prog 31 #[.int .i64 (s + 2)] w' fun e w'' => e = .returned (.bool false) ∧ w' = w'' by intro w'; have h := sqRight_any (s + 2) w'; rw [hs] at h; exact h)
          clear hs
          go_wp2_with (go_at_call 31; refine (hq.out _).mono ?_; rintro e w' ⟨rfl, rfl⟩)
          go_roundw
          case rel => exact ⟨1, l, a, cap, rfl, rfl, by omega, by omega, HO.out, HI.out, HP.out, HB1.out⟩
          case measure => simp [intOf]
        · have hq := Lib.hid (show ∀ w', Calls Tryz.prog 31 #[.int .i64 (s + 2)] w' fun e w'' => e = .returned (.bool true) ∧ w' = w'' by intro w'; have h := sqRight_any (s + 2) w'; rw [hs] at h; exact h)
          clear hs
          go_upto_if 30 with (first
            | (go_at_call 31; refine (hq.out _).mono ?_; rintro e w' ⟨rfl, rfl⟩)
            | (refine wpList_load_part rfl 26 (.tmp 4) rfl _ 0 rfl _ _ c18 Tryz.underlying26 rfl (hi26 p) ?_)
            | (go_at_call 68; refine (moveCastles_any p s (s + 2) 0 _ hp HW.out).mono ?_; rintro e w2 ⟨⟨b, rfl, hbt⟩, hb2⟩))
          have hsz := hP.lt
          have HP2 := Lib.hid (HP.out.below hb2 hsz)
          have HB2 := Lib.hid (HB1.out.step hb2)
          have hown := ownsRow_below HO.out hb2
          have hbz := Nat.le_trans HB1.out.size hb2.size
          cases b
          · have HO2 := Lib.hid hown
            clear hbt hb2 hown c18 hP
            go_wp2_with fail
            go_roundw
            case rel => exact ⟨1, l, a, cap, rfl, rfl, by omega, by omega, HO2.out, HI.out, HP2.out, HB2.out⟩
            case measure => simp [intOf]
          · have HF := Lib.hid (hbt rfl)
            clear hbt hb2 c18 hP
            have hsz2 := HP2.out.lt
            go_wp2_with (at_builtin; refine wpList_append_own2 rfl _ _ 73 rfl (w.heap.size + 1) 3 i0 _ 1 8 Tryz.underlying73 hi hz0 hz1 hz2 rfl (by decide) _ _ _ rfl (hown.alloc _) ⟨w2.heap.size, 0, none⟩ 1 1 [.int .i64 (s + 2)] rfl rfl ?c1 ?c2 (by decide) ?c3 ?c4 ?c5 ?_)
            case c1 => intro j u hu; exact one_cell w2 _ _ j u hu
            case c2 => intro u hu; simp at hu; subst hu; rfl
            case c3 => unfold maxLen; omega
            case c4 => omega
            case c5 => simp; omega
            intro v' w3 hown3 hgrow _
            obtain ⟨a3, cap3, rfl⟩ := ownsRow_shape hown3
            have hal := (Below.refl w2.heap.size w2).alloc (Nat.le_refl _) (Obj.cells #[.int .i64 (s + 2)] 3)
            have hbx : Below (w.heap.size + 1) (w2.alloc (Obj.cells #[.int .i64 (s + 2)] 3)) w3 := (Below.refl _ _).grown hgrow (by simp; omega) (fun k hk => by have := hown.lt k hk; omega)
            have HP3 := Lib.hid ((HP2.out.below hal hsz2).below hbx (by omega))
            have HB3 := Lib.hid ((HB2.out.alloc (by omega) (Obj.cells #[.int .i64 (s + 2)] 3)).trans (hbx.mono (by omega)))
            have HO3 := Lib.hid hown3
            have HI3 := Lib.hid (show ∀ x ∈ l ++ [s + 2], KM.sqR x = true ∧ KM.opn p x = true from fun x hx => by
              rcases List.mem_append.1 hx with h | h
              · exact HI.out x h
              · rw [List.mem_singleton] at h
                rw [h]
                have h2 := HF.out
                unfold KM.formed KM.formed1 at h2
                simp only [Bool.and_eq_true] at h2
                exact ⟨h2.1.1.1.2, h2.1.2⟩)
            clear hgrow hown3 hown hbx hal
            go_wp2_with fail
            go_roundw
            case rel => exact ⟨1, l ++ [s + 2], a3, cap3, by simp, rfl, by omega, by simp; omega, by rw [show KM.ints (l ++ [s + 2]) = KM.ints l ++ [.int .i64 (s + 2)] from KM.ints_append _ _]; simpa using HO3.out, HI3.out, HP3.out, HB3.out⟩
            case measure => simp [intOf]
      · have c18 := hP.part
        have ih := index90_1 (s + 2) (s - 2)
        rw [show ((1 : Nat) : Int) = 1 from rfl]
        have HP := Lib.hid hP
        cases hs : KM.sqR (s - 2)
        · have hq := Lib.hid (show ∀ w', Calls Tryz.prog 31 #[.int .i64 (s - 2)] w' fun e w'' => e = .returned (.bool false) ∧ w' = w'' by intro w'; have h := sqRight_any (s - 2) w'; rw [hs] at h; exact h)
          clear hs
          go_wp2_with (go_at_call 31; refine (hq.out _).mono ?_; rintro e w' ⟨rfl, rfl⟩)
          go_roundw
          case rel => exact ⟨2, l, a, cap, rfl, rfl, by omega, by omega, HO.out, HI.out, HP.out, HB1.out⟩
          case measure => simp [intOf]
        · have hq := Lib.hid (show ∀ w', Calls Tryz.prog 31 #[.int .i64 (s - 2)] w' fun e w'' => e = .returned (.bool true) ∧ w' = w'' by intro w'; have h := sqRight_any (s - 2) w'; rw [hs] at h; exact h)
          clear hs
          go_upto_if 30 with (first
            | (go_at_call 31; refine (hq.out _).mono ?_; rintro e w' ⟨rfl, rfl⟩)
            | (refine wpList_load_part rfl 26 (.tmp 4) rfl _ 0 rfl _ _ c18 Tryz.underlying26 rfl (hi26 p) ?_)
            | (go_at_call 68; refine (moveCastles_any p s (s - 2) 0 _ hp HW.out).mono ?_; rintro e w2 ⟨⟨b, rfl, hbt⟩, hb2⟩))
          have hsz := hP.lt
          have HP2 := Lib.hid (HP.out.below hb2 hsz)
          have HB2 := Lib.hid (HB1.out.step hb2)
          have hown := ownsRow_below HO.out hb2
          have hbz := Nat.le_trans HB1.out.size hb2.size
          cases b
          · have HO2 := Lib.hid hown
            clear hbt hb2 hown c18 hP
            go_wp2_with fail
            go_roundw
            case rel => exact ⟨2, l, a, cap, rfl, rfl, by omega, by omega, HO2.out, HI.out, HP2.out, HB2.out⟩
            case measure => simp [intOf]
          · have HF := Lib.hid (hbt rfl)
            clear hbt hb2 c18 hP
            have hsz2 := HP2.out.lt
            go_wp2_with (at_builtin; refine wpList_append_own2 rfl _ _ 73 rfl (w.heap.size + 1) 3 i0 _ 1 8 Tryz.underlying73 hi hz0 hz1 hz2 rfl (by decide) _ _ _ rfl (hown.alloc _) ⟨w2.heap.size, 0, none⟩ 1 1 [.int .i64 (s - 2)] rfl rfl ?c1 ?c2 (by decide) ?c3 ?c4 ?c5 ?_)
            case c1 => intro j u hu; exact one_cell w2 _ _ j u hu
            case c2 => intro u hu; simp at hu; subst hu; rfl
            case c3 => unfold maxLen; omega
            case c4 => omega
            case c5 => simp; omega
            intro v' w3 hown3 hgrow _
            obtain ⟨a3, cap3, rfl⟩ := ownsRow_shape hown3
            have hal := (Below.refl w2.heap.size w2).alloc (Nat.le_refl _) (Obj.cells #[.int .i64 (s - 2)] 3)
            have hbx : Below (w.heap.size + 1) (w2.alloc (Obj.cells #[.int .i64 (s - 2)] 3)) w3 := (Below.refl _ _).grown hgrow (by simp; omega) (fun k hk => by have := hown.lt k hk; omega)
            have HP3 := Lib.hid ((HP2.out.below hal hsz2).below hbx (by omega))
            have HB3 := Lib.hid ((HB2.out.alloc (by omega) (Obj.cells #[.int .i64 (s - 2)] 3)).trans (hbx.mono (by omega)))
            have HO3 := Lib.hid hown3
            have HI3 := Lib.hid (show ∀ x ∈ l ++ [s - 2], KM.sqR x = true ∧ KM.opn p x = true from fun x hx => by
              rcases List.mem_append.1 hx with h | h
              · exact HI.out x h
              · rw [List.mem_singleton] at h
                rw [h]
                have h2 := HF.out
                unfold KM.formed KM.formed1 at h2
                simp only [Bool.and_eq_true] at h2
                exact ⟨h2.1.1.1.2, h2.1.2⟩)
            clear hgrow hown3 hown hbx hal
            go_wp2_with fail
            go_roundw
            case rel => exact ⟨2, l ++ [s - 2], a3, cap3, by simp, rfl, by omega, by simp; omega, by rw [show KM.ints (l ++ [s - 2]) = KM.ints l ++ [.int .i64 (s - 2)] from KM.ints_append _ _]; simpa using HO3.out, HI3.out, HP3.out, HB3.out⟩
            case measure => simp [intOf]
    · obtain rfl : k = 2 := by omega
      clear hP
      go_wp2_with fail
      go_ret
      exact ⟨l, ⟨a, cap, rfl, ownsRow_base HO.out (by omega), HB1.out⟩, by omega, HI.out⟩

end Go.Proofs.YtgikglnfjkbnhaaGreat
