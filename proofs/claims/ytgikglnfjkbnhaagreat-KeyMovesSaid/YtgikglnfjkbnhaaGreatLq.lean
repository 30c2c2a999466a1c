/-
  alfillaw17.KeyMoves, walked.
-/
import Derived.Test.YtgikglnfjkbnhaaGreatLo
import Derived.Test.YtgikglnfjkbnhaaGreatLp
import Derived.Test.YtgikglnfjkbnhaaGreatKc
namespace Go.Proofs.YtgikglnfjkbnhaaGreat
open Go.RowKit
set_option maxHeartbeats 1000000
set_option maxRecDepth 20000

theorem keyMoves_walk (p : KM.Po) (w : World) (hp : p.wf) : Calls Tryz.prog 3 #[.agg (KM.pval p)] w fun e w' => e = .returned (.bool true) ∧ Below w.heap.size w w' := by
  have hP := PBox.new w p
  have HB := Lib.hid ((Below.refl w.heap.size w).alloc (Nat.le_refl _) (Obj.cells (KM.pval p) 26))
  have hS : w.heap.size + 1 ≤ (w.alloc (Obj.cells (KM.pval p) 26)).heap.size := by simp
  go_enter Tryz.func3, Tryz.ntmps3
  go_upto_region 1 with fail
  generalize w.alloc (Obj.cells (KM.pval p) 26) = w0 at *
  go_upto_region 4 with (first
    | (go_at_call 4; refine (wakes_any _).mono ?_; rintro e w1 ⟨rfl, hb1⟩; have hP1 := hP.below hb1 hP.lt)
    | (refine wpList_load_part rfl 26 (.tmp 1) rfl _ 0 rfl _ _ hP1.part Tryz.underlying26 rfl (hi26 p) ?_)
    | (go_at_call 5; refine (keyOf_any p _ hp).mono ?_; rintro e w2 ⟨rfl, hb2⟩))
  have hP2 := hP1.below hb2 hP1.lt
  have hb12 := hb1.step hb2
  have hS2 := Nat.le_trans hS hb12.size
  have HB2 := Lib.hid (HB.out.trans (hb12.mono (by omega)))
  have hPl := hP2.lt
  clear hP hP1 hb1 hb2 hb12 HB hS
  refine wp_region_plan (fun w' => Below w2.heap.size w2 w') [(1, false), (4, false), (0, true), (2, true), (3, false)] (by kernel_rfl) (by kernel_rfl) (fun c a w d v h => by cases d <;> exact h) ((Below.refl _ _).drew) ?_
  refine plan_load rfl ?c0 26 (.tmp 1) rfl w.heap.size 0 rfl (KM.pval p) _ ?d0 Tryz.underlying26 rfl (hi26 p) ?_
  case c0 => rfl
  case d0 => exact fun w' hC => (hP2.below hC hPl).part
  simp only [Act.put, List.setIfInBounds_toArray, List.set_cons_zero, List.set_cons_succ]
  refine plan_val (v := .int .i64 0) rfl ?c1 (fun w' _ => ?d1) ?_
  case c1 => rfl
  case d1 => kernel_rfl
  simp only [Act.put, List.setIfInBounds_toArray, List.set_cons_zero, List.set_cons_succ]
  refine plan_call 6 #[] rfl ?c2 (fun w' => ?d2) ?_
  case c2 => rfl
  case d2 => kernel_rfl
  refine (gnew_any _).mono ?_
  rintro e w3 ⟨gg, ge, rfl, hG, hb3⟩
  have hb23 : Below w2.heap.size w2 w3 := (Below.refl _ _).drew.trans hb3
  refine ⟨_, rfl, hb23, ?_⟩
  simp only [Act.put, List.setIfInBounds_toArray, List.set_cons_zero, List.set_cons_succ]
  refine plan_call 7 #[.pointer (some ⟨gg, 0, none⟩), .agg (KM.pval p)] rfl ?c3 (fun w' => ?d3) ?_
  case c3 => rfl
  case d3 => kernel_rfl
  refine (all_any gg ge p w3 hp hG).mono ?_
  rintro e w4 ⟨ms, ⟨a, cap, rfl, hown, hb4⟩, hl, hin, hne⟩
  have hb24 := hb23.step hb4
  refine ⟨_, rfl, hb24, ?_⟩
  simp only [Act.put, List.setIfInBounds_toArray, List.set_cons_zero, List.set_cons_succ]
  refine plan_val (v := .int .i64 ms.length) rfl ?c4 (fun w' _ => ?d4) ?_
  case c4 => rfl
  case d4 => kernel_rfl
  simp only [Act.put, List.setIfInBounds_toArray, List.set_cons_zero, List.set_cons_succ]
  simp only [wpPlan]
  have HP4 := Lib.hid (hP2.below hb24 hPl)
  have HB4 := Lib.hid (HB2.out.trans (hb24.mono (by omega)))
  have HO4 := Lib.hid hown
  have hS3 := hb23.size
  have HI := Lib.hid hin
  have HN := Lib.hid hne
  have HL := Lib.hid (show ms.length = ms.length from rfl)
  have HX := Lib.hid (show ∀ k, k < ms.length → ∃ m, ms[k]? = some m from fun k hk => ⟨_, List.getElem?_eq_getElem hk⟩)
  clear hP2 hb3 hb4 hb23 hb24 HB2 hown hin hne hG
  generalize ms.length = n at *
  clear HL
  go_wp2_with fail
  go_loopw [16] (fun v16 wr => ∃ k : Nat, k ≤ n ∧ v16 = .int .i64 k ∧ wr.ownsRow w3.heap.size 35 3 (.slice a n cap) n (KM.mvs ms) ∧ PBox wr w.heap.size p ∧ Below w.heap.size w wr) (fun v _ => n - (intOf v).toNat)
  case atStart => exact ⟨0, Nat.zero_le _, rfl, HO4.out, HP4.out, HB4.out⟩
  case round =>
    clear HO4 HP4 HB4
    obtain ⟨k, hk, rfl, hrow, hP, hb⟩ := hrel
    have HBr := Lib.hid hb
    have HRr := Lib.hid hrow
    have hPr := hP.lt
    by_cases hlt : k < n
    · obtain ⟨⟨f, t, r⟩, hm⟩ := HX.out k hlt
      obtain ⟨g2, cap2', he⟩ := ownsRow_some hrow (by omega)
      injection he with e1 e2 e3
      subst e1
      subst e3
      clear e2
      have hpart : ∀ j v, (#[.int .i64 f, .int .i64 t, .int .i64 r] : Array Value)[j]? = some v → wr.cell? ⟨g2, k * 3 + j, none⟩ = some v := by
        intro j v hv
        obtain ⟨m0, m1, m2⟩ := KM.mvs_get hm
        have hj : j = 0 ∨ j = 1 ∨ j = 2 := by
          by_cases h3 : j < 3
          · omega
          · rw [Array.getElem?_eq_none (by simp; omega)] at hv; cases hv
        rcases hj with rfl | rfl | rfl
        · rw [Nat.add_zero, hrow.cellAt _ (by omega), m0]; exact hv
        · rw [hrow.cellAt _ (by omega), m1]; exact hv
        · rw [hrow.cellAt _ (by omega), m2]; exact hv
      have HMk := Lib.hid (show ∀ w', Calls Tryz.prog 8 #[.agg (KM.pval p), .agg #[.int .i64 f, .int .i64 t, .int .i64 r]] w' fun e w'' => (∃ q : KM.Po, q.wf ∧ e = .returned (.tuple #[.agg (KM.pval q), .int .i64 0])) ∧ Below w'.heap.size w' w'' from
        fun w' => make_any p f t r w' hp (HN.out (by omega)) (HI.out (f, t, r) (List.mem_of_getElem? hm)))
      have HP := Lib.hid hP
      clear hm hrow hb hP
      go_upto_region 7 with (refine wpList_load_part rfl 35 (.tmp 18) rfl _ (k * 3) rfl _ _ hpart Tryz.underlying35 rfl (hi35 _ _ _) ?_)
      have hM : MBox (wr.alloc (Obj.cells #[.int .i64 f, .int .i64 t, .int .i64 r] 35)) wr.heap.size f t r := heap_alloc_new wr _
      have hb5 := (Below.refl wr.heap.size wr).alloc (Nat.le_refl _) (Obj.cells #[.int .i64 f, .int .i64 t, .int .i64 r] 35)
      generalize wr.alloc (Obj.cells #[.int .i64 f, .int .i64 t, .int .i64 r] 35) = w5 at *
      have hP5 := HP.out.below hb5 hPr
      clear hpart HP
      go_upto_region 8 with (first
        | (refine wpList_load_part rfl 26 (.tmp 1) rfl _ 0 rfl _ _ hP5.part Tryz.underlying26 rfl (hi26 p) ?_)
        | (refine wpList_load_part rfl 35 (.tmp 5) rfl _ 0 rfl _ _ hM.part Tryz.underlying35 rfl (hi35 _ _ _) ?_)
        | (go_at_call 8; refine (HMk.out _).mono ?_; rintro e w6 ⟨⟨q, hq, rfl⟩, hb6⟩)
        | (refine wpList_store_row rfl 26 (.tmp 6) (.tmp 24) rfl _ (KM.pval q) rfl rfl 26 Tryz.zeroCells26 (heap_alloc_new w6 _) (hi26 q) (zero26_size q) (KM.pval_one q) ?_))
      have hQ : PBox ((w6.alloc (Obj.cells Tryz.zeroCells26 26)).setRow w6.heap.size (KM.pval q)) w6.heap.size q := heap_setRow_same (heap_alloc_new w6 _)
      have hb7 := below_setRow ((Below.refl w6.heap.size w6).alloc (Nat.le_refl _) (Obj.cells Tryz.zeroCells26 26)) (Nat.le_refl w6.heap.size) (cs := KM.pval q)
      generalize (w6.alloc (Obj.cells Tryz.zeroCells26 26)).setRow w6.heap.size (KM.pval q) = w7 at *
      have hs56 := hb6.size
      have hs5 := hb5.size
      have hp5 := hP5.lt
      generalize w6.heap.size = gq at *
      have hP7 := (hP5.below hb6 hP5.lt).below hb7 (by omega)
      have hbr7 : Below wr.heap.size wr w7 := hb5.trans ((hb6.mono hs5).trans (hb7.mono (by omega)))
      have hq7 := hQ.lt
      have hp7 := hP7.lt
      have HBH := Lib.hid (show ∀ w', Calls Tryz.prog 9 #[.int .u64 (KM.kOf p), .agg (KM.pval p), .agg (KM.pval q)] w' fun e w'' => e = .returned (.int .u64 (KM.kOf q)) ∧ Below w'.heap.size w' w'' by
        intro w'; have h := behind_any (KM.kOf p) p q w' hp hq; rw [KM.behind_eq] at h; exact h)
      have bn : (KM.kOf q != KM.kOf q) = false := by simp
      try simp only [Act.put]
      clear hb5 hb6 hb7 hP5 hM HMk
      refine wp_region_idx w7.heap.size (by kernel_rfl) (by kernel_rfl) ?_
      repeat (first | go_big_quiet_skip | (go_big_quiet_want; first
        | (refine quiet_load_part 26 (.tmp 1) rfl _ 0 rfl (by omega) _ _ hP7.part Tryz.underlying26 rfl (hi26 p) ?_; simp only [Act.put, List.setIfInBounds_toArray, List.set_cons_zero, List.set_cons_succ]; go_big_quiet_on)
        | (refine quiet_load_part 26 (.tmp 6) rfl _ 0 rfl (by omega) _ _ hQ.part Tryz.underlying26 rfl (hi26 q) ?_; simp only [Act.put, List.setIfInBounds_toArray, List.set_cons_zero, List.set_cons_succ]; go_big_quiet_on)
        | (go_big_quiet_op; first | go_big_quiet_on | go_big_quiet_call ((first | (go_at_call 9; exact Idx.calls (Nat.le_refl _) (HBH.out _)) | (go_at_call 10; exact Idx.calls (Nat.le_refl _) (refOf_any q _ hq)))))))
      refine wpQuiet_nil ?_
      intro w8 hw'
      have hb8 := Idx.get hw'
      clear hw'
      have hbr8 : Below wr.heap.size wr w8 := hbr7.trans (hb8.mono hbr7.size)
      have HR8 := Lib.hid (ownsRow_below HRr.out hbr8)
      have HP8 := Lib.hid (hP7.below hb8 hp7)
      have HB8 := Lib.hid (HBr.out.step hbr8)
      clear hb8 hbr7 hbr8 hP7 hQ HBH HRr HBr
      go_wp2_with fail
      go_roundw
      case rel => exact ⟨k + 1, by omega, by go_num, HR8.out, HP8.out, HB8.out⟩
      case measure => simp [intOf]; omega
    · obtain rfl : k = n := by omega
      clear hP hrow hb
      go_wp2_with fail
      go_ret
      exact ⟨rfl, HBr.out⟩

end Go.Proofs.YtgikglnfjkbnhaaGreat
