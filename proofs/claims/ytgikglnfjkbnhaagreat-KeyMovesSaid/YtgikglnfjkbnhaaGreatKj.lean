/-
  Along, walked: what goes along a man's rays, with a closure that keeps a list.
-/
import Derived.Test.YtgikglnfjkbnhaaGreatKi
namespace Go.Proofs.YtgikglnfjkbnhaaGreat
open Go.RowKit
set_option maxHeartbeats 400000

/-- None of the value's own block belongs to the footprint. -/
def Out (F : World → Nat → Prop) (w : World) (v : Value) : Prop := ∀ k, v.ownBlock = some k → ¬ F w k

theorem ownsRow_chg {F : World → Nat → Prop} {w w' : World} {base E size : Nat} {v : Value} {n : Nat} {xs : List Value} (h : w.ownsRow base E size v n xs) (ho : Out F w v) (hC : Chg F w w') : w'.ownsRow base E size v n xs ∧ Out F w' v := by
  refine ⟨⟨h.1, ?_⟩, fun k hk hf => ?_⟩
  · rcases h.2 with hn | ⟨g, cap, cur, rfl, hbg, hg, r⟩
    · exact .inl hn
    · exact .inr ⟨g, cap, cur, rfl, hbg, by rw [hC.keep g (heap_lt hg) (ho g rfl)]; exact hg, r⟩
  · have hlt := (h.lt k hk).2
    rcases hC.new k hf with h1 | h1
    · exact ho k hk h1
    · omega

theorem KM.stepsL_ne (m : Int) : ∀ x ∈ KM.stepsL m, ¬ (x.1 = 0 ∧ x.2 = 0) := by
  unfold KM.stepsL KM.pawnL
  repeat' split
  all_goals (simp [KM.straightL, KM.slantL, KM.jumpsL])

theorem hi112 (x y : Value) : (Tryz.prog.info? 112).map (·.size) = some (#[x, y] : Array Value).size := by kernel_rfl

theorem two_cells {w : World} {g o : Nat} {x y : Value} (h : w.cell? ⟨g, o, none⟩ = some x) (k : w.cell? ⟨g, o + 1, none⟩ = some y) {j : Nat} {v : Value} (hv : [x, y][j]? = some v) : w.cell? ⟨g, o + j, none⟩ = some v := by
  match j with
  | 0 => simp at hv; subst hv; exact h
  | 1 => simp at hv; subst hv; exact k
  | j + 2 => simp at hv

theorem KM.runRay_no {σ : Type} {g : σ → Int → σ × Bool} {s : σ} {y : Int} {l : List Int} (h : (g s y).2 = false) : KM.runRay g (y :: l) s = (g s y).1 := by
  rw [KM.runRay, if_neg (by rw [h]; exact Bool.false_ne_true)]
theorem KM.runRay_yes {σ : Type} {g : σ → Int → σ × Bool} {s : σ} {y : Int} {l : List Int} (h : (g s y).2 = true) : KM.runRay g (y :: l) s = KM.runRay g l (g s y).1 := by
  rw [KM.runRay, if_pos h]

theorem KM.stepsL_pos (m : Int) : 0 < (KM.stepsL m).length := by
  unfold KM.stepsL KM.pawnL
  repeat' split
  all_goals decide

theorem along_any {n : Nat} {caps : Array Value} {g : List Int → Int → List Int × Bool} {I : List Int → World → Prop} {F : World → Nat → Prop} (C : Clo n caps g I F)
    (man sq : Int) (s : List Int) (w : World) (h : I s w) (s0 : 0 ≤ sq) (s1 : sq < 64) (hl : s.length ≤ 50000) :
    Calls Tryz.prog 75 #[.int .i64 man, .int .i64 sq, .func (.func n) #[] caps] w fun e w' => e = .returned (.tuple #[]) ∧ I (KM.along g man sq s) w' ∧ Chg F w w' := by
  have HI := Lib.hid h
  have HC := Lib.hid C
  clear h C
  have hlen := KM.stepsL_length man
  have hmost := KM.mostN_le man
  replace hl := Lib.hid hl
  replace hlen := Lib.hid hlen
  replace hmost := Lib.hid hmost
  go_enter Tryz.func75, Tryz.ntmps75
  go_wp2_with (go_at_call 92; refine (steps_any _ _).mono ?_; rintro e w1 ⟨v1, rfl, hown, hb⟩; obtain ⟨gs, cap, rfl⟩ := ownsRow_some hown (KM.stepsL_pos man); have HO := Lib.hid hown; have HB := Lib.hid hb; clear hown hb)
  generalize hN : KM.stepsL man = L at *
  have HNE := Lib.hid (show ∀ x ∈ L, ¬ (x.1 = 0 ∧ x.2 = 0) by rw [← hN]; exact KM.stepsL_ne man)
  have HA := Lib.hid (show KM.runRays g (KM.mostN man) sq L s = KM.along g man sq s by unfold KM.along; rw [hN])
  generalize KM.mostN man = m at *
  clear hN
  go_loopw [19] (fun i wr => ∃ (k : Nat) (s' : List Int), i = .int .i64 k ∧ k ≤ L.length ∧ s'.length ≤ s.length + 64 * k ∧ KM.runRays g m sq (L.drop k) s' = KM.along g man sq s ∧ I s' wr ∧ Chg F w wr ∧ wr.ownsRow w.heap.size 112 2 (.slice (some ⟨gs, 0, none⟩) L.length cap) L.length (KM.pcs L) ∧ Out F wr (.slice (some ⟨gs, 0, none⟩) L.length cap)) (fun i _ => L.length - (intOf i).toNat)
  case atStart =>
    obtain ⟨h1, h2⟩ := HC.out.stable s w w1 HI.out HB.out
    exact ⟨0, s, rfl, Nat.zero_le _, by omega, by rw [List.drop_zero]; exact HA.out, h1, Chg.of_below HB.out h2, HO.out, fun k hk hf => by
      have := HC.out.lt s w k HI.out (h2 k hf); have := (HO.out.lt k hk).1; omega⟩
  case round =>
    obtain ⟨k, s', rfl, hk, hsl, hrun, hI, hc, hown, hout⟩ := hrel
    have HR := Lib.hid hrun
    have HI1 := Lib.hid hI
    have HC1 := Lib.hid hc
    have HO1 := Lib.hid hown
    have HX1 := Lib.hid hout
    clear hrun hI hc hout HO HA
    have hLl := hlen.out
    by_cases hlt : k < L.length
    · obtain ⟨x, hx⟩ : ∃ x, L[k]? = some x := ⟨_, List.getElem?_eq_getElem hlt⟩
      have hd := Lib.hid (show L.drop k = x :: L.drop (k + 1) by
        rw [List.drop_eq_getElem_cons hlt]
        rw [List.getElem?_eq_getElem hlt] at hx
        injection hx with hx
        rw [hx])
      have hne := HNE.out x (List.mem_of_getElem? hx)
      obtain ⟨p1, p2⟩ := KM.pcs_get hx
      have c1 := hown.cellAt (k * 2) (by omega)
      have c2 := hown.cellAt (k * 2 + 1) (by omega)
      rw [p1] at c1
      rw [p2] at c2
      replace hne := Lib.hid hne
      clear p1 p2 hown hx
      obtain ⟨x1, x2⟩ := x
      go_wp2_with (first
        | (refine wpList_load_part rfl 112 (.tmp 21) rfl gs (k * 2) ?d1 #[.int .i64 x1, .int .i64 x2] _ ?d2 Tryz.underlying112 rfl (hi112 _ _) ?_)
        | (go_at_call 93; refine (walk_any _ _ _ _ _ hmost.out s0 s1 hne.out).mono ?_; rintro e w2 ⟨a2, cap2, rfl, hown2, hb2⟩))
      case d2 => intro j v hv; exact two_cells c1 c2 hv
      clear c1 c2
      have HB2 := Lib.hid (show Below wr.heap.size wr w2 from ((Below.refl wr.heap.size wr).alloc (Nat.le_refl _) _).trans (hb2.mono (by simp)))
      have HQ := Lib.hid (show ∀ y ∈ KM.walkL x1 x2 m sq, 0 ≤ y ∧ y < 64 from KM.walkL_in x1 x2 m sq)
      have hQl := KM.walkL_length x1 x2 m sq
      have HR2 := Lib.hid (show KM.runRays g m sq (L.drop (k + 1)) (KM.runRay g (KM.walkL x1 x2 m sq) s') = KM.along g man sq s by
        have h := HR.out
        rw [hd.out] at h
        exact h)
      have HW := Lib.hid (ownsRow_base hown2 (show wr.heap.size ≤ _ by simp))
      clear hown2 hb2 HR hd hne
      generalize KM.walkL x1 x2 m sq = q at *
      replace hQl := Nat.le_trans hQl hmost.out
      go_loopw [28] (fun i wx => ∃ (j : Nat) (s2 : List Int), i = .int .i64 j ∧ j ≤ q.length ∧ s2.length ≤ s'.length + j ∧ KM.runRay g (q.drop j) s2 = KM.runRay g q s' ∧ I s2 wx ∧ Chg F w wx
        ∧ wx.ownsRow w.heap.size 112 2 (.slice (some ⟨gs, 0, none⟩) L.length cap) L.length (KM.pcs L) ∧ Out F wx (.slice (some ⟨gs, 0, none⟩) L.length cap)
        ∧ wx.ownsRow wr.heap.size 3 1 (.slice a2 q.length cap2) q.length (KM.ints q) ∧ Out F wx (.slice a2 q.length cap2)) (fun i _ => q.length - (intOf i).toNat)
      case atStart =>
        obtain ⟨h1, h2⟩ := HC.out.stable s' wr w2 HI1.out HB2.out
        have h3 := Chg.of_below HB2.out h2
        obtain ⟨h4, h5⟩ := ownsRow_chg HO1.out HX1.out h3
        exact ⟨0, s', rfl, Nat.zero_le _, by omega, by rw [List.drop_zero], h1, HC1.out.trans h3, h4, h5, HW.out, fun k hk hf => by
          have := HC.out.lt s' wr k HI1.out (h2 k hf); have := (HW.out.lt k hk).1; omega⟩
      case round =>
        obtain ⟨j, s2, rfl, hj, hsl2, hrun, hI, hc, hown, hout, hown2, hout2⟩ := hrel
        have HR3 := Lib.hid hrun
        have HI2 := Lib.hid hI
        have HC2 := Lib.hid hc
        have HO2 := Lib.hid hown
        have HX2 := Lib.hid hout
        have HW2 := Lib.hid hown2
        have HY2 := Lib.hid hout2
        clear hrun hI hc hown hout hout2
        by_cases hjt : j < q.length
        · obtain ⟨y, hy⟩ : ∃ y, q[j]? = some y := ⟨_, List.getElem?_eq_getElem hjt⟩
          have hd := Lib.hid (show q.drop j = y :: q.drop (j + 1) by
            rw [List.drop_eq_getElem_cons hjt]
            rw [List.getElem?_eq_getElem hjt] at hy
            injection hy with hy
            rw [hy])
          obtain ⟨y0, y1⟩ := HQ.out y (List.mem_of_getElem? hy)
          obtain ⟨gq, capq, he⟩ := ownsRow_some hown2 (by omega)
          injection he with e1 e2 e3
          subst e1
          subst e3
          have c1 := hown2.cellAt j (by omega)
          rw [KM.ints_get hy] at c1
          clear hown2 hy
          have hcl := HC.out.call s2 _ y HI2.out y0 y1 (by have := hl.out; have := hlen.out; omega)
          have hen := HC.out.enter
          have hgr := HC.out.grow s2 y
          have HRN := Lib.hid (show KM.runRay g (y :: q.drop (j + 1)) s2 = KM.runRay g q s' by rw [← hd.out]; exact HR3.out)
          cases hgb : (g s2 y).2
          · rw [hgb] at hcl
            have HRF := Lib.hid (show (g s2 y).1 = KM.runRay g q s' by
              have h := HRN.out
              rw [KM.runRay_no hgb] at h
              exact h)
            clear hgb
            go_wp2_with (with_reducible refine hcl.mono ?_; rintro e w3 ⟨rfl, hi3, hc3⟩)
            obtain ⟨h4, h5⟩ := ownsRow_chg HO2.out HX2.out hc3
            have HO3 := Lib.hid h4
            have HX3 := Lib.hid h5
            have HC3 := Lib.hid (HC2.out.trans hc3)
            have HI3 := Lib.hid hi3
            clear h4 h5 hc3 hi3 hcl
            go_roundw
            case rel => exact ⟨k + 1, (g s2 y).1, by go_num, by omega, by omega, by rw [HRF.out]; exact HR2.out, HI3.out, HC3.out, HO3.out, HX3.out⟩
            case measure => simp [intOf]; omega
          · rw [hgb] at hcl
            have HRF := Lib.hid (show KM.runRay g (q.drop (j + 1)) (g s2 y).1 = KM.runRay g q s' by
              have h := HRN.out
              rw [KM.runRay_yes hgb] at h
              exact h)
            clear hgb
            go_wp2_with (with_reducible refine hcl.mono ?_; rintro e w3 ⟨rfl, hi3, hc3⟩)
            obtain ⟨h4, h5⟩ := ownsRow_chg HO2.out HX2.out hc3
            obtain ⟨h6, h7⟩ := ownsRow_chg HW2.out HY2.out hc3
            have HO3 := Lib.hid h4
            have HX3 := Lib.hid h5
            have HW3 := Lib.hid h6
            have HY3 := Lib.hid h7
            have HC3 := Lib.hid (HC2.out.trans hc3)
            have HI3 := Lib.hid hi3
            clear h4 h5 h6 h7 hc3 hi3 hcl
            go_roundw
            case rel => exact ⟨j + 1, (g s2 y).1, by go_num, by omega, by omega, HRF.out, HI3.out, HC3.out, HO3.out, HX3.out, HW3.out, HY3.out⟩
            case measure => simp [intOf]; omega
        · obtain rfl : j = q.length := by omega
          have HRF := Lib.hid (show s2 = KM.runRay g q s' by
            have h := HR3.out
            rw [List.drop_length] at h
            exact h)
          clear hown2
          go_wp2_with fail
          go_roundw
          case rel => exact ⟨k + 1, s2, by go_num, by omega, by omega, by rw [HRF.out]; exact HR2.out, HI2.out, HC2.out, HO2.out, HX2.out⟩
          case measure => simp [intOf]; omega
    · obtain rfl : k = L.length := by omega
      have HRF := Lib.hid (show s' = KM.along g man sq s by
        have h := HR.out
        rw [List.drop_length] at h
        exact h)
      clear hown
      go_wp2_with fail
      refine bodyPost_end (results_none rfl _ _ _) rfl ⟨rfl, ?_, HC1.out⟩
      rw [← HRF.out]
      exact HI1.out

end Go.Proofs.YtgikglnfjkbnhaaGreat
