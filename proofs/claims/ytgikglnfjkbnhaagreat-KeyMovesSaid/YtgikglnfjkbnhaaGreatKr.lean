/-
  Who strikes a square: sees, from, Struck, Check, Strikes, walked.
-/
import Derived.Test.YtgikglnfjkbnhaaGreatKq
import Derived.Test.YtgikglnfjkbnhaaGreatKd
namespace Go.Proofs.YtgikglnfjkbnhaaGreat
open Go.RowKit
set_option maxHeartbeats 400000

theorem sees_any (ge : Nat) (b : Nat → Int) (s : Int) (w : World) (hb : KM.bok b) :
    Calls Tryz.prog 72 #[.pointer (some ⟨ge, 0, none⟩), .agg (KM.bval b), .int .i64 s] w fun e w' => e = .returned (.bool (KM.sqR s && KM.rightB b)) ∧ Below w.heap.size w w' := by
  have hP := BBox.new w b
  have HB := Lib.hid ((Below.refl w.heap.size w).alloc (Nat.le_refl _) (Obj.cells (KM.bval b) 24))
  by_cases hs : KM.sqR s = true
  · have HV := Lib.hid (show (KM.sqR s && KM.rightB b) = KM.rightB b by rw [hs, Bool.true_and])
    go_enter Tryz.func72, Tryz.ntmps72
    go_wp2_with (first
      | (go_at_call 31; refine (sqRight_any _ _).mono ?_; rintro e w' ⟨rfl, rfl⟩)
      | (refine wpList_load_part rfl 24 (.tmp 4) rfl _ 0 rfl _ _ hP.part Tryz.underlying24 rfl (hi24 b) ?_)
      | (go_at_call 50; refine (boardRight_any _ _ hb).mono ?_; rintro e w2 ⟨rfl, hbl⟩; replace HB := Lib.hid (HB.out.step hbl); clear hbl))
    go_ret
    exact ⟨by rw [HV.out]; rfl, HB.out⟩
  · replace hs := Bool.eq_false_iff.2 hs
    have HV := Lib.hid (show (KM.sqR s && KM.rightB b) = false by rw [hs, Bool.false_and])
    go_enter Tryz.func72, Tryz.ntmps72
    go_wp2_with (first
      | (go_at_call 31; refine (sqRight_any _ _).mono ?_; rintro e w' ⟨rfl, rfl⟩)
      | (refine wpList_load_part rfl 24 (.tmp 4) rfl _ 0 rfl _ _ hP.part Tryz.underlying24 rfl (hi24 b) ?_)
      | (go_at_call 50; refine (boardRight_any _ _ hb).mono ?_; rintro e w2 ⟨rfl, hbl⟩; replace HB := Lib.hid (HB.out.step hbl); clear hbl))
    go_ret
    exact ⟨by rw [HV.out]; rfl, HB.out⟩

theorem KM.runRay_len {g : List Int → Int → List Int × Bool} (hg : ∀ s x, (g s x).1.length ≤ s.length + 1) : ∀ (l : List Int) (s : List Int), (KM.runRay g l s).length ≤ s.length + l.length
  | [], s => Nat.le_refl _
  | x :: l, s => by
    have h := hg s x
    unfold KM.runRay
    split
    · have := KM.runRay_len hg l (g s x).1
      simp; omega
    · simp; omega
theorem KM.runRays_len {g : List Int → Int → List Int × Bool} (hg : ∀ s x, (g s x).1.length ≤ s.length + 1) (m : Nat) (sq : Int) (hm : m ≤ 64) : ∀ (l : List (Int × Int)) (s : List Int), (KM.runRays g m sq l s).length ≤ s.length + 64 * l.length
  | [], s => Nat.le_refl _
  | x :: l, s => by
    unfold KM.runRays
    have h1 := KM.runRay_len hg (KM.walkL x.1 x.2 m sq) s
    have h2 := KM.walkL_length x.1 x.2 m sq
    have h3 := KM.runRays_len hg m sq hm l (KM.runRay g (KM.walkL x.1 x.2 m sq) s)
    simp; omega
theorem KM.along_len {g : List Int → Int → List Int × Bool} (hg : ∀ s x, (g s x).1.length ≤ s.length + 1) (man sq : Int) (s : List Int) : (KM.along g man sq s).length ≤ s.length + 512 := by
  unfold KM.along
  have h1 := KM.runRays_len hg (KM.mostN man) sq (KM.mostN_le man) (KM.stepsL man) s
  have h2 := KM.stepsL_length man
  omega
theorem KM.gFrom_len (b : Nat → Int) (man most : Int) (s : List Int) (x : Int) : (KM.gFrom b man most s x).1.length ≤ s.length + 1 := by unfold KM.gFrom; split <;> simp
theorem KM.gStrikes_len (b : Nat → Int) (s : List Int) (x : Int) : (KM.gStrikes b s x).1.length ≤ s.length + 1 := by simp [KM.gStrikes]
theorem KM.fromK_len (b : Nat → Int) (s sd most : Int) : ∀ (n : Nat) (l : List Int), (KM.fromK b s sd most n l).length ≤ l.length + 512 * n
  | 0, l => Nat.le_refl _
  | n + 1, l => by
    rw [KM.fromK]
    have h1 := KM.along_len (KM.gFrom_len b (KM.mk (n + 1) sd) most) (-(KM.mk (n + 1) sd)) s (KM.fromK b s sd most n l)
    have h2 := KM.fromK_len b s sd most n l
    refine Nat.le_trans h1 ?_
    generalize (KM.fromK b s sd most n l).length = x at *
    clear h1
    omega
theorem KM.mk_range (k s : Int) : -6 ≤ KM.mk k s ∧ KM.mk k s ≤ 6 := by unfold KM.mk; repeat' split
                                                                       all_goals omega

theorem from_any (ge : Nat) (b : Nat → Int) (s sd most : Int) (w : World) (hb : KM.bok b) (s0 : 0 ≤ s) (s1 : s < 64) :
    Calls Tryz.prog 73 #[.pointer (some ⟨ge, 0, none⟩), .agg (KM.bval b), .int .i64 s, .int .i64 sd, .int .i64 most] w fun e w' =>
      (∃ a cap, e = .returned (.slice a (KM.fromL b s sd most).length cap)) ∧ Below w.heap.size w w' := by
  have hgo : OutVar (w.heap.size + 1 + 1) [] (((w.alloc (Obj.cells (KM.bval b) 24)).alloc (Obj.cells #[Value.int IntKind.i64 most] 3)).alloc (Obj.cells #[Value.slice none 0 0] 73)) :=
    ⟨none, 0, by have := heap_alloc_new ((w.alloc (Obj.cells (KM.bval b) 24)).alloc (Obj.cells #[Value.int IntKind.i64 most] 3)) (Obj.cells #[Value.slice none 0 0] 73); simpa using this, World.ownsRow_nil _ _ _ _⟩
  have hgb : BBox (((w.alloc (Obj.cells (KM.bval b) 24)).alloc (Obj.cells #[Value.int IntKind.i64 most] 3)).alloc (Obj.cells #[Value.slice none 0 0] 73)) w.heap.size b := by
    unfold BBox
    rw [Below.heap_alloc _ _ _ (by simp; omega), Below.heap_alloc _ _ _ (by simp)]
    exact BBox.new w b
  have hgm : IBox (((w.alloc (Obj.cells (KM.bval b) 24)).alloc (Obj.cells #[Value.int IntKind.i64 most] 3)).alloc (Obj.cells #[Value.slice none 0 0] 73)) (w.heap.size + 1) most := by
    unfold IBox
    rw [Below.heap_alloc _ _ _ (by simp)]
    have := heap_alloc_new (w.alloc (Obj.cells (KM.bval b) 24)) (Obj.cells #[Value.int IntKind.i64 most] 3)
    simpa using this
  have HB := Lib.hid ((((Below.refl w.heap.size w).alloc (Nat.le_refl _) (Obj.cells (KM.bval b) 24)).alloc (by simp) (Obj.cells #[Value.int IntKind.i64 most] 3)).alloc (by simp; omega) (Obj.cells #[Value.slice none 0 0] 73))
  have HGO := Lib.hid hgo
  have HGB := Lib.hid hgb
  have HGM := Lib.hid hgm
  clear hgo hgb hgm
  go_enter Tryz.func73, Tryz.ntmps73
  go_wp2_with fail
  generalize (((w.alloc (Obj.cells (KM.bval b) 24)).alloc (Obj.cells #[Value.int IntKind.i64 most] 3)).alloc (Obj.cells #[Value.slice none 0 0] 73)) = w0 at *
  have HF : Hid (KM.fromK b s sd most 0 [] = []) := Lib.hid rfl
  go_loopw [12] (fun x wr => ∃ (n : Nat) (l : List Int), x = .int .i64 (n + 1) ∧ n ≤ 6 ∧ KM.fromK b s sd most n [] = l ∧ l.length ≤ 512 * n ∧ OutVar (w.heap.size + 1 + 1) l wr ∧ BBox wr w.heap.size b ∧ IBox wr (w.heap.size + 1) most ∧ Below w.heap.size w wr) (fun x _ => 7 - (intOf x).toNat)
  case atStart => exact ⟨0, [], rfl, by omega, HF.out, Nat.zero_le _, HGO.out, HGB.out, HGM.out, HB.out⟩
  case round =>
    obtain ⟨n, l, rfl, hn, hfk, hl, h1, h2, h3, h4⟩ := hrel
    have HK := Lib.hid hfk
    have H1 := Lib.hid h1
    have H2 := Lib.hid h2
    have H3 := Lib.hid h3
    have H4 := Lib.hid h4
    clear hfk HF HGO HGB HGM HB h1 h2 h3 h4
    by_cases hlt : n < 6
    · obtain ⟨m0, m1⟩ := KM.mk_range (n + 1) sd
      have HA := Lib.hid (show KM.along (KM.gFrom b (KM.mk (n + 1) sd) most) (-(KM.mk (n + 1) sd)) s l = KM.fromK b s sd most (n + 1) [] by rw [KM.fromK, HK.out])
      have HL := Lib.hid (KM.along_len (KM.gFrom_len b (KM.mk (n + 1) sd) most) (-(KM.mk (n + 1) sd)) s l)
      generalize hm : KM.mk (n + 1) sd = m at *
      have hba := (Below.refl wr.heap.size wr).alloc (Nat.le_refl _) (Obj.cells #[Value.int .i64 m] 3)
      obtain ⟨hov, hsf⟩ := H1.out.below hba
      have hk1 : IBox (wr.alloc (Obj.cells #[Value.int .i64 m] 3)) wr.heap.size m := heap_alloc_new wr _
      have hsz := H4.out.size
      have hb2 := H2.out.lt
      have hb3 := H3.out.lt
      have hbB := Lib.hid (show Below w.heap.size w (wr.alloc (Obj.cells #[Value.int .i64 m] 3)) from H4.out.alloc hsz _)
      have hfi : FI b m most (w.heap.size + 1 + 1) w.heap.size wr.heap.size (w.heap.size + 1) l (wr.alloc (Obj.cells #[Value.int .i64 m] 3)) :=
        ⟨hov, H2.out.below hba hb2, hk1, H3.out.below hba hb3, fun hf => by have := H1.out.lt (hsf _ hf); omega, fun hf => by have := H1.out.lt (hsf _ hf); omega, fun hf => by have := H1.out.lt (hsf _ hf); omega⟩
      have hlo := Lib.hid (show ∀ k, SF (w.heap.size + 1 + 1) (wr.alloc (Obj.cells #[Value.int .i64 m] 3)) k → w.heap.size ≤ k from fun k hf => by have := H1.out.lt (hsf _ hf); omega)
      have hcl := along_any (from_clo b m most (w.heap.size + 1 + 1) w.heap.size wr.heap.size (w.heap.size + 1) hb) (-m) s l _ hfi s0 s1 (by omega)
      clear hfi hk1 hov hsf hba hb2 hb3
      go_wp2_with (first | (go_at_call 41; refine (manMake_any _ _ _).mono ?_; rw [hm]; rintro e w' ⟨rfl, rfl⟩) | (go_at_call 75; refine hcl.mono ?_; rintro e w3 ⟨rfl, hi3, hc3⟩))
      rw [HA.out] at hi3
      have HN := Lib.hid hi3
      have HB3 := Lib.hid (hbB.out.trans (hc3.below w.heap.size (by simp; omega) hlo.out))
      clear hi3 hc3 hcl
      go_roundw
      case rel => exact ⟨n + 1, _, by go_num, by omega, rfl, by rw [← HA.out]; have := HL.out; omega, HN.out.1, HN.out.2.1, HN.out.2.2.2.1, HB3.out⟩
      case measure => simp [intOf]; omega
    · obtain rfl : n = 6 := by omega
      have hov := H1.out
      obtain ⟨a, cap, hc, hown⟩ := hov
      have hsz := H4.out.size
      have hgl := heap_lt hc
      have c0 := OutVar.cell hc
      have hso := sort_any (w.heap.size + 1 + 1 + 1) _ l.length l wr hown rfl (by omega) (by omega)
      have HC := Lib.hid hc
      clear hc hown
      go_wp2_with (go_at_call 48; refine hso.mono ?_; rintro e w3 ⟨rfl, hb3⟩; have c1 := (hb3.cell (p := ⟨w.heap.size + 1 + 1, 0, none⟩) (by simp)).trans c0; have HB3 := Lib.hid (H4.out.trans (hb3.mono (by omega))); clear hb3)
      go_ret
      exact ⟨⟨a, cap, by rw [KM.fromL, HK.out]; rfl⟩, HB3.out⟩

theorem struck_any (ge : Nat) (b : Nat → Int) (s sd : Int) (w : World) (hb : KM.bok b) :
    Calls Tryz.prog 56 #[.pointer (some ⟨ge, 0, none⟩), .agg (KM.bval b), .int .i64 s, .int .i64 sd] w fun e w' => e = .returned (.bool (KM.struck b s sd)) ∧ Below w.heap.size w w' := by
  have hP := BBox.new w b
  have HB := Lib.hid ((Below.refl w.heap.size w).alloc (Nat.le_refl _) (Obj.cells (KM.bval b) 24))
  by_cases hsee : (KM.sqR s && KM.rightB b) = true
  · have hs0 : 0 ≤ s := by rw [Bool.and_eq_true, KM.sqR_iff] at hsee; omega
    have hs1 : s < 64 := by rw [Bool.and_eq_true, KM.sqR_iff] at hsee; omega
    by_cases ho : 0 ≤ KM.other sd
    · have HV := Lib.hid (show KM.struck b s sd = decide (0 < (KM.fromL b s sd 1).length) by unfold KM.struck; rw [hsee]; simp [ho])
      go_enter Tryz.func56, Tryz.ntmps56
      go_wp2_with (first
      | (go_at_call 72; refine (sees_any _ _ _ _ hb).mono ?_; rw [hsee]; rintro e w2 ⟨rfl, hbl⟩; replace hP := hP.below hbl hP.lt; replace HB := Lib.hid (HB.out.step hbl); clear hbl)
      | (go_at_call 27; refine (manOther_any _ _).mono ?_; rintro e w' ⟨rfl, rfl⟩)
      | (refine wpList_load_part rfl 24 (.tmp 5) rfl _ 0 rfl _ _ hP.part Tryz.underlying24 rfl (hi24 b) ?_)
      | (go_at_call 73; refine (from_any _ _ _ _ _ _ hb hs0 hs1).mono ?_; rintro e w2 ⟨⟨a, cap, rfl⟩, hbl⟩; replace HB := Lib.hid (HB.out.step hbl); clear hbl))
      go_ret
      exact ⟨by rw [HV.out]; rfl, HB.out⟩
    · have ho' : decide (0 ≤ KM.other sd) = false := by simpa using ho
      have HV := Lib.hid (show KM.struck b s sd = false by unfold KM.struck; rw [ho']; simp)
      go_enter Tryz.func56, Tryz.ntmps56
      go_wp2_with (first
      | (go_at_call 72; refine (sees_any _ _ _ _ hb).mono ?_; rw [hsee]; rintro e w2 ⟨rfl, hbl⟩; replace hP := hP.below hbl hP.lt; replace HB := Lib.hid (HB.out.step hbl); clear hbl)
      | (go_at_call 27; refine (manOther_any _ _).mono ?_; rintro e w' ⟨rfl, rfl⟩)
      | (refine wpList_load_part rfl 24 (.tmp 5) rfl _ 0 rfl _ _ hP.part Tryz.underlying24 rfl (hi24 b) ?_)
      | (go_at_call 73; refine (from_any _ _ _ _ _ _ hb hs0 hs1).mono ?_; rintro e w2 ⟨⟨a, cap, rfl⟩, hbl⟩; replace HB := Lib.hid (HB.out.step hbl); clear hbl))
      go_ret
      exact ⟨by rw [HV.out]; rfl, HB.out⟩
  · replace hsee := Bool.eq_false_iff.2 hsee
    have HV := Lib.hid (show KM.struck b s sd = false by unfold KM.struck; rw [hsee]; simp)
    have hs0 : True := trivial
    have hs1 : True := trivial
    go_enter Tryz.func56, Tryz.ntmps56
    go_wp2_with (first
    | (go_at_call 72; refine (sees_any _ _ _ _ hb).mono ?_; rw [hsee]; rintro e w2 ⟨rfl, hbl⟩; replace hP := hP.below hbl hP.lt; replace HB := Lib.hid (HB.out.step hbl); clear hbl)
    | (go_at_call 27; refine (manOther_any _ _).mono ?_; rintro e w' ⟨rfl, rfl⟩)
    | (refine wpList_load_part rfl 24 (.tmp 5) rfl _ 0 rfl _ _ hP.part Tryz.underlying24 rfl (hi24 b) ?_)
    | (go_at_call 73; refine (from_any _ _ _ _ _ _ hb hs0 hs1).mono ?_; rintro e w2 ⟨⟨a, cap, rfl⟩, hbl⟩; replace HB := Lib.hid (HB.out.step hbl); clear hbl))
    go_ret
    exact ⟨by rw [HV.out]; rfl, HB.out⟩

theorem check_any (ge : Nat) (b : Nat → Int) (sd : Int) (w : World) (hb : KM.bok b) :
    Calls Tryz.prog 29 #[.pointer (some ⟨ge, 0, none⟩), .agg (KM.bval b), .int .i64 sd] w fun e w' => e = .returned (.bool (KM.check b sd)) ∧ Below w.heap.size w w' := by
  have hP := BBox.new w b
  have HB := Lib.hid ((Below.refl w.heap.size w).alloc (Nat.le_refl _) (Obj.cells (KM.bval b) 24))
  by_cases hk : 0 ≤ KM.king b sd
  · have hk' : decide (0 ≤ KM.king b sd) = true := by simpa using hk
    have HV := Lib.hid (show KM.check b sd = KM.struck b (KM.king b sd) (KM.other sd) by unfold KM.check; rw [hk', Bool.true_and])
    clear hk
    go_enter Tryz.func29, Tryz.ntmps29
    go_wp2_with (first
      | (refine wpList_load_part rfl 24 (.tmp 4) rfl _ 0 rfl _ _ hP.part Tryz.underlying24 rfl (hi24 b) ?_)
      | (go_at_call 55; refine (boardKing_any _ _ _ hb).mono ?_; rintro e w2 ⟨rfl, hbl⟩; replace hP := hP.below hbl hP.lt; replace HB := Lib.hid (HB.out.step hbl); have hlt := hP.lt; clear hbl))
    refine wp_region_idx (w.heap.size + 1) (by kernel_rfl) (by kernel_rfl) ?_
    repeat (first | go_big_quiet_skip | (go_big_quiet_want; first
      | (refine quiet_load_part 24 (.tmp 4) rfl _ 0 rfl (by omega) _ _ hP.part Tryz.underlying24 rfl (hi24 b) ?_; simp only [Act.put, List.setIfInBounds_toArray, List.set_cons_zero, List.set_cons_succ]; go_big_quiet_on)
      | (go_big_quiet_op; first | go_big_quiet_on | go_big_quiet_call ((first | (go_at_call 27; exact Idx.calls_same (manOther_any _ _)) | (go_at_call 56; exact Idx.calls (by omega) (struck_any _ b _ _ _ hb)))))))
    refine wpQuiet_nil ?_
    intro w4 hwq
    have hbq := Idx.get hwq
    clear hwq
    replace HB := Lib.hid (HB.out.trans (hbq.mono (Nat.le_add_right _ 1)))
    clear hbq hP hlt
    go_wp2_with fail
    go_ret
    exact ⟨by rw [HV.out]; rfl, HB.out⟩
  · have hk' : decide (0 ≤ KM.king b sd) = false := by simpa using hk
    have HV := Lib.hid (show KM.check b sd = false by unfold KM.check; rw [hk', Bool.false_and])
    clear hk
    go_enter Tryz.func29, Tryz.ntmps29
    go_wp2_with (first
      | (refine wpList_load_part rfl 24 (.tmp 4) rfl _ 0 rfl _ _ hP.part Tryz.underlying24 rfl (hi24 b) ?_)
      | (go_at_call 55; refine (boardKing_any _ _ _ hb).mono ?_; rintro e w2 ⟨rfl, hbl⟩; replace hP := hP.below hbl hP.lt; replace HB := Lib.hid (HB.out.step hbl); have hlt := hP.lt; clear hbl))
    refine wp_region_idx (w.heap.size + 1) (by kernel_rfl) (by kernel_rfl) ?_
    repeat (first | go_big_quiet_skip | (go_big_quiet_want; first
      | (refine quiet_load_part 24 (.tmp 4) rfl _ 0 rfl (by omega) _ _ hP.part Tryz.underlying24 rfl (hi24 b) ?_; simp only [Act.put, List.setIfInBounds_toArray, List.set_cons_zero, List.set_cons_succ]; go_big_quiet_on)
      | (go_big_quiet_op; first | go_big_quiet_on | go_big_quiet_call ((first | (go_at_call 27; exact Idx.calls_same (manOther_any _ _)) | (go_at_call 56; exact Idx.calls (by omega) (struck_any _ b _ _ _ hb)))))))
    refine wpQuiet_nil ?_
    intro w4 hwq
    have hbq := Idx.get hwq
    clear hwq
    replace HB := Lib.hid (HB.out.trans (hbq.mono (Nat.le_add_right _ 1)))
    clear hbq hP hlt
    go_wp2_with fail
    go_ret
    exact ⟨by rw [HV.out]; rfl, HB.out⟩

theorem attackNew_any (w : World) : Calls Tryz.prog 15 #[] w fun e w' => e = .returned (.pointer (some ⟨w.heap.size, 0, none⟩)) ∧ Below w.heap.size w w' := by
  go_enter Tryz.func15, Tryz.ntmps15
  go_wp2
  go_ret
  exact ⟨rfl, (Below.refl _ _).alloc (Nat.le_refl _) _⟩

end Go.Proofs.YtgikglnfjkbnhaaGreat
