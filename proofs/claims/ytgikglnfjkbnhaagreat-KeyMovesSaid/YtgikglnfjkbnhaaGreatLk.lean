/-
  gen.pawn, walked (printed by mkpawn.py).
-/
import Derived.Test.YtgikglnfjkbnhaaGreatLi
import Derived.Test.YtgikglnfjkbnhaaGreatLj
import Derived.Deep.CutBlock
namespace Go.Proofs.YtgikglnfjkbnhaaGreat
open Go.RowKit
set_option maxHeartbeats 1000000
set_option maxRecDepth 20000

theorem KM.passB_ep {p : KM.Po} (h : KM.passB p = true) : p.b p.ep.toNat = 0 := by
  unfold KM.passB KM.pass2 at h
  simp only [Bool.and_eq_true, decide_eq_true_eq] at h
  exact h.2.1.1

theorem pawn_0 (gg ge : Nat) (p : KM.Po) (s : Int) (w : World) (hp : p.wf) (hG : GBox w gg ge) (hr : KM.rightB p.b = true) (s0 : 0 ≤ s) (s1 : s < 64) (hu : p.turn = 0) (hk : KM.kind (p.b s.toNat) = 1) (hsd : KM.side (p.b s.toNat) = p.turn) (hz : p.b s.toNat ≠ 0) :
    Calls Tryz.prog 44 #[.pointer (some ⟨gg, 0, none⟩), .agg (KM.pval p), .int .i64 s] w fun e w' => ∃ l, RetInts w l e w' ∧ l.length ≤ 514 ∧ ∀ x ∈ l, (KM.sqR x = true ∧ KM.opn p x = true) ∧ KM.fore p s x := by
  have hP := PBox.new w p
  have HB := Lib.hid ((Below.refl w.heap.size w).alloc (Nat.le_refl _) (Obj.cells (KM.pval p) 26))
  have hG' := hG.below ((Below.refl w.heap.size w).alloc (Nat.le_refl _) (Obj.cells (KM.pval p) 26)) (heap_lt hG)
  have hgl := heap_lt hG
  obtain ⟨i0, hi, hz0, hz1, hz2⟩ := info_parts info3s
  have hS : w.heap.size + 1 ≤ (w.alloc (Obj.cells (KM.pval p) 26)).heap.size := by simp
  have hown0 : (w.alloc (Obj.cells (KM.pval p) 26)).ownsRow (w.heap.size + 1) 3 1 (.slice none 0 0) 0 [] := World.ownsRow_nil _ _ _ _
  have HR := Lib.hid hr
  have HK := Lib.hid hk
  have HSD := Lib.hid hsd
  have HU := Lib.hid hu
  have HZ := Lib.hid hz
  have HG0 := Lib.hid hG
  have c0 := hP.turn
  rw [hu] at c0
  clear hr hk hsd hu hG hz hG'
  go_enter Tryz.func44, Tryz.ntmps44
  go_upto_block 0 with (go_at_call 63; refine (genRanks_any _ _).mono ?_; rintro e w2 ⟨rfl, rfl⟩)
  clear c0
  generalize w.alloc (Obj.cells (KM.pval p) 26) = w0 at *
  have HP0 := Lib.hid hP
  have HO0 := Lib.hid hown0
  clear hP hown0
  go_cut [9] from 23 (fun v9 wx => ∃ (l : List Int) (a : Option Addr) (cap : Nat), v9 = .slice a l.length cap ∧ l.length ≤ 2 ∧ wx.ownsRow (w.heap.size + 1) 3 1 (.slice a l.length cap) l.length (KM.ints l) ∧ (∀ x ∈ l, (KM.sqR x = true ∧ KM.opn p x = true) ∧ KM.fore p s x) ∧ PBox wx w.heap.size p ∧ Below w.heap.size w wx)
  case first =>
    go_wp2_with fail
    go_loopw [9, 10] (fun v9 v10 wr => ∃ (l : List Int) (a : Option Addr) (cap : Nat), v9 = .slice a l.length cap ∧ ((v10 = .int .i64 1 ∧ l.length ≤ 0) ∨ (v10 = .int .i64 2 ∧ l.length ≤ 1) ∨ (v10 = .int .i64 3 ∧ l.length ≤ 2))
      ∧ wr.ownsRow (w.heap.size + 1) 3 1 (.slice a l.length cap) l.length (KM.ints l) ∧ (∀ x ∈ l, (KM.sqR x = true ∧ KM.opn p x = true) ∧ KM.fore p s x) ∧ PBox wr w.heap.size p ∧ Below w.heap.size w wr) (fun _ v _ => 3 - (intOf v).toNat)
    case atStart => exact ⟨[], none, 0, rfl, .inl ⟨rfl, Nat.le_refl _⟩, HO0.out, fun x hx => (by cases hx), HP0.out, HB.out⟩
    case round =>
      obtain ⟨l, a, cap, rfl, hn, hown, hin, hP, hb⟩ := hrel
      have HO := Lib.hid hown
      have HI := Lib.hid hin
      have HP := Lib.hid hP
      have HB1 := Lib.hid hb
      have hPl := hP.lt
      clear hin hb
      rcases hn with ⟨rfl, hl⟩ | ⟨rfl, hl⟩ | ⟨rfl, hl⟩
      · have hl2 : l.length ≤ 2 := by omega
        have HL := Lib.hid hl
        clear hl
        cases hs : KM.stepB s 0 (1)
        · have hq := Lib.hid (show ∀ w', Calls Tryz.prog 53 #[.int .i64 s, .int .i64 0, .int .i64 (1)] w' fun e w'' => e = .returned (.tuple #[.int .i64 (KM.stepN s 0 (1)), .bool false]) ∧ w' = w'' by intro w'; have h := sqStep_any s 0 (1) w'; rw [hs] at h; exact h)
          clear hs hown
          go_wp2_with (first
            | (go_at_call 53; refine (hq.out _).mono ?_; rintro e w' ⟨rfl, rfl⟩)
            | (go_at_call 35; refine (sqRank_any _ _).mono ?_; rintro e w' ⟨rfl, rfl⟩))
          go_meet
          exact ⟨l, a, cap, rfl, by omega, HO.out, HI.out, HP.out, HB1.out⟩
        · have hq := Lib.hid (show ∀ w', Calls Tryz.prog 53 #[.int .i64 s, .int .i64 0, .int .i64 (1)] w' fun e w'' => e = .returned (.tuple #[.int .i64 (KM.stepN s 0 (1)), .bool true]) ∧ w' = w'' by intro w'; have h := sqStep_any s 0 (1) w'; rw [hs] at h; exact h)
          obtain ⟨x0, x1, -, -, -, x8⟩ := KM.stepB_range hs
          clear hs
          generalize KM.stepN s 0 (1) = x at *
          have HX8 := Lib.hid x8
          clear x8
          obtain ⟨m0, m1⟩ := hp.b x.toNat (by omega)
          have c1 := hP.at (i := x.toNat) (by omega)
          by_cases hz : p.b x.toNat = 0
          · have bz : (p.b x.toNat != 0) = false := by simp [hz]
            have HG3 := Lib.hid (show ∀ y ∈ l ++ [x], (KM.sqR y = true ∧ KM.opn p y = true) ∧ KM.fore p s y from fun y hy => by
              rcases List.mem_append.1 hy with h | h
              · exact HI.out y h
              · rw [List.mem_singleton] at h
                subst h
                have h8 := HX8.out
                have h9 := HU.out
                exact ⟨⟨KM.sqR_iff.2 ⟨x0, x1⟩, by unfold KM.opn; simp [hz]⟩, fun ht => by omega, fun ht => by omega⟩)
            replace hz := Lib.hid hz
            go_wp2_with (first
              | (go_at_call 53; refine (hq.out _).mono ?_; rintro e w' ⟨rfl, rfl⟩)
              | (go_at_call 35; refine (sqRank_any _ _).mono ?_; rintro e w' ⟨rfl, rfl⟩)
              | (at_builtin; refine wpList_append_own2 rfl _ _ 73 rfl (w.heap.size + 1) 3 i0 _ 1 8 Tryz.underlying73 hi hz0 hz1 hz2 rfl (by decide) _ _ _ rfl (hown.alloc _) ⟨wr.heap.size, 0, none⟩ 1 1 [.int .i64 x] rfl rfl ?c1 ?c2 (by decide) ?c3 ?c4 ?c5 ?_))
            case c1 => intro j u hu; exact one_cell wr _ _ j u hu
            case c2 => intro u hu; simp at hu; subst hu; rfl
            case c3 => unfold maxLen; omega
            case c4 => omega
            case c5 => simp; omega
            intro v' w3 hown3 hgrow _
            obtain ⟨a3, cap3, rfl⟩ := ownsRow_shape hown3
            have hal := (Below.refl wr.heap.size wr).alloc (Nat.le_refl _) (Obj.cells #[.int .i64 x] 3)
            have hbx : Below (w.heap.size + 1) (wr.alloc (Obj.cells #[.int .i64 x] 3)) w3 := (Below.refl _ _).grown hgrow (by simp; omega) (fun k hk => by have := hown.lt k hk; omega)
            have HP3 := Lib.hid ((HP.out.below hal hPl).below hbx (by omega))
            have HB3 := Lib.hid ((HB1.out.alloc (by omega) (Obj.cells #[.int .i64 x] 3)).trans (hbx.mono (by omega)))
            have HO3 := Lib.hid hown3
            clear hgrow hown3 hown hbx hal
            go_wp2_with fail
            go_roundw
            case rel => exact ⟨l ++ [x], a3, cap3, by simp, .inr (.inl ⟨rfl, by have := HL.out; rw [List.length_append, List.length_singleton]; omega⟩), by rw [show KM.ints (l ++ [x]) = KM.ints l ++ [.int .i64 x] from KM.ints_append _ _]; simpa using HO3.out, HG3.out, HP3.out, HB3.out⟩
            case measure => simp [intOf]
          · have bz : (p.b x.toNat != 0) = true := by simp [hz]
            clear hown
            go_wp2_with (first
              | (go_at_call 53; refine (hq.out _).mono ?_; rintro e w' ⟨rfl, rfl⟩)
              | (go_at_call 35; refine (sqRank_any _ _).mono ?_; rintro e w' ⟨rfl, rfl⟩))
            go_meet
            exact ⟨l, a, cap, rfl, by omega, HO.out, HI.out, HP.out, HB1.out⟩
      · have hl2 : l.length ≤ 2 := by omega
        have HL := Lib.hid hl
        clear hl
        cases hs : KM.stepB s 0 (2)
        · have hq := Lib.hid (show ∀ w', Calls Tryz.prog 53 #[.int .i64 s, .int .i64 0, .int .i64 (2)] w' fun e w'' => e = .returned (.tuple #[.int .i64 (KM.stepN s 0 (2)), .bool false]) ∧ w' = w'' by intro w'; have h := sqStep_any s 0 (2) w'; rw [hs] at h; exact h)
          clear hs hown
          go_wp2_with (first
            | (go_at_call 53; refine (hq.out _).mono ?_; rintro e w' ⟨rfl, rfl⟩)
            | (go_at_call 35; refine (sqRank_any _ _).mono ?_; rintro e w' ⟨rfl, rfl⟩))
          go_meet
          exact ⟨l, a, cap, rfl, by omega, HO.out, HI.out, HP.out, HB1.out⟩
        · have hq := Lib.hid (show ∀ w', Calls Tryz.prog 53 #[.int .i64 s, .int .i64 0, .int .i64 (2)] w' fun e w'' => e = .returned (.tuple #[.int .i64 (KM.stepN s 0 (2)), .bool true]) ∧ w' = w'' by intro w'; have h := sqStep_any s 0 (2) w'; rw [hs] at h; exact h)
          obtain ⟨x0, x1, -, -, -, x8⟩ := KM.stepB_range hs
          clear hs
          generalize KM.stepN s 0 (2) = x at *
          have HX8 := Lib.hid x8
          clear x8
          obtain ⟨m0, m1⟩ := hp.b x.toNat (by omega)
          have c1 := hP.at (i := x.toNat) (by omega)
          by_cases hz : p.b x.toNat = 0
          · have bz : (p.b x.toNat != 0) = false := by simp [hz]
            have HG3 := Lib.hid (show ∀ y ∈ l ++ [x], (KM.sqR y = true ∧ KM.opn p y = true) ∧ KM.fore p s y from fun y hy => by
              rcases List.mem_append.1 hy with h | h
              · exact HI.out y h
              · rw [List.mem_singleton] at h
                subst h
                have h8 := HX8.out
                have h9 := HU.out
                exact ⟨⟨KM.sqR_iff.2 ⟨x0, x1⟩, by unfold KM.opn; simp [hz]⟩, fun ht => by omega, fun ht => by omega⟩)
            replace hz := Lib.hid hz
            by_cases hr2 : KM.rank s = 1
            · have b2 : (KM.rank s != 1) = false := by simp [hr2]
              replace hr2 := Lib.hid hr2
              go_wp2_with (first
                | (go_at_call 53; refine (hq.out _).mono ?_; rintro e w' ⟨rfl, rfl⟩)
                | (go_at_call 35; refine (sqRank_any _ _).mono ?_; rintro e w' ⟨rfl, rfl⟩)
                | (at_builtin; refine wpList_append_own2 rfl _ _ 73 rfl (w.heap.size + 1) 3 i0 _ 1 8 Tryz.underlying73 hi hz0 hz1 hz2 rfl (by decide) _ _ _ rfl (hown.alloc _) ⟨wr.heap.size, 0, none⟩ 1 1 [.int .i64 x] rfl rfl ?c1 ?c2 (by decide) ?c3 ?c4 ?c5 ?_))
              case c1 => intro j u hu; exact one_cell wr _ _ j u hu
              case c2 => intro u hu; simp at hu; subst hu; rfl
              case c3 => unfold maxLen; omega
              case c4 => omega
              case c5 => simp; omega
              intro v' w3 hown3 hgrow _
              obtain ⟨a3, cap3, rfl⟩ := ownsRow_shape hown3
              have hal := (Below.refl wr.heap.size wr).alloc (Nat.le_refl _) (Obj.cells #[.int .i64 x] 3)
              have hbx : Below (w.heap.size + 1) (wr.alloc (Obj.cells #[.int .i64 x] 3)) w3 := (Below.refl _ _).grown hgrow (by simp; omega) (fun k hk => by have := hown.lt k hk; omega)
              have HP3 := Lib.hid ((HP.out.below hal hPl).below hbx (by omega))
              have HB3 := Lib.hid ((HB1.out.alloc (by omega) (Obj.cells #[.int .i64 x] 3)).trans (hbx.mono (by omega)))
              have HO3 := Lib.hid hown3
              clear hgrow hown3 hown hbx hal
              go_wp2_with fail
              go_roundw
              case rel => exact ⟨l ++ [x], a3, cap3, by simp, .inr (.inr ⟨rfl, by have := HL.out; rw [List.length_append, List.length_singleton]; omega⟩), by rw [show KM.ints (l ++ [x]) = KM.ints l ++ [.int .i64 x] from KM.ints_append _ _]; simpa using HO3.out, HG3.out, HP3.out, HB3.out⟩
              case measure => simp [intOf]
            · have b2 : (KM.rank s != 1) = true := by simp [hr2]
              clear hown
              go_wp2_with (first
                | (go_at_call 53; refine (hq.out _).mono ?_; rintro e w' ⟨rfl, rfl⟩)
                | (go_at_call 35; refine (sqRank_any _ _).mono ?_; rintro e w' ⟨rfl, rfl⟩))
              go_meet
              exact ⟨l, a, cap, rfl, by omega, HO.out, HI.out, HP.out, HB1.out⟩
          · have bz : (p.b x.toNat != 0) = true := by simp [hz]
            clear hown
            go_wp2_with (first
              | (go_at_call 53; refine (hq.out _).mono ?_; rintro e w' ⟨rfl, rfl⟩)
              | (go_at_call 35; refine (sqRank_any _ _).mono ?_; rintro e w' ⟨rfl, rfl⟩))
            go_meet
            exact ⟨l, a, cap, rfl, by omega, HO.out, HI.out, HP.out, HB1.out⟩
      · clear hown
        go_wp2_with fail
        go_meet
        exact ⟨l, a, cap, rfl, by omega, HO.out, HI.out, HP.out, HB1.out⟩
  case rest =>
  obtain ⟨l1, a1, cap1, rfl, hl1, hown1, hin1, hP, hb1⟩ := hcut
  have HO1 := Lib.hid hown1
  have HI1 := Lib.hid hin1
  have HB1 := Lib.hid hb1
  have hsz1 := hb1.size
  have HGc := Lib.hid (HG0.out.below hb1 hgl)
  clear hown1 hin1 hb1
  go_upto_region 10 with (first
    | (refine wpList_load_part rfl 26 (.tmp 4) rfl _ 0 rfl _ _ hP.part Tryz.underlying26 rfl (hi26 p) ?_)
    | (go_at_call 26; refine (posPassed_any _ _ hp).mono ?_; rintro e w2 ⟨rfl, hb2⟩))
  have hlP := hP.lt
  have hP2 := hP.below hb2 hlP
  have hG2 := HGc.out.below hb2 (heap_lt HGc.out)
  have HO2 := Lib.hid (ownsRow_below HO1.out hb2)
  have HB2 := Lib.hid (HB1.out.step hb2)
  have hw2 := Nat.lt_of_lt_of_le hlP hb2.size
  clear hP hb2 HO1 HB1 HGc
  refine wp_region_plan (fun w' => Below w2.heap.size w2 w') [(0, false), (1, false), (2, false), (3, false), (4, false), (5, false), (6, false), (9, false), (7, true), (8, false)] (by kernel_rfl) (by kernel_rfl) (fun c a w d v h => by cases d <;> exact h) ((Below.refl _ _).drew) ?_
  refine plan_val (v := .pointer (some ⟨gg, 0, none⟩)) rfl ?c0 (fun w' _ => ?d0) ?_
  case c0 => rfl
  case d0 => kernel_rfl
  simp only [Act.put, List.setIfInBounds_toArray, List.set_cons_zero, List.set_cons_succ]
  refine plan_val (v := .pointer (some ⟨gg, 0, none⟩)) rfl ?c1 (fun w' _ => ?d1) ?_
  case c1 => rfl
  case d1 => kernel_rfl
  simp only [Act.put, List.setIfInBounds_toArray, List.set_cons_zero, List.set_cons_succ]
  refine plan_val (v := .pointer (some ⟨gg, 0, none⟩)) rfl ?c2 (fun w' _ => ?d2) ?_
  case c2 => rfl
  case d2 => kernel_rfl
  simp only [Act.put, List.setIfInBounds_toArray, List.set_cons_zero, List.set_cons_succ]
  refine plan_cell rfl ?c3 44 (.tmp 65) rfl gg 0 rfl (.pointer (some ⟨ge, 0, none⟩)) _ ?d3 Tryz.underlying44 rfl ?_
  case c3 => rfl
  case d3 => exact fun w' hC => (hG2.below hC (heap_lt hG2)).cell
  simp only [Act.put, List.setIfInBounds_toArray, List.set_cons_zero, List.set_cons_succ]
  refine plan_val (v := .pointer (some ⟨w.heap.size, 0, none⟩)) rfl ?c4 (fun w' _ => ?d4) ?_
  case c4 => rfl
  case d4 => kernel_rfl
  simp only [Act.put, List.setIfInBounds_toArray, List.set_cons_zero, List.set_cons_succ]
  refine plan_load rfl ?c5 24 (.tmp 67) rfl w.heap.size 0 rfl (KM.bval p.b) _ ?d5 Tryz.underlying24 rfl (hi24 p.b) ?_
  case c5 => rfl
  case d5 => exact fun w' hC => (hP2.below hC hw2).board
  simp only [Act.put, List.setIfInBounds_toArray, List.set_cons_zero, List.set_cons_succ]
  refine plan_val (v := .int .i64 s) rfl ?c6 (fun w' _ => ?d6) ?_
  case c6 => rfl
  case d6 => kernel_rfl
  simp only [Act.put, List.setIfInBounds_toArray, List.set_cons_zero, List.set_cons_succ]
  refine plan_val (v := .int .i64 0) rfl ?c9 (fun w' _ => ?d9) ?_
  case c9 => rfl
  case d9 => kernel_rfl
  simp only [Act.put, List.setIfInBounds_toArray, List.set_cons_zero, List.set_cons_succ]
  refine plan_call 64 #[.pointer (some ⟨ge, 0, none⟩), .agg (KM.bval p.b), .int .i64 s] rfl ?c7 (fun w' => ?d7) ?_
  case c7 => rfl
  case d7 => kernel_rfl
  refine (strikes_any ge p.b s _ hp.b HR.out s0 s1 HZ.out).mono ?_
  rintro e w3 ⟨ls, ⟨a2, cap2, rfl, hown2, hb3⟩, hls, hin2⟩
  have hb23 : Below w2.heap.size w2 w3 := (Below.refl _ _).drew.trans hb3
  refine ⟨_, rfl, hb23, ?_⟩
  simp only [Act.put, List.setIfInBounds_toArray, List.set_cons_zero, List.set_cons_succ]
  refine plan_val (v := .int .i64 ls.length) rfl ?c8 (fun w' _ => ?d8) ?_
  case c8 => rfl
  case d8 => kernel_rfl
  simp only [Act.put, List.setIfInBounds_toArray, List.set_cons_zero, List.set_cons_succ]
  simp only [wpPlan]
  have hown2' : w3.ownsRow w2.heap.size 3 1 (.slice a2 ls.length cap2) ls.length (KM.ints ls) := hown2
  have HP3 := Lib.hid (hP2.below hb23 hw2)
  have HO3 := Lib.hid (ownsRow_below HO2.out hb23)
  have HB3 := Lib.hid (HB2.out.step hb23)
  have HL3 := Lib.hid hown2'
  have HI2 := Lib.hid hin2
  have HD3 := Lib.hid (show (Value.slice a2 ls.length cap2).ownBlock = none ∨ (Value.slice a2 ls.length cap2).ownBlock ≠ (Value.slice a1 l1.length cap1).ownBlock by
    cases he : (Value.slice a2 ls.length cap2).ownBlock with
    | none => exact .inl rfl
    | some g2 =>
      refine .inr fun h => ?_
      have h1 := (HO2.out.lt g2 h.symm).2
      have h2 := (hown2'.lt g2 he).1
      omega)
  clear hP2 hG2 hb23 hb3 hown2 hown2' hin2
  go_wp2_with fail
  go_loopw [9, 72] (fun v9 v72 wr => ∃ (k : Nat) (l : List Int) (a : Option Addr) (cap : Nat), v9 = .slice a l.length cap ∧ v72 = .int .i64 k ∧ k ≤ ls.length ∧ l.length ≤ 2 + k ∧ wr.ownsRow (w.heap.size + 1) 3 1 (.slice a l.length cap) l.length (KM.ints l)
    ∧ (∀ x ∈ l, (KM.sqR x = true ∧ KM.opn p x = true) ∧ KM.fore p s x) ∧ PBox wr w.heap.size p ∧ Below w.heap.size w wr ∧ wr.ownsRow w2.heap.size 3 1 (.slice a2 ls.length cap2) ls.length (KM.ints ls)
    ∧ ((Value.slice a2 ls.length cap2).ownBlock = none ∨ (Value.slice a2 ls.length cap2).ownBlock ≠ (Value.slice a l.length cap).ownBlock)) (fun _ v _ => ls.length - (intOf v).toNat)
  case atStart => exact ⟨0, l1, a1, cap1, rfl, rfl, by omega, by omega, HO3.out, HI1.out, HP3.out, HB3.out, HL3.out, HD3.out⟩
  case round =>
    obtain ⟨k, l, a, cap, rfl, rfl, hk, hl, hown, hin, hP, hb, hrow, hap⟩ := hrel
    have HO := Lib.hid hown
    have HI := Lib.hid hin
    have HP := Lib.hid hP
    have HBr := Lib.hid hb
    have HRo := Lib.hid hrow
    have HAp := Lib.hid hap
    clear hown hin hb hap
    by_cases hlt : k < ls.length
    · obtain ⟨x, hx⟩ : ∃ x, ls[k]? = some x := ⟨_, List.getElem?_eq_getElem hlt⟩
      obtain ⟨g2, cap2', he⟩ := ownsRow_some hrow (by omega)
      injection he with e1 e2 e3
      subst e1
      subst e3
      clear e2
      have c1 := hrow.cellAt k (by omega)
      rw [KM.ints_get hx] at c1
      have HXs := Lib.hid (HI2.out x (List.mem_of_getElem? hx))
      obtain ⟨x0, x1⟩ := KM.strikes_in HXs.out
      obtain ⟨m0, m1⟩ := hp.b x.toNat (by omega)
      have HFo := Lib.hid (KM.strikes_pawn HK.out HSD.out HXs.out)
      clear hx hrow
      go_upto_region 13 with fail
      go_cut [14, 58, 60, 62, 72, 94] from 72 to 99 (fun v14 v58 v60 v62 v72 v94 wx => (v14 = .bool (KM.passB p) ∧ v58 = .tuple #[.int .i64 (KM.passN p), .bool (KM.passB p)] ∧ v60 = .tuple #[.int .i64 (KM.passN p), .bool (KM.passB p)] ∧ v62 = .bool (KM.passB p)) ∧ v72 = .int .i64 k ∧ ∃ b, v94 = .bool b ∧ (b = true → KM.opn p x = true) ∧ Below wr.heap.size wr wx)
      case first =>
        have d1 := hP.at (i := x.toNat) (by omega)
        have hPp := hP.part
        have e66 := hP.ep
        have hgo := gopen_any p x
        have hsx : KM.sqR x = true := KM.sqR_iff.2 ⟨x0, x1⟩
        have hgq := Lib.hid (show ∀ w', Calls Tryz.prog 65 #[.agg (KM.pval p), .int .i64 x] w' fun e w'' => e = .returned (.bool (KM.opn p x)) ∧ Below w'.heap.size w' w'' by
          intro w'
          have h := gopen_any p x w' hp
          rw [hsx, Bool.true_and] at h
          exact h)
        clear hgo hsx
        have hpl := hP.lt
        by_cases hbx : p.b x.toNat = 0
        · have bx : (p.b x.toNat != 0) = false := by simp [hbx]
          have hop : KM.opn p x = true := by unfold KM.opn; simp [hbx]
          have HOp := Lib.hid hop
          replace hbx := Lib.hid hbx
          clear hop
          cases hq : KM.passB p
          · replace hq := Lib.hid hq
            go_wp2_with fail
            go_meet
            exact ⟨by rw [hq.out]; exact ⟨rfl, rfl, rfl, rfl⟩, rfl, _, rfl, fun _ => HOp.out, Below.refl _ _⟩
          · replace hq := Lib.hid hq
            go_wp2_with fail
            go_meet
            exact ⟨by rw [hq.out]; exact ⟨rfl, rfl, rfl, rfl⟩, rfl, _, rfl, fun _ => HOp.out, Below.refl _ _⟩
        · have bx : (p.b x.toNat != 0) = true := by simp [hbx]
          have HBX := Lib.hid hbx
          clear hbx
          cases ho : KM.opn p x
          · rw [ho] at hgq
            clear ho
            cases hq : KM.passB p
            · replace hq := Lib.hid hq
              go_wp2_with (first
                | (refine wpList_load_part rfl 26 (.tmp 4) rfl _ 0 rfl _ _ hPp Tryz.underlying26 rfl (hi26 p) ?_)
                | (go_at_call 65; refine (hgq.out _).mono ?_; rintro e w4 ⟨rfl, hb4⟩; have e67 := (hP.below hb4 hpl).ep; have HB4 := Lib.hid hb4; clear hb4))
              go_meet
              exact ⟨by rw [hq.out]; exact ⟨rfl, rfl, rfl, rfl⟩, rfl, false, rfl, fun h => (by cases h), HB4.out⟩
            · by_cases hxe : x = p.ep
              · exact absurd (by rw [hxe]; exact KM.passB_ep hq) HBX.out
              · have bxe : (x == p.ep) = false := by simp [hxe]
                replace hq := Lib.hid hq
                clear hxe
                go_wp2_with (first
                  | (refine wpList_load_part rfl 26 (.tmp 4) rfl _ 0 rfl _ _ hPp Tryz.underlying26 rfl (hi26 p) ?_)
                  | (go_at_call 65; refine (hgq.out _).mono ?_; rintro e w4 ⟨rfl, hb4⟩; have e67 := (hP.below hb4 hpl).ep; have HB4 := Lib.hid hb4; clear hb4))
                go_meet
                exact ⟨by rw [hq.out]; exact ⟨rfl, rfl, rfl, rfl⟩, rfl, false, rfl, fun h => (by cases h), HB4.out⟩
          · rw [ho] at hgq
            have HOp := Lib.hid ho
            clear ho
            go_wp2_with (first
              | (refine wpList_load_part rfl 26 (.tmp 4) rfl _ 0 rfl _ _ hPp Tryz.underlying26 rfl (hi26 p) ?_)
              | (go_at_call 65; refine (hgq.out _).mono ?_; rintro e w4 ⟨rfl, hb4⟩; have HB4 := Lib.hid hb4; clear hb4))
            go_meet
            exact ⟨⟨rfl, rfl, rfl, rfl⟩, rfl, true, rfl, fun _ => HOp.out, HB4.out⟩
      case rest =>
      obtain ⟨⟨rfl, rfl, rfl, rfl⟩, rfl, b, rfl, hbo, hbc⟩ := hcut
      have hPl := hP.lt
      have HP4 := Lib.hid (HP.out.below hbc hPl)
      have HB4 := Lib.hid (HBr.out.step hbc)
      have hown := ownsRow_below HO.out hbc
      have hrow := ownsRow_below HRo.out hbc
      have hPl4 := Nat.lt_of_lt_of_le hPl hbc.size
      cases b
      · have HO4 := Lib.hid hown
        have HR4 := Lib.hid hrow
        clear hbo hbc hown hrow hP c1
        go_wp2_with fail
        go_roundw
        case rel => exact ⟨k + 1, l, a, cap, rfl, by go_num, by omega, by omega, HO4.out, HI.out, HP4.out, HB4.out, HR4.out, HAp.out⟩
        case measure => simp [intOf]; omega
      · have HG3 := Lib.hid (show ∀ y ∈ l ++ [x], (KM.sqR y = true ∧ KM.opn p y = true) ∧ KM.fore p s y from fun y hy => by
          rcases List.mem_append.1 hy with h | h
          · exact HI.out y h
          · rw [List.mem_singleton] at h
            subst h
            exact ⟨⟨KM.sqR_iff.2 ⟨x0, x1⟩, hbo rfl⟩, HFo.out⟩)
        clear hbo hbc hP c1
        go_wp2_with (at_builtin; refine wpList_append_own2 rfl _ _ 73 rfl (w.heap.size + 1) 3 i0 _ 1 8 Tryz.underlying73 hi hz0 hz1 hz2 rfl (by decide) _ _ _ rfl (hown.alloc _) ⟨wc.heap.size, 0, none⟩ 1 1 [.int .i64 x] rfl rfl ?c6 ?c7 (by decide) ?c8 ?c9 ?c10 ?_)
        case c6 => intro j u hu; exact one_cell wc _ _ j u hu
        case c7 => intro u hu; simp at hu; subst hu; rfl
        case c8 => unfold maxLen; omega
        case c9 => omega
        case c10 => simp; omega
        intro v' w5 hown5 hgrow hblk
        obtain ⟨a5, cap5, rfl⟩ := ownsRow_shape hown5
        have hal := (Below.refl wc.heap.size wc).alloc (Nat.le_refl _) (Obj.cells #[.int .i64 x] 3)
        have hbx : Below (w.heap.size + 1) (wc.alloc (Obj.cells #[.int .i64 x] 3)) w5 := (Below.refl _ _).grown hgrow (by simp; omega) (fun k hk => by have := hown.lt k hk; omega)
        have HP5 := Lib.hid ((HP4.out.below hal hPl4).below hbx (by omega))
        have HB5 := Lib.hid ((HB4.out.alloc (by omega) (Obj.cells #[.int .i64 x] 3)).trans (hbx.mono (by omega)))
        have HR5 := Lib.hid ((hrow.alloc (Obj.cells #[.int .i64 x] 3)).kept hgrow HAp.out)
        have HA5 := Lib.hid (show (Value.slice (some ⟨g2, 0, none⟩) ls.length cap2).ownBlock = none ∨ (Value.slice (some ⟨g2, 0, none⟩) ls.length cap2).ownBlock ≠ (Value.slice a5 (l.length + 1) cap5).ownBlock by
          rcases hblk with h | h
          · rw [h]; exact HAp.out
          · rw [h]
            refine .inr fun h2 => ?_
            have h3 := (hrow.lt _ h2).2
            have h4 : (wc.alloc (Obj.cells #[.int .i64 x] 3)).heap.size = wc.heap.size + 1 := by simp
            omega)
        have HO5 := Lib.hid hown5
        clear hgrow hown5 hown hrow hbx hal hblk
        go_wp2_with fail
        go_roundw
        case rel => exact ⟨k + 1, l ++ [x], a5, cap5, by simp, by go_num, by omega, by rw [List.length_append, List.length_singleton]; omega, by rw [show KM.ints (l ++ [x]) = KM.ints l ++ [.int .i64 x] from KM.ints_append _ _]; simpa using HO5.out, HG3.out, HP5.out, HB5.out, HR5.out, by simpa using HA5.out⟩
        case measure => simp [intOf]; omega
    · obtain rfl : k = ls.length := by omega
      clear hP hrow
      go_wp2_with fail
      go_ret
      exact ⟨l, ⟨a, cap, rfl, ownsRow_base HO.out (by omega), HBr.out⟩, by omega, HI.out⟩

theorem pawn_1 (gg ge : Nat) (p : KM.Po) (s : Int) (w : World) (hp : p.wf) (hG : GBox w gg ge) (hr : KM.rightB p.b = true) (s0 : 0 ≤ s) (s1 : s < 64) (hu : p.turn = 1) (hk : KM.kind (p.b s.toNat) = 1) (hsd : KM.side (p.b s.toNat) = p.turn) (hz : p.b s.toNat ≠ 0) :
    Calls Tryz.prog 44 #[.pointer (some ⟨gg, 0, none⟩), .agg (KM.pval p), .int .i64 s] w fun e w' => ∃ l, RetInts w l e w' ∧ l.length ≤ 514 ∧ ∀ x ∈ l, (KM.sqR x = true ∧ KM.opn p x = true) ∧ KM.fore p s x := by
  have hP := PBox.new w p
  have HB := Lib.hid ((Below.refl w.heap.size w).alloc (Nat.le_refl _) (Obj.cells (KM.pval p) 26))
  have hG' := hG.below ((Below.refl w.heap.size w).alloc (Nat.le_refl _) (Obj.cells (KM.pval p) 26)) (heap_lt hG)
  have hgl := heap_lt hG
  obtain ⟨i0, hi, hz0, hz1, hz2⟩ := info_parts info3s
  have hS : w.heap.size + 1 ≤ (w.alloc (Obj.cells (KM.pval p) 26)).heap.size := by simp
  have hown0 : (w.alloc (Obj.cells (KM.pval p) 26)).ownsRow (w.heap.size + 1) 3 1 (.slice none 0 0) 0 [] := World.ownsRow_nil _ _ _ _
  have HR := Lib.hid hr
  have HK := Lib.hid hk
  have HSD := Lib.hid hsd
  have HU := Lib.hid hu
  have HZ := Lib.hid hz
  have HG0 := Lib.hid hG
  have c0 := hP.turn
  rw [hu] at c0
  clear hr hk hsd hu hG hz hG'
  go_enter Tryz.func44, Tryz.ntmps44
  go_upto_block 0 with (go_at_call 63; refine (genRanks_any _ _).mono ?_; rintro e w2 ⟨rfl, rfl⟩)
  clear c0
  generalize w.alloc (Obj.cells (KM.pval p) 26) = w0 at *
  have HP0 := Lib.hid hP
  have HO0 := Lib.hid hown0
  clear hP hown0
  go_cut [9] from 23 (fun v9 wx => ∃ (l : List Int) (a : Option Addr) (cap : Nat), v9 = .slice a l.length cap ∧ l.length ≤ 2 ∧ wx.ownsRow (w.heap.size + 1) 3 1 (.slice a l.length cap) l.length (KM.ints l) ∧ (∀ x ∈ l, (KM.sqR x = true ∧ KM.opn p x = true) ∧ KM.fore p s x) ∧ PBox wx w.heap.size p ∧ Below w.heap.size w wx)
  case first =>
    go_wp2_with fail
    go_loopw [9, 10] (fun v9 v10 wr => ∃ (l : List Int) (a : Option Addr) (cap : Nat), v9 = .slice a l.length cap ∧ ((v10 = .int .i64 1 ∧ l.length ≤ 0) ∨ (v10 = .int .i64 2 ∧ l.length ≤ 1) ∨ (v10 = .int .i64 3 ∧ l.length ≤ 2))
      ∧ wr.ownsRow (w.heap.size + 1) 3 1 (.slice a l.length cap) l.length (KM.ints l) ∧ (∀ x ∈ l, (KM.sqR x = true ∧ KM.opn p x = true) ∧ KM.fore p s x) ∧ PBox wr w.heap.size p ∧ Below w.heap.size w wr) (fun _ v _ => 3 - (intOf v).toNat)
    case atStart => exact ⟨[], none, 0, rfl, .inl ⟨rfl, Nat.le_refl _⟩, HO0.out, fun x hx => (by cases hx), HP0.out, HB.out⟩
    case round =>
      obtain ⟨l, a, cap, rfl, hn, hown, hin, hP, hb⟩ := hrel
      have HO := Lib.hid hown
      have HI := Lib.hid hin
      have HP := Lib.hid hP
      have HB1 := Lib.hid hb
      have hPl := hP.lt
      clear hin hb
      rcases hn with ⟨rfl, hl⟩ | ⟨rfl, hl⟩ | ⟨rfl, hl⟩
      · have hl2 : l.length ≤ 2 := by omega
        have HL := Lib.hid hl
        clear hl
        cases hs : KM.stepB s 0 (-1)
        · have hq := Lib.hid (show ∀ w', Calls Tryz.prog 53 #[.int .i64 s, .int .i64 0, .int .i64 (-1)] w' fun e w'' => e = .returned (.tuple #[.int .i64 (KM.stepN s 0 (-1)), .bool false]) ∧ w' = w'' by intro w'; have h := sqStep_any s 0 (-1) w'; rw [hs] at h; exact h)
          clear hs hown
          go_wp2_with (first
            | (go_at_call 53; refine (hq.out _).mono ?_; rintro e w' ⟨rfl, rfl⟩)
            | (go_at_call 35; refine (sqRank_any _ _).mono ?_; rintro e w' ⟨rfl, rfl⟩))
          go_meet
          exact ⟨l, a, cap, rfl, by omega, HO.out, HI.out, HP.out, HB1.out⟩
        · have hq := Lib.hid (show ∀ w', Calls Tryz.prog 53 #[.int .i64 s, .int .i64 0, .int .i64 (-1)] w' fun e w'' => e = .returned (.tuple #[.int .i64 (KM.stepN s 0 (-1)), .bool true]) ∧ w' = w'' by intro w'; have h := sqStep_any s 0 (-1) w'; rw [hs] at h; exact h)
          obtain ⟨x0, x1, -, -, -, x8⟩ := KM.stepB_range hs
          clear hs
          generalize KM.stepN s 0 (-1) = x at *
          have HX8 := Lib.hid x8
          clear x8
          obtain ⟨m0, m1⟩ := hp.b x.toNat (by omega)
          have c1 := hP.at (i := x.toNat) (by omega)
          by_cases hz : p.b x.toNat = 0
          · have bz : (p.b x.toNat != 0) = false := by simp [hz]
            have HG3 := Lib.hid (show ∀ y ∈ l ++ [x], (KM.sqR y = true ∧ KM.opn p y = true) ∧ KM.fore p s y from fun y hy => by
              rcases List.mem_append.1 hy with h | h
              · exact HI.out y h
              · rw [List.mem_singleton] at h
                subst h
                have h8 := HX8.out
                have h9 := HU.out
                exact ⟨⟨KM.sqR_iff.2 ⟨x0, x1⟩, by unfold KM.opn; simp [hz]⟩, fun ht => by omega, fun ht => by omega⟩)
            replace hz := Lib.hid hz
            go_wp2_with (first
              | (go_at_call 53; refine (hq.out _).mono ?_; rintro e w' ⟨rfl, rfl⟩)
              | (go_at_call 35; refine (sqRank_any _ _).mono ?_; rintro e w' ⟨rfl, rfl⟩)
              | (at_builtin; refine wpList_append_own2 rfl _ _ 73 rfl (w.heap.size + 1) 3 i0 _ 1 8 Tryz.underlying73 hi hz0 hz1 hz2 rfl (by decide) _ _ _ rfl (hown.alloc _) ⟨wr.heap.size, 0, none⟩ 1 1 [.int .i64 x] rfl rfl ?c1 ?c2 (by decide) ?c3 ?c4 ?c5 ?_))
            case c1 => intro j u hu; exact one_cell wr _ _ j u hu
            case c2 => intro u hu; simp at hu; subst hu; rfl
            case c3 => unfold maxLen; omega
            case c4 => omega
            case c5 => simp; omega
            intro v' w3 hown3 hgrow _
            obtain ⟨a3, cap3, rfl⟩ := ownsRow_shape hown3
            have hal := (Below.refl wr.heap.size wr).alloc (Nat.le_refl _) (Obj.cells #[.int .i64 x] 3)
            have hbx : Below (w.heap.size + 1) (wr.alloc (Obj.cells #[.int .i64 x] 3)) w3 := (Below.refl _ _).grown hgrow (by simp; omega) (fun k hk => by have := hown.lt k hk; omega)
            have HP3 := Lib.hid ((HP.out.below hal hPl).below hbx (by omega))
            have HB3 := Lib.hid ((HB1.out.alloc (by omega) (Obj.cells #[.int .i64 x] 3)).trans (hbx.mono (by omega)))
            have HO3 := Lib.hid hown3
            clear hgrow hown3 hown hbx hal
            go_wp2_with fail
            go_roundw
            case rel => exact ⟨l ++ [x], a3, cap3, by simp, .inr (.inl ⟨rfl, by have := HL.out; rw [List.length_append, List.length_singleton]; omega⟩), by rw [show KM.ints (l ++ [x]) = KM.ints l ++ [.int .i64 x] from KM.ints_append _ _]; simpa using HO3.out, HG3.out, HP3.out, HB3.out⟩
            case measure => simp [intOf]
          · have bz : (p.b x.toNat != 0) = true := by simp [hz]
            clear hown
            go_wp2_with (first
              | (go_at_call 53; refine (hq.out _).mono ?_; rintro e w' ⟨rfl, rfl⟩)
              | (go_at_call 35; refine (sqRank_any _ _).mono ?_; rintro e w' ⟨rfl, rfl⟩))
            go_meet
            exact ⟨l, a, cap, rfl, by omega, HO.out, HI.out, HP.out, HB1.out⟩
      · have hl2 : l.length ≤ 2 := by omega
        have HL := Lib.hid hl
        clear hl
        cases hs : KM.stepB s 0 (-2)
        · have hq := Lib.hid (show ∀ w', Calls Tryz.prog 53 #[.int .i64 s, .int .i64 0, .int .i64 (-2)] w' fun e w'' => e = .returned (.tuple #[.int .i64 (KM.stepN s 0 (-2)), .bool false]) ∧ w' = w'' by intro w'; have h := sqStep_any s 0 (-2) w'; rw [hs] at h; exact h)
          clear hs hown
          go_wp2_with (first
            | (go_at_call 53; refine (hq.out _).mono ?_; rintro e w' ⟨rfl, rfl⟩)
            | (go_at_call 35; refine (sqRank_any _ _).mono ?_; rintro e w' ⟨rfl, rfl⟩))
          go_meet
          exact ⟨l, a, cap, rfl, by omega, HO.out, HI.out, HP.out, HB1.out⟩
        · have hq := Lib.hid (show ∀ w', Calls Tryz.prog 53 #[.int .i64 s, .int .i64 0, .int .i64 (-2)] w' fun e w'' => e = .returned (.tuple #[.int .i64 (KM.stepN s 0 (-2)), .bool true]) ∧ w' = w'' by intro w'; have h := sqStep_any s 0 (-2) w'; rw [hs] at h; exact h)
          obtain ⟨x0, x1, -, -, -, x8⟩ := KM.stepB_range hs
          clear hs
          generalize KM.stepN s 0 (-2) = x at *
          have HX8 := Lib.hid x8
          clear x8
          obtain ⟨m0, m1⟩ := hp.b x.toNat (by omega)
          have c1 := hP.at (i := x.toNat) (by omega)
          by_cases hz : p.b x.toNat = 0
          · have bz : (p.b x.toNat != 0) = false := by simp [hz]
            have HG3 := Lib.hid (show ∀ y ∈ l ++ [x], (KM.sqR y = true ∧ KM.opn p y = true) ∧ KM.fore p s y from fun y hy => by
              rcases List.mem_append.1 hy with h | h
              · exact HI.out y h
              · rw [List.mem_singleton] at h
                subst h
                have h8 := HX8.out
                have h9 := HU.out
                exact ⟨⟨KM.sqR_iff.2 ⟨x0, x1⟩, by unfold KM.opn; simp [hz]⟩, fun ht => by omega, fun ht => by omega⟩)
            replace hz := Lib.hid hz
            by_cases hr2 : KM.rank s = 6
            · have b2 : (KM.rank s != 6) = false := by simp [hr2]
              replace hr2 := Lib.hid hr2
              go_wp2_with (first
                | (go_at_call 53; refine (hq.out _).mono ?_; rintro e w' ⟨rfl, rfl⟩)
                | (go_at_call 35; refine (sqRank_any _ _).mono ?_; rintro e w' ⟨rfl, rfl⟩)
                | (at_builtin; refine wpList_append_own2 rfl _ _ 73 rfl (w.heap.size + 1) 3 i0 _ 1 8 Tryz.underlying73 hi hz0 hz1 hz2 rfl (by decide) _ _ _ rfl (hown.alloc _) ⟨wr.heap.size, 0, none⟩ 1 1 [.int .i64 x] rfl rfl ?c1 ?c2 (by decide) ?c3 ?c4 ?c5 ?_))
              case c1 => intro j u hu; exact one_cell wr _ _ j u hu
              case c2 => intro u hu; simp at hu; subst hu; rfl
              case c3 => unfold maxLen; omega
              case c4 => omega
              case c5 => simp; omega
              intro v' w3 hown3 hgrow _
              obtain ⟨a3, cap3, rfl⟩ := ownsRow_shape hown3
              have hal := (Below.refl wr.heap.size wr).alloc (Nat.le_refl _) (Obj.cells #[.int .i64 x] 3)
              have hbx : Below (w.heap.size + 1) (wr.alloc (Obj.cells #[.int .i64 x] 3)) w3 := (Below.refl _ _).grown hgrow (by simp; omega) (fun k hk => by have := hown.lt k hk; omega)
              have HP3 := Lib.hid ((HP.out.below hal hPl).below hbx (by omega))
              have HB3 := Lib.hid ((HB1.out.alloc (by omega) (Obj.cells #[.int .i64 x] 3)).trans (hbx.mono (by omega)))
              have HO3 := Lib.hid hown3
              clear hgrow hown3 hown hbx hal
              go_wp2_with fail
              go_roundw
              case rel => exact ⟨l ++ [x], a3, cap3, by simp, .inr (.inr ⟨rfl, by have := HL.out; rw [List.length_append, List.length_singleton]; omega⟩), by rw [show KM.ints (l ++ [x]) = KM.ints l ++ [.int .i64 x] from KM.ints_append _ _]; simpa using HO3.out, HG3.out, HP3.out, HB3.out⟩
              case measure => simp [intOf]
            · have b2 : (KM.rank s != 6) = true := by simp [hr2]
              clear hown
              go_wp2_with (first
                | (go_at_call 53; refine (hq.out _).mono ?_; rintro e w' ⟨rfl, rfl⟩)
                | (go_at_call 35; refine (sqRank_any _ _).mono ?_; rintro e w' ⟨rfl, rfl⟩))
              go_meet
              exact ⟨l, a, cap, rfl, by omega, HO.out, HI.out, HP.out, HB1.out⟩
          · have bz : (p.b x.toNat != 0) = true := by simp [hz]
            clear hown
            go_wp2_with (first
              | (go_at_call 53; refine (hq.out _).mono ?_; rintro e w' ⟨rfl, rfl⟩)
              | (go_at_call 35; refine (sqRank_any _ _).mono ?_; rintro e w' ⟨rfl, rfl⟩))
            go_meet
            exact ⟨l, a, cap, rfl, by omega, HO.out, HI.out, HP.out, HB1.out⟩
      · clear hown
        go_wp2_with fail
        go_meet
        exact ⟨l, a, cap, rfl, by omega, HO.out, HI.out, HP.out, HB1.out⟩
  case rest =>
  obtain ⟨l1, a1, cap1, rfl, hl1, hown1, hin1, hP, hb1⟩ := hcut
  have HO1 := Lib.hid hown1
  have HI1 := Lib.hid hin1
  have HB1 := Lib.hid hb1
  have hsz1 := hb1.size
  have HGc := Lib.hid (HG0.out.below hb1 hgl)
  clear hown1 hin1 hb1
  go_upto_region 10 with (first
    | (refine wpList_load_part rfl 26 (.tmp 4) rfl _ 0 rfl _ _ hP.part Tryz.underlying26 rfl (hi26 p) ?_)
    | (go_at_call 26; refine (posPassed_any _ _ hp).mono ?_; rintro e w2 ⟨rfl, hb2⟩))
  have hlP := hP.lt
  have hP2 := hP.below hb2 hlP
  have hG2 := HGc.out.below hb2 (heap_lt HGc.out)
  have HO2 := Lib.hid (ownsRow_below HO1.out hb2)
  have HB2 := Lib.hid (HB1.out.step hb2)
  have hw2 := Nat.lt_of_lt_of_le hlP hb2.size
  clear hP hb2 HO1 HB1 HGc
  refine wp_region_plan (fun w' => Below w2.heap.size w2 w') [(0, false), (1, false), (2, false), (3, false), (4, false), (5, false), (6, false), (9, false), (7, true), (8, false)] (by kernel_rfl) (by kernel_rfl) (fun c a w d v h => by cases d <;> exact h) ((Below.refl _ _).drew) ?_
  refine plan_val (v := .pointer (some ⟨gg, 0, none⟩)) rfl ?c0 (fun w' _ => ?d0) ?_
  case c0 => rfl
  case d0 => kernel_rfl
  simp only [Act.put, List.setIfInBounds_toArray, List.set_cons_zero, List.set_cons_succ]
  refine plan_val (v := .pointer (some ⟨gg, 0, none⟩)) rfl ?c1 (fun w' _ => ?d1) ?_
  case c1 => rfl
  case d1 => kernel_rfl
  simp only [Act.put, List.setIfInBounds_toArray, List.set_cons_zero, List.set_cons_succ]
  refine plan_val (v := .pointer (some ⟨gg, 0, none⟩)) rfl ?c2 (fun w' _ => ?d2) ?_
  case c2 => rfl
  case d2 => kernel_rfl
  simp only [Act.put, List.setIfInBounds_toArray, List.set_cons_zero, List.set_cons_succ]
  refine plan_cell rfl ?c3 44 (.tmp 65) rfl gg 0 rfl (.pointer (some ⟨ge, 0, none⟩)) _ ?d3 Tryz.underlying44 rfl ?_
  case c3 => rfl
  case d3 => exact fun w' hC => (hG2.below hC (heap_lt hG2)).cell
  simp only [Act.put, List.setIfInBounds_toArray, List.set_cons_zero, List.set_cons_succ]
  refine plan_val (v := .pointer (some ⟨w.heap.size, 0, none⟩)) rfl ?c4 (fun w' _ => ?d4) ?_
  case c4 => rfl
  case d4 => kernel_rfl
  simp only [Act.put, List.setIfInBounds_toArray, List.set_cons_zero, List.set_cons_succ]
  refine plan_load rfl ?c5 24 (.tmp 67) rfl w.heap.size 0 rfl (KM.bval p.b) _ ?d5 Tryz.underlying24 rfl (hi24 p.b) ?_
  case c5 => rfl
  case d5 => exact fun w' hC => (hP2.below hC hw2).board
  simp only [Act.put, List.setIfInBounds_toArray, List.set_cons_zero, List.set_cons_succ]
  refine plan_val (v := .int .i64 s) rfl ?c6 (fun w' _ => ?d6) ?_
  case c6 => rfl
  case d6 => kernel_rfl
  simp only [Act.put, List.setIfInBounds_toArray, List.set_cons_zero, List.set_cons_succ]
  refine plan_val (v := .int .i64 0) rfl ?c9 (fun w' _ => ?d9) ?_
  case c9 => rfl
  case d9 => kernel_rfl
  simp only [Act.put, List.setIfInBounds_toArray, List.set_cons_zero, List.set_cons_succ]
  refine plan_call 64 #[.pointer (some ⟨ge, 0, none⟩), .agg (KM.bval p.b), .int .i64 s] rfl ?c7 (fun w' => ?d7) ?_
  case c7 => rfl
  case d7 => kernel_rfl
  refine (strikes_any ge p.b s _ hp.b HR.out s0 s1 HZ.out).mono ?_
  rintro e w3 ⟨ls, ⟨a2, cap2, rfl, hown2, hb3⟩, hls, hin2⟩
  have hb23 : Below w2.heap.size w2 w3 := (Below.refl _ _).drew.trans hb3
  refine ⟨_, rfl, hb23, ?_⟩
  simp only [Act.put, List.setIfInBounds_toArray, List.set_cons_zero, List.set_cons_succ]
  refine plan_val (v := .int .i64 ls.length) rfl ?c8 (fun w' _ => ?d8) ?_
  case c8 => rfl
  case d8 => kernel_rfl
  simp only [Act.put, List.setIfInBounds_toArray, List.set_cons_zero, List.set_cons_succ]
  simp only [wpPlan]
  have hown2' : w3.ownsRow w2.heap.size 3 1 (.slice a2 ls.length cap2) ls.length (KM.ints ls) := hown2
  have HP3 := Lib.hid (hP2.below hb23 hw2)
  have HO3 := Lib.hid (ownsRow_below HO2.out hb23)
  have HB3 := Lib.hid (HB2.out.step hb23)
  have HL3 := Lib.hid hown2'
  have HI2 := Lib.hid hin2
  have HD3 := Lib.hid (show (Value.slice a2 ls.length cap2).ownBlock = none ∨ (Value.slice a2 ls.length cap2).ownBlock ≠ (Value.slice a1 l1.length cap1).ownBlock by
    cases he : (Value.slice a2 ls.length cap2).ownBlock with
    | none => exact .inl rfl
    | some g2 =>
      refine .inr fun h => ?_
      have h1 := (HO2.out.lt g2 h.symm).2
      have h2 := (hown2'.lt g2 he).1
      omega)
  clear hP2 hG2 hb23 hb3 hown2 hown2' hin2
  go_wp2_with fail
  go_loopw [9, 72] (fun v9 v72 wr => ∃ (k : Nat) (l : List Int) (a : Option Addr) (cap : Nat), v9 = .slice a l.length cap ∧ v72 = .int .i64 k ∧ k ≤ ls.length ∧ l.length ≤ 2 + k ∧ wr.ownsRow (w.heap.size + 1) 3 1 (.slice a l.length cap) l.length (KM.ints l)
    ∧ (∀ x ∈ l, (KM.sqR x = true ∧ KM.opn p x = true) ∧ KM.fore p s x) ∧ PBox wr w.heap.size p ∧ Below w.heap.size w wr ∧ wr.ownsRow w2.heap.size 3 1 (.slice a2 ls.length cap2) ls.length (KM.ints ls)
    ∧ ((Value.slice a2 ls.length cap2).ownBlock = none ∨ (Value.slice a2 ls.length cap2).ownBlock ≠ (Value.slice a l.length cap).ownBlock)) (fun _ v _ => ls.length - (intOf v).toNat)
  case atStart => exact ⟨0, l1, a1, cap1, rfl, rfl, by omega, by omega, HO3.out, HI1.out, HP3.out, HB3.out, HL3.out, HD3.out⟩
  case round =>
    obtain ⟨k, l, a, cap, rfl, rfl, hk, hl, hown, hin, hP, hb, hrow, hap⟩ := hrel
    have HO := Lib.hid hown
    have HI := Lib.hid hin
    have HP := Lib.hid hP
    have HBr := Lib.hid hb
    have HRo := Lib.hid hrow
    have HAp := Lib.hid hap
    clear hown hin hb hap
    by_cases hlt : k < ls.length
    · obtain ⟨x, hx⟩ : ∃ x, ls[k]? = some x := ⟨_, List.getElem?_eq_getElem hlt⟩
      obtain ⟨g2, cap2', he⟩ := ownsRow_some hrow (by omega)
      injection he with e1 e2 e3
      subst e1
      subst e3
      clear e2
      have c1 := hrow.cellAt k (by omega)
      rw [KM.ints_get hx] at c1
      have HXs := Lib.hid (HI2.out x (List.mem_of_getElem? hx))
      obtain ⟨x0, x1⟩ := KM.strikes_in HXs.out
      obtain ⟨m0, m1⟩ := hp.b x.toNat (by omega)
      have HFo := Lib.hid (KM.strikes_pawn HK.out HSD.out HXs.out)
      clear hx hrow
      go_upto_region 13 with fail
      go_cut [14, 58, 60, 62, 72, 94] from 72 to 99 (fun v14 v58 v60 v62 v72 v94 wx => (v14 = .bool (KM.passB p) ∧ v58 = .tuple #[.int .i64 (KM.passN p), .bool (KM.passB p)] ∧ v60 = .tuple #[.int .i64 (KM.passN p), .bool (KM.passB p)] ∧ v62 = .bool (KM.passB p)) ∧ v72 = .int .i64 k ∧ ∃ b, v94 = .bool b ∧ (b = true → KM.opn p x = true) ∧ Below wr.heap.size wr wx)
      case first =>
        have d1 := hP.at (i := x.toNat) (by omega)
        have hPp := hP.part
        have e66 := hP.ep
        have hgo := gopen_any p x
        have hsx : KM.sqR x = true := KM.sqR_iff.2 ⟨x0, x1⟩
        have hgq := Lib.hid (show ∀ w', Calls Tryz.prog 65 #[.agg (KM.pval p), .int .i64 x] w' fun e w'' => e = .returned (.bool (KM.opn p x)) ∧ Below w'.heap.size w' w'' by
          intro w'
          have h := gopen_any p x w' hp
          rw [hsx, Bool.true_and] at h
          exact h)
        clear hgo hsx
        have hpl := hP.lt
        by_cases hbx : p.b x.toNat = 0
        · have bx : (p.b x.toNat != 0) = false := by simp [hbx]
          have hop : KM.opn p x = true := by unfold KM.opn; simp [hbx]
          have HOp := Lib.hid hop
          replace hbx := Lib.hid hbx
          clear hop
          cases hq : KM.passB p
          · replace hq := Lib.hid hq
            go_wp2_with fail
            go_meet
            exact ⟨by rw [hq.out]; exact ⟨rfl, rfl, rfl, rfl⟩, rfl, _, rfl, fun _ => HOp.out, Below.refl _ _⟩
          · replace hq := Lib.hid hq
            go_wp2_with fail
            go_meet
            exact ⟨by rw [hq.out]; exact ⟨rfl, rfl, rfl, rfl⟩, rfl, _, rfl, fun _ => HOp.out, Below.refl _ _⟩
        · have bx : (p.b x.toNat != 0) = true := by simp [hbx]
          have HBX := Lib.hid hbx
          clear hbx
          cases ho : KM.opn p x
          · rw [ho] at hgq
            clear ho
            cases hq : KM.passB p
            · replace hq := Lib.hid hq
              go_wp2_with (first
                | (refine wpList_load_part rfl 26 (.tmp 4) rfl _ 0 rfl _ _ hPp Tryz.underlying26 rfl (hi26 p) ?_)
                | (go_at_call 65; refine (hgq.out _).mono ?_; rintro e w4 ⟨rfl, hb4⟩; have e67 := (hP.below hb4 hpl).ep; have HB4 := Lib.hid hb4; clear hb4))
              go_meet
              exact ⟨by rw [hq.out]; exact ⟨rfl, rfl, rfl, rfl⟩, rfl, false, rfl, fun h => (by cases h), HB4.out⟩
            · by_cases hxe : x = p.ep
              · exact absurd (by rw [hxe]; exact KM.passB_ep hq) HBX.out
              · have bxe : (x == p.ep) = false := by simp [hxe]
                replace hq := Lib.hid hq
                clear hxe
                go_wp2_with (first
                  | (refine wpList_load_part rfl 26 (.tmp 4) rfl _ 0 rfl _ _ hPp Tryz.underlying26 rfl (hi26 p) ?_)
                  | (go_at_call 65; refine (hgq.out _).mono ?_; rintro e w4 ⟨rfl, hb4⟩; have e67 := (hP.below hb4 hpl).ep; have HB4 := Lib.hid hb4; clear hb4))
                go_meet
                exact ⟨by rw [hq.out]; exact ⟨rfl, rfl, rfl, rfl⟩, rfl, false, rfl, fun h => (by cases h), HB4.out⟩
          · rw [ho] at hgq
            have HOp := Lib.hid ho
            clear ho
            go_wp2_with (first
              | (refine wpList_load_part rfl 26 (.tmp 4) rfl _ 0 rfl _ _ hPp Tryz.underlying26 rfl (hi26 p) ?_)
              | (go_at_call 65; refine (hgq.out _).mono ?_; rintro e w4 ⟨rfl, hb4⟩; have HB4 := Lib.hid hb4; clear hb4))
            go_meet
            exact ⟨⟨rfl, rfl, rfl, rfl⟩, rfl, true, rfl, fun _ => HOp.out, HB4.out⟩
      case rest =>
      obtain ⟨⟨rfl, rfl, rfl, rfl⟩, rfl, b, rfl, hbo, hbc⟩ := hcut
      have hPl := hP.lt
      have HP4 := Lib.hid (HP.out.below hbc hPl)
      have HB4 := Lib.hid (HBr.out.step hbc)
      have hown := ownsRow_below HO.out hbc
      have hrow := ownsRow_below HRo.out hbc
      have hPl4 := Nat.lt_of_lt_of_le hPl hbc.size
      cases b
      · have HO4 := Lib.hid hown
        have HR4 := Lib.hid hrow
        clear hbo hbc hown hrow hP c1
        go_wp2_with fail
        go_roundw
        case rel => exact ⟨k + 1, l, a, cap, rfl, by go_num, by omega, by omega, HO4.out, HI.out, HP4.out, HB4.out, HR4.out, HAp.out⟩
        case measure => simp [intOf]; omega
      · have HG3 := Lib.hid (show ∀ y ∈ l ++ [x], (KM.sqR y = true ∧ KM.opn p y = true) ∧ KM.fore p s y from fun y hy => by
          rcases List.mem_append.1 hy with h | h
          · exact HI.out y h
          · rw [List.mem_singleton] at h
            subst h
            exact ⟨⟨KM.sqR_iff.2 ⟨x0, x1⟩, hbo rfl⟩, HFo.out⟩)
        clear hbo hbc hP c1
        go_wp2_with (at_builtin; refine wpList_append_own2 rfl _ _ 73 rfl (w.heap.size + 1) 3 i0 _ 1 8 Tryz.underlying73 hi hz0 hz1 hz2 rfl (by decide) _ _ _ rfl (hown.alloc _) ⟨wc.heap.size, 0, none⟩ 1 1 [.int .i64 x] rfl rfl ?c6 ?c7 (by decide) ?c8 ?c9 ?c10 ?_)
        case c6 => intro j u hu; exact one_cell wc _ _ j u hu
        case c7 => intro u hu; simp at hu; subst hu; rfl
        case c8 => unfold maxLen; omega
        case c9 => omega
        case c10 => simp; omega
        intro v' w5 hown5 hgrow hblk
        obtain ⟨a5, cap5, rfl⟩ := ownsRow_shape hown5
        have hal := (Below.refl wc.heap.size wc).alloc (Nat.le_refl _) (Obj.cells #[.int .i64 x] 3)
        have hbx : Below (w.heap.size + 1) (wc.alloc (Obj.cells #[.int .i64 x] 3)) w5 := (Below.refl _ _).grown hgrow (by simp; omega) (fun k hk => by have := hown.lt k hk; omega)
        have HP5 := Lib.hid ((HP4.out.below hal hPl4).below hbx (by omega))
        have HB5 := Lib.hid ((HB4.out.alloc (by omega) (Obj.cells #[.int .i64 x] 3)).trans (hbx.mono (by omega)))
        have HR5 := Lib.hid ((hrow.alloc (Obj.cells #[.int .i64 x] 3)).kept hgrow HAp.out)
        have HA5 := Lib.hid (show (Value.slice (some ⟨g2, 0, none⟩) ls.length cap2).ownBlock = none ∨ (Value.slice (some ⟨g2, 0, none⟩) ls.length cap2).ownBlock ≠ (Value.slice a5 (l.length + 1) cap5).ownBlock by
          rcases hblk with h | h
          · rw [h]; exact HAp.out
          · rw [h]
            refine .inr fun h2 => ?_
            have h3 := (hrow.lt _ h2).2
            have h4 : (wc.alloc (Obj.cells #[.int .i64 x] 3)).heap.size = wc.heap.size + 1 := by simp
            omega)
        have HO5 := Lib.hid hown5
        clear hgrow hown5 hown hrow hbx hal hblk
        go_wp2_with fail
        go_roundw
        case rel => exact ⟨k + 1, l ++ [x], a5, cap5, by simp, by go_num, by omega, by rw [List.length_append, List.length_singleton]; omega, by rw [show KM.ints (l ++ [x]) = KM.ints l ++ [.int .i64 x] from KM.ints_append _ _]; simpa using HO5.out, HG3.out, HP5.out, HB5.out, HR5.out, by simpa using HA5.out⟩
        case measure => simp [intOf]; omega
    · obtain rfl : k = ls.length := by omega
      clear hP hrow
      go_wp2_with fail
      go_ret
      exact ⟨l, ⟨a, cap, rfl, ownsRow_base HO.out (by omega), HBr.out⟩, by omega, HI.out⟩

theorem pawn_any (gg ge : Nat) (p : KM.Po) (s : Int) (w : World) (hp : p.wf) (hG : GBox w gg ge) (hr : KM.rightB p.b = true) (s0 : 0 ≤ s) (s1 : s < 64) (hu : p.turn = 0 ∨ p.turn = 1) (hk : KM.kind (p.b s.toNat) = 1) (hsd : KM.side (p.b s.toNat) = p.turn) (hz : p.b s.toNat ≠ 0) :
    Calls Tryz.prog 44 #[.pointer (some ⟨gg, 0, none⟩), .agg (KM.pval p), .int .i64 s] w fun e w' => ∃ l, RetInts w l e w' ∧ l.length ≤ 514 ∧ ∀ x ∈ l, (KM.sqR x = true ∧ KM.opn p x = true) ∧ KM.fore p s x := by
  rcases hu with hu | hu
  · exact pawn_0 gg ge p s w hp hG hr s0 s1 hu hk hsd hz
  · exact pawn_1 gg ge p s w hp hG hr s0 s1 hu hk hsd hz

end Go.Proofs.YtgikglnfjkbnhaaGreat
