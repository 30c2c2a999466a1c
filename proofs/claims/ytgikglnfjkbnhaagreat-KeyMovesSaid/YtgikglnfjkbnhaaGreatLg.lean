/-
  slices.IndexFunc and slices.DeleteFunc with gen.jumps's closure, walked.
-/
import Derived.Test.YtgikglnfjkbnhaaGreatLe
import Derived.Lib.SliceRun
import Derived.Deep.Cut
namespace Go.Proofs.YtgikglnfjkbnhaaGreat
open Go.RowKit
set_option maxHeartbeats 400000

/-- What the closure answers. -/
def KM.shut (p : KM.Po) (x : Int) : Bool := !(KM.sqR x && KM.opn p x)

theorem jumps1_any (p : KM.Po) (gp : Nat) (x : Int) (w : World) (hp : p.wf) (hP : PBox w gp p) :
    Calls Tryz.prog 67 #[.int .i64 x, .pointer (some ⟨gp, 0, none⟩)] w fun e w' => e = .returned (.bool (KM.shut p x)) ∧ Below w.heap.size w w' := by
  have HB := Lib.hid (Below.refl w.heap.size w)
  go_enter Tryz.func67, Tryz.ntmps67
  go_wp2_with (first
    | (refine wpList_load_part rfl 26 (.tmp 1) rfl gp 0 rfl _ _ hP.part Tryz.underlying26 rfl (hi26 p) ?_)
    | (go_at_call 65; refine (gopen_any _ _ _ hp).mono ?_; rintro e w2 ⟨rfl, hbl⟩; replace HB := Lib.hid (HB.out.step hbl); clear hbl))
  go_ret
  exact ⟨by unfold KM.shut; first | rfl | (rw [Bool.not_and]; rfl) | (simp; done), HB.out⟩

theorem ownsRow_prefix {w : World} {base E g cap n : Nat} {xs : List Value} (h : w.ownsRow base E 1 (.slice (some ⟨g, 0, none⟩) n cap) n xs) {i : Nat} (hi : i ≤ n) :
    w.ownsRow base E 1 (.slice (some ⟨g, 0, none⟩) i cap) i (xs.take i) := by
  refine ⟨by have := h.1; simp; omega, ?_⟩
  rcases h.2 with ⟨h', _⟩ | ⟨g', cap', cur, h', hb, hg, hnc, hcm, hcs, htake⟩
  · cases h'
  · injection h' with e1 e2 e3
    injection e1 with e1
    injection e1 with e1
    subst e1
    subst e3
    refine .inr ⟨g, cap, cur, rfl, hb, hg, by omega, hcm, hcs, ?_⟩
    rw [← htake, List.take_take]
    congr 1
    omega
theorem ownsRow_setCells {base E g cap n : Nat} : ∀ (vs : List Value) (o : Nat) (w : World) (xs : List Value), w.ownsRow base E 1 (.slice (some ⟨g, 0, none⟩) n cap) n xs →
    ∃ xs', (w.setCells g o vs).ownsRow base E 1 (.slice (some ⟨g, 0, none⟩) n cap) n xs' ∧ xs'.take o = xs.take o ∧ w.grownBy (w.setCells g o vs) (some g)
  | [], o, w, xs, h => ⟨xs, h, rfl, ⟨rfl, rfl, rfl, Nat.le_refl _, fun _ _ _ => rfl⟩⟩
  | v :: vs, o, w, xs, h => by
    obtain ⟨h1, h2⟩ := h.stored o v
    obtain ⟨xs', h3, h4, h5⟩ := ownsRow_setCells vs (o + 1) (w.setCell ⟨g, o, none⟩ v) (xs.set o v) h1
    refine ⟨xs', h3, ?_, ⟨h5.os.trans h2.os, h5.tape.trans h2.tape, h5.output.trans h2.output, Nat.le_trans h2.size h5.size, fun k hk hne => ?_⟩⟩
    · have e1 : xs'.take o = (xs'.take (o + 1)).take o := by rw [List.take_take]; congr 1; omega
      rw [e1, h4, List.take_take, show min o (o + 1) = o by omega, List.take_set]
      exact List.set_eq_of_length_le (by simp; omega)
    · rw [← h2.block k hk hne]
      exact h5.block k (by have := h2.size; omega) hne

theorem wpList_clear {P : Program} {ops : Array Oper} {rest : List Oper} {o : Oper} {a : Act} {w : World} {Q : Exit → Act → World → Prop} (hgd : Region.wanted o (yielded ops a.tmps) = true) (s : Operand) (t : TypeId)
    (ho : o.op = .call { callee := .builtin .clear, args := #[s], argTypes := #[t] }) (v : Value) (hs : a.eval s = v) (w' : World) (hrun : (Builtin.clear_ #[t] o.type #[v]).run P w = .ok (.tuple #[]) w')
    (h : wpList P ops Q rest (a.put o.dst (.tuple #[])) w') : wpList P ops Q (o :: rest) a w :=
  BigFrame.wpList_want hgd fun _ hK => by
    unfold Oper.wp execOp
    simp only [ho, resolve, invoke, builtin, Sem.run_bind, Sem.run_pure, Result.andThen_ok, List.map_toArray, List.map_cons, List.map_nil, hs, hrun]
    exact hK _ _ h

theorem indexFunc_any (p : KM.Po) (gp base : Nat) (a : Option Addr) (cap : Nat) (l : List Int) (w : World) (hp : p.wf) (hP : PBox w gp p) (hown : w.ownsRow base 3 1 (.slice a l.length cap) l.length (KM.ints l)) (hl : l.length ≤ 100000) :
    Calls Tryz.prog 77 #[.slice a l.length cap, .func (.func 67) #[] #[.pointer (some ⟨gp, 0, none⟩)]] w fun e w' => (∃ i : Int, e = .returned (.int .i64 i) ∧ ((i = -1 ∧ ∀ x ∈ l, KM.shut p x = false) ∨ (0 ≤ i ∧ i < l.length ∧ ∀ (k : Nat) x, (k : Int) < i → l[k]? = some x → KM.shut p x = false))) ∧ Below w.heap.size w w' := by
  have HP := Lib.hid hP
  have HO := Lib.hid hown
  have HB : Hid (Below w.heap.size w w) := Lib.hid (Below.refl _ _)
  have hgl := heap_lt hP
  clear hown hP
  go_enter Tryz.func77, Tryz.ntmps77
  go_wp2_with fail
  go_loopw [8] (fun i wr => ∃ k : Nat, i = .int .i64 k ∧ k ≤ l.length ∧ (∀ j x, j < k → l[j]? = some x → KM.shut p x = false) ∧ Below w.heap.size w wr) (fun i _ => l.length - (intOf i).toNat)
  case atStart => exact ⟨0, rfl, by omega, fun j x hj => by omega, HB.out⟩
  case round =>
    obtain ⟨k, rfl, hk, hall, hb⟩ := hrel
    have HA := Lib.hid hall
    have hP := HP.out.below hb hgl
    have hown := ownsRow_below HO.out hb
    have HB1 := Lib.hid hb
    clear hall hb
    by_cases hlt : k < l.length
    · obtain ⟨x, hx⟩ : ∃ x, l[k]? = some x := ⟨_, List.getElem?_eq_getElem hlt⟩
      obtain ⟨g, cap', he⟩ := ownsRow_some hown (by omega)
      injection he with e1 e2 e3
      subst e1
      subst e3
      have c1 := hown.cellAt k (by omega)
      rw [KM.ints_get hx] at c1
      have HX := Lib.hid hx
      have hcl := jumps1_any p gp x wr hp hP
      clear hown hx hP
      cases hs : KM.shut p x
      · rw [hs] at hcl
        have HN := Lib.hid (show ∀ j y, j < k + 1 → l[j]? = some y → KM.shut p y = false from fun j y hj hy => by
          by_cases e : j = k
          · subst e; rw [HX.out] at hy; injection hy with hy; rw [← hy]; exact hs
          · exact HA.out j y (by omega) hy)
        clear hs
        go_wp2_with (go_at_call 67; refine hcl.mono ?_; rintro e w3 ⟨rfl, hb3⟩)
        have HB3 := Lib.hid (HB1.out.step hb3)
        clear hb3 hcl
        go_roundw
        case rel => exact ⟨k + 1, by go_num, by omega, HN.out, HB3.out⟩
        case measure => simp [intOf]; omega
      · rw [hs] at hcl
        clear hs
        go_wp2_with (go_at_call 67; refine hcl.mono ?_; rintro e w3 ⟨rfl, hb3⟩)
        have HB3 := Lib.hid (HB1.out.step hb3)
        clear hb3 hcl
        go_ret
        exact ⟨⟨k, rfl, .inr ⟨by omega, by omega, fun j y hj hy => HA.out j y (by omega) hy⟩⟩, HB3.out⟩
    · obtain rfl : k = l.length := by omega
      clear hown hP
      go_wp2_with fail
      go_ret
      exact ⟨⟨-1, rfl, .inl ⟨rfl, fun x hx => by
        obtain ⟨j, hj, e⟩ := List.getElem_of_mem hx
        exact HA.out j x hj (by rw [List.getElem?_eq_getElem hj, e])⟩⟩, HB1.out⟩

theorem ownsRow_cap {w : World} {base E size g cap n : Nat} {xs : List Value} (h : w.ownsRow base E size (.slice (some ⟨g, 0, none⟩) n cap) n xs) : n ≤ cap ∧ cap ≤ maxLen := by
  rcases h.2 with ⟨h', _⟩ | ⟨g', cap', cur, h', hb, hg, hnc, hcm, hcs, htake⟩
  · cases h'
  · injection h' with e1 e2 e3
    subst e3
    exact ⟨hnc, hcm⟩

set_option maxRecDepth 20000 in
set_option maxHeartbeats 2000000 in
theorem deleteFunc_any (p : KM.Po) (gp base : Nat) (a : Option Addr) (cap : Nat) (l : List Int) (w : World) (hp : p.wf) (hP : PBox w gp p) (hgb : gp < base) (hbw : base ≤ w.heap.size)
    (hown : w.ownsRow base 3 1 (.slice a l.length cap) l.length (KM.ints l)) (hl : l.length ≤ 100000) :
    Calls Tryz.prog 66 #[.slice a l.length cap, .func (.func 67) #[] #[.pointer (some ⟨gp, 0, none⟩)]] w fun e w' =>
      (∃ (l' : List Int) (a' : Option Addr) (cap' : Nat), e = .returned (.slice a' l'.length cap') ∧ w'.ownsRow base 3 1 (.slice a' l'.length cap') l'.length (KM.ints l') ∧ (∀ x ∈ l', x ∈ l ∧ KM.shut p x = false) ∧ l'.length ≤ l.length) ∧ Below base w w' := by
  have HP := Lib.hid hP
  have HO := Lib.hid hown
  have hix := indexFunc_any p gp base a cap l w hp hP hown hl
  have hgl := heap_lt hP
  clear hown hP
  go_enter Tryz.func66, Tryz.ntmps66
  go_upto_region 2 with (go_at_call 77; refine hix.mono ?_; rintro e w1 ⟨⟨i, rfl, hi⟩, hb1⟩)
  have hown1 := ownsRow_below HO.out hb1
  have HB1 := Lib.hid (hb1.mono hbw)
  have hbw1 := Nat.le_trans hbw hb1.size
  clear hix hb1
  rcases hi with ⟨rfl, hall⟩ | ⟨i0, i1, hall⟩
  · have HA := Lib.hid hall
    have HO1 := Lib.hid hown1
    clear hall hown1
    go_wp2_with fail
    go_ret
    exact ⟨⟨l, a, cap, rfl, HO1.out, fun x hx => ⟨hx, HA.out x hx⟩, Nat.le_refl _⟩, HB1.out⟩
  · obtain ⟨g, cap', he⟩ := ownsRow_some hown1 (by omega)
    injection he with e1 e2 e3
    subst e1
    subst e3
    obtain ⟨hcap, hcm⟩ := ownsRow_cap hown1
    obtain ⟨n, rfl⟩ : ∃ n : Nat, i = n := ⟨i.toNat, by omega⟩
    have HA := Lib.hid (show ∀ (k : Nat) x, k < n → l[k]? = some x → KM.shut p x = false from fun k x hk => hall k x (by omega))
    have HO1 := Lib.hid hown1
    have bi : ((n : Int) == -1) = false := by simp
    clear hall hown1
    clear e2
    go_wp2_with fail
    clear bi HO
    obtain ⟨lc, hlc⟩ : ∃ n, n = l.length := ⟨_, rfl⟩
    have HLC := Lib.hid hlc
    rw [← hlc] at i1 hl hcap HO1 
    go_loopw [5, 6] (fun vi vj wr => ∃ (i j : Nat) (m : List Int), vi = .int .i64 i ∧ vj = .int .i64 j ∧ i < j ∧ j ≤ l.length ∧ m.length = l.length ∧ wr.ownsRow base 3 1 (.slice (some ⟨g, 0, none⟩) l.length cap) l.length (KM.ints m)
      ∧ (∀ x ∈ m, x ∈ l) ∧ (∀ (k : Nat) x, k < i → m[k]? = some x → KM.shut p x = false) ∧ Below base w wr) (fun _ vj _ => l.length - (intOf vj).toNat)
    case atStart => exact ⟨n, n + 1, l, rfl, by go_num, by omega, by omega, rfl, by rw [HLC.out] at HO1; exact HO1.out, fun x hx => hx, HA.out, HB1.out⟩
    case round =>
      obtain ⟨i, j, m, rfl, rfl, hij, hj, hm, hown, hin, hsh, hb⟩ := hrel
      have HM := Lib.hid hm
      have HI := Lib.hid hin
      have HA2 := Lib.hid hsh
      have HB2 := Lib.hid hb
      have hP := HP.out.below hb hgb
      have hsz := Nat.le_trans hbw hb.size
      clear hin hsh hb
      by_cases hlt : j < l.length
      · obtain ⟨x, hx⟩ : ∃ x, m[j]? = some x := ⟨_, List.getElem?_eq_getElem (by omega)⟩
        obtain ⟨y, hy⟩ : ∃ y, m[i]? = some y := ⟨_, List.getElem?_eq_getElem (by omega)⟩
        have c1 := hown.cellAt j (by omega)
        rw [KM.ints_get hx] at c1
        have HX := Lib.hid hx
        have HXm := Lib.hid (HI.out x (List.mem_of_getElem? hx))
        have HO2 := Lib.hid hown
        have hcl := jumps1_any p gp x wr hp hP
        clear hown hx hP hm
        cases hs : KM.shut p x
        · rw [hs] at hcl
          have HS := Lib.hid hs
          clear hs
          go_upto_if 29 with (go_at_call 67; refine hcl.mono ?_; rintro e w3 ⟨rfl, hb3⟩)
          have hown3 := ownsRow_below HO2.out hb3
          have c2 := hown3.cellAt i (by omega)
          rw [KM.ints_get hy] at c2
          have f2 := hown3.frozenAt i
          obtain ⟨h4, h5⟩ := hown3.stored i (.int .i64 x)
          have e4 : (KM.ints m).set i (.int .i64 x) = KM.ints (m.set i x) := by unfold KM.ints; rw [List.map_set]
          rw [e4] at h4
          have HO3 := Lib.hid h4
          have HB3 := Lib.hid ((HB2.out.trans (hb3.mono hsz)).grown h5 (Nat.le_trans hsz hb3.size) (fun k hk => by cases hk; have := hown3.lt g rfl; omega))
          have HI3 := Lib.hid (show ∀ z ∈ m.set i x, z ∈ l from fun z hz => by
            rcases List.mem_or_eq_of_mem_set hz with h | h
            · exact HI.out z h
            · rw [h]; exact HXm.out)
          have HA3 := Lib.hid (show ∀ (k : Nat) z, k < i + 1 → (m.set i x)[k]? = some z → KM.shut p z = false from fun k z hk hz => by
            rw [List.getElem?_set] at hz
            by_cases e : i = k
            · rw [if_pos e] at hz
              split at hz
              · injection hz with hz; rw [← hz]; exact HS.out
              · cases hz
            · rw [if_neg e] at hz
              exact HA2.out k z (by omega) hz)
          have HM3 := Lib.hid (show (m.set i x).length = l.length by rw [List.length_set]; exact HM.out)
          clear h4 h5 e4 hown3 hb3 hcl hy
          go_wp2_with fail
          go_roundw
          case rel => exact ⟨i + 1, j + 1, m.set i x, by go_num, by go_num, by omega, by omega, HM3.out, HO3.out, HI3.out, HA3.out, HB3.out⟩
          case measure => simp [intOf]; omega
        · rw [hs] at hcl
          clear hs
          go_wp2_with (go_at_call 67; refine hcl.mono ?_; rintro e w3 ⟨rfl, hb3⟩)
          have HO3 := Lib.hid (ownsRow_below HO2.out hb3)
          have HB3 := Lib.hid (HB2.out.trans (hb3.mono hsz))
          clear hb3 hcl hy
          go_roundw
          case rel => exact ⟨i, j + 1, m, rfl, by go_num, by omega, by omega, HM.out, HO3.out, HI.out, HA2.out, HB3.out⟩
          case measure => simp [intOf]; omega
      · obtain rfl : j = l.length := by omega
        have hci : ¬ cap = i := by omega
        obtain ⟨xs', h3, h4, h5⟩ := ownsRow_setCells (List.replicate (l.length - i) (Value.int .i64 0)) i wr (KM.ints m) hown
        have hrun := Lib.run_clear_slice (P := Tryz.prog) wr 73 3 0 (.int .i64 0) Tryz.underlying73 (fun w => by kernel_rfl) rfl rfl g i (l.length - i) (cap - i) (by omega)
          (fun k hk => by rw [hown.cellAt (i + k) (by omega), List.getElem?_eq_getElem (by rw [KM.ints_length]; omega)]; rfl) (fun k hk => hown.frozenAt (i + k))
        have h6 := ownsRow_prefix h3 (i := i) (by omega)
        rw [h4, show (KM.ints m).take i = KM.ints (m.take i) by unfold KM.ints; rw [List.map_take]] at h6
        have HO6 := Lib.hid h6
        have HB6 := Lib.hid (HB2.out.grown h5 hsz (fun k hk => by cases hk; have := hown.lt g rfl; omega))
        clear h3 h4 h5 h6 hown hP hm
        go_wp2_with fail
        go_ret
        have hml := HM.out
        have htl : (m.take i).length = i := by rw [List.length_take]; omega
        refine ⟨⟨m.take i, some ⟨g, 0, none⟩, cap, ?_, ?_, fun x hx => ⟨HI.out x (List.mem_of_mem_take hx), ?_⟩, by omega⟩, HB6.out⟩
        · rw [htl]; rfl
        · rw [htl]; exact HO6.out
        · obtain ⟨k, hk, e⟩ := List.getElem_of_mem hx
          rw [htl] at hk
          exact HA2.out k x hk (by rw [← e, List.getElem_take, List.getElem?_eq_getElem])

end Go.Proofs.YtgikglnfjkbnhaaGreat
