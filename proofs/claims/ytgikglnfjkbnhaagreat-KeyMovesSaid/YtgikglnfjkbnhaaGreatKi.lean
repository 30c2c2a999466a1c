/-
  Along: what goes along a man's rays, with a closure that keeps a list; the closures of Strikes and of from, walked.
-/
import Derived.Test.YtgikglnfjkbnhaaGreatKh
namespace Go.Proofs.YtgikglnfjkbnhaaGreat
open Go.RowKit
set_option maxHeartbeats 400000

/-- A call of a function value, by its contract. -/
theorem wpList_call_fn {P : Program} {ops : Array Oper} {rest : List Oper} {o : Oper} {a : Act} {w : World} {Q : Exit → Act → World → Prop} (hgd : Region.wanted o (yielded ops a.tmps) = true) (f : Operand) (xs : Array Operand) (tys : Array TypeId)
    (ho : o.op = .call { callee := .value f, args := xs, argTypes := tys }) (n : Nat) (caps : Array Value) (hf : a.eval f = .func (.func n) #[] caps)
    (he : ∀ args w, (callFunc n args).run P w = .ok (.enter n args) w) (args : Array Value) (ha : xs.map a.eval = args)
    (h : Calls P n (args ++ caps) w fun e w' => ∃ v, e = .returned v ∧ wpList P ops Q rest (a.put o.dst v) w') : wpList P ops Q (o :: rest) a w :=
  BigFrame.wpList_want hgd fun _ hK => by
    unfold Oper.wp execOp
    simp only [ho, resolve, Deferred.ofValue, hf, Sem.run_bind, Sem.run_pure, Result.andThen_ok, invoke, Array.empty_append, ha, he, Oper.upon]
    refine h.mono ?_
    rintro e w' ⟨v, rfl, hw⟩
    exact hK _ _ hw

/-- What a closure that is handed to Along keeps, a list of squares; what it answers; and what it may change. -/
structure Clo (n : Nat) (caps : Array Value) (g : List Int → Int → List Int × Bool) (I : List Int → World → Prop) (F : World → Nat → Prop) : Prop where
  stable : ∀ s w w', I s w → Below w.heap.size w w' → I s w' ∧ ∀ k, F w' k → F w k
  lt : ∀ s w k, I s w → F w k → k < w.heap.size
  grow : ∀ s x, (g s x).1.length ≤ s.length + 1
  enter : ∀ args w, (callFunc n args).run Tryz.prog w = .ok (.enter n args) w
  call : ∀ s w x, I s w → 0 ≤ x → x < 64 → s.length ≤ 100000 →
    Calls Tryz.prog n (#[.int .i64 x] ++ caps) w fun e w' => e = .returned (.bool (g s x).2) ∧ I (g s x).1 w' ∧ Chg F w w'

/-! ### Strikes's closure -/
def SI (b : Nat → Int) (go gb : Nat) (l : List Int) (w : World) : Prop := OutVar go l w ∧ BBox w gb b ∧ ¬ SF go w gb

theorem strikes1_any (b : Nat → Int) (go gb : Nat) (l : List Int) (x : Int) (w : World) (hb : KM.bok b) (h : SI b go gb l w) (x0 : 0 ≤ x) (x1 : x < 64) (hl : l.length ≤ 100000) :
    Calls Tryz.prog 76 #[.int .i64 x, .pointer (some ⟨go, 0, none⟩), .pointer (some ⟨gb, 0, none⟩)] w
      fun e w' => e = .returned (.bool (KM.gStrikes b l x).2) ∧ SI b go gb (KM.gStrikes b l x).1 w' ∧ Chg (SF go) w w' := by
  obtain ⟨⟨a, cap, hgo, hown⟩, hB, hlt⟩ := h
  have hgl := heap_lt hgo
  have c0 := OutVar.cell hgo
  obtain ⟨i0, hi, hz0, hz1, hz2⟩ := info_parts info3s
  obtain ⟨m0, m1⟩ := hb x.toNat (by omega)
  go_enter Tryz.func76, Tryz.ntmps76
  go_wp2_with (at_builtin; refine wpList_append_own2 rfl _ _ 73 rfl (go + 1) 3 i0 _ 1 8 Tryz.underlying73 hi hz0 hz1 hz2 rfl (by decide) _ _ _ rfl (hown.alloc _) ⟨w.heap.size, 0, none⟩ 1 1 [.int .i64 x] rfl rfl ?c1 ?c2 (by decide) ?c3 ?c4 ?c5 ?_)
  case c1 => intro j u hu; exact one_cell w _ _ j u hu
  case c2 => intro u hu; simp at hu; subst hu; rfl
  case c3 => unfold maxLen; omega
  case c4 => omega
  case c5 => simp; omega
  intro v' w3 hown3 hgrow hblk
  obtain ⟨HO, HC⟩ := OutVar.append hgo hown ((Below.refl _ _).alloc (Nat.le_refl _) _) hown3 hgrow (by simpa using hblk)
  have hf3 : w3.frozen? ⟨go, 0, none⟩ = false := by
    rw [World.frozen?_of_block (w := w) (a := ⟨go, 0, none⟩) (by rw [hgrow.block go (by simp; omega) (fun e => by have := hown.lt go e.symm; omega)]; exact Below.heap_alloc _ _ _ hgl)]
    simp [World.frozen?, hgo]
  have hc3 : w3.cell? ⟨go, 0, none⟩ = some (.slice a l.length cap) := by
    rw [World.cell?_of_block (w := w) (a := ⟨go, 0, none⟩) (by rw [hgrow.block go (by simp; omega) (fun e => by have := hown.lt go e.symm; omega)]; exact Below.heap_alloc _ _ _ hgl)]
    exact c0
  obtain ⟨a3, cap3, rfl⟩ := ownsRow_shape hown3
  have hB4 : BBox (w3.setCell ⟨go, 0, none⟩ (.slice a3 (l.length + 1) cap3)) gb b := by
    unfold BBox
    rw [HC.keep gb hB.lt hlt]
    exact hB
  have hbx := hB4.at (i := x.toNat) (by omega)
  have HB := Lib.hid hB4
  have HN := Lib.hid (show ¬ SF go (w3.setCell ⟨go, 0, none⟩ (.slice a3 (l.length + 1) cap3)) gb from fun hf => by
    rcases HC.new gb hf with h1 | h1
    · exact hlt h1
    · have := hB.lt; omega)
  have HO' := Lib.hid HO
  have HC' := Lib.hid HC
  clear hB4 HO HC hblk hgrow hown3 hown c0
  go_wp2_with fail
  go_ret
  exact ⟨rfl, ⟨HO'.out, HB.out, HN.out⟩, HC'.out⟩

theorem strikes_clo (b : Nat → Int) (go gb : Nat) (hb : KM.bok b) : Clo 76 #[.pointer (some ⟨go, 0, none⟩), .pointer (some ⟨gb, 0, none⟩)] (KM.gStrikes b) (SI b go gb) (SF go) where
  stable s w w' h hbl := by
    obtain ⟨h1, h2, h3⟩ := h
    obtain ⟨h4, h5⟩ := h1.below hbl
    exact ⟨⟨h4, h2.below hbl h2.lt, fun hf => h3 (h5 _ hf)⟩, h5⟩
  lt s w k h hk := (h.1.lt hk).1
  grow s x := by simp [KM.gStrikes]
  enter args w := by kernel_rfl
  call s w x h x0 x1 hl := strikes1_any b go gb s x w hb h x0 x1 hl

/-! ### from's closure -/
/-- Block g holds a number. -/
def IBox (w : World) (g : Nat) (n : Int) : Prop := w.heap[g]? = some (.cells #[.int .i64 n] 3 (0, 0))
theorem IBox.below {w w' : World} {B g : Nat} {n : Int} (h : IBox w g n) (hb : Below B w w') (hg : g < B) : IBox w' g n := by
  unfold IBox; rw [hb.block g hg]; exact h
theorem IBox.lt {w : World} {g : Nat} {n : Int} (h : IBox w g n) : g < w.heap.size := heap_lt h
theorem IBox.cell {w : World} {g : Nat} {n : Int} (h : IBox w g n) : w.cell? ⟨g, 0, none⟩ = some (.int .i64 n) := by
  rw [cell_of_row w g 0 _ _ _ h]; rfl

def FI (b : Nat → Int) (man most : Int) (go gb gk gm : Nat) (l : List Int) (w : World) : Prop :=
  OutVar go l w ∧ BBox w gb b ∧ IBox w gk man ∧ IBox w gm most ∧ ¬ SF go w gb ∧ ¬ SF go w gk ∧ ¬ SF go w gm

theorem FI.below {b : Nat → Int} {man most : Int} {go gb gk gm : Nat} {l : List Int} {w w' : World} (h : FI b man most go gb gk gm l w) (hb : Below w.heap.size w w') : FI b man most go gb gk gm l w' ∧ ∀ k, SF go w' k → SF go w k := by
  obtain ⟨h1, h2, h3, h4, h5, h6, h7⟩ := h
  obtain ⟨h8, h9⟩ := h1.below hb
  exact ⟨⟨h8, h2.below hb h2.lt, h3.below hb h3.lt, h4.below hb h4.lt, fun hf => h5 (h9 _ hf), fun hf => h6 (h9 _ hf), fun hf => h7 (h9 _ hf)⟩, h9⟩
theorem FI.chg {b : Nat → Int} {man most : Int} {go gb gk gm : Nat} {l : List Int} {w w' : World} (h : OutVar go l w') (hC : Chg (SF go) w w') (hB : BBox w gb b) (hK : IBox w gk man) (hM : IBox w gm most)
    (n1 : ¬ SF go w gb) (n2 : ¬ SF go w gk) (n3 : ¬ SF go w gm) : FI b man most go gb gk gm l w' := by
  refine ⟨h, ?_, ?_, ?_, fun hf => ?_, fun hf => ?_, fun hf => ?_⟩
  · unfold BBox; rw [hC.keep gb hB.lt n1]; exact hB
  · unfold IBox; rw [hC.keep gk hK.lt n2]; exact hK
  · unfold IBox; rw [hC.keep gm hM.lt n3]; exact hM
  · rcases hC.new gb hf with h1 | h1
    · exact n1 h1
    · have := hB.lt; omega
  · rcases hC.new gk hf with h1 | h1
    · exact n2 h1
    · have := hK.lt; omega
  · rcases hC.new gm hf with h1 | h1
    · exact n3 h1
    · have := hM.lt; omega

theorem from1_any (b : Nat → Int) (man most : Int) (go gb gk gm : Nat) (l : List Int) (x : Int) (w : World) (hb : KM.bok b) (h : FI b man most go gb gk gm l w) (x0 : 0 ≤ x) (x1 : x < 64) (hl : l.length ≤ 100000) :
    Calls Tryz.prog 91 #[.int .i64 x, .pointer (some ⟨gb, 0, none⟩), .pointer (some ⟨gk, 0, none⟩), .pointer (some ⟨go, 0, none⟩), .pointer (some ⟨gm, 0, none⟩)] w
      fun e w' => e = .returned (.bool (KM.gFrom b man most l x).2) ∧ FI b man most go gb gk gm (KM.gFrom b man most l x).1 w' ∧ Chg (SF go) w w' := by
  have HH := Lib.hid h
  obtain ⟨⟨a, cap, hgo, hown⟩, hB, hK, hM, n1, n2, n3⟩ := h
  have hgl := heap_lt hgo
  have hbl := hB.lt
  have hkl := hK.lt
  have hml := hM.lt
  obtain ⟨i0, hi, hz0, hz1, hz2⟩ := info_parts info3s
  obtain ⟨m0, m1⟩ := hb x.toNat (by omega)
  have c1 := fun i : Idx w.heap.size w => (hB.idx hbl i).at (i := x.toNat) (by omega)
  have c2 := fun i : Idx w.heap.size w => (hK.below i.below hkl).cell
  have c3 := fun i : Idx w.heap.size w => (i.below.cell (p := ⟨go, 0, none⟩) hgl).trans (OutVar.cell hgo)
  have c4 := fun i : Idx w.heap.size w => (hM.below i.below hml).cell
  by_cases hx : (b x.toNat == man) = true
  · by_cases hm : (l.length : Int) < most
    · have hg : KM.gFrom b man most l x = (l ++ [x], b x.toNat == 0) := by unfold KM.gFrom; rw [if_pos ⟨hx, hm⟩]
      rw [hg]
      clear hg
      go_enter Tryz.func91, Tryz.ntmps91
      go_wp2_with fail
      refine wp_region_idx (w.heap.size) (by kernel_rfl) (by kernel_rfl) ?_
      repeat (first | go_big_quiet_skip | (go_big_quiet_want; go_big_quiet_op; go_big_quiet_on))
      refine wpQuiet_nil ?_
      intro w2 hwq
      have hbq := Idx.get hwq
      obtain ⟨h2, hbs⟩ := FI.below HH.out hbq
      clear hwq c1 c2 c3 c4 hgo hown hB hK hM n1 n2 n3 hgl hbl hkl hml
      have H2 := Lib.hid h2
      obtain ⟨⟨a, cap, hgo, hown⟩, hB, hK, hM, n1, n2, n3⟩ := h2
      have hgl := heap_lt hgo
      have c5 := OutVar.cell hgo
      go_wp2_with (at_builtin; refine wpList_append_own2 rfl _ _ 73 rfl (go + 1) 3 i0 _ 1 8 Tryz.underlying73 hi hz0 hz1 hz2 rfl (by decide) _ _ _ rfl (hown.alloc _) ⟨w2.heap.size, 0, none⟩ 1 1 [.int .i64 x] rfl rfl ?c1 ?c2 (by decide) ?c3 ?c4 ?c5 ?_)
      case c1 => intro j u hu; exact one_cell w2 _ _ j u hu
      case c2 => intro u hu; simp at hu; subst hu; rfl
      case c3 => unfold maxLen; omega
      case c4 => omega
      case c5 => simp; omega
      intro v' w3 hown3 hgrow hblk
      obtain ⟨HO, HC⟩ := OutVar.append hgo hown ((Below.refl _ _).alloc (Nat.le_refl _) _) hown3 hgrow (by simpa using hblk)
      have hf3 : w3.frozen? ⟨go, 0, none⟩ = false := by
        rw [World.frozen?_of_block (w := w2) (a := ⟨go, 0, none⟩) (by rw [hgrow.block go (by simp; omega) (fun e => by have := hown.lt go e.symm; omega)]; exact Below.heap_alloc _ _ _ hgl)]
        simp [World.frozen?, hgo]
      have hc3 : w3.cell? ⟨go, 0, none⟩ = some (.slice a l.length cap) := by
        rw [World.cell?_of_block (w := w2) (a := ⟨go, 0, none⟩) (by rw [hgrow.block go (by simp; omega) (fun e => by have := hown.lt go e.symm; omega)]; exact Below.heap_alloc _ _ _ hgl)]
        exact OutVar.cell hgo
      obtain ⟨a3, cap3, rfl⟩ := ownsRow_shape hown3
      have hH4 := FI.chg HO HC hB hK hM n1 n2 n3
      have hbx := hH4.2.1.at (i := x.toNat) (by omega)
      have HB := Lib.hid hH4
      have HC' := Lib.hid ((Chg.of_below hbq hbs).trans HC)
      clear hH4 HO HC hblk hgrow hown3 hown c5
      go_wp2_with fail
      go_ret
      exact ⟨rfl, HB.out, HC'.out⟩
    · have hm' : decide ((l.length : Int) < most) = false := by simp; omega
      have hg : KM.gFrom b man most l x = (l, b x.toNat == 0) := by unfold KM.gFrom; rw [if_neg (fun h => hm h.2)]
      rw [hg]
      clear hg
      go_enter Tryz.func91, Tryz.ntmps91
      go_wp2_with fail
      refine wp_region_idx (w.heap.size) (by kernel_rfl) (by kernel_rfl) ?_
      repeat (first | go_big_quiet_skip | (go_big_quiet_want; go_big_quiet_op; go_big_quiet_on))
      refine wpQuiet_nil ?_
      intro w2 hwq
      have hbq := Idx.get hwq
      obtain ⟨h2, hbs⟩ := FI.below HH.out hbq
      clear hwq c1 c2 c3 c4 hgo hown hB hK hM n1 n2 n3 hgl hbl hkl hml
      have H2 := Lib.hid h2
      obtain ⟨⟨a, cap, hgo, hown⟩, hB, hK, hM, n1, n2, n3⟩ := h2
      have hgl := heap_lt hgo
      have hbx := hB.at (i := x.toNat) (by omega)
      have HC' := Lib.hid (Chg.of_below hbq hbs)
      go_wp2_with fail
      go_ret
      exact ⟨rfl, H2.out, HC'.out⟩
  · replace hx := Bool.eq_false_iff.2 hx
    have hg : KM.gFrom b man most l x = (l, b x.toNat == 0) := by unfold KM.gFrom; rw [if_neg (fun h => by rw [hx] at h; exact Bool.false_ne_true h.1)]
    rw [hg]
    clear hg
    go_enter Tryz.func91, Tryz.ntmps91
    go_wp2_with fail
    refine wp_region_idx (w.heap.size) (by kernel_rfl) (by kernel_rfl) ?_
    repeat (first | go_big_quiet_skip | (go_big_quiet_want; go_big_quiet_op; go_big_quiet_on))
    refine wpQuiet_nil ?_
    intro w2 hwq
    have hbq := Idx.get hwq
    obtain ⟨h2, hbs⟩ := FI.below HH.out hbq
    clear hwq c1 c2 c3 c4 hgo hown hB hK hM n1 n2 n3 hgl hbl hkl hml
    have H2 := Lib.hid h2
    obtain ⟨⟨a, cap, hgo, hown⟩, hB, hK, hM, n1, n2, n3⟩ := h2
    have hgl := heap_lt hgo
    have hbx := hB.at (i := x.toNat) (by omega)
    have HC' := Lib.hid (Chg.of_below hbq hbs)
    go_wp2_with fail
    go_ret
    exact ⟨rfl, H2.out, HC'.out⟩

theorem from_clo (b : Nat → Int) (man most : Int) (go gb gk gm : Nat) (hb : KM.bok b) : Clo 91 #[.pointer (some ⟨gb, 0, none⟩), .pointer (some ⟨gk, 0, none⟩), .pointer (some ⟨go, 0, none⟩), .pointer (some ⟨gm, 0, none⟩)] (KM.gFrom b man most) (FI b man most go gb gk gm) (SF go) where
  stable s w w' h hbl := h.below hbl
  lt s w k h hk := (h.1.lt hk).1
  grow s x := by unfold KM.gFrom; split <;> simp
  enter args w := by kernel_rfl
  call s w x h x0 x1 hl := from1_any b man most go gb gk gm s x w hb h x0 x1 hl

end Go.Proofs.YtgikglnfjkbnhaaGreat
