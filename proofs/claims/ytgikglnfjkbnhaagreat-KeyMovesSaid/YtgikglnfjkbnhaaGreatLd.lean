/-
  move.Do: a position comes; walked.
-/
import Derived.Test.YtgikglnfjkbnhaaGreatLc
import Derived.Deep.Cut
namespace Go.Proofs.YtgikglnfjkbnhaaGreat
open Go.RowKit
set_option maxHeartbeats 400000

def KM.upd (b : Nat → Int) (i : Nat) (x : Int) : Nat → Int := fun j => if j = i then x else b j
def KM.putB (q : KM.Po) (i : Nat) (x : Int) : KM.Po := { q with b := KM.upd q.b i x }
theorem KM.pval_over (q : KM.Po) : (KM.pval q)[67]? = none := by rw [Array.getElem?_eq_none]; rw [KM.pval_size]; omega
theorem KM.pval_ext {a b : Array Value} (ha : a.size = 67) (hb : b.size = 67) (h : ∀ i, i < 67 → a[i]? = b[i]?) : a = b := by
  apply Array.ext_getElem?
  intro i
  by_cases hi : i < 67
  · exact h i hi
  · rw [Array.getElem?_eq_none (by omega), Array.getElem?_eq_none (by omega)]
theorem KM.pval_put (q : KM.Po) (i : Nat) (x : Int) (hi : i < 64) : (KM.pval q).setIfInBounds i (.int .i8 x) = KM.pval (KM.putB q i x) := by
  refine KM.pval_ext (by simp [KM.pval_size]) (KM.pval_size _) fun j hj => ?_
  rw [Array.getElem?_setIfInBounds]
  by_cases h : i = j
  · subst h
    rw [if_pos rfl, if_pos (by rw [KM.pval_size]; omega), KM.pval_get _ hi]
    simp [KM.putB, KM.upd]
  · rw [if_neg h]
    by_cases h64 : j < 64
    · rw [KM.pval_get _ h64, KM.pval_get _ h64]
      simp [KM.putB, KM.upd, show ¬ j = i from fun e => h e.symm]
    · have : j = 64 ∨ j = 65 ∨ j = 66 := by omega
      rcases this with rfl | rfl | rfl
      · rw [KM.pval_turn, KM.pval_turn]; rfl
      · rw [KM.pval_castle, KM.pval_castle]; rfl
      · rw [KM.pval_ep, KM.pval_ep]; rfl
theorem KM.pval_num (q q' : KM.Po) (i : Nat) (x : Int) (hi : 64 ≤ i) (hi' : i < 67) (hb : q'.b = q.b) (h4 : q'.turn = if i = 64 then x else q.turn) (h5 : q'.castle = if i = 65 then x else q.castle) (h6 : q'.ep = if i = 66 then x else q.ep) :
    (KM.pval q).setIfInBounds i (.int .i64 x) = KM.pval q' := by
  refine KM.pval_ext (by simp [KM.pval_size]) (KM.pval_size _) fun j hj => ?_
  rw [Array.getElem?_setIfInBounds]
  by_cases h64 : j < 64
  · rw [if_neg (by omega), KM.pval_get _ h64, KM.pval_get _ h64, hb]
  · have : j = 64 ∨ j = 65 ∨ j = 66 := by omega
    rcases this with rfl | rfl | rfl
    · rw [KM.pval_turn, KM.pval_turn, h4, KM.pval_size]; repeat' split
      all_goals first | rfl | omega
    · rw [KM.pval_castle, KM.pval_castle, h5, KM.pval_size]; repeat' split
      all_goals first | rfl | omega
    · rw [KM.pval_ep, KM.pval_ep, h6, KM.pval_size]; repeat' split
      all_goals first | rfl | omega

theorem PBox.store {w : World} {g : Nat} {q q' : KM.Po} {i : Nat} {v : Value} (h : PBox w g q) (he : (KM.pval q).setIfInBounds i v = KM.pval q') : PBox (w.setCell ⟨g, i, none⟩ v) g q' := by
  unfold PBox
  rw [heap_setCell_same w g i _ _ v h, he]
theorem KM.putB_wf {q : KM.Po} (h : q.wf) (i : Nat) (x : Int) (x0 : -128 ≤ x) (x1 : x ≤ 127) : (KM.putB q i x).wf := by
  refine ⟨fun j hj => ?_, h.turn, h.castle, h.ep⟩
  show -128 ≤ KM.upd q.b i x j ∧ KM.upd q.b i x j ≤ 127
  unfold KM.upd
  split
  · exact ⟨x0, x1⟩
  · exact h.b j hj


theorem KM.pval_one (q : KM.Po) : (KM.pval q).all (·.oneCell') = true := by
  unfold KM.pval KM.pcells KM.bcells
  simp [Value.oneCell']
theorem zero26_size (q : KM.Po) : Tryz.zeroCells26.size = (KM.pval q).size := by rw [KM.pval_size]; kernel_rfl
theorem heap_setRow_same {w : World} {g : Nat} {old cs : Array Value} {t : TypeId} {fr : Nat × Nat} (h : w.heap[g]? = some (.cells old t fr)) : (w.setRow g cs).heap[g]? = some (.cells cs t fr) := by
  have hlt := heap_lt h
  have h2 : w.heap[g] = .cells old t fr := by rw [Array.getElem?_eq_getElem hlt] at h; injection h
  simp [World.setRow, Array.getElem?_modify, h]
theorem heap_setRow_other {w : World} {g k : Nat} {cs : Array Value} (h : k ≠ g) : (w.setRow g cs).heap[k]? = w.heap[k]? := by
  simp [World.setRow, Array.getElem?_modify, Ne.symm h]
theorem below_setRow {B : Nat} {a w : World} {g : Nat} {cs : Array Value} (h : Below B a w) (hg : B ≤ g) : Below B a (w.setRow g cs) :=
  ⟨h.os, h.tape, h.output, by simpa [World.setRow] using h.size, fun k hk => by rw [heap_setRow_other (by omega)]; exact h.block k hk⟩
theorem below_setCell {B : Nat} {a w : World} {g o : Nat} {v : Value} (h : Below B a w) (hg : B ≤ g) : Below B a (w.setCell ⟨g, o, none⟩ v) :=
  ⟨h.os, h.tape, h.output, by simpa [World.setCell] using h.size, fun k hk => by rw [Below.heap_setCell _ _ _ _ (show k ≠ g by omega)]; exact h.block k hk⟩

theorem PBox.frozen {w : World} {g : Nat} {q : KM.Po} (h : PBox w g q) (i : Nat) : w.frozen? ⟨g, i, none⟩ = false := by
  unfold PBox at h
  simp [World.frozen?, h]

/-- A store of a number, where nothing else can come. -/
theorem plan_store {P : Program} {ops : Array Oper} {Q : Exit → Act → World → Prop} {C : World → Prop} {i : Nat} {o : Oper} {rest : List (Nat × Bool)} {a : Act} {w : World} (hi : ops.toList[i]? = some o) (hw : Region.wanted o (yielded ops a.tmps) = true)
    (ty : TypeId) (x y : Operand) (ho : o.op = .store ty x y) (hd : o.dst = none) (g off : Nat) (hx : a.eval x = .pointer (some ⟨g, off, none⟩)) (k : IntKind) (n : Int) (hy : a.eval y = .int k n)
    (hz : (P.info? ty).map (·.size) = some 1) (old : Value) (hc : w.cell? ⟨g, off, none⟩ = some old) (hf : w.frozen? ⟨g, off, none⟩ = false) (hC : C (w.setCell ⟨g, off, none⟩ (.int k n)))
    (h : wpPlan P ops C Q rest a (w.setCell ⟨g, off, none⟩ (.int k n))) : wpPlan P ops C Q ((i, true) :: rest) a w := by
  replace hi : ops[i]? = some o := by rw [← Array.getElem?_toList]; exact hi
  simp only [wpPlan, hi]
  rw [if_pos hw, if_pos trivial]
  have hrun : (execOp a.eval o).run P w = .ok .skip (w.setCell ⟨g, off, none⟩ (.int k n)) := by
    cases hq : P.info? ty with
    | none => simp [hq] at hz
    | some inf =>
      have hs : inf.size = 1 := by simpa [hq] using hz
      have hst : (store (⟨g, off, none⟩ : Addr) (.int k n)).run P w = .ok () (w.setCell ⟨g, off, none⟩ (.int k n)) := by
        rw [run_store P w _ _ _ rfl]
        simp [hc, hf]
      have hadd : (⟨g, off, none⟩ : Addr).add 0 = ⟨g, off, none⟩ := by unfold Addr.add; split <;> simp_all
      unfold execOp
      simp [ho, hx, hy, Instr.storeAt, Instr.sureAddr, storeVar, Sem.run_bind, sizeOf, typeInfo, hq, hs, Value.cells, storeCells, hadd, hst]
  unfold Oper.wp
  rw [hrun]
  simp only [Oper.upon]
  rw [show a.put o.dst undef = a by rw [hd]; rfl]
  exact ⟨hC, h⟩

/-- What a step of Do leaves: some position in the block, all below as it was. -/
def DoSt (B gq : Nat) (w wx : World) : Prop := ∃ q : KM.Po, q.wf ∧ PBox wx gq q ∧ Below B w wx

theorem run_index24 (g : Nat) (i : Int) (h0 : 0 ≤ i) (h1 : i < 64) (w : World) : (Instr.indexAt 24 (.pointer (some ⟨g, 0, none⟩)) (.int .i64 i)).run Tryz.prog w = .ok (.pointer (some ⟨g, i.toNat, none⟩)) w := by
  have hz : (Tryz.prog.info? 22).map (·.size) = some 1 := info22
  cases hq : Tryz.prog.info? 22 with
  | none => simp [hq] at hz
  | some inf =>
    have hs : inf.size = 1 := by simpa [hq] using hz
    have hi : (0 : Int) ≤ i ∧ i < ((64 : Nat) : Int) := ⟨h0, by omega⟩
    have h64 : i < 64 := h1
    simp [Instr.indexAt, asIntOf, Instr.sureAddr, Sem.run_bind, run_underlying Tryz.underlying24 w, h0, h64, sizeOf, typeInfo, hq, hs, Addr.add]
    first | done | (intro h; omega)

/-- An index address, of a board. -/
theorem plan_index {ops : Array Oper} {Q : Exit → Act → World → Prop} {C : World → Prop} {i : Nat} {o : Oper} {rest : List (Nat × Bool)} {a : Act} {w : World} (hi : ops.toList[i]? = some o) (hw : Region.wanted o (yielded ops a.tmps) = true)
    (x y : Operand) (ho : o.op = .indexAddr 24 x y) (g : Nat) (n : Int) (hx : a.eval x = .pointer (some ⟨g, 0, none⟩)) (hy : a.eval y = .int .i64 n) (h0 : 0 ≤ n) (h1 : n < 64)
    (h : wpPlan Tryz.prog ops C Q rest (a.put o.dst (.pointer (some ⟨g, n.toNat, none⟩))) w) : wpPlan Tryz.prog ops C Q ((i, false) :: rest) a w := by
  refine plan_val hi hw (fun w' _ => ?_) h
  unfold execOp
  simp only [ho, hx, hy, Sem.run_bind, run_index24 g n h0 h1, Result.andThen_ok, Sem.run_pure]

theorem wrap_i8_range (n : Int) : -128 ≤ IntKind.i8.wrap n ∧ IntKind.i8.wrap n ≤ 127 := by
  have e : IntKind.i8.wrap n = if n % 256 ≥ 128 then n % 256 - 256 else n % 256 := by
    unfold IntKind.wrap
    simp [IntKind.bits, IntKind.signed]
  rw [e]
  split <;> omega
theorem wrap_i64_ok (n : Int) : KM.i64ok (IntKind.i64.wrap n) := by
  unfold KM.i64ok
  rw [IntKind.wrap_i64]
  omega
theorem bits_i64_ok (op : BinOp) (a b : Int) : KM.i64ok (bits op .i64 a b) := wrap_i64_ok _

/-- A cell read where nothing else can come. -/
theorem plan_cell_here {P : Program} {ops : Array Oper} {Q : Exit → Act → World → Prop} {C : World → Prop} {i : Nat} {o : Oper} {rest : List (Nat × Bool)} {a : Act} {w : World} (hi : ops.toList[i]? = some o) (hw : Region.wanted o (yielded ops a.tmps) = true)
    (ty : TypeId) (x : Operand) (ho : o.op = .load ty x) (g off : Nat) (hx : a.eval x = .pointer (some ⟨g, off, none⟩)) (v : Value) (d : TypeDesc)
    (hc : w.cell? ⟨g, off, none⟩ = some v) (hC : C w)
    (hu : P.underlying ty = some d) (hd : (match d with | .struct _ | .array _ _ => true | _ => false) = false)
    (h : wpPlan P ops C Q rest (a.put o.dst v) w) : wpPlan P ops C Q ((i, true) :: rest) a w := by
  refine plan_act (v := v) hi hw w ?_ hC h
  have hagg : (isAgg ty).run P w = .ok false w := by
    unfold isAgg
    rw [Sem.run_bind, run_underlying hu w]
    cases d <;> simp_all
  unfold execOp
  simp [ho, hx, Instr.loadAt, Instr.sureAddr, loadVar, Sem.run_bind, hagg, hc]

set_option maxRecDepth 20000 in
set_option maxHeartbeats 4000000 in
theorem do_any (p : KM.Po) (f t r : Int) (w : World) (hp : p.wf) (f0 : 0 ≤ f) (f1 : f < 64) (t0 : 0 ≤ t) (t1 : t < 64) (hu : p.turn = 0 ∨ p.turn = 1) (k0 : 0 ≤ p.castle) (k1 : p.castle ≤ 15) :
    Calls Tryz.prog 20 #[.agg (KM.pval p), .agg #[.int .i64 f, .int .i64 t, .int .i64 r]] w fun e w' => (∃ q : KM.Po, q.wf ∧ e = .returned (.agg (KM.pval q))) ∧ Below w.heap.size w w' := by
  have hP : PBox (((w.alloc (.cells (KM.pval p) 26)).alloc (.cells #[.int .i64 f, .int .i64 t, .int .i64 r] 35)).alloc (.cells Tryz.zeroCells26 26)) w.heap.size p := (pm_p p f t r w).below ((Below.refl _ _).alloc (Nat.le_refl _) _) (pm_p p f t r w).lt
  have hM : MBox (((w.alloc (.cells (KM.pval p) 26)).alloc (.cells #[.int .i64 f, .int .i64 t, .int .i64 r] 35)).alloc (.cells Tryz.zeroCells26 26)) (w.heap.size + 1) f t r := (pm_m p f t r w).below ((Below.refl _ _).alloc (Nat.le_refl _) _) (pm_m p f t r w).lt
  have hR : (((w.alloc (.cells (KM.pval p) 26)).alloc (.cells #[.int .i64 f, .int .i64 t, .int .i64 r] 35)).alloc (.cells Tryz.zeroCells26 26)).heap[w.heap.size + 1 + 1]? = some (.cells Tryz.zeroCells26 26 (0, 0)) := by
    have := heap_alloc_new ((w.alloc (.cells (KM.pval p) 26)).alloc (.cells #[.int .i64 f, .int .i64 t, .int .i64 r] 35)) (Obj.cells Tryz.zeroCells26 26)
    simpa using this
  have hS : w.heap.size + 3 ≤ (((w.alloc (.cells (KM.pval p) 26)).alloc (.cells #[.int .i64 f, .int .i64 t, .int .i64 r] 35)).alloc (.cells Tryz.zeroCells26 26)).heap.size := by simp
  have HB := Lib.hid ((pm_b p f t r w).alloc (by simp; omega) (Obj.cells Tryz.zeroCells26 26))
  have HU := Lib.hid hu
  have HR := Lib.hid hR
  obtain ⟨gn0, gn1⟩ := KM.takesN_range p f t t0 t1
  have HC := Lib.hid (fun h => KM.castleN_home (p := p) (f := f) (t := t) k0 k1 h)
  clear hu hR
  go_enter Tryz.func20, Tryz.ntmps20
  go_upto_region 1 with fail
  generalize (((w.alloc (.cells (KM.pval p) 26)).alloc (.cells #[.int .i64 f, .int .i64 t, .int .i64 r] 35)).alloc (.cells Tryz.zeroCells26 26)) = w0 at *
  have c0 := fun i : Idx (w.heap.size + 3) w0 => (hM.below i.below (by omega)).from
  have c1 := fun i : Idx (w.heap.size + 3) w0 => (hP.idx (by omega) i).at (i := f.toNat) (by omega)
  refine wp_region_idx (w.heap.size + 3) (by kernel_rfl) (by kernel_rfl) ?_
  repeat (first | go_big_quiet_skip | (go_big_quiet_want; first
    | (refine quiet_load_part 26 (.tmp 2) rfl _ 0 rfl (by omega) _ _ hP.part Tryz.underlying26 rfl (hi26 p) ?_; simp only [Act.put, List.setIfInBounds_toArray, List.set_cons_zero, List.set_cons_succ]; go_big_quiet_on)
    | (refine quiet_load_part 35 (.tmp 3) rfl _ 0 rfl (by omega) _ _ hM.part Tryz.underlying35 rfl (hi35 _ _ _) ?_; simp only [Act.put, List.setIfInBounds_toArray, List.set_cons_zero, List.set_cons_succ]; go_big_quiet_on)
    | (go_big_quiet_op; first | go_big_quiet_on | go_big_quiet_call ((first | (go_at_call 37; exact Idx.calls (by omega) (takes_any _ _ _ _ _ hp f0 f1 t0 t1)) | (go_at_call 38; exact Idx.calls (by omega) (castle_any _ _ _ _ _ hp f0 f1 t0 t1 HU.out k0 k1)))))))
  refine wpQuiet_nil ?_
  intro w1 hwq
  have hbq := Idx.get hwq
  clear hwq c0 c1
  replace hP := hP.below hbq (by omega)
  replace hM := hM.below hbq (by omega)
  replace HR := Lib.hid ((hbq.block _ (by omega)).trans HR.out)
  replace hS := Nat.le_trans hS hbq.size
  replace HB := Lib.hid (HB.out.trans (hbq.mono (by omega)))
  clear hbq
  go_upto_region 2 with fail
  go_cut [8] from 24 (fun c wx => ∃ b, c = .bool b ∧ Below (w.heap.size + 3) w1 wx)
  case first =>
    have c0 := fun i : Idx (w.heap.size + 3) w1 => (hM.below i.below (by omega)).from
    have c1 := fun i : Idx (w.heap.size + 3) w1 => (hM.below i.below (by omega)).to
    cases b4 : (KM.kind (p.b f.toNat) == 1)
    · have hpn := Lib.hid (show ∀ w', Calls Tryz.prog 34 #[.agg (KM.pval p), .agg #[.int .i64 f, .int .i64 t, .int .i64 r]] w' fun e w'' => e = .returned (.bool false) ∧ Below w'.heap.size w' w'' by
        intro w'
        have h := movePawn_any p f t r w' hp f0 f1
        rw [b4] at h
        exact h)
      clear b4
      refine wp_region_idx (w.heap.size + 3) (by kernel_rfl) (by kernel_rfl) ?_
      repeat (first | go_big_quiet_skip | (go_big_quiet_want; first
        | (refine quiet_load_part 26 (.tmp 2) rfl _ 0 rfl (by omega) _ _ hP.part Tryz.underlying26 rfl (hi26 p) ?_; simp only [Act.put, List.setIfInBounds_toArray, List.set_cons_zero, List.set_cons_succ]; go_big_quiet_on)
        | (refine quiet_load_part 35 (.tmp 3) rfl _ 0 rfl (by omega) _ _ hM.part Tryz.underlying35 rfl (hi35 _ _ _) ?_; simp only [Act.put, List.setIfInBounds_toArray, List.set_cons_zero, List.set_cons_succ]; go_big_quiet_on)
        | (go_big_quiet_op; first | go_big_quiet_on | go_big_quiet_call ((first | (go_at_call 34; exact Idx.calls (by omega) (hpn.out _)) | (go_at_call 39; exact Idx.calls_same (sqFile_any _ _)) | (go_at_call 40; exact Idx.calls_same (sqFar_any _ _ _)))))))
      refine wpQuiet_nil ?_
      intro w2 hwq
      have hbq := Lib.hid (Idx.get hwq)
      clear hwq c0 c1
      go_wp2_with fail
      go_meet
      exact ⟨_, rfl, hbq.out⟩
    · have hpn := Lib.hid (show ∀ w', Calls Tryz.prog 34 #[.agg (KM.pval p), .agg #[.int .i64 f, .int .i64 t, .int .i64 r]] w' fun e w'' => e = .returned (.bool true) ∧ Below w'.heap.size w' w'' by
        intro w'
        have h := movePawn_any p f t r w' hp f0 f1
        rw [b4] at h
        exact h)
      clear b4
      cases b5 : (KM.file f == KM.file t)
      · refine wp_region_idx (w.heap.size + 3) (by kernel_rfl) (by kernel_rfl) ?_
        repeat (first | go_big_quiet_skip | (go_big_quiet_want; first
          | (refine quiet_load_part 26 (.tmp 2) rfl _ 0 rfl (by omega) _ _ hP.part Tryz.underlying26 rfl (hi26 p) ?_; simp only [Act.put, List.setIfInBounds_toArray, List.set_cons_zero, List.set_cons_succ]; go_big_quiet_on)
          | (refine quiet_load_part 35 (.tmp 3) rfl _ 0 rfl (by omega) _ _ hM.part Tryz.underlying35 rfl (hi35 _ _ _) ?_; simp only [Act.put, List.setIfInBounds_toArray, List.set_cons_zero, List.set_cons_succ]; go_big_quiet_on)
          | (go_big_quiet_op; first | go_big_quiet_on | go_big_quiet_call ((first | (go_at_call 34; exact Idx.calls (by omega) (hpn.out _)) | (go_at_call 39; exact Idx.calls_same (sqFile_any _ _)) | (go_at_call 40; exact Idx.calls_same (sqFar_any _ _ _)))))))
        refine wpQuiet_nil ?_
        intro w2 hwq
        have hbq := Lib.hid (Idx.get hwq)
        clear hwq c0 c1
        go_wp2_with fail
        go_meet
        exact ⟨_, rfl, hbq.out⟩
      · refine wp_region_idx (w.heap.size + 3) (by kernel_rfl) (by kernel_rfl) ?_
        repeat (first | go_big_quiet_skip | (go_big_quiet_want; first
          | (refine quiet_load_part 26 (.tmp 2) rfl _ 0 rfl (by omega) _ _ hP.part Tryz.underlying26 rfl (hi26 p) ?_; simp only [Act.put, List.setIfInBounds_toArray, List.set_cons_zero, List.set_cons_succ]; go_big_quiet_on)
          | (refine quiet_load_part 35 (.tmp 3) rfl _ 0 rfl (by omega) _ _ hM.part Tryz.underlying35 rfl (hi35 _ _ _) ?_; simp only [Act.put, List.setIfInBounds_toArray, List.set_cons_zero, List.set_cons_succ]; go_big_quiet_on)
          | (go_big_quiet_op; first | go_big_quiet_on | go_big_quiet_call ((first | (go_at_call 34; exact Idx.calls (by omega) (hpn.out _)) | (go_at_call 39; exact Idx.calls_same (sqFile_any _ _)) | (go_at_call 40; exact Idx.calls_same (sqFar_any _ _ _)))))))
        refine wpQuiet_nil ?_
        intro w2 hwq
        have hbq := Lib.hid (Idx.get hwq)
        clear hwq c0 c1
        go_wp2_with fail
        go_meet
        exact ⟨_, rfl, hbq.out⟩
  case rest =>
  obtain ⟨two, rfl, hbq⟩ := hcut
  replace hP := hP.below hbq (by omega)
  replace hM := hM.below hbq (by omega)
  replace HR := Lib.hid ((hbq.block _ (by omega)).trans HR.out)
  replace hS := Nat.le_trans hS hbq.size
  replace HB := Lib.hid (HB.out.trans (hbq.mono (by omega)))
  clear hbq
  go_upto_region 4 with (first
    | (refine wpList_load_part rfl 26 (.tmp 2) rfl _ 0 rfl _ _ hP.part Tryz.underlying26 rfl (hi26 p) ?_)
    | (refine wpList_store_row rfl 26 (.tmp 9) (.tmp 44) rfl _ (KM.pval p) rfl rfl 26 Tryz.zeroCells26 (heap_alloc_new wc _) (hi26 p) (zero26_size p) (KM.pval_one p) ?_))
  have hQ : PBox ((wc.alloc (Obj.cells Tryz.zeroCells26 26)).setRow wc.heap.size (KM.pval p)) wc.heap.size p := heap_setRow_same (heap_alloc_new wc _)
  have hbQ := below_setRow ((Below.refl wc.heap.size wc).alloc (Nat.le_refl _) (Obj.cells Tryz.zeroCells26 26)) (Nat.le_refl wc.heap.size) (cs := KM.pval p)
  generalize (wc.alloc (Obj.cells Tryz.zeroCells26 26)).setRow wc.heap.size (KM.pval p) = w3 at *
  replace hP := hP.below hbQ (by omega)
  replace hM := hM.below hbQ (by omega)
  replace HR := Lib.hid ((hbQ.block _ (by omega)).trans HR.out)
  replace HB := Lib.hid (HB.out.trans (hbQ.mono (by omega)))
  have hgq : w.heap.size + 3 ≤ wc.heap.size := hS
  replace hS := Nat.le_trans hS hbQ.size
  generalize wc.heap.size = gq at *
  clear hbQ
  simp only [Act.put]
  go_upto_if 46 with fail
  go_cut [] from 44 (fun wx => DoSt (w.heap.size + 3) gq w3 wx)
  case first =>
    by_cases hg : 0 ≤ KM.takesN p f t
    · have c2 := hQ.at (i := (KM.takesN p f t).toNat) (by omega)
      have f2 := hQ.frozen (KM.takesN p f t).toNat
      have b0 : decide (0 ≤ KM.takesN p f t) = true := by simp; omega
      have HD := Lib.hid (show DoSt (w.heap.size + 3) gq w3 (w3.setCell ⟨gq, (KM.takesN p f t).toNat, none⟩ (.int .i8 0)) from
        ⟨KM.putB p _ 0, KM.putB_wf hp _ 0 (by omega) (by omega), hQ.store (KM.pval_put p _ 0 (by omega)), below_setCell (Below.refl _ _) hgq⟩)
      clear hQ
      go_wp2_with fail
      go_meet
      exact HD.out
    · have b0 : decide (0 ≤ KM.takesN p f t) = false := by simp; omega
      have HD := Lib.hid (show DoSt (w.heap.size + 3) gq w3 w3 from ⟨p, hp, hQ, Below.refl _ _⟩)
      go_wp2_with fail
      go_meet
      exact HD.out
  case rest =>
  clear hQ
  obtain ⟨q1, hq1, hQ, hb⟩ := hcut
  replace hP := hP.below hb (by omega)
  replace hM := hM.below hb (by omega)
  replace HR := Lib.hid ((hb.block _ (by omega)).trans HR.out)
  replace HB := Lib.hid (HB.out.trans (hb.mono (by omega)))
  replace hS := Nat.le_trans hS hb.size
  clear hb
  go_upto_region 6 with fail
  refine wp_region_plan (fun w' => Below (w.heap.size + 3) wc w') [(0, false), (1, false), (2, false), (3, false), (4, false), (5, false), (6, false), (8, false), (7, true), (9, false), (10, true)] (by kernel_rfl) (by kernel_rfl) (fun c a w d v h => by cases d <;> exact h) ((Below.refl _ _).drew) ?_
  refine plan_val (v := .pointer (some ⟨w.heap.size + 1, 0, none⟩)) rfl ?c0 (fun w' _ => ?d0) ?_
  case c0 => rfl
  case d0 => kernel_rfl
  simp only [Act.put, List.setIfInBounds_toArray, List.set_cons_zero, List.set_cons_succ]
  refine plan_cell rfl ?c1 3 (.tmp 50) rfl (w.heap.size + 1) 0 rfl (.int .i64 f) _ ?d1 Tryz.underlying3 rfl ?_
  case c1 => rfl
  case d1 => exact fun w' hC => (hM.below hC (by omega)).from
  simp only [Act.put, List.setIfInBounds_toArray, List.set_cons_zero, List.set_cons_succ]
  refine plan_val (v := .pointer (some ⟨w.heap.size + 1, 1, none⟩)) rfl ?c2 (fun w' _ => ?d2) ?_
  case c2 => rfl
  case d2 => kernel_rfl
  simp only [Act.put, List.setIfInBounds_toArray, List.set_cons_zero, List.set_cons_succ]
  refine plan_cell rfl ?c3 3 (.tmp 52) rfl (w.heap.size + 1) 1 rfl (.int .i64 t) _ ?d3 Tryz.underlying3 rfl ?_
  case c3 => rfl
  case d3 => exact fun w' hC => (hM.below hC (by omega)).to
  simp only [Act.put, List.setIfInBounds_toArray, List.set_cons_zero, List.set_cons_succ]
  refine plan_val (v := .int .i8 (p.b f.toNat)) rfl ?c4 (fun w' _ => ?d4) ?_
  case c4 => rfl
  case d4 => kernel_rfl
  simp only [Act.put, List.setIfInBounds_toArray, List.set_cons_zero, List.set_cons_succ]
  refine plan_val (v := .pointer (some ⟨gq, 0, none⟩)) rfl ?c5 (fun w' _ => ?d5) ?_
  case c5 => rfl
  case d5 => kernel_rfl
  simp only [Act.put, List.setIfInBounds_toArray, List.set_cons_zero, List.set_cons_succ]
  refine plan_index rfl ?c6 (.tmp 55) (.tmp 51) rfl gq (f) rfl rfl (by omega) (by omega) ?_
  case c6 => rfl
  simp only [Act.put, List.setIfInBounds_toArray, List.set_cons_zero, List.set_cons_succ]
  refine plan_val (v := .pointer (some ⟨gq, 0, none⟩)) rfl ?c8 (fun w' _ => ?d8) ?_
  case c8 => rfl
  case d8 => kernel_rfl
  simp only [Act.put, List.setIfInBounds_toArray, List.set_cons_zero, List.set_cons_succ]
  have hb7 := below_setCell (g := gq) (o := f.toNat) (v := .int .i8 0) ((Below.refl (w.heap.size + 3) wc).drew) hgq
  have hQ7 : PBox (wc.drew.setCell ⟨gq, f.toNat, none⟩ (.int .i8 0)) gq (KM.putB q1 f.toNat 0) := PBox.store (w := wc.drew) hQ (KM.pval_put q1 _ 0 (by omega))
  refine plan_store rfl ?c7 22 (.tmp 56) (.const (.int .i8 0)) rfl rfl gq (f.toNat) rfl .i8 (0) rfl info22 _ (PBox.at (w := wc.drew) hQ (by omega)) (PBox.frozen (w := wc.drew) hQ _) hb7 ?_
  case c7 => rfl
  refine plan_index rfl ?c9 (.tmp 57) (.tmp 53) rfl gq (t) rfl rfl (by omega) (by omega) ?_
  case c9 => rfl
  simp only [Act.put, List.setIfInBounds_toArray, List.set_cons_zero, List.set_cons_succ]
  obtain ⟨m0, m1⟩ := hp.b f.toNat (by omega)
  have hb8 := below_setCell (g := gq) (o := t.toNat) (v := .int .i8 (p.b f.toNat)) hb7 hgq
  have hQ8 := hQ7.store (KM.pval_put _ t.toNat (p.b f.toNat) (by omega))
  refine plan_store rfl ?c10 22 (.tmp 58) (.tmp 54) rfl rfl gq (t.toNat) rfl .i8 (p.b f.toNat) rfl info22 _ (hQ7.at (by omega)) (hQ7.frozen _) hb8 ?_
  case c10 => rfl
  simp only [wpPlan]
  have hw8 := KM.putB_wf (KM.putB_wf hq1 f.toNat 0 (by omega) (by omega)) t.toNat (p.b f.toNat) m0 m1
  generalize (wc.drew.setCell ⟨gq, f.toNat, none⟩ (.int .i8 0)).setCell ⟨gq, t.toNat, none⟩ (.int .i8 (p.b f.toNat)) = w5 at *
  generalize KM.putB (KM.putB q1 f.toNat 0) t.toNat (p.b f.toNat) = q5 at *
  replace hP := hP.below hb8 (by omega)
  replace hM := hM.below hb8 (by omega)
  replace HR := Lib.hid ((hb8.block _ (by omega)).trans HR.out)
  replace HB := Lib.hid (HB.out.trans (hb8.mono (by omega)))
  replace hS := Nat.le_trans hS hb8.size
  clear hb7 hb8 hQ7 hQ hq1
  have d2 := hM.promo
  go_upto_if 61 with fail
  go_cut [] from 59 (fun wx => DoSt (w.heap.size + 3) gq w5 wx)
  case first =>
    by_cases hr : r = 0
    · have br : (r != 0) = false := by simp [hr]
      have HD := Lib.hid (show DoSt (w.heap.size + 3) gq w5 w5 from ⟨q5, hw8, hQ8, Below.refl _ _⟩)
      replace hr := Lib.hid hr
      go_wp2_with fail
      go_meet
      exact HD.out
    · have br : (r != 0) = true := by simp [hr]
      go_wp2_with fail
      refine wp_region_plan (fun w' => Below (w.heap.size + 3) w5 w') [(0, false), (1, false), (2, false), (3, false), (4, false), (5, false), (6, false), (7, false), (8, false), (9, false), (10, true)] (by kernel_rfl) (by kernel_rfl) (fun c a w d v h => by cases d <;> exact h) ((Below.refl _ _).drew) ?_
      refine plan_val (v := .pointer (some ⟨w.heap.size + 1, 1, none⟩)) rfl ?ce0 (fun w' _ => ?de0) ?_
      case ce0 => rfl
      case de0 => kernel_rfl
      simp only [Act.put, List.setIfInBounds_toArray, List.set_cons_zero, List.set_cons_succ]
      refine plan_cell rfl ?ce1 3 (.tmp 62) rfl (w.heap.size + 1) 1 rfl (.int .i64 t) _ ?de1 Tryz.underlying3 rfl ?_
      case ce1 => rfl
      case de1 => exact fun w' hC => (hM.below hC (by omega)).to
      simp only [Act.put, List.setIfInBounds_toArray, List.set_cons_zero, List.set_cons_succ]
      refine plan_val (v := .pointer (some ⟨w.heap.size + 1, 2, none⟩)) rfl ?ce2 (fun w' _ => ?de2) ?_
      case ce2 => rfl
      case de2 => kernel_rfl
      simp only [Act.put, List.setIfInBounds_toArray, List.set_cons_zero, List.set_cons_succ]
      refine plan_cell rfl ?ce3 3 (.tmp 64) rfl (w.heap.size + 1) 2 rfl (.int .i64 r) _ ?de3 Tryz.underlying3 rfl ?_
      case ce3 => rfl
      case de3 => exact fun w' hC => (hM.below hC (by omega)).promo
      simp only [Act.put, List.setIfInBounds_toArray, List.set_cons_zero, List.set_cons_succ]
      refine plan_val (v := .pointer (some ⟨w.heap.size, 64, none⟩)) rfl ?ce4 (fun w' _ => ?de4) ?_
      case ce4 => rfl
      case de4 => kernel_rfl
      simp only [Act.put, List.setIfInBounds_toArray, List.set_cons_zero, List.set_cons_succ]
      refine plan_cell rfl ?ce5 3 (.tmp 66) rfl (w.heap.size) 64 rfl (.int .i64 p.turn) _ ?de5 Tryz.underlying3 rfl ?_
      case ce5 => rfl
      case de5 => exact fun w' hC => (hP.below hC (by omega)).turn
      simp only [Act.put, List.setIfInBounds_toArray, List.set_cons_zero, List.set_cons_succ]
      refine plan_same 41 #[.int .i64 r, .int .i64 p.turn] rfl ?ce6 (fun w' => ?de6) (fun w' => manMake_any _ _ w') ?_
      case ce6 => rfl
      case de6 => kernel_rfl
      simp only [Act.put, List.setIfInBounds_toArray, List.set_cons_zero, List.set_cons_succ]
      refine plan_val (v := .int .i8 (IntKind.i8.wrap (KM.mk r p.turn))) rfl ?ce7 (fun w' _ => ?de7) ?_
      case ce7 => rfl
      case de7 => kernel_rfl
      simp only [Act.put, List.setIfInBounds_toArray, List.set_cons_zero, List.set_cons_succ]
      refine plan_val (v := .pointer (some ⟨gq, 0, none⟩)) rfl ?ce8 (fun w' _ => ?de8) ?_
      case ce8 => rfl
      case de8 => kernel_rfl
      simp only [Act.put, List.setIfInBounds_toArray, List.set_cons_zero, List.set_cons_succ]
      refine plan_index rfl ?ce9 (.tmp 70) (.tmp 63) rfl gq (t) rfl rfl (by omega) (by omega) ?_
      case ce9 => rfl
      simp only [Act.put, List.setIfInBounds_toArray, List.set_cons_zero, List.set_cons_succ]
      obtain ⟨v0, v1⟩ := wrap_i8_range (KM.mk r p.turn)
      have HD := Lib.hid (show DoSt (w.heap.size + 3) gq w5 (w5.drew.setCell ⟨gq, t.toNat, none⟩ (.int .i8 (IntKind.i8.wrap (KM.mk r p.turn)))) from
        ⟨_, KM.putB_wf hw8 t.toNat _ v0 v1, PBox.store (w := w5.drew) hQ8 (KM.pval_put q5 t.toNat _ (by omega)), below_setCell (Below.refl _ _).drew hgq⟩)
      refine plan_store rfl ?ce10 22 (.tmp 71) (.tmp 69) rfl rfl gq (t.toNat) rfl .i8 (IntKind.i8.wrap (KM.mk r p.turn)) rfl info22 _ (PBox.at (w := w5.drew) hQ8 (by omega)) (PBox.frozen (w := w5.drew) hQ8 _) (below_setCell (Below.refl _ _).drew hgq) ?_
      case ce10 => rfl
      simp only [wpPlan]
      clear hQ8
      go_wp2_with fail
      go_meet
      exact HD.out
  case rest =>
  clear hQ8 hw8
  obtain ⟨q6, hq6, hQ, hb⟩ := hcut
  replace hP := hP.below hb (by omega)
  replace hM := hM.below hb (by omega)
  replace HR := Lib.hid ((hb.block _ (by omega)).trans HR.out)
  replace HB := Lib.hid (HB.out.trans (hb.mono (by omega)))
  replace hS := Nat.le_trans hS hb.size
  clear hb
  go_upto_if 73 with fail
  go_cut [10] from 72 (fun _ wx => DoSt (w.heap.size + 3) gq wc wx)
  case first =>
    by_cases hc : KM.castleN p f t = 0
    · have bc : (KM.castleN p f t != 0) = false := by simp [hc]
      have HD := Lib.hid (show DoSt (w.heap.size + 3) gq wc wc from ⟨q6, hq6, hQ, Below.refl _ _⟩)
      replace hc := Lib.hid hc
      go_wp2_with fail
      go_meet
      exact HD.out
    · have bc : (KM.castleN p f t != 0) = true := by simp [hc]
      obtain ⟨hf, ht⟩ := HC.out hc
      have hu := HU.out
      have h4 : (f = 4 ∧ t = 6) ∨ (f = 4 ∧ t = 2) ∨ (f = 60 ∧ t = 62) ∨ (f = 60 ∧ t = 58) := by omega
      clear hf ht hu hc HC
      have d0 := hM.from
      have d1 := hM.to
      rcases h4 with ⟨h5, h6⟩ | ⟨h5, h6⟩ | ⟨h5, h6⟩ | ⟨h5, h6⟩
      · subst h5
        subst h6
        go_wp2_with fail
        clear d0 d1
        refine wp_region_plan (fun w' => Below (w.heap.size + 3) wc w') [(0, false), (1, false), (2, false), (3, false), (4, false), (5, false), (6, false), (7, false), (8, false), (9, false), (11, false), (14, false), (10, true), (12, false), (13, true), (15, false), (16, true)] (by kernel_rfl) (by kernel_rfl) (fun c a w d v h => by cases d <;> exact h) ((Below.refl _ _).drew) ?_
        refine plan_val (v := .pointer (some ⟨w.heap.size + 1, 0, none⟩)) rfl ?ch0a (fun w' _ => ?dh0a) ?_
        case ch0a => rfl
        case dh0a => kernel_rfl
        simp only [Act.put, List.setIfInBounds_toArray, List.set_cons_zero, List.set_cons_succ]
        refine plan_cell rfl ?ch0b 3 (.tmp 85) rfl (w.heap.size + 1) 0 rfl (.int .i64 4) _ ?dh0b Tryz.underlying3 rfl ?_
        case ch0b => rfl
        case dh0b => exact fun w' hC => (hM.below hC (by omega)).from
        simp only [Act.put, List.setIfInBounds_toArray, List.set_cons_zero, List.set_cons_succ]
        refine plan_val (v := .pointer (some ⟨w.heap.size + 1, 1, none⟩)) rfl ?ch0c (fun w' _ => ?dh0c) ?_
        case ch0c => rfl
        case dh0c => kernel_rfl
        simp only [Act.put, List.setIfInBounds_toArray, List.set_cons_zero, List.set_cons_succ]
        refine plan_cell rfl ?ch0d 3 (.tmp 87) rfl (w.heap.size + 1) 1 rfl (.int .i64 6) _ ?dh0d Tryz.underlying3 rfl ?_
        case ch0d => rfl
        case dh0d => exact fun w' hC => (hM.below hC (by omega)).to
        simp only [Act.put, List.setIfInBounds_toArray, List.set_cons_zero, List.set_cons_succ]
        refine plan_val (v := .int .i64 10) rfl ?ch0e (fun w' _ => ?dh0e) ?_
        case ch0e => rfl
        case dh0e => kernel_rfl
        simp only [Act.put, List.setIfInBounds_toArray, List.set_cons_zero, List.set_cons_succ]
        refine plan_val (v := .int .i64 5) rfl ?ch0f (fun w' _ => ?dh0f) ?_
        case ch0f => rfl
        case dh0f => kernel_rfl
        simp only [Act.put, List.setIfInBounds_toArray, List.set_cons_zero, List.set_cons_succ]
        refine plan_val (v := .int .i64 7) rfl ?ch0g (fun w' _ => ?dh0g) ?_
        case ch0g => rfl
        case dh0g => kernel_rfl
        simp only [Act.put, List.setIfInBounds_toArray, List.set_cons_zero, List.set_cons_succ]
        refine plan_val (v := .int .i64 7) rfl ?ch0h (fun w' _ => ?dh0h) ?_
        case ch0h => rfl
        case dh0h => kernel_rfl
        simp only [Act.put, List.setIfInBounds_toArray, List.set_cons_zero, List.set_cons_succ]
        refine plan_val (v := .pointer (some ⟨gq, 0, none⟩)) rfl ?ch0i (fun w' _ => ?dh0i) ?_
        case ch0i => rfl
        case dh0i => kernel_rfl
        simp only [Act.put, List.setIfInBounds_toArray, List.set_cons_zero, List.set_cons_succ]
        refine plan_index rfl ?ch0j (.tmp 93) (.tmp 92) rfl gq (7) rfl rfl (by omega) (by omega) ?_
        case ch0j => rfl
        simp only [Act.put, List.setIfInBounds_toArray, List.set_cons_zero, List.set_cons_succ]
        refine plan_val (v := .pointer (some ⟨gq, 0, none⟩)) rfl ?ch0k (fun w' _ => ?dh0k) ?_
        case ch0k => rfl
        case dh0k => kernel_rfl
        simp only [Act.put, List.setIfInBounds_toArray, List.set_cons_zero, List.set_cons_succ]
        refine plan_val (v := .pointer (some ⟨gq, 0, none⟩)) rfl ?ch0l (fun w' _ => ?dh0l) ?_
        case ch0l => rfl
        case dh0l => kernel_rfl
        simp only [Act.put, List.setIfInBounds_toArray, List.set_cons_zero, List.set_cons_succ]
        refine plan_cell_here rfl ?ch0m 22 (.tmp 94) rfl gq 7 rfl (.int .i8 (q6.b 7)) _ (PBox.at (w := wc.drew) hQ (by omega)) (Below.refl _ _).drew Tryz.underlying22 rfl ?_
        case ch0m => rfl
        simp only [Act.put, List.setIfInBounds_toArray, List.set_cons_zero, List.set_cons_succ]
        refine plan_index rfl ?ch0n (.tmp 96) (.tmp 90) rfl gq (5) rfl rfl (by omega) (by omega) ?_
        case ch0n => rfl
        simp only [Act.put, List.setIfInBounds_toArray, List.set_cons_zero, List.set_cons_succ]
        obtain ⟨x0, x1⟩ := hq6.b 7 (by omega)
        have hb7 := below_setCell (g := gq) (o := 5) (v := .int .i8 (q6.b 7)) ((Below.refl (w.heap.size + 3) wc).drew) hgq
        have hQ7 : PBox (wc.drew.setCell ⟨gq, 5, none⟩ (.int .i8 (q6.b 7))) gq (KM.putB q6 5 (q6.b 7)) := PBox.store (w := wc.drew) hQ (KM.pval_put q6 _ _ (by omega))
        have hb8 := below_setCell (g := gq) (o := 7) (v := .int .i8 0) hb7 hgq
        refine plan_store rfl ?ch0o 22 (.tmp 97) (.tmp 95) rfl rfl gq (5) rfl .i8 (q6.b 7) rfl info22 _ (PBox.at (w := wc.drew) hQ (by omega)) (PBox.frozen (w := wc.drew) hQ _) hb7 ?_
        case ch0o => rfl
        refine plan_index rfl ?ch0p (.tmp 98) (.tmp 91) rfl gq (7) rfl rfl (by omega) (by omega) ?_
        case ch0p => rfl
        simp only [Act.put, List.setIfInBounds_toArray, List.set_cons_zero, List.set_cons_succ]
        have HD := Lib.hid (show DoSt (w.heap.size + 3) gq wc ((wc.drew.setCell ⟨gq, 5, none⟩ (.int .i8 (q6.b 7))).setCell ⟨gq, 7, none⟩ (.int .i8 0)) from
          ⟨_, KM.putB_wf (KM.putB_wf hq6 5 _ x0 x1) 7 0 (by omega) (by omega), hQ7.store (KM.pval_put _ 7 0 (by omega)), hb8⟩)
        refine plan_store rfl ?ch0q 22 (.tmp 99) (.const (.int .i8 0)) rfl rfl gq (7) rfl .i8 (0) rfl info22 _ (hQ7.at (by omega)) (hQ7.frozen _) hb8 ?_
        case ch0q => rfl
        simp only [wpPlan]
        clear hQ hQ7 hb7 hb8
        go_wp2_with fail
        go_meet
        exact HD.out
      · subst h5
        subst h6
        go_wp2_with fail
        clear d0 d1
        refine wp_region_plan (fun w' => Below (w.heap.size + 3) wc w') [(0, false), (1, false), (2, false), (3, false), (4, false), (5, false), (6, false), (7, false), (8, false), (9, false), (11, false), (14, false), (10, true), (12, false), (13, true), (15, false), (16, true)] (by kernel_rfl) (by kernel_rfl) (fun c a w d v h => by cases d <;> exact h) ((Below.refl _ _).drew) ?_
        refine plan_val (v := .pointer (some ⟨w.heap.size + 1, 0, none⟩)) rfl ?ch1a (fun w' _ => ?dh1a) ?_
        case ch1a => rfl
        case dh1a => kernel_rfl
        simp only [Act.put, List.setIfInBounds_toArray, List.set_cons_zero, List.set_cons_succ]
        refine plan_cell rfl ?ch1b 3 (.tmp 85) rfl (w.heap.size + 1) 0 rfl (.int .i64 4) _ ?dh1b Tryz.underlying3 rfl ?_
        case ch1b => rfl
        case dh1b => exact fun w' hC => (hM.below hC (by omega)).from
        simp only [Act.put, List.setIfInBounds_toArray, List.set_cons_zero, List.set_cons_succ]
        refine plan_val (v := .pointer (some ⟨w.heap.size + 1, 1, none⟩)) rfl ?ch1c (fun w' _ => ?dh1c) ?_
        case ch1c => rfl
        case dh1c => kernel_rfl
        simp only [Act.put, List.setIfInBounds_toArray, List.set_cons_zero, List.set_cons_succ]
        refine plan_cell rfl ?ch1d 3 (.tmp 87) rfl (w.heap.size + 1) 1 rfl (.int .i64 2) _ ?dh1d Tryz.underlying3 rfl ?_
        case ch1d => rfl
        case dh1d => exact fun w' hC => (hM.below hC (by omega)).to
        simp only [Act.put, List.setIfInBounds_toArray, List.set_cons_zero, List.set_cons_succ]
        refine plan_val (v := .int .i64 6) rfl ?ch1e (fun w' _ => ?dh1e) ?_
        case ch1e => rfl
        case dh1e => kernel_rfl
        simp only [Act.put, List.setIfInBounds_toArray, List.set_cons_zero, List.set_cons_succ]
        refine plan_val (v := .int .i64 3) rfl ?ch1f (fun w' _ => ?dh1f) ?_
        case ch1f => rfl
        case dh1f => kernel_rfl
        simp only [Act.put, List.setIfInBounds_toArray, List.set_cons_zero, List.set_cons_succ]
        refine plan_val (v := .int .i64 0) rfl ?ch1g (fun w' _ => ?dh1g) ?_
        case ch1g => rfl
        case dh1g => kernel_rfl
        simp only [Act.put, List.setIfInBounds_toArray, List.set_cons_zero, List.set_cons_succ]
        refine plan_val (v := .int .i64 0) rfl ?ch1h (fun w' _ => ?dh1h) ?_
        case ch1h => rfl
        case dh1h => kernel_rfl
        simp only [Act.put, List.setIfInBounds_toArray, List.set_cons_zero, List.set_cons_succ]
        refine plan_val (v := .pointer (some ⟨gq, 0, none⟩)) rfl ?ch1i (fun w' _ => ?dh1i) ?_
        case ch1i => rfl
        case dh1i => kernel_rfl
        simp only [Act.put, List.setIfInBounds_toArray, List.set_cons_zero, List.set_cons_succ]
        refine plan_index rfl ?ch1j (.tmp 93) (.tmp 92) rfl gq (0) rfl rfl (by omega) (by omega) ?_
        case ch1j => rfl
        simp only [Act.put, List.setIfInBounds_toArray, List.set_cons_zero, List.set_cons_succ]
        refine plan_val (v := .pointer (some ⟨gq, 0, none⟩)) rfl ?ch1k (fun w' _ => ?dh1k) ?_
        case ch1k => rfl
        case dh1k => kernel_rfl
        simp only [Act.put, List.setIfInBounds_toArray, List.set_cons_zero, List.set_cons_succ]
        refine plan_val (v := .pointer (some ⟨gq, 0, none⟩)) rfl ?ch1l (fun w' _ => ?dh1l) ?_
        case ch1l => rfl
        case dh1l => kernel_rfl
        simp only [Act.put, List.setIfInBounds_toArray, List.set_cons_zero, List.set_cons_succ]
        refine plan_cell_here rfl ?ch1m 22 (.tmp 94) rfl gq 0 rfl (.int .i8 (q6.b 0)) _ (PBox.at (w := wc.drew) hQ (by omega)) (Below.refl _ _).drew Tryz.underlying22 rfl ?_
        case ch1m => rfl
        simp only [Act.put, List.setIfInBounds_toArray, List.set_cons_zero, List.set_cons_succ]
        refine plan_index rfl ?ch1n (.tmp 96) (.tmp 90) rfl gq (3) rfl rfl (by omega) (by omega) ?_
        case ch1n => rfl
        simp only [Act.put, List.setIfInBounds_toArray, List.set_cons_zero, List.set_cons_succ]
        obtain ⟨x0, x1⟩ := hq6.b 0 (by omega)
        have hb7 := below_setCell (g := gq) (o := 3) (v := .int .i8 (q6.b 0)) ((Below.refl (w.heap.size + 3) wc).drew) hgq
        have hQ7 : PBox (wc.drew.setCell ⟨gq, 3, none⟩ (.int .i8 (q6.b 0))) gq (KM.putB q6 3 (q6.b 0)) := PBox.store (w := wc.drew) hQ (KM.pval_put q6 _ _ (by omega))
        have hb8 := below_setCell (g := gq) (o := 0) (v := .int .i8 0) hb7 hgq
        refine plan_store rfl ?ch1o 22 (.tmp 97) (.tmp 95) rfl rfl gq (3) rfl .i8 (q6.b 0) rfl info22 _ (PBox.at (w := wc.drew) hQ (by omega)) (PBox.frozen (w := wc.drew) hQ _) hb7 ?_
        case ch1o => rfl
        refine plan_index rfl ?ch1p (.tmp 98) (.tmp 91) rfl gq (0) rfl rfl (by omega) (by omega) ?_
        case ch1p => rfl
        simp only [Act.put, List.setIfInBounds_toArray, List.set_cons_zero, List.set_cons_succ]
        have HD := Lib.hid (show DoSt (w.heap.size + 3) gq wc ((wc.drew.setCell ⟨gq, 3, none⟩ (.int .i8 (q6.b 0))).setCell ⟨gq, 0, none⟩ (.int .i8 0)) from
          ⟨_, KM.putB_wf (KM.putB_wf hq6 3 _ x0 x1) 0 0 (by omega) (by omega), hQ7.store (KM.pval_put _ 0 0 (by omega)), hb8⟩)
        refine plan_store rfl ?ch1q 22 (.tmp 99) (.const (.int .i8 0)) rfl rfl gq (0) rfl .i8 (0) rfl info22 _ (hQ7.at (by omega)) (hQ7.frozen _) hb8 ?_
        case ch1q => rfl
        simp only [wpPlan]
        clear hQ hQ7 hb7 hb8
        go_wp2_with fail
        go_meet
        exact HD.out
      · subst h5
        subst h6
        go_wp2_with fail
        clear d0 d1
        refine wp_region_plan (fun w' => Below (w.heap.size + 3) wc w') [(0, false), (1, false), (2, false), (3, false), (4, false), (5, false), (6, false), (7, false), (8, false), (9, false), (11, false), (14, false), (10, true), (12, false), (13, true), (15, false), (16, true)] (by kernel_rfl) (by kernel_rfl) (fun c a w d v h => by cases d <;> exact h) ((Below.refl _ _).drew) ?_
        refine plan_val (v := .pointer (some ⟨w.heap.size + 1, 0, none⟩)) rfl ?ch2a (fun w' _ => ?dh2a) ?_
        case ch2a => rfl
        case dh2a => kernel_rfl
        simp only [Act.put, List.setIfInBounds_toArray, List.set_cons_zero, List.set_cons_succ]
        refine plan_cell rfl ?ch2b 3 (.tmp 85) rfl (w.heap.size + 1) 0 rfl (.int .i64 60) _ ?dh2b Tryz.underlying3 rfl ?_
        case ch2b => rfl
        case dh2b => exact fun w' hC => (hM.below hC (by omega)).from
        simp only [Act.put, List.setIfInBounds_toArray, List.set_cons_zero, List.set_cons_succ]
        refine plan_val (v := .pointer (some ⟨w.heap.size + 1, 1, none⟩)) rfl ?ch2c (fun w' _ => ?dh2c) ?_
        case ch2c => rfl
        case dh2c => kernel_rfl
        simp only [Act.put, List.setIfInBounds_toArray, List.set_cons_zero, List.set_cons_succ]
        refine plan_cell rfl ?ch2d 3 (.tmp 87) rfl (w.heap.size + 1) 1 rfl (.int .i64 62) _ ?dh2d Tryz.underlying3 rfl ?_
        case ch2d => rfl
        case dh2d => exact fun w' hC => (hM.below hC (by omega)).to
        simp only [Act.put, List.setIfInBounds_toArray, List.set_cons_zero, List.set_cons_succ]
        refine plan_val (v := .int .i64 122) rfl ?ch2e (fun w' _ => ?dh2e) ?_
        case ch2e => rfl
        case dh2e => kernel_rfl
        simp only [Act.put, List.setIfInBounds_toArray, List.set_cons_zero, List.set_cons_succ]
        refine plan_val (v := .int .i64 61) rfl ?ch2f (fun w' _ => ?dh2f) ?_
        case ch2f => rfl
        case dh2f => kernel_rfl
        simp only [Act.put, List.setIfInBounds_toArray, List.set_cons_zero, List.set_cons_succ]
        refine plan_val (v := .int .i64 63) rfl ?ch2g (fun w' _ => ?dh2g) ?_
        case ch2g => rfl
        case dh2g => kernel_rfl
        simp only [Act.put, List.setIfInBounds_toArray, List.set_cons_zero, List.set_cons_succ]
        refine plan_val (v := .int .i64 63) rfl ?ch2h (fun w' _ => ?dh2h) ?_
        case ch2h => rfl
        case dh2h => kernel_rfl
        simp only [Act.put, List.setIfInBounds_toArray, List.set_cons_zero, List.set_cons_succ]
        refine plan_val (v := .pointer (some ⟨gq, 0, none⟩)) rfl ?ch2i (fun w' _ => ?dh2i) ?_
        case ch2i => rfl
        case dh2i => kernel_rfl
        simp only [Act.put, List.setIfInBounds_toArray, List.set_cons_zero, List.set_cons_succ]
        refine plan_index rfl ?ch2j (.tmp 93) (.tmp 92) rfl gq (63) rfl rfl (by omega) (by omega) ?_
        case ch2j => rfl
        simp only [Act.put, List.setIfInBounds_toArray, List.set_cons_zero, List.set_cons_succ]
        refine plan_val (v := .pointer (some ⟨gq, 0, none⟩)) rfl ?ch2k (fun w' _ => ?dh2k) ?_
        case ch2k => rfl
        case dh2k => kernel_rfl
        simp only [Act.put, List.setIfInBounds_toArray, List.set_cons_zero, List.set_cons_succ]
        refine plan_val (v := .pointer (some ⟨gq, 0, none⟩)) rfl ?ch2l (fun w' _ => ?dh2l) ?_
        case ch2l => rfl
        case dh2l => kernel_rfl
        simp only [Act.put, List.setIfInBounds_toArray, List.set_cons_zero, List.set_cons_succ]
        refine plan_cell_here rfl ?ch2m 22 (.tmp 94) rfl gq 63 rfl (.int .i8 (q6.b 63)) _ (PBox.at (w := wc.drew) hQ (by omega)) (Below.refl _ _).drew Tryz.underlying22 rfl ?_
        case ch2m => rfl
        simp only [Act.put, List.setIfInBounds_toArray, List.set_cons_zero, List.set_cons_succ]
        refine plan_index rfl ?ch2n (.tmp 96) (.tmp 90) rfl gq (61) rfl rfl (by omega) (by omega) ?_
        case ch2n => rfl
        simp only [Act.put, List.setIfInBounds_toArray, List.set_cons_zero, List.set_cons_succ]
        obtain ⟨x0, x1⟩ := hq6.b 63 (by omega)
        have hb7 := below_setCell (g := gq) (o := 61) (v := .int .i8 (q6.b 63)) ((Below.refl (w.heap.size + 3) wc).drew) hgq
        have hQ7 : PBox (wc.drew.setCell ⟨gq, 61, none⟩ (.int .i8 (q6.b 63))) gq (KM.putB q6 61 (q6.b 63)) := PBox.store (w := wc.drew) hQ (KM.pval_put q6 _ _ (by omega))
        have hb8 := below_setCell (g := gq) (o := 63) (v := .int .i8 0) hb7 hgq
        refine plan_store rfl ?ch2o 22 (.tmp 97) (.tmp 95) rfl rfl gq (61) rfl .i8 (q6.b 63) rfl info22 _ (PBox.at (w := wc.drew) hQ (by omega)) (PBox.frozen (w := wc.drew) hQ _) hb7 ?_
        case ch2o => rfl
        refine plan_index rfl ?ch2p (.tmp 98) (.tmp 91) rfl gq (63) rfl rfl (by omega) (by omega) ?_
        case ch2p => rfl
        simp only [Act.put, List.setIfInBounds_toArray, List.set_cons_zero, List.set_cons_succ]
        have HD := Lib.hid (show DoSt (w.heap.size + 3) gq wc ((wc.drew.setCell ⟨gq, 61, none⟩ (.int .i8 (q6.b 63))).setCell ⟨gq, 63, none⟩ (.int .i8 0)) from
          ⟨_, KM.putB_wf (KM.putB_wf hq6 61 _ x0 x1) 63 0 (by omega) (by omega), hQ7.store (KM.pval_put _ 63 0 (by omega)), hb8⟩)
        refine plan_store rfl ?ch2q 22 (.tmp 99) (.const (.int .i8 0)) rfl rfl gq (63) rfl .i8 (0) rfl info22 _ (hQ7.at (by omega)) (hQ7.frozen _) hb8 ?_
        case ch2q => rfl
        simp only [wpPlan]
        clear hQ hQ7 hb7 hb8
        go_wp2_with fail
        go_meet
        exact HD.out
      · subst h5
        subst h6
        go_wp2_with fail
        clear d0 d1
        refine wp_region_plan (fun w' => Below (w.heap.size + 3) wc w') [(0, false), (1, false), (2, false), (3, false), (4, false), (5, false), (6, false), (7, false), (8, false), (9, false), (11, false), (14, false), (10, true), (12, false), (13, true), (15, false), (16, true)] (by kernel_rfl) (by kernel_rfl) (fun c a w d v h => by cases d <;> exact h) ((Below.refl _ _).drew) ?_
        refine plan_val (v := .pointer (some ⟨w.heap.size + 1, 0, none⟩)) rfl ?ch3a (fun w' _ => ?dh3a) ?_
        case ch3a => rfl
        case dh3a => kernel_rfl
        simp only [Act.put, List.setIfInBounds_toArray, List.set_cons_zero, List.set_cons_succ]
        refine plan_cell rfl ?ch3b 3 (.tmp 85) rfl (w.heap.size + 1) 0 rfl (.int .i64 60) _ ?dh3b Tryz.underlying3 rfl ?_
        case ch3b => rfl
        case dh3b => exact fun w' hC => (hM.below hC (by omega)).from
        simp only [Act.put, List.setIfInBounds_toArray, List.set_cons_zero, List.set_cons_succ]
        refine plan_val (v := .pointer (some ⟨w.heap.size + 1, 1, none⟩)) rfl ?ch3c (fun w' _ => ?dh3c) ?_
        case ch3c => rfl
        case dh3c => kernel_rfl
        simp only [Act.put, List.setIfInBounds_toArray, List.set_cons_zero, List.set_cons_succ]
        refine plan_cell rfl ?ch3d 3 (.tmp 87) rfl (w.heap.size + 1) 1 rfl (.int .i64 58) _ ?dh3d Tryz.underlying3 rfl ?_
        case ch3d => rfl
        case dh3d => exact fun w' hC => (hM.below hC (by omega)).to
        simp only [Act.put, List.setIfInBounds_toArray, List.set_cons_zero, List.set_cons_succ]
        refine plan_val (v := .int .i64 118) rfl ?ch3e (fun w' _ => ?dh3e) ?_
        case ch3e => rfl
        case dh3e => kernel_rfl
        simp only [Act.put, List.setIfInBounds_toArray, List.set_cons_zero, List.set_cons_succ]
        refine plan_val (v := .int .i64 59) rfl ?ch3f (fun w' _ => ?dh3f) ?_
        case ch3f => rfl
        case dh3f => kernel_rfl
        simp only [Act.put, List.setIfInBounds_toArray, List.set_cons_zero, List.set_cons_succ]
        refine plan_val (v := .int .i64 56) rfl ?ch3g (fun w' _ => ?dh3g) ?_
        case ch3g => rfl
        case dh3g => kernel_rfl
        simp only [Act.put, List.setIfInBounds_toArray, List.set_cons_zero, List.set_cons_succ]
        refine plan_val (v := .int .i64 56) rfl ?ch3h (fun w' _ => ?dh3h) ?_
        case ch3h => rfl
        case dh3h => kernel_rfl
        simp only [Act.put, List.setIfInBounds_toArray, List.set_cons_zero, List.set_cons_succ]
        refine plan_val (v := .pointer (some ⟨gq, 0, none⟩)) rfl ?ch3i (fun w' _ => ?dh3i) ?_
        case ch3i => rfl
        case dh3i => kernel_rfl
        simp only [Act.put, List.setIfInBounds_toArray, List.set_cons_zero, List.set_cons_succ]
        refine plan_index rfl ?ch3j (.tmp 93) (.tmp 92) rfl gq (56) rfl rfl (by omega) (by omega) ?_
        case ch3j => rfl
        simp only [Act.put, List.setIfInBounds_toArray, List.set_cons_zero, List.set_cons_succ]
        refine plan_val (v := .pointer (some ⟨gq, 0, none⟩)) rfl ?ch3k (fun w' _ => ?dh3k) ?_
        case ch3k => rfl
        case dh3k => kernel_rfl
        simp only [Act.put, List.setIfInBounds_toArray, List.set_cons_zero, List.set_cons_succ]
        refine plan_val (v := .pointer (some ⟨gq, 0, none⟩)) rfl ?ch3l (fun w' _ => ?dh3l) ?_
        case ch3l => rfl
        case dh3l => kernel_rfl
        simp only [Act.put, List.setIfInBounds_toArray, List.set_cons_zero, List.set_cons_succ]
        refine plan_cell_here rfl ?ch3m 22 (.tmp 94) rfl gq 56 rfl (.int .i8 (q6.b 56)) _ (PBox.at (w := wc.drew) hQ (by omega)) (Below.refl _ _).drew Tryz.underlying22 rfl ?_
        case ch3m => rfl
        simp only [Act.put, List.setIfInBounds_toArray, List.set_cons_zero, List.set_cons_succ]
        refine plan_index rfl ?ch3n (.tmp 96) (.tmp 90) rfl gq (59) rfl rfl (by omega) (by omega) ?_
        case ch3n => rfl
        simp only [Act.put, List.setIfInBounds_toArray, List.set_cons_zero, List.set_cons_succ]
        obtain ⟨x0, x1⟩ := hq6.b 56 (by omega)
        have hb7 := below_setCell (g := gq) (o := 59) (v := .int .i8 (q6.b 56)) ((Below.refl (w.heap.size + 3) wc).drew) hgq
        have hQ7 : PBox (wc.drew.setCell ⟨gq, 59, none⟩ (.int .i8 (q6.b 56))) gq (KM.putB q6 59 (q6.b 56)) := PBox.store (w := wc.drew) hQ (KM.pval_put q6 _ _ (by omega))
        have hb8 := below_setCell (g := gq) (o := 56) (v := .int .i8 0) hb7 hgq
        refine plan_store rfl ?ch3o 22 (.tmp 97) (.tmp 95) rfl rfl gq (59) rfl .i8 (q6.b 56) rfl info22 _ (PBox.at (w := wc.drew) hQ (by omega)) (PBox.frozen (w := wc.drew) hQ _) hb7 ?_
        case ch3o => rfl
        refine plan_index rfl ?ch3p (.tmp 98) (.tmp 91) rfl gq (56) rfl rfl (by omega) (by omega) ?_
        case ch3p => rfl
        simp only [Act.put, List.setIfInBounds_toArray, List.set_cons_zero, List.set_cons_succ]
        have HD := Lib.hid (show DoSt (w.heap.size + 3) gq wc ((wc.drew.setCell ⟨gq, 59, none⟩ (.int .i8 (q6.b 56))).setCell ⟨gq, 56, none⟩ (.int .i8 0)) from
          ⟨_, KM.putB_wf (KM.putB_wf hq6 59 _ x0 x1) 56 0 (by omega) (by omega), hQ7.store (KM.pval_put _ 56 0 (by omega)), hb8⟩)
        refine plan_store rfl ?ch3q 22 (.tmp 99) (.const (.int .i8 0)) rfl rfl gq (56) rfl .i8 (0) rfl info22 _ (hQ7.at (by omega)) (hQ7.frozen _) hb8 ?_
        case ch3q => rfl
        simp only [wpPlan]
        clear hQ hQ7 hb7 hb8
        go_wp2_with fail
        go_meet
        exact HD.out
  case rest =>
  clear hQ hq6
  obtain ⟨q9, hq9, hQ, hb⟩ := hcut
  replace hP := hP.below hb (by omega)
  replace hM := hM.below hb (by omega)
  replace HR := Lib.hid ((hb.block _ (by omega)).trans HR.out)
  replace HB := Lib.hid (HB.out.trans (hb.mono (by omega)))
  replace hS := Nat.le_trans hS hb.size
  clear hb
  have d0 := hP.turn
  have d1 := hQ.turn
  have d2 := hQ.ep
  have e1 := hQ.frozen 64
  have e2 := hQ.frozen 66
  go_upto_if 105 with (go_at_call 27; refine (manOther_any _ _).mono ?_; rintro e w2 ⟨rfl, rfl⟩)
  have o0 : -1 ≤ KM.other p.turn ∧ KM.other p.turn ≤ 1 := by unfold KM.other; split <;> (try split) <;> omega
  have hQa := hQ.store (KM.pval_num q9 { q9 with turn := KM.other p.turn } 64 (KM.other p.turn) (by omega) (by omega) rfl rfl rfl rfl)
  have hQb := hQa.store (KM.pval_num { q9 with turn := KM.other p.turn } { q9 with turn := KM.other p.turn, ep := -1 } 66 (-1) (by omega) (by omega) rfl rfl rfl rfl)
  have hwb : ({ q9 with turn := KM.other p.turn, ep := -1 } : KM.Po).wf := ⟨hq9.b, by unfold KM.i64ok; show -9223372036854775808 ≤ KM.other p.turn ∧ KM.other p.turn ≤ 9223372036854775807; omega, hq9.castle, by unfold KM.i64ok; show -9223372036854775808 ≤ (-1 : Int) ∧ (-1 : Int) ≤ 9223372036854775807; omega⟩
  have hbb := below_setCell (g := gq) (o := 66) (v := .int .i64 (-1)) (below_setCell (g := gq) (o := 64) (v := .int .i64 (KM.other p.turn)) (Below.refl (w.heap.size + 3) wc) hgq) hgq
  clear d0 d1 d2 e1 e2 hQa hQ hq9
  generalize (wc.setCell ⟨gq, 64, none⟩ (.int .i64 (KM.other p.turn))).setCell ⟨gq, 66, none⟩ (.int .i64 (-1)) = w10 at *
  generalize ({ q9 with turn := KM.other p.turn, ep := -1 } : KM.Po) = q10 at *
  replace hP := hP.below hbb (by omega)
  replace hM := hM.below hbb (by omega)
  replace HR := Lib.hid ((hbb.block _ (by omega)).trans HR.out)
  replace HB := Lib.hid (HB.out.trans (hbb.mono (by omega)))
  replace hS := Nat.le_trans hS hbb.size
  clear hbb o0
  go_cut [] from 106 (fun wx => DoSt (w.heap.size + 3) gq w10 wx)
  case first =>
    cases two
    · have HD := Lib.hid (show DoSt (w.heap.size + 3) gq w10 w10 from ⟨q10, hwb, hQb, Below.refl _ _⟩)
      go_wp2_with fail
      go_meet
      exact HD.out
    · have d0 := hM.from
      have d1 := hM.to
      have d2 := hQb.ep
      have e2 := hQb.frozen 66
      have HD := Lib.hid (show DoSt (w.heap.size + 3) gq w10 (w10.setCell ⟨gq, 66, none⟩ (.int .i64 ((f + t) / 2))) from
        ⟨{ q10 with ep := (f + t) / 2 }, ⟨hwb.b, hwb.turn, hwb.castle, by unfold KM.i64ok; show -9223372036854775808 ≤ (f + t) / 2 ∧ (f + t) / 2 ≤ 9223372036854775807; omega⟩, hQb.store (KM.pval_num q10 _ 66 _ (by omega) (by omega) rfl rfl rfl rfl), below_setCell (Below.refl _ _) hgq⟩)
      clear hQb
      go_wp2_with fail
      go_meet
      exact HD.out
  case rest =>
  clear hQb hwb
  obtain ⟨q11, hq11, hQ, hb⟩ := hcut
  replace hP := hP.below hb (by omega)
  replace hM := hM.below hb (by omega)
  replace HR := Lib.hid ((hb.block _ (by omega)).trans HR.out)
  replace HB := Lib.hid (HB.out.trans (hb.mono (by omega)))
  replace hS := Nat.le_trans hS hb.size
  clear hb
  go_wp2_with (go_at_call 42; refine (corners_any _).mono ?_; rintro e w12 ⟨rfl, hbl⟩; replace hQ := hQ.below hbl (heap_lt hQ); replace hP := hP.below hbl hP.lt; replace hM := hM.below hbl hM.lt; replace HR := Lib.hid ((hbl.block _ (by omega)).trans HR.out); replace HB := Lib.hid (HB.out.trans (hbl.mono (by omega))); replace hS := Nat.le_trans hS hbl.size; clear hbl)
  have HP := Lib.hid hP
  have HM := Lib.hid hM
  have HQ := Lib.hid (show ∃ q : KM.Po, q.wf ∧ PBox w12 gq q ∧ Below (w.heap.size + 3) w12 w12 from ⟨q11, hq11, hQ, Below.refl _ _⟩)
  clear hP hM hQ hq11
  go_loopw [114] (fun i wr => ∃ k : Nat, i = .int .i64 k ∧ k ≤ 6 ∧ ∃ q : KM.Po, q.wf ∧ PBox wr gq q ∧ Below (w.heap.size + 3) w12 wr) (fun i _ => 6 - (intOf i).toNat)
  case atStart => exact ⟨0, rfl, by omega, HQ.out⟩
  case round =>
    obtain ⟨k, rfl, hk, q, hq, hQ, hbw⟩ := hrel
    have hP := HP.out.below hbw (by omega)
    have hM := HM.out.below hbw (by omega)
    by_cases hlt : k < 6
    · obtain ⟨a, x, hrun⟩ := corner_at k hlt
      have hal := (Below.refl wr.heap.size wr).alloc (Nat.le_refl _) (Obj.cells #[.int .i64 a, .int .i64 x] 65)
      have hMa := hM.below hal (heap_lt hM)
      have hQa := hQ.below hal (heap_lt hQ)
      have hbwa := hbw.alloc (Nat.le_trans hS hbw.size) (Obj.cells #[.int .i64 a, .int .i64 x] 65)
      have d0 := hMa.from
      have d1 := hMa.to
      have d2 := hQa.castle
      have e2 := hQa.frozen 65
      have HS1 := Lib.hid (show ∃ q : KM.Po, q.wf ∧ PBox (wr.alloc (Obj.cells #[.int .i64 a, .int .i64 x] 65)) gq q ∧ Below (w.heap.size + 3) w12 (wr.alloc (Obj.cells #[.int .i64 a, .int .i64 x] 65)) from ⟨q, hq, hQa, hbwa⟩)
      have HS2 := Lib.hid (show ∃ q' : KM.Po, q'.wf ∧ PBox ((wr.alloc (Obj.cells #[.int .i64 a, .int .i64 x] 65)).setCell ⟨gq, 65, none⟩ (.int .i64 (bits .andNot .i64 q.castle x))) gq q' ∧ Below (w.heap.size + 3) w12 ((wr.alloc (Obj.cells #[.int .i64 a, .int .i64 x] 65)).setCell ⟨gq, 65, none⟩ (.int .i64 (bits .andNot .i64 q.castle x))) from
        ⟨{ q with castle := bits .andNot .i64 q.castle x }, ⟨hq.b, hq.turn, (show KM.i64ok (bits .andNot .i64 q.castle x) from bits_i64_ok .andNot q.castle x), hq.ep⟩, hQa.store (KM.pval_num q { q with castle := bits .andNot .i64 q.castle x } 65 (bits .andNot .i64 q.castle x) (by omega) (by omega) rfl rfl rfl rfl), below_setCell hbwa hgq⟩)
      clear hP hM hQ hMa hQa hbwa hal hbw
      by_cases h1 : a = f
      · have b1 : (a == f) = true := by simp [h1]
        clear h1
        go_wp2_with fail
        go_roundw
        case rel => exact ⟨k + 1, by go_num, by omega, HS2.out⟩
        case measure => simp [intOf]; omega
      · have b1 : (a == f) = false := by simp [h1]
        by_cases h2 : a = t
        · have b2 : (a == t) = true := by simp [h2]
          clear h1 h2
          go_wp2_with fail
          go_roundw
          case rel => exact ⟨k + 1, by go_num, by omega, HS2.out⟩
          case measure => simp [intOf]; omega
        · have b2 : (a == t) = false := by simp [h2]
          clear h1 h2
          go_wp2_with fail
          go_roundw
          case rel => exact ⟨k + 1, by go_num, by omega, HS1.out⟩
          case measure => simp [intOf]; omega
    · obtain rfl : k = 6 := by omega
      have hR := (hbw.block _ (by omega)).trans HR.out
      have HBw := Lib.hid (HB.out.trans (hbw.mono (by omega)))
      clear hP hM hbw HR
      go_wp2_with (first
        | (refine wpList_load_part rfl 26 (.tmp 9) rfl _ 0 rfl _ _ hQ.part Tryz.underlying26 rfl (hi26 q) ?_)
        | (refine wpList_store_row rfl 26 (.tmp 4) (.tmp 136) rfl _ (KM.pval q) rfl rfl 26 Tryz.zeroCells26 hR (hi26 q) (zero26_size q) (KM.pval_one q) ?_))
      refine bodyPost_ret (v := .agg (KM.pval q)) ?_ rfl ⟨⟨q, hq, rfl⟩, ?_⟩
      · exact results_cell_row rfl _ _ (w.heap.size + 1 + 1) 26 (KM.pval q) (0, 0) _ rfl (heap_setRow_same hR) Tryz.underlying26 rfl (hi26 q)
      · exact below_setRow HBw.out (by omega)

end Go.Proofs.YtgikglnfjkbnhaaGreat

