/-
  Laws of the walk that these proofs lean on: a whole struct or array loaded from a part of a block; a region that draws its order and whose callees make memory of their own (a class of worlds that are as one was below a block).
-/
import Derived.Test.YtgikglnfjkbnhaaGreatProg
import Derived.Test.YtgikglnfjkbnhaaGreatKm
import Derived.WalkKit
import Derived.WalkSpells
import Derived.WalkLawsBesides
import Derived.Lib.Hide
import Derived.Laws.Rows
import Derived.Deep.QuietTactic
import Derived.BigQuiet
import Derived.Deep.RegionWith
import Derived.KernelRfl
import Derived.Laws.StructEq
namespace Go.Proofs.YtgikglnfjkbnhaaGreat
open Go.RowKit

theorem run_loadVar_part {P : Program} (w : World) (g off : Nat) (ty : TypeId) (cs : Array Value) (d : TypeDesc)
    (hc : ∀ j v, cs[j]? = some v → w.cell? ⟨g, off + j, none⟩ = some v)
    (hu : P.underlying ty = some d) (hd : (match d with | .struct _ | .array _ _ => true | _ => false) = true) (hi : (P.info? ty).map (·.size) = some cs.size) :
    (loadVar ty ⟨g, off, none⟩).run P w = .ok (.agg cs) w := by
  have hl : (loadCells ⟨g, off, none⟩ cs.toList.length).run P w = .ok cs.toList.toArray w :=
    run_loadCells_list (P := P) w ⟨g, off, none⟩ cs.toList (fun j v hv => by
      have hadd : (⟨g, off, none⟩ : Addr).add j = ⟨g, off + j, none⟩ := by unfold Addr.add; split <;> simp_all
      rw [hadd]
      exact hc j v (by simpa using hv))
  cases hq : P.info? ty with
  | none => simp [hq] at hi
  | some i =>
    have hs : i.size = cs.size := by simpa [hq] using hi
    have hagg : (isAgg ty).run P w = .ok true w := by
      unfold isAgg
      rw [Sem.run_bind, run_underlying hu w]
      cases d <;> simp_all
    simp only [Array.length_toList, Array.toArray_toList] at hl
    simp [loadVar, Sem.run_bind, hagg, sizeOf, typeInfo, hq, hs, hl]

theorem wpList_load_part {P : Program} {ops : Array Oper} {rest : List Oper} {o : Oper} {a : Act} {w : World} {Q : Exit → Act → World → Prop} (hgd : Region.wanted o (yielded ops a.tmps) = true) (ty : TypeId) (x : Operand) (ho : o.op = .load ty x)
    (g off : Nat) (hx : a.eval x = .pointer (some ⟨g, off, none⟩)) (cs : Array Value) (d : TypeDesc)
    (hc : ∀ j v, cs[j]? = some v → w.cell? ⟨g, off + j, none⟩ = some v)
    (hu : P.underlying ty = some d) (hd : (match d with | .struct _ | .array _ _ => true | _ => false) = true) (hi : (P.info? ty).map (·.size) = some cs.size)
    (h : wpList P ops Q rest (a.put o.dst (.agg cs)) w) : wpList P ops Q (o :: rest) a w :=
  BigFrame.wpList_want hgd fun _ hK => by
    unfold Oper.wp execOp
    simp only [ho, hx, Instr.loadAt, Instr.sureAddr, Sem.run_bind, Sem.run_pure, Result.andThen_ok, run_loadVar_part w g off ty cs d hc hu hd hi]
    exact hK _ _ h

theorem _root_.Go.RowKit.Below.step {w w1 w2 : World} (h : Below w.heap.size w w1) (k : Below w1.heap.size w1 w2) : Below w.heap.size w w2 := h.trans (k.mono h.size)

/-- The worlds that are as 'w' was below block B, as a type of their own. -/
structure Idx (B : Nat) (w : World) where
  val : World
  below : Below B w val

instance (B : Nat) (w : World) : Nonempty (Idx B w) := ⟨⟨w, Below.refl B w⟩⟩

theorem Idx.get {B : Nat} {w w' : World} (h : ∃ i : Idx B w, w' = i.val) : Below B w w' := by
  obtain ⟨i, rfl⟩ := h
  exact i.below

theorem wp_region_idx {P : Program} {id : Nat} {Q : Exit → Act → World → Prop} {a : Act} {w : World} {l : List Oper} (B : Nat) (hm : P.follows .mixedOrders = true) (hB : Region.lexB .any l.toArray = true)
    (h : wpQuiet P l.toArray (fun w' => ∃ i : Idx B w, w' = i.val) (fun a' => ∀ w', (∃ i : Idx B w, w' = i.val) → Q .normal a' w') l a) : (Code.region id l.toArray true).wp P Q a w :=
  wp_region_quiet (C := fun w' => ∃ i : Idx B w, w' = i.val) hm hB ⟨⟨w.drew, (Below.refl B w).drew⟩, rfl⟩ (by simpa using h)

theorem quiet_load_part {P : Program} {B : Nat} {w : World} {K : Act → Prop} {o : Oper} {a : Act} (ty : TypeId) (x : Operand) (ho : o.op = .load ty x)
    (g off : Nat) (hx : a.eval x = .pointer (some ⟨g, off, none⟩)) (hg : g < B) (cs : Array Value) (d : TypeDesc)
    (hc : ∀ j v, cs[j]? = some v → w.cell? ⟨g, off + j, none⟩ = some v)
    (hu : P.underlying ty = some d) (hd : (match d with | .struct _ | .array _ _ => true | _ => false) = true) (hi : (P.info? ty).map (·.size) = some cs.size)
    (h : K (a.put o.dst (.agg cs))) : o.quiet P a (fun w' => ∃ i : Idx B w, w' = i.val) K := by
  refine ⟨_, fun w1 ⟨i, hi'⟩ => ?_, h⟩
  subst hi'
  unfold Oper.quietAt execOp
  have hc' : ∀ j v, cs[j]? = some v → i.val.cell? ⟨g, off + j, none⟩ = some v := fun j v hv => by rw [i.below.cell (p := ⟨g, off + j, none⟩) hg]; exact hc j v hv
  simp only [ho, hx, Instr.loadAt, Instr.sureAddr, Sem.run_bind, Sem.run_pure, Result.andThen_ok, run_loadVar_part i.val g off ty cs d hc' hu hd hi]
  exact ⟨rfl, rfl⟩

theorem wpList_build0 {P : Program} {ops : Array Oper} {rest : List Oper} {o : Oper} {a : Act} {w : World} {Q : Exit → Act → World → Prop} (hgd : Region.wanted o (yielded ops a.tmps) = true) (ty : TypeId) (z : Value) (ho : o.op = .build ty #[])
    (hz : ∀ w, (Instr.build ty #[]).run P w = .ok z w) (h : wpList P ops Q rest (a.put o.dst z) w) : wpList P ops Q (o :: rest) a w :=
  BigFrame.wpList_want hgd fun _ hK => by
    unfold Oper.wp execOp
    have hz' := hz w
    simp only [ho, Array.map_empty, Sem.run_bind, hz', Result.andThen_ok, Sem.run_pure]
    exact hK _ _ h

theorem build24 (w : World) : (Instr.build 24 #[]).run Tryz.prog w = .ok (.agg (KM.bval fun _ => 0)) w := by kernel_rfl

theorem Idx.calls {P : Program} {f : FuncId} {args : Array Value} {B : Nat} {w : World} {i : Idx B w} {v : Value} (hB : B ≤ w.heap.size)
    (h : Calls P f args i.val fun e w' => e = .returned v ∧ Below i.val.heap.size i.val w') : Calls P f args i.val fun e w' => e = .returned v ∧ ∃ j : Idx B w, w' = j.val :=
  h.mono fun _ w' ⟨he, hb⟩ => ⟨he, ⟨w', i.below.trans (hb.mono (Nat.le_trans hB i.below.size))⟩, rfl⟩

theorem Idx.calls_same {P : Program} {f : FuncId} {args : Array Value} {B : Nat} {w : World} {i : Idx B w} {v : Value}
    (h : Calls P f args i.val fun e w' => e = .returned v ∧ i.val = w') : Calls P f args i.val fun e w' => e = .returned v ∧ ∃ j : Idx B w, w' = j.val :=
  h.mono fun _ _ ⟨he, hb⟩ => ⟨he, i, hb.symm⟩

theorem info26 : (Tryz.prog.info? 26).map (·.size) = some 67 := by kernel_rfl
theorem info24 : (Tryz.prog.info? 24).map (·.size) = some 64 := by kernel_rfl
theorem info22 : (Tryz.prog.info? 22).map (·.size) = some 1 := by kernel_rfl
theorem info3 : (Tryz.prog.info? 3).map (·.size) = some 1 := by kernel_rfl
theorem info35 : (Tryz.prog.info? 35).map (·.size) = some 3 := by kernel_rfl

theorem run_index_one {P : Program} (T E n : Nat) (d : TypeDesc) (hu : P.underlying T = some (.array n E)) (hE : P.underlying E = some d)
    (hd : (match d with | .struct _ | .array _ _ => true | _ => false) = false) (hs : (P.info? E).map (·.size) = some 1)
    (cs : Array Value) (i : Nat) (v : Value) (hi : i < n) (hv : cs[i]? = some v) (w : World) :
    (Instr.index T (.agg cs) (.int .i64 i)).run P w = .ok v w := by
  cases hq : P.info? E with
  | none => simp [hq] at hs
  | some inf =>
    have hsz : inf.size = 1 := by simpa [hq] using hs
    have hagg : (isAgg E).run P w = .ok false w := by
      unfold isAgg
      rw [Sem.run_bind, run_underlying hE w]
      cases d <;> simp_all
    have hi' : (0 : Int) ≤ (i : Int) ∧ (i : Int) < (n : Int) := by omega
    simp [Instr.index, asIntOf, Sem.run_bind, run_underlying hu w, hi', sizeOf, typeInfo, hq, hsz, part, hagg, hv, hi]
theorem run_index_b (b : Nat → Int) (n : Nat) (h : n < 64) (w : World) : (Instr.index 24 (.agg (KM.bval b)) (.int .i64 n)).run Tryz.prog w = .ok (.int .i8 (b n)) w :=
  run_index_one 24 22 64 _ Tryz.underlying24 Tryz.underlying22 rfl info22 _ n _ h (KM.bval_get b h) w

theorem hi26 (p : KM.Po) : (Tryz.prog.info? 26).map (·.size) = some (KM.pval p).size := by rw [KM.pval_size]; exact info26
theorem hi24 (b : Nat → Int) : (Tryz.prog.info? 24).map (·.size) = some (KM.bval b).size := by rw [KM.bval_size]; exact info24

/-- Block g of the world holds a position. -/
def PBox (w : World) (g : Nat) (p : KM.Po) : Prop := w.heap[g]? = some (.cells (KM.pval p) 26 (0, 0))
/-- Block g of the world holds a board. -/
def BBox (w : World) (g : Nat) (b : Nat → Int) : Prop := w.heap[g]? = some (.cells (KM.bval b) 24 (0, 0))

theorem PBox.new (w : World) (p : KM.Po) : PBox (w.alloc (.cells (KM.pval p) 26)) w.heap.size p := heap_alloc_new w _
theorem PBox.below {w w' : World} {B g : Nat} {p : KM.Po} (h : PBox w g p) (hb : Below B w w') (hg : g < B) : PBox w' g p := by
  unfold PBox; rw [hb.block g hg]; exact h
theorem PBox.lt {w : World} {g : Nat} {p : KM.Po} (h : PBox w g p) : g < w.heap.size := by
  unfold PBox at h
  by_cases hlt : g < w.heap.size
  · exact hlt
  · simp [Array.getElem?_eq_none (Nat.le_of_not_lt hlt)] at h
theorem PBox.part {w : World} {g : Nat} {p : KM.Po} (h : PBox w g p) : ∀ j v, (KM.pval p)[j]? = some v → w.cell? ⟨g, 0 + j, none⟩ = some v := by
  intro j v hv
  rw [Nat.zero_add, cell_of_row w g j _ _ _ h]
  exact hv
theorem PBox.board {w : World} {g : Nat} {p : KM.Po} (h : PBox w g p) : ∀ j v, (KM.bval p.b)[j]? = some v → w.cell? ⟨g, 0 + j, none⟩ = some v := by
  intro j v hv
  rw [Nat.zero_add, cell_of_row w g j _ _ _ h]
  have hj : j < 64 := by
    by_cases hlt : j < 64
    · exact hlt
    · rw [Array.getElem?_eq_none (by rw [KM.bval_size]; omega)] at hv; cases hv
  rw [KM.bval_get _ hj] at hv
  rw [KM.pval_get _ hj]
  exact hv
theorem PBox.at {w : World} {g : Nat} {p : KM.Po} (h : PBox w g p) {i : Nat} (hi : i < 64) : w.cell? ⟨g, i, none⟩ = some (.int .i8 (p.b i)) := by
  rw [cell_of_row w g i _ _ _ h]; exact KM.pval_get p hi
theorem PBox.turn {w : World} {g : Nat} {p : KM.Po} (h : PBox w g p) : w.cell? ⟨g, 64, none⟩ = some (.int .i64 p.turn) := by
  rw [cell_of_row w g 64 _ _ _ h]; exact KM.pval_turn p
theorem PBox.castle {w : World} {g : Nat} {p : KM.Po} (h : PBox w g p) : w.cell? ⟨g, 65, none⟩ = some (.int .i64 p.castle) := by
  rw [cell_of_row w g 65 _ _ _ h]; exact KM.pval_castle p
theorem PBox.ep {w : World} {g : Nat} {p : KM.Po} (h : PBox w g p) : w.cell? ⟨g, 66, none⟩ = some (.int .i64 p.ep) := by
  rw [cell_of_row w g 66 _ _ _ h]; exact KM.pval_ep p


theorem PBox.idx {w : World} {g B : Nat} {p : KM.Po} (h : PBox w g p) (hg : g < B) (i : Idx B w) : PBox i.val g p := h.below i.below hg
theorem BBox.new (w : World) (b : Nat → Int) : BBox (w.alloc (.cells (KM.bval b) 24)) w.heap.size b := heap_alloc_new w _
theorem BBox.below {w w' : World} {B g : Nat} {b : Nat → Int} (h : BBox w g b) (hb : Below B w w') (hg : g < B) : BBox w' g b := by
  unfold BBox; rw [hb.block g hg]; exact h
theorem BBox.idx {w : World} {g B : Nat} {b : Nat → Int} (h : BBox w g b) (hg : g < B) (i : Idx B w) : BBox i.val g b := h.below i.below hg
theorem BBox.lt {w : World} {g : Nat} {b : Nat → Int} (h : BBox w g b) : g < w.heap.size := by
  unfold BBox at h
  by_cases hlt : g < w.heap.size
  · exact hlt
  · simp [Array.getElem?_eq_none (Nat.le_of_not_lt hlt)] at h
theorem BBox.part {w : World} {g : Nat} {b : Nat → Int} (h : BBox w g b) : ∀ j v, (KM.bval b)[j]? = some v → w.cell? ⟨g, 0 + j, none⟩ = some v := by
  intro j v hv
  rw [Nat.zero_add, cell_of_row w g j _ _ _ h]
  exact hv
theorem BBox.at {w : World} {g : Nat} {b : Nat → Int} (h : BBox w g b) {i : Nat} (hi : i < 64) : w.cell? ⟨g, i, none⟩ = some (.int .i8 (b i)) := by
  rw [cell_of_row w g i _ _ _ h]; exact KM.bval_get b hi

theorem run_part_one {P : Program} (E : Nat) (d : TypeDesc) (hE : P.underlying E = some d)
    (hd : (match d with | .struct _ | .array _ _ => true | _ => false) = false)
    (cs : Array Value) (i : Nat) (v : Value) (hv : cs[i]? = some v) (w : World) :
    (part E cs i).run P w = .ok v w := by
  have hagg : (isAgg E).run P w = .ok false w := by
    unfold isAgg
    rw [Sem.run_bind, run_underlying hE w]
    cases d <;> simp_all
  simp [part, Sem.run_bind, hagg, hv]

theorem run_equalIn_array {P : Program} (D d t E n : Nat) (hD : D = d + 1) (k : IntKind) (hu : P.underlying t = some (.array n E)) (hE : P.underlying E = some (.int k))
    (hs : (P.info? E).map (·.size) = some 1) (f g : Nat → Int) (xs ys : Array Value) (hx : ∀ i, i < n → xs[i]? = some (.int k (f i))) (hy : ∀ i, i < n → ys[i]? = some (.int k (g i))) :
    ∃ e, (∀ w, (Op.equalIn (D + 1) t (.agg xs) (.agg ys)).run P w = .ok e w) ∧ (e = true → ∀ i, i < n → f i = g i) := by
  cases hq : P.info? E with
  | none => simp [hq] at hs
  | some inf =>
    have hsz : inf.size = 1 := by simpa [hq] using hs
    have hin : ∀ (a b : Int) (w : World), (Op.equalIn D E (.int k a) (.int k b)).run P w = .ok (a == b) w := fun a b w => by rw [hD]; exact run_equalIn_int w d E k k a b hE
    refine ⟨(List.range n).all fun i => f i == g i, fun w => ?_, fun h i hi => ?_⟩
    · have hpx : ∀ i w, i < n → (part E xs i).run P w = .ok (.int k (f i)) w := fun i w hi => run_part_one E _ hE rfl xs i _ (hx i hi) w
      have hpy : ∀ i w, i < n → (part E ys i).run P w = .ok (.int k (g i)) w := fun i w hi => run_part_one E _ hE rfl ys i _ (hy i hi) w
      simp only [Op.equalIn, Sem.run_bind, run_underlying hu, Result.andThen_ok, sizeOf, typeInfo, run_program, hq, Sem.run_pure, hsz, Nat.mul_one, Std.Legacy.Range.forIn_eq_forIn_range', Std.Legacy.Range.size, Nat.sub_zero, Nat.add_sub_cancel, Nat.div_one]
      have key : ∀ (m s : Nat), s + m ≤ n → ((forIn (List.range' s m) ((none, ()) : Option Bool × PUnit) fun i r => do
            let a ← part E xs i
            let b ← part E ys i
            let q ← Op.equalIn D E a b
            if (!q) = true then pure (ForInStep.done (some false, ())) else pure (ForInStep.yield (none, ())) : Sem (Option Bool × PUnit))).run P w = .ok (if (List.range' s m).all (fun i => f i == g i) = true then (none, ()) else (some false, ())) w := by
        intro m
        induction m with
        | zero => intro s _; simp
        | succ m ih =>
          intro s hsn
          simp only [List.range'_succ, List.forIn_cons, Sem.run_bind, hpx s _ (by omega), hpy s _ (by omega), hin, Result.andThen_ok, List.all_cons]
          cases hfg : (f s == g s)
          · simp [Sem.run_pure]
          · simp only [Bool.not_true, Bool.false_eq_true, if_false, Sem.run_pure, Result.andThen_ok, Bool.true_and]
            exact ih (s + 1) (by omega)
      rw [key n 0 (by omega), List.range_eq_range']
      cases (List.range' 0 n).all fun i => f i == g i <;> simp
    · have := List.all_eq_true.1 h i (List.mem_range.2 hi)
      simpa using this

end Go.Proofs.YtgikglnfjkbnhaaGreat
