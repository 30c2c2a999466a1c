/-
  A region that draws its order, walked along a plan: what only computes or reads comes first, in whatever order; what makes or writes memory comes where nothing else can. One walk of the plan serves every order.
-/
import Derived.Orders
import Derived.Deep.Quiet
import Derived.Test.YtgikglnfjkbnhaaGreatKw
namespace Go.Proofs.YtgikglnfjkbnhaaGreat
open Go.RowKit

section
variable {P : Program} {ops : Array Oper} {Q : Exit → Act → World → Prop} {md : Region.Mode} {C : World → Prop}

/-- Whatever order is picked from here on; behind each operation the world is one of the class. -/
def wpAnyC (P : Program) (md : Region.Mode) (ops : Array Oper) (C : World → Prop) (Q : Exit → Act → World → Prop) : Nat → Array Bool → Act → World → Prop
  | 0, listed, a, w => Region.ready md ops listed = [] ∧ Q .normal a w
  | fuel + 1, listed, a, w =>
    (Region.ready md ops listed = [] → Q .normal a w) ∧
    ∀ i ∈ Region.ready md ops listed, wpOp P ops Q i (fun a' w' => C w' ∧ wpAnyC P md ops C Q fuel (listed.setIfInBounds i true) a' w') a w

theorem wpAny_of_anyC : ∀ (fuel : Nat) (listed : Array Bool) (a : Act) (w : World), wpAnyC P md ops C Q fuel listed a w → wpAny P md ops Q fuel listed a w
  | 0, _, _, _, h => h
  | fuel + 1, _, _, _, h => ⟨h.1, fun i hi => wpOp_mono (fun a' w' h' => wpAny_of_anyC fuel _ a' w' h'.2) (h.2 i hi)⟩

/-- In every world of the class the operation leaves this value, and the very world. -/
def SameIn (P : Program) (ops : Array Oper) (C : World → Prop) (o : Oper) (v : Value) (a : Act) : Prop :=
  (Region.wanted o (yielded ops a.tmps) = true ∧ ∀ w, C w → o.quietAt P a (fun x => x = w) w v) ∨ (Region.wanted o (yielded ops a.tmps) = false ∧ v = undef)

theorem SameIn.of_same {o : Oper} {v : Value} {a a' : Act} (hy : SameIn P ops C o v a) (he : execOp a'.eval o = execOp a.eval o)
    (hw : Region.wanted o (yielded ops a'.tmps) = Region.wanted o (yielded ops a.tmps)) : SameIn P ops C o v a' := by
  unfold SameIn Oper.quietAt at *
  rw [he, hw]
  exact hy

theorem SameIn.wpOp {i : Nat} {o : Oper} {v : Value} {a : Act} (hi : ops[i]? = some o) (hy : SameIn P ops C o v a) {K : Act → World → Prop} {w : World} (hC : C w) (h : K (a.put o.dst v) w) :
    wpOp P ops Q i K a w := by
  unfold Go.wpOp
  simp only [hi]
  rcases hy with ⟨hw, hv⟩ | ⟨hw, rfl⟩
  · simp only [hw, if_true]
    refine .inl ?_
    have h3 := hv w hC
    unfold Oper.quietAt at h3
    unfold Oper.wp
    generalize (execOp a.eval o).run P w = r at *
    cases r with
    | ok n w' =>
      cases n <;> simp only [Oper.quietUpon] at h3 <;> simp only [Oper.upon]
      case value u => obtain ⟨e1, e2⟩ := h3; rw [e1, e2]; exact h
      case skip => obtain ⟨e1, e2⟩ := h3; rw [e1, ← e2]; exact h
      case enter f args =>
        obtain ⟨e1, hc⟩ := h3
        rw [e1]
        exact hc.mono fun e w'' ⟨he, hw''⟩ => by subst he; rw [hw'']; exact h
    | halt x w' => simp only [Oper.quietUpon] at h3
  · simp only [hw, Bool.false_eq_true, if_false]; exact h

/-- One operation apart from another one that leaves its value wherever it comes. -/
theorem wpOp_putC {j : Nat} {oi oj : Oper} {v : Value} (hj : ops[j]? = some oj) (hap : oi.apart ops oj = true)
    (hsi : ∀ cs b, oi.op ≠ .select cs b) (hsj : ∀ cs b, oj.op ≠ .select cs b)
    (hQ : ∀ c a w, Q (.panic c) (a.put oi.dst v) w → Q (.panic c) a w) {K : Act → World → Prop} {a : Act} {w : World}
    (hy : SameIn P ops C oi v a) (h : wpOp P ops Q j K (a.put oi.dst v) w) :
    wpOp P ops Q j (fun a' w' => SameIn P ops C oi v a' ∧ K (a'.put oi.dst v) w') a w := by
  obtain ⟨h1, h2, h3⟩ := Oper.apart_spec hap
  have keep : ∀ (a : Act), SameIn P ops C oi v a → ∀ u, SameIn P ops C oi v (a.put oj.dst u) := fun a hy u =>
    hy.of_same (execOp_put oi hsi a oj.dst u h3) (wanted_put oi a oj.dst u h3)
  have keepD : ∀ d, SameIn P ops C oi v { a with defers := d :: a.defers } := fun d => hy.of_same rfl rfl
  have hrun : execOp (a.put oi.dst v).eval oj = execOp a.eval oj := execOp_put oj hsj a oi.dst v h1
  unfold wpOp at *
  simp only [hj] at *
  rw [wanted_put oj a oi.dst v h1] at h
  by_cases hw : Region.wanted oj (yielded ops a.tmps) = true
  · rw [if_pos hw] at h ⊢
    rcases h with h | ⟨hasks, hlets⟩
    · refine .inl ?_
      unfold Oper.wp at *
      rw [hrun] at h
      generalize (execOp a.eval oj).run P w = r at *
      cases r with
      | ok n w' =>
        cases n <;> simp only [Oper.upon] at h ⊢
        case value u => exact ⟨keep a hy u, by rw [← Act.put_comm a v u h2]; exact h⟩
        case skip => exact ⟨keep a hy _, by rw [← Act.put_comm a v undef h2]; exact h⟩
        case defer d =>
          refine ⟨keep _ (keepD d) _, ?_⟩
          rw [← Act.put_comm _ v undef h2, ← Act.put_defers]
          exact h
        case enter f args =>
          refine Calls.mono h fun e w'' he => ?_
          cases e with
          | returned u => exact ⟨keep a hy u, by rw [← Act.put_comm a v u h2]; exact he⟩
          | panicked c => exact hQ _ _ _ he
          | outgrown => exact he
        case row row args => exact Rows.mono h fun u w'' he => ⟨keep a hy u, by rw [← Act.put_comm a v u h2]; exact he⟩
      | halt x w' =>
        cases x <;> simp only [Oper.upon] at h ⊢
        case panic u => exact hQ _ _ _ h
    · exact .inr ⟨by unfold Oper.asks at *; rw [hrun] at hasks; exact hasks, hlets⟩
  · rw [if_neg hw] at h ⊢
    exact ⟨keep a hy _, by rw [← Act.put_comm a v undef h2]; exact h⟩

/-- Such an operation may be taken first. -/
theorem wpAnyC_first {i : Nat} {oi : Oper} {v : Value} (hi : ops[i]? = some oi) (hsel : ∀ (j : Nat) (o : Oper) cs b, ops[j]? = some o → o.op ≠ .select cs b)
    (hQ : ∀ c a w, Q (.panic c) (a.put oi.dst v) w → Q (.panic c) a w) :
    ∀ (fuel : Nat) (listed : Array Bool) (a : Act) (w : World),
      (∀ j oj, ops[j]? = some oj → j ≠ i → listed.getD j true = false → (∀ e ∈ oj.after, Region.binds md e = true → e.on ≠ i) → oi.apart ops oj = true) →
      i ∈ Region.ready md ops listed → C w → SameIn P ops C oi v a →
      wpAnyC P md ops C Q fuel (listed.setIfInBounds i true) (a.put oi.dst v) w → wpAnyC P md ops C Q (fuel + 1) listed a w := by
  intro fuel
  induction fuel with
  | zero =>
    intro listed a w _ hr hC hy H
    refine ⟨fun h => (by rw [h] at hr; cases hr), fun j hj => ?_⟩
    by_cases hji : j = i
    · subst hji; exact hy.wpOp hi hC ⟨hC, H⟩
    · have := ready_mono hj hji
      rw [H.1] at this
      cases this
  | succ fuel ih =>
    intro listed a w hfree hr hC hy H
    refine ⟨fun h => (by rw [h] at hr; cases hr), fun j hj => ?_⟩
    by_cases hji : j = i
    · subst hji; exact hy.wpOp hi hC ⟨hC, H⟩
    · have h1 := H.2 j (ready_mono hj hji)
      obtain ⟨hjun, oj, hoj, hall⟩ := mem_ready.1 hj
      have hnot : ∀ e ∈ oj.after, Region.binds md e = true → e.on ≠ i := fun e he hb heq => by
        have h1 := hall e he hb
        have h0 := (mem_ready.1 hr).1
        rw [heq] at h1
        rcases Nat.lt_or_ge i listed.size with h' | h'
        · simp [h'] at h0 h1; rw [h0] at h1; cases h1
        · simp [Array.getElem?_eq_none h'] at h1
      have h2 := wpOp_putC hoj (hfree j oj hoj hji hjun hnot) (fun cs b => hsel i oi cs b hi) (fun cs b => hsel j oj cs b hoj) hQ hy h1
      have hfree' : ∀ k ok, ops[k]? = some ok → k ≠ i → (listed.setIfInBounds j true).getD k true = false →
          (∀ e ∈ ok.after, Region.binds md e = true → e.on ≠ i) → oi.apart ops ok = true := fun k ok hk hki hun hno => by
        refine hfree k ok hk hki ?_ hno
        by_cases hjk : j = k
        · subst hjk; exact hjun
        · rw [getD_set_ne true hjk] at hun; exact hun
      refine wpOp_mono (fun a' w' h3 => ⟨h3.2.1, ih (listed.setIfInBounds j true) a' w' hfree' (ready_mono hr (Ne.symm hji)) h3.2.1 h3.1 ?_⟩) h2
      rw [Array.setIfInBounds_comm _ _ hji]
      exact h3.2.2

/-- The plan: the operations' numbers; true: it makes or writes memory, and nothing else can come there. -/
def wpPlan (P : Program) (ops : Array Oper) (C : World → Prop) (Q : Exit → Act → World → Prop) : List (Nat × Bool) → Act → World → Prop
  | [], a, w => Q .normal a w
  | (i, b) :: rest, a, w =>
    match ops[i]? with
    | none => False
    | some o =>
      if Region.wanted o (yielded ops a.tmps) = true then
        if b = true then o.wp P a w (fun a' w' => C w' ∧ wpPlan P ops C Q rest a' w') Q
        else ∃ v, (∀ w, C w → o.quietAt P a (fun x => x = w) w v) ∧ wpPlan P ops C Q rest (a.put o.dst v) w
      else wpPlan P ops C Q rest (a.put o.dst undef) w

def planB (md : Region.Mode) (ops : Array Oper) : List (Nat × Bool) → Array Bool → Bool
  | [], listed => (Region.ready md ops listed).isEmpty
  | (i, b) :: rest, listed => (if b = true then Region.ready md ops listed == [i] else (Region.ready md ops listed).contains i && Region.free md ops listed i) && planB md ops rest (listed.setIfInBounds i true)

theorem wpAnyC_plan (hs : Region.noSelect ops = true) (hQ : ∀ c a w d v, Q (.panic c) (a.put d v) w → Q (.panic c) a w) :
    ∀ (plan : List (Nat × Bool)) (listed : Array Bool) (a : Act) (w : World), planB md ops plan listed = true → C w → wpPlan P ops C Q plan a w → wpAnyC P md ops C Q plan.length listed a w
  | [], _, _, _, hB, _, h => ⟨by simpa [planB] using hB, h⟩
  | (i, b) :: rest, listed, a, w, hB, hC, h => by
    simp only [planB, Bool.and_eq_true] at hB
    obtain ⟨hb, hB'⟩ := hB
    have ih : ∀ a' w', C w' → wpPlan P ops C Q rest a' w' → wpAnyC P md ops C Q rest.length (listed.setIfInBounds i true) a' w' := fun a' w' hC' h' => wpAnyC_plan hs hQ rest _ a' w' hB' hC' h'
    cases ho : ops[i]? with
    | none => simp only [wpPlan, ho] at h
    | some o =>
      simp only [wpPlan, ho] at h
      cases b with
      | true =>
        simp only [if_true] at hb h
        have hr : Region.ready md ops listed = [i] := by simpa using hb
        refine ⟨fun h0 => (by rw [hr] at h0; cases h0), fun j hj => ?_⟩
        rw [hr, List.mem_singleton] at hj
        subst hj
        unfold wpOp
        simp only [ho]
        by_cases hw : Region.wanted o (yielded ops a.tmps) = true
        · rw [if_pos hw] at h ⊢
          exact .inl (Oper.wp_mono (fun a' w' h' => ⟨h'.1, ih a' w' h'.1 h'.2⟩) h)
        · rw [if_neg hw] at h ⊢
          exact ⟨hC, ih _ w hC h⟩
      | false =>
        simp only [Bool.false_eq_true, if_false] at hb h
        rw [Bool.and_eq_true] at hb
        obtain ⟨hr, hf⟩ := hb
        have hr' : i ∈ Region.ready md ops listed := by simpa using hr
        by_cases hw : Region.wanted o (yielded ops a.tmps) = true
        · rw [if_pos hw] at h
          obtain ⟨v, hv, h⟩ := h
          exact wpAnyC_first ho (Region.noSelect_spec hs) (fun c a w => hQ c a w _ _) rest.length listed a w (Region.free_spec ho hf) hr' hC (.inl ⟨hw, hv⟩) (ih _ w hC h)
        · rw [if_neg hw] at h
          exact wpAnyC_first ho (Region.noSelect_spec hs) (fun c a w => hQ c a w _ _) rest.length listed a w (Region.free_spec ho hf) hr' hC (.inr ⟨by simpa using hw, rfl⟩) (ih _ w hC h)

/-- One walk of the plan serves every order. -/
theorem wp_region_plan {id : Nat} {a : Act} {w : World} {l : List Oper} (C : World → Prop) (plan : List (Nat × Bool)) (hm : P.follows .mixedOrders = true)
    (hB : (Region.noSelect l.toArray && planB .any l.toArray plan (Array.replicate l.length false) && plan.length == l.length) = true)
    (hQ : ∀ c a w d v, Q (.panic c) (a.put d v) w → Q (.panic c) a w) (hC : C w.drew) (h : wpPlan P l.toArray C Q plan a w.drew) : (Code.region id l.toArray true).wp P Q a w := by
  simp only [Bool.and_eq_true, beq_iff_eq] at hB
  obtain ⟨⟨h1, h2⟩, h3⟩ := hB
  refine wp_region_any hm (wpAny_of_anyC (C := C) _ _ _ _ ?_)
  have := wpAnyC_plan (md := .any) h1 hQ plan _ a w.drew h2 hC h
  rw [h3] at this
  simpa using this

/-- A step that only computes or reads. -/
theorem plan_val {i : Nat} {o : Oper} {rest : List (Nat × Bool)} {a : Act} {w : World} {v : Value} (hi : ops.toList[i]? = some o) (hw : Region.wanted o (yielded ops a.tmps) = true)
    (hv : ∀ w', C w' → (execOp a.eval o).run P w' = .ok (.value v) w') (h : wpPlan P ops C Q rest (a.put o.dst v) w) : wpPlan P ops C Q ((i, false) :: rest) a w := by
  replace hi : ops[i]? = some o := by rw [← Array.getElem?_toList]; exact hi
  simp only [wpPlan, hi]
  rw [if_pos hw, if_neg Bool.false_ne_true]
  refine ⟨v, fun w' hC => ?_, h⟩
  unfold Oper.quietAt
  rw [hv w' hC]
  exact ⟨rfl, rfl⟩

/-- A call that leaves the world as it is. -/
theorem plan_same {i : Nat} {o : Oper} {rest : List (Nat × Bool)} {a : Act} {w : World} {v : Value} (f : FuncId) (args : Array Value) (hi : ops.toList[i]? = some o) (hw : Region.wanted o (yielded ops a.tmps) = true)
    (hr : ∀ w', (execOp a.eval o).run P w' = .ok (.enter f args) w') (hc : ∀ w', Calls P f args w' fun e w'' => e = .returned v ∧ w' = w'') (h : wpPlan P ops C Q rest (a.put o.dst v) w) :
    wpPlan P ops C Q ((i, false) :: rest) a w := by
  replace hi : ops[i]? = some o := by rw [← Array.getElem?_toList]; exact hi
  simp only [wpPlan, hi]
  rw [if_pos hw, if_neg Bool.false_ne_true]
  refine ⟨v, fun w' _ => ?_, h⟩
  unfold Oper.quietAt
  rw [hr w']
  exact ⟨rfl, (hc w').mono fun e w'' ⟨he, hw⟩ => ⟨he, hw.symm⟩⟩

/-- An operation that isn't wanted. -/
theorem plan_skip {i : Nat} {b : Bool} {o : Oper} {rest : List (Nat × Bool)} {a : Act} {w : World} (hi : ops.toList[i]? = some o) (hw : Region.wanted o (yielded ops a.tmps) = false)
    (h : wpPlan P ops C Q rest (a.put o.dst undef) w) : wpPlan P ops C Q ((i, b) :: rest) a w := by
  replace hi : ops[i]? = some o := by rw [← Array.getElem?_toList]; exact hi
  simp only [wpPlan, hi]
  rw [if_neg (by rw [hw]; exact Bool.false_ne_true)]
  exact h

/-- A call where nothing else can come. -/
theorem plan_call {i : Nat} {o : Oper} {rest : List (Nat × Bool)} {a : Act} {w : World} (f : FuncId) (args : Array Value) (hi : ops.toList[i]? = some o) (hw : Region.wanted o (yielded ops a.tmps) = true)
    (hr : ∀ w', (execOp a.eval o).run P w' = .ok (.enter f args) w') (hc : Calls P f args w fun e w'' => ∃ v, e = .returned v ∧ C w'' ∧ wpPlan P ops C Q rest (a.put o.dst v) w'') : wpPlan P ops C Q ((i, true) :: rest) a w := by
  replace hi : ops[i]? = some o := by rw [← Array.getElem?_toList]; exact hi
  simp only [wpPlan, hi]
  rw [if_pos hw, if_pos trivial]
  unfold Oper.wp
  rw [hr w]
  refine hc.mono fun e w'' ⟨v, he, hR⟩ => ?_
  subst he
  exact hR

/-- Any other operation where nothing else can come, in the world that there is. -/
theorem plan_act {i : Nat} {o : Oper} {rest : List (Nat × Bool)} {a : Act} {w : World} {v : Value} (hi : ops.toList[i]? = some o) (hw : Region.wanted o (yielded ops a.tmps) = true)
    (w'' : World) (hr : (execOp a.eval o).run P w = .ok (.value v) w'') (hC : C w'') (h : wpPlan P ops C Q rest (a.put o.dst v) w'') : wpPlan P ops C Q ((i, true) :: rest) a w := by
  replace hi : ops[i]? = some o := by rw [← Array.getElem?_toList]; exact hi
  simp only [wpPlan, hi]
  rw [if_pos hw, if_pos trivial]
  unfold Oper.wp
  rw [hr]
  exact ⟨hC, h⟩

end
end Go.Proofs.YtgikglnfjkbnhaaGreat
