/-
  pos.Wrong, walked (printed by mkwrong.py).
-/
import Derived.Test.YtgikglnfjkbnhaaGreatKr
import Derived.Test.YtgikglnfjkbnhaaGreatKe
import Derived.Test.YtgikglnfjkbnhaaGreatKf
import Derived.Test.YtgikglnfjkbnhaaGreatKg
import Derived.Test.YtgikglnfjkbnhaaGreatKx
namespace Go.Proofs.YtgikglnfjkbnhaaGreat
open Go.RowKit
set_option maxHeartbeats 400000
set_option maxRecDepth 20000

theorem plan_load {P : Program} {ops : Array Oper} {Q : Exit → Act → World → Prop} {C : World → Prop} {i : Nat} {o : Oper} {rest : List (Nat × Bool)} {a : Act} {w : World} (hi : ops.toList[i]? = some o) (hw : Region.wanted o (yielded ops a.tmps) = true)
    (ty : TypeId) (x : Operand) (ho : o.op = .load ty x) (g off : Nat) (hx : a.eval x = .pointer (some ⟨g, off, none⟩)) (cs : Array Value) (d : TypeDesc)
    (hc : ∀ w', C w' → ∀ j v, cs[j]? = some v → w'.cell? ⟨g, off + j, none⟩ = some v)
    (hu : P.underlying ty = some d) (hd : (match d with | .struct _ | .array _ _ => true | _ => false) = true) (hz : (P.info? ty).map (·.size) = some cs.size)
    (h : wpPlan P ops C Q rest (a.put o.dst (.agg cs)) w) : wpPlan P ops C Q ((i, false) :: rest) a w := by
  refine plan_val hi hw (fun w' hC => ?_) h
  unfold execOp
  simp only [ho, hx, Instr.loadAt, Instr.sureAddr, Sem.run_bind, Sem.run_pure, Result.andThen_ok, run_loadVar_part w' g off ty cs d (hc w' hC) hu hd hz]

theorem plan_cell {P : Program} {ops : Array Oper} {Q : Exit → Act → World → Prop} {C : World → Prop} {i : Nat} {o : Oper} {rest : List (Nat × Bool)} {a : Act} {w : World} (hi : ops.toList[i]? = some o) (hw : Region.wanted o (yielded ops a.tmps) = true)
    (ty : TypeId) (x : Operand) (ho : o.op = .load ty x) (g off : Nat) (hx : a.eval x = .pointer (some ⟨g, off, none⟩)) (v : Value) (d : TypeDesc)
    (hc : ∀ w', C w' → w'.cell? ⟨g, off, none⟩ = some v)
    (hu : P.underlying ty = some d) (hd : (match d with | .struct _ | .array _ _ => true | _ => false) = false)
    (h : wpPlan P ops C Q rest (a.put o.dst v) w) : wpPlan P ops C Q ((i, false) :: rest) a w := by
  refine plan_val hi hw (fun w' hC => ?_) h
  have hagg : (isAgg ty).run P w' = .ok false w' := by
    unfold isAgg
    rw [Sem.run_bind, run_underlying hu w']
    cases d <;> simp_all
  have hl := hc w' hC
  unfold execOp
  simp [ho, hx, Instr.loadAt, Instr.sureAddr, loadVar, Sem.run_bind, hagg, hl]

theorem wrong_bad (p : KM.Po) (w : World) (hp : p.wf) (h0 : KM.wrongB p.b ≠ 0) :
    Calls Tryz.prog 18 #[.agg (KM.pval p)] w fun e w' => e = .returned (.int .i64 (KM.wrong p)) ∧ Below w.heap.size w w' := by
  have hP := PBox.new w p
  have HB := Lib.hid ((Below.refl w.heap.size w).alloc (Nat.le_refl _) (Obj.cells (KM.pval p) 26))
  have HV := Lib.hid (show KM.wrong p = KM.wrongB p.b by
    unfold KM.wrong
    rw [if_pos h0])
  have b0 : (KM.wrongB p.b != 0) = true := by simp [h0]
  have HP := Lib.hid hp
  go_enter Tryz.func18, Tryz.ntmps18
  go_wp2_with (first
    | (refine wpList_load_part rfl 24 (.tmp 7) rfl _ 0 rfl _ _ hP.board Tryz.underlying24 rfl (hi24 p.b) ?_)
    | (refine wpList_load_part rfl 24 (.tmp 6) rfl _ 0 rfl _ _ hP.board Tryz.underlying24 rfl (hi24 p.b) ?_)
    | (refine wpList_load_part rfl 26 (.tmp 1) rfl _ 0 rfl _ _ hP.part Tryz.underlying26 rfl (hi26 p) ?_)
    | (go_at_call 25; refine (boardWrong_any _ _ hp.b).mono ?_; rintro e w2 ⟨rfl, hbl⟩; replace hP := hP.below hbl hP.lt; replace HB := Lib.hid (HB.out.step hbl); clear hbl)
    | (go_at_call 26; refine (posPassed_any _ _ hp).mono ?_; rintro e w2 ⟨rfl, hbl⟩; replace hP := hP.below hbl hP.lt; replace HB := Lib.hid (HB.out.step hbl); have c64 := hP.turn; have c65 := hP.castle; have c66 := hP.ep; clear hbl)
    | (go_at_call 30; refine (posCastles_any _ _ hp).mono ?_; rintro e w2 ⟨rfl, hbl⟩; replace hP := hP.below hbl hP.lt; replace HB := Lib.hid (HB.out.step hbl); have c66 := hP.ep; clear hbl)
    | (go_at_call 27; refine (manOther_any _ _).mono ?_; rintro e w2 ⟨rfl, rfl⟩))
  go_ret
  exact ⟨by rw [HV.out]; first | rfl | (simp; done), HB.out⟩

theorem wrong_five0 (p : KM.Po) (w : World) (hp : p.wf) (h0 : KM.wrongB p.b = 0) (h1 : KM.other p.turn < 0) :
    Calls Tryz.prog 18 #[.agg (KM.pval p)] w fun e w' => e = .returned (.int .i64 (KM.wrong p)) ∧ Below w.heap.size w w' := by
  have hP := PBox.new w p
  have HB := Lib.hid ((Below.refl w.heap.size w).alloc (Nat.le_refl _) (Obj.cells (KM.pval p) 26))
  have HV := Lib.hid (show KM.wrong p = 5 by
    unfold KM.wrong
    rw [if_neg (by rw [h0]; simp), if_pos (by omega)])
  have b0 : (KM.wrongB p.b != 0) = false := by simp [h0]
  have b1 : decide (KM.other p.turn < 0) = true := by simp; omega
  have HP := Lib.hid hp
  go_enter Tryz.func18, Tryz.ntmps18
  go_wp2_with (first
    | (refine wpList_load_part rfl 24 (.tmp 7) rfl _ 0 rfl _ _ hP.board Tryz.underlying24 rfl (hi24 p.b) ?_)
    | (refine wpList_load_part rfl 24 (.tmp 6) rfl _ 0 rfl _ _ hP.board Tryz.underlying24 rfl (hi24 p.b) ?_)
    | (refine wpList_load_part rfl 26 (.tmp 1) rfl _ 0 rfl _ _ hP.part Tryz.underlying26 rfl (hi26 p) ?_)
    | (go_at_call 25; refine (boardWrong_any _ _ hp.b).mono ?_; rintro e w2 ⟨rfl, hbl⟩; replace hP := hP.below hbl hP.lt; replace HB := Lib.hid (HB.out.step hbl); clear hbl)
    | (go_at_call 26; refine (posPassed_any _ _ hp).mono ?_; rintro e w2 ⟨rfl, hbl⟩; replace hP := hP.below hbl hP.lt; replace HB := Lib.hid (HB.out.step hbl); have c64 := hP.turn; have c65 := hP.castle; have c66 := hP.ep; clear hbl)
    | (go_at_call 30; refine (posCastles_any _ _ hp).mono ?_; rintro e w2 ⟨rfl, hbl⟩; replace hP := hP.below hbl hP.lt; replace HB := Lib.hid (HB.out.step hbl); have c66 := hP.ep; clear hbl)
    | (go_at_call 27; refine (manOther_any _ _).mono ?_; rintro e w2 ⟨rfl, rfl⟩))
  go_ret
  exact ⟨by rw [HV.out]; first | rfl | (simp; done), HB.out⟩

theorem wrong_five1 (p : KM.Po) (w : World) (hp : p.wf) (h0 : KM.wrongB p.b = 0) (h1 : 0 ≤ KM.other p.turn) (h2 : p.castle < 0) :
    Calls Tryz.prog 18 #[.agg (KM.pval p)] w fun e w' => e = .returned (.int .i64 (KM.wrong p)) ∧ Below w.heap.size w w' := by
  have hP := PBox.new w p
  have HB := Lib.hid ((Below.refl w.heap.size w).alloc (Nat.le_refl _) (Obj.cells (KM.pval p) 26))
  have HV := Lib.hid (show KM.wrong p = 5 by
    unfold KM.wrong
    rw [if_neg (by rw [h0]; simp), if_pos (by omega)])
  have b0 : (KM.wrongB p.b != 0) = false := by simp [h0]
  have b1 : decide (KM.other p.turn < 0) = false := by simp; omega
  have b2 : decide (p.castle < 0) = true := by simp; omega
  have HP := Lib.hid hp
  go_enter Tryz.func18, Tryz.ntmps18
  go_wp2_with (first
    | (refine wpList_load_part rfl 24 (.tmp 7) rfl _ 0 rfl _ _ hP.board Tryz.underlying24 rfl (hi24 p.b) ?_)
    | (refine wpList_load_part rfl 24 (.tmp 6) rfl _ 0 rfl _ _ hP.board Tryz.underlying24 rfl (hi24 p.b) ?_)
    | (refine wpList_load_part rfl 26 (.tmp 1) rfl _ 0 rfl _ _ hP.part Tryz.underlying26 rfl (hi26 p) ?_)
    | (go_at_call 25; refine (boardWrong_any _ _ hp.b).mono ?_; rintro e w2 ⟨rfl, hbl⟩; replace hP := hP.below hbl hP.lt; replace HB := Lib.hid (HB.out.step hbl); clear hbl)
    | (go_at_call 26; refine (posPassed_any _ _ hp).mono ?_; rintro e w2 ⟨rfl, hbl⟩; replace hP := hP.below hbl hP.lt; replace HB := Lib.hid (HB.out.step hbl); have c64 := hP.turn; have c65 := hP.castle; have c66 := hP.ep; clear hbl)
    | (go_at_call 30; refine (posCastles_any _ _ hp).mono ?_; rintro e w2 ⟨rfl, hbl⟩; replace hP := hP.below hbl hP.lt; replace HB := Lib.hid (HB.out.step hbl); have c66 := hP.ep; clear hbl)
    | (go_at_call 27; refine (manOther_any _ _).mono ?_; rintro e w2 ⟨rfl, rfl⟩))
  go_ret
  exact ⟨by rw [HV.out]; first | rfl | (simp; done), HB.out⟩

theorem wrong_five2 (p : KM.Po) (w : World) (hp : p.wf) (h0 : KM.wrongB p.b = 0) (h1 : 0 ≤ KM.other p.turn) (h2 : 0 ≤ p.castle) (h3 : 15 < p.castle) :
    Calls Tryz.prog 18 #[.agg (KM.pval p)] w fun e w' => e = .returned (.int .i64 (KM.wrong p)) ∧ Below w.heap.size w w' := by
  have hP := PBox.new w p
  have HB := Lib.hid ((Below.refl w.heap.size w).alloc (Nat.le_refl _) (Obj.cells (KM.pval p) 26))
  have HV := Lib.hid (show KM.wrong p = 5 by
    unfold KM.wrong
    rw [if_neg (by rw [h0]; simp), if_pos (by omega)])
  have b0 : (KM.wrongB p.b != 0) = false := by simp [h0]
  have b1 : decide (KM.other p.turn < 0) = false := by simp; omega
  have b2 : decide (p.castle < 0) = false := by simp; omega
  have b3 : decide (15 < p.castle) = true := by simp; omega
  have HP := Lib.hid hp
  go_enter Tryz.func18, Tryz.ntmps18
  go_wp2_with (first
    | (refine wpList_load_part rfl 24 (.tmp 7) rfl _ 0 rfl _ _ hP.board Tryz.underlying24 rfl (hi24 p.b) ?_)
    | (refine wpList_load_part rfl 24 (.tmp 6) rfl _ 0 rfl _ _ hP.board Tryz.underlying24 rfl (hi24 p.b) ?_)
    | (refine wpList_load_part rfl 26 (.tmp 1) rfl _ 0 rfl _ _ hP.part Tryz.underlying26 rfl (hi26 p) ?_)
    | (go_at_call 25; refine (boardWrong_any _ _ hp.b).mono ?_; rintro e w2 ⟨rfl, hbl⟩; replace hP := hP.below hbl hP.lt; replace HB := Lib.hid (HB.out.step hbl); clear hbl)
    | (go_at_call 26; refine (posPassed_any _ _ hp).mono ?_; rintro e w2 ⟨rfl, hbl⟩; replace hP := hP.below hbl hP.lt; replace HB := Lib.hid (HB.out.step hbl); have c64 := hP.turn; have c65 := hP.castle; have c66 := hP.ep; clear hbl)
    | (go_at_call 30; refine (posCastles_any _ _ hp).mono ?_; rintro e w2 ⟨rfl, hbl⟩; replace hP := hP.below hbl hP.lt; replace HB := Lib.hid (HB.out.step hbl); have c66 := hP.ep; clear hbl)
    | (go_at_call 27; refine (manOther_any _ _).mono ?_; rintro e w2 ⟨rfl, rfl⟩))
  go_ret
  exact ⟨by rw [HV.out]; first | rfl | (simp; done), HB.out⟩

theorem wrong_five3 (p : KM.Po) (w : World) (hp : p.wf) (h0 : KM.wrongB p.b = 0) (h1 : 0 ≤ KM.other p.turn) (h2 : 0 ≤ p.castle) (h3 : p.castle ≤ 15) (h4 : p.ep < -1) :
    Calls Tryz.prog 18 #[.agg (KM.pval p)] w fun e w' => e = .returned (.int .i64 (KM.wrong p)) ∧ Below w.heap.size w w' := by
  have hP := PBox.new w p
  have HB := Lib.hid ((Below.refl w.heap.size w).alloc (Nat.le_refl _) (Obj.cells (KM.pval p) 26))
  have HV := Lib.hid (show KM.wrong p = 5 by
    unfold KM.wrong
    rw [if_neg (by rw [h0]; simp), if_pos (by omega)])
  have b0 : (KM.wrongB p.b != 0) = false := by simp [h0]
  have b1 : decide (KM.other p.turn < 0) = false := by simp; omega
  have b2 : decide (p.castle < 0) = false := by simp; omega
  have b3 : decide (15 < p.castle) = false := by simp; omega
  have b4 : decide (p.ep < -1) = true := by simp; omega
  have HP := Lib.hid hp
  go_enter Tryz.func18, Tryz.ntmps18
  go_wp2_with (first
    | (refine wpList_load_part rfl 24 (.tmp 7) rfl _ 0 rfl _ _ hP.board Tryz.underlying24 rfl (hi24 p.b) ?_)
    | (refine wpList_load_part rfl 24 (.tmp 6) rfl _ 0 rfl _ _ hP.board Tryz.underlying24 rfl (hi24 p.b) ?_)
    | (refine wpList_load_part rfl 26 (.tmp 1) rfl _ 0 rfl _ _ hP.part Tryz.underlying26 rfl (hi26 p) ?_)
    | (go_at_call 25; refine (boardWrong_any _ _ hp.b).mono ?_; rintro e w2 ⟨rfl, hbl⟩; replace hP := hP.below hbl hP.lt; replace HB := Lib.hid (HB.out.step hbl); clear hbl)
    | (go_at_call 26; refine (posPassed_any _ _ hp).mono ?_; rintro e w2 ⟨rfl, hbl⟩; replace hP := hP.below hbl hP.lt; replace HB := Lib.hid (HB.out.step hbl); have c64 := hP.turn; have c65 := hP.castle; have c66 := hP.ep; clear hbl)
    | (go_at_call 30; refine (posCastles_any _ _ hp).mono ?_; rintro e w2 ⟨rfl, hbl⟩; replace hP := hP.below hbl hP.lt; replace HB := Lib.hid (HB.out.step hbl); have c66 := hP.ep; clear hbl)
    | (go_at_call 27; refine (manOther_any _ _).mono ?_; rintro e w2 ⟨rfl, rfl⟩))
  go_ret
  exact ⟨by rw [HV.out]; first | rfl | (simp; done), HB.out⟩

theorem wrong_five4 (p : KM.Po) (w : World) (hp : p.wf) (h0 : KM.wrongB p.b = 0) (h1 : 0 ≤ KM.other p.turn) (h2 : 0 ≤ p.castle) (h3 : p.castle ≤ 15) (h4 : -1 ≤ p.ep) (h5 : 64 ≤ p.ep) :
    Calls Tryz.prog 18 #[.agg (KM.pval p)] w fun e w' => e = .returned (.int .i64 (KM.wrong p)) ∧ Below w.heap.size w w' := by
  have hP := PBox.new w p
  have HB := Lib.hid ((Below.refl w.heap.size w).alloc (Nat.le_refl _) (Obj.cells (KM.pval p) 26))
  have HV := Lib.hid (show KM.wrong p = 5 by
    unfold KM.wrong
    rw [if_neg (by rw [h0]; simp), if_pos (by omega)])
  have b0 : (KM.wrongB p.b != 0) = false := by simp [h0]
  have b1 : decide (KM.other p.turn < 0) = false := by simp; omega
  have b2 : decide (p.castle < 0) = false := by simp; omega
  have b3 : decide (15 < p.castle) = false := by simp; omega
  have b4 : decide (p.ep < -1) = false := by simp; omega
  have b5 : decide (64 ≤ p.ep) = true := by simp; omega
  have HP := Lib.hid hp
  go_enter Tryz.func18, Tryz.ntmps18
  go_wp2_with (first
    | (refine wpList_load_part rfl 24 (.tmp 7) rfl _ 0 rfl _ _ hP.board Tryz.underlying24 rfl (hi24 p.b) ?_)
    | (refine wpList_load_part rfl 24 (.tmp 6) rfl _ 0 rfl _ _ hP.board Tryz.underlying24 rfl (hi24 p.b) ?_)
    | (refine wpList_load_part rfl 26 (.tmp 1) rfl _ 0 rfl _ _ hP.part Tryz.underlying26 rfl (hi26 p) ?_)
    | (go_at_call 25; refine (boardWrong_any _ _ hp.b).mono ?_; rintro e w2 ⟨rfl, hbl⟩; replace hP := hP.below hbl hP.lt; replace HB := Lib.hid (HB.out.step hbl); clear hbl)
    | (go_at_call 26; refine (posPassed_any _ _ hp).mono ?_; rintro e w2 ⟨rfl, hbl⟩; replace hP := hP.below hbl hP.lt; replace HB := Lib.hid (HB.out.step hbl); have c64 := hP.turn; have c65 := hP.castle; have c66 := hP.ep; clear hbl)
    | (go_at_call 30; refine (posCastles_any _ _ hp).mono ?_; rintro e w2 ⟨rfl, hbl⟩; replace hP := hP.below hbl hP.lt; replace HB := Lib.hid (HB.out.step hbl); have c66 := hP.ep; clear hbl)
    | (go_at_call 27; refine (manOther_any _ _).mono ?_; rintro e w2 ⟨rfl, rfl⟩))
  go_ret
  exact ⟨by rw [HV.out]; first | rfl | (simp; done), HB.out⟩

theorem wrong_touch (p : KM.Po) (w : World) (hp : p.wf) (h0 : KM.wrongB p.b = 0) (h1 : 0 ≤ KM.other p.turn) (h2 : 0 ≤ p.castle) (h3 : p.castle ≤ 15) (h4 : -1 ≤ p.ep) (h5 : p.ep < 64) (ht : KM.touch p.b = true) :
    Calls Tryz.prog 18 #[.agg (KM.pval p)] w fun e w' => e = .returned (.int .i64 (KM.wrong p)) ∧ Below w.heap.size w w' := by
  have hP := PBox.new w p
  have HB := Lib.hid ((Below.refl w.heap.size w).alloc (Nat.le_refl _) (Obj.cells (KM.pval p) 26))
  have HV := Lib.hid (show KM.wrong p = 9 by
    unfold KM.wrong
    rw [if_neg (by rw [h0]; simp), if_neg (by omega), if_pos (.inl ht)])
  have b0 : (KM.wrongB p.b != 0) = false := by simp [h0]
  have b1 : decide (KM.other p.turn < 0) = false := by simp; omega
  have b2 : decide (p.castle < 0) = false := by simp; omega
  have b3 : decide (15 < p.castle) = false := by simp; omega
  have b4 : decide (p.ep < -1) = false := by simp; omega
  have b5 : decide (64 ≤ p.ep) = false := by simp; omega
  have HP := Lib.hid hp
  go_enter Tryz.func18, Tryz.ntmps18
  go_wp2_with (first
    | (refine wpList_load_part rfl 24 (.tmp 7) rfl _ 0 rfl _ _ hP.board Tryz.underlying24 rfl (hi24 p.b) ?_)
    | (refine wpList_load_part rfl 24 (.tmp 6) rfl _ 0 rfl _ _ hP.board Tryz.underlying24 rfl (hi24 p.b) ?_)
    | (refine wpList_load_part rfl 26 (.tmp 1) rfl _ 0 rfl _ _ hP.part Tryz.underlying26 rfl (hi26 p) ?_)
    | (go_at_call 25; refine (boardWrong_any _ _ hp.b).mono ?_; rintro e w2 ⟨rfl, hbl⟩; replace hP := hP.below hbl hP.lt; replace HB := Lib.hid (HB.out.step hbl); clear hbl)
    | (go_at_call 26; refine (posPassed_any _ _ hp).mono ?_; rintro e w2 ⟨rfl, hbl⟩; replace hP := hP.below hbl hP.lt; replace HB := Lib.hid (HB.out.step hbl); have c64 := hP.turn; have c65 := hP.castle; have c66 := hP.ep; clear hbl)
    | (go_at_call 30; refine (posCastles_any _ _ hp).mono ?_; rintro e w2 ⟨rfl, hbl⟩; replace hP := hP.below hbl hP.lt; replace HB := Lib.hid (HB.out.step hbl); have c66 := hP.ep; clear hbl)
    | (go_at_call 27; refine (manOther_any _ _).mono ?_; rintro e w2 ⟨rfl, rfl⟩))
  have hlt := hP.lt
  refine wp_region_idx (w.heap.size + 1) (by kernel_rfl) (by kernel_rfl) ?_
  repeat (first | go_big_quiet_skip | (go_big_quiet_want; first
    | (refine quiet_load_part 26 (.tmp 1) rfl _ 0 rfl (by omega) _ _ hP.part Tryz.underlying26 rfl (hi26 p) ?_; simp only [Act.put, List.setIfInBounds_toArray, List.set_cons_zero, List.set_cons_succ]; go_big_quiet_on)
    | (go_big_quiet_op; first | go_big_quiet_on | go_big_quiet_call ((go_at_call 28; have hx := posTouch_any p; rw [ht] at hx; exact Idx.calls (by omega) (hx _ hp)))))) 
  refine wpQuiet_nil ?_
  intro w4 hwq
  have hbq := Idx.get hwq
  clear hwq
  replace HB := Lib.hid (HB.out.trans (hbq.mono (Nat.le_add_right _ 1)))
  clear hbq
  go_wp2_with fail
  go_ret
  exact ⟨by rw [HV.out]; first | rfl | (simp; done), HB.out⟩

theorem wrong_check (p : KM.Po) (w : World) (hp : p.wf) (h0 : KM.wrongB p.b = 0) (h1 : 0 ≤ KM.other p.turn) (h2 : 0 ≤ p.castle) (h3 : p.castle ≤ 15) (h4 : -1 ≤ p.ep) (h5 : p.ep < 64) (ht : KM.touch p.b = false) (hk : KM.check p.b (KM.other p.turn) = true) :
    Calls Tryz.prog 18 #[.agg (KM.pval p)] w fun e w' => e = .returned (.int .i64 (KM.wrong p)) ∧ Below w.heap.size w w' := by
  have hP := PBox.new w p
  have HB := Lib.hid ((Below.refl w.heap.size w).alloc (Nat.le_refl _) (Obj.cells (KM.pval p) 26))
  have HV := Lib.hid (show KM.wrong p = 9 by
    unfold KM.wrong
    rw [if_neg (by rw [h0]; simp), if_neg (by omega), if_pos (.inr hk)])
  have b0 : (KM.wrongB p.b != 0) = false := by simp [h0]
  have b1 : decide (KM.other p.turn < 0) = false := by simp; omega
  have b2 : decide (p.castle < 0) = false := by simp; omega
  have b3 : decide (15 < p.castle) = false := by simp; omega
  have b4 : decide (p.ep < -1) = false := by simp; omega
  have b5 : decide (64 ≤ p.ep) = false := by simp; omega
  have HP := Lib.hid hp
  go_enter Tryz.func18, Tryz.ntmps18
  go_wp2_with (first
    | (refine wpList_load_part rfl 24 (.tmp 7) rfl _ 0 rfl _ _ hP.board Tryz.underlying24 rfl (hi24 p.b) ?_)
    | (refine wpList_load_part rfl 24 (.tmp 6) rfl _ 0 rfl _ _ hP.board Tryz.underlying24 rfl (hi24 p.b) ?_)
    | (refine wpList_load_part rfl 26 (.tmp 1) rfl _ 0 rfl _ _ hP.part Tryz.underlying26 rfl (hi26 p) ?_)
    | (go_at_call 25; refine (boardWrong_any _ _ hp.b).mono ?_; rintro e w2 ⟨rfl, hbl⟩; replace hP := hP.below hbl hP.lt; replace HB := Lib.hid (HB.out.step hbl); clear hbl)
    | (go_at_call 26; refine (posPassed_any _ _ hp).mono ?_; rintro e w2 ⟨rfl, hbl⟩; replace hP := hP.below hbl hP.lt; replace HB := Lib.hid (HB.out.step hbl); have c64 := hP.turn; have c65 := hP.castle; have c66 := hP.ep; clear hbl)
    | (go_at_call 30; refine (posCastles_any _ _ hp).mono ?_; rintro e w2 ⟨rfl, hbl⟩; replace hP := hP.below hbl hP.lt; replace HB := Lib.hid (HB.out.step hbl); have c66 := hP.ep; clear hbl)
    | (go_at_call 27; refine (manOther_any _ _).mono ?_; rintro e w2 ⟨rfl, rfl⟩))
  have hlt := hP.lt
  refine wp_region_plan (fun w' => Below (w.heap.size + 1) w2 w') [(0, false), (1, true), (2, false), (4, false), (5, false), (6, false), (7, false), (3, true), (8, false), (9, true), (10, false), (11, false)] (by kernel_rfl) (by kernel_rfl) (fun c a w d v h => by cases d <;> exact h) ((Below.refl _ _).drew) ?_
  refine plan_load rfl ?c0 26 (.tmp 1) rfl w.heap.size 0 rfl (KM.pval p) _ ?d0 Tryz.underlying26 rfl (hi26 p) ?_
  case c0 => rfl
  case d0 => exact fun w' hC => (hP.below hC (by omega)).part
  simp only [Act.put, List.setIfInBounds_toArray, List.set_cons_zero, List.set_cons_succ]
  refine plan_call 28 #[.agg (KM.pval p)] rfl ?b1 ?b2 ?b3
  case b1 => rfl
  case b2 => intro w'; kernel_rfl
  refine (posTouch_any p _ hp).mono ?_
  rw [ht]
  rintro e w3 ⟨rfl, hb3⟩
  refine ⟨_, rfl, (Below.refl _ _).drew.trans (hb3.mono (by simp; omega)), ?_⟩
  simp only [Act.put, List.setIfInBounds_toArray, List.set_cons_zero, List.set_cons_succ]
  refine plan_val (v := .bool false) rfl ?c2 (fun w' _ => ?d2) ?_
  case c2 => rfl
  case d2 => kernel_rfl
  simp only [Act.put, List.setIfInBounds_toArray, List.set_cons_zero, List.set_cons_succ]
  refine plan_val (v := .pointer (some ⟨w.heap.size, 0, none⟩)) rfl ?c4 (fun w' _ => ?d4) ?_
  case c4 => rfl
  case d4 => kernel_rfl
  simp only [Act.put, List.setIfInBounds_toArray, List.set_cons_zero, List.set_cons_succ]
  refine plan_load rfl ?c5 24 (.tmp 47) rfl w.heap.size 0 rfl (KM.bval p.b) _ ?d5 Tryz.underlying24 rfl (hi24 p.b) ?_
  case c5 => rfl
  case d5 => exact fun w' hC => (hP.below hC (by omega)).board
  simp only [Act.put, List.setIfInBounds_toArray, List.set_cons_zero, List.set_cons_succ]
  refine plan_val (v := .pointer (some ⟨w.heap.size, 64, none⟩)) rfl ?c6 (fun w' _ => ?d6) ?_
  case c6 => rfl
  case d6 => kernel_rfl
  simp only [Act.put, List.setIfInBounds_toArray, List.set_cons_zero, List.set_cons_succ]
  refine plan_cell rfl ?c7 3 (.tmp 49) rfl w.heap.size 64 rfl (.int .i64 p.turn) _ ?d7 Tryz.underlying3 rfl ?_
  case c7 => rfl
  case d7 => exact fun w' hC => (hP.below hC (by omega)).turn
  simp only [Act.put, List.setIfInBounds_toArray, List.set_cons_zero, List.set_cons_succ]
  refine plan_call 15 #[] rfl ?c3 (fun w' => ?d3) ?_
  case c3 => rfl
  case d3 => kernel_rfl
  refine (attackNew_any _).mono ?_
  rintro e w4 ⟨rfl, hb4⟩
  have hb34 := ((Below.refl (w.heap.size + 1) w2).drew.trans (hb3.mono (by simp; omega)))
  have hsz3 := hb34.size
  have hb44 := hb34.trans (hb4.mono (by omega))
  refine ⟨_, rfl, hb44, ?_⟩
  simp only [Act.put, List.setIfInBounds_toArray, List.set_cons_zero, List.set_cons_succ]
  refine plan_same 27 #[.int .i64 p.turn] rfl ?c8 (fun w' => ?d8) (fun w' => manOther_any _ w') ?_
  case c8 => rfl
  case d8 => kernel_rfl
  simp only [Act.put, List.setIfInBounds_toArray, List.set_cons_zero, List.set_cons_succ]
  refine plan_call 29 #[.pointer (some ⟨w3.heap.size, 0, none⟩), .agg (KM.bval p.b), .int .i64 (KM.other p.turn)] rfl ?c9 (fun w' => ?d9) ?_
  case c9 => rfl
  case d9 => kernel_rfl
  refine (check_any _ _ _ _ hp.b).mono ?_
  rw [hk]
  rintro e w5 ⟨rfl, hb5⟩
  have hsz4 := hb44.size
  have hb55 := hb44.trans (hb5.mono (by omega))
  refine ⟨_, rfl, hb55, ?_⟩
  simp only [Act.put, List.setIfInBounds_toArray, List.set_cons_zero, List.set_cons_succ]
  refine plan_val (v := .bool true) rfl ?c10 (fun w' _ => ?d10) ?_
  case c10 => rfl
  case d10 => kernel_rfl
  simp only [Act.put, List.setIfInBounds_toArray, List.set_cons_zero, List.set_cons_succ]
  refine plan_val (v := .bool true) rfl ?c11 (fun w' _ => ?d11) ?_
  case c11 => rfl
  case d11 => kernel_rfl
  simp only [Act.put, List.setIfInBounds_toArray, List.set_cons_zero, List.set_cons_succ]
  simp only [wpPlan]
  replace hP := hP.below hb55 (by omega)
  replace HB := Lib.hid (HB.out.trans (hb55.mono (by omega)))
  have c66 := hP.ep
  clear hb55 hb5 hb44 hb4 hb34 hb3
  go_wp2_with fail
  go_ret
  exact ⟨by rw [HV.out]; first | rfl | (simp; done), HB.out⟩

theorem wrong_castles (p : KM.Po) (w : World) (hp : p.wf) (h0 : KM.wrongB p.b = 0) (h1 : 0 ≤ KM.other p.turn) (h2 : 0 ≤ p.castle) (h3 : p.castle ≤ 15) (h4 : -1 ≤ p.ep) (h5 : p.ep < 64) (ht : KM.touch p.b = false) (hk : KM.check p.b (KM.other p.turn) = false) (hc : KM.castlesB p = false) :
    Calls Tryz.prog 18 #[.agg (KM.pval p)] w fun e w' => e = .returned (.int .i64 (KM.wrong p)) ∧ Below w.heap.size w w' := by
  have hP := PBox.new w p
  have HB := Lib.hid ((Below.refl w.heap.size w).alloc (Nat.le_refl _) (Obj.cells (KM.pval p) 26))
  have HV := Lib.hid (show KM.wrong p = 10 by
    unfold KM.wrong
    rw [if_neg (by rw [h0]; simp), if_neg (by omega), if_neg (by rw [ht, hk]; simp), if_pos hc])
  have b0 : (KM.wrongB p.b != 0) = false := by simp [h0]
  have b1 : decide (KM.other p.turn < 0) = false := by simp; omega
  have b2 : decide (p.castle < 0) = false := by simp; omega
  have b3 : decide (15 < p.castle) = false := by simp; omega
  have b4 : decide (p.ep < -1) = false := by simp; omega
  have b5 : decide (64 ≤ p.ep) = false := by simp; omega
  have HP := Lib.hid hp
  go_enter Tryz.func18, Tryz.ntmps18
  go_wp2_with (first
    | (refine wpList_load_part rfl 24 (.tmp 7) rfl _ 0 rfl _ _ hP.board Tryz.underlying24 rfl (hi24 p.b) ?_)
    | (refine wpList_load_part rfl 24 (.tmp 6) rfl _ 0 rfl _ _ hP.board Tryz.underlying24 rfl (hi24 p.b) ?_)
    | (refine wpList_load_part rfl 26 (.tmp 1) rfl _ 0 rfl _ _ hP.part Tryz.underlying26 rfl (hi26 p) ?_)
    | (go_at_call 25; refine (boardWrong_any _ _ hp.b).mono ?_; rintro e w2 ⟨rfl, hbl⟩; replace hP := hP.below hbl hP.lt; replace HB := Lib.hid (HB.out.step hbl); clear hbl)
    | (go_at_call 26; refine (posPassed_any _ _ hp).mono ?_; rintro e w2 ⟨rfl, hbl⟩; replace hP := hP.below hbl hP.lt; replace HB := Lib.hid (HB.out.step hbl); have c64 := hP.turn; have c65 := hP.castle; have c66 := hP.ep; clear hbl)
    | (go_at_call 30; refine (posCastles_any _ _ hp).mono ?_; rw [hc]; rintro e w2 ⟨rfl, hbl⟩; replace hP := hP.below hbl hP.lt; replace HB := Lib.hid (HB.out.step hbl); have c66 := hP.ep; clear hbl)
    | (go_at_call 27; refine (manOther_any _ _).mono ?_; rintro e w2 ⟨rfl, rfl⟩))
  have hlt := hP.lt
  refine wp_region_plan (fun w' => Below (w.heap.size + 1) w2 w') [(0, false), (1, true), (2, false), (4, false), (5, false), (6, false), (7, false), (3, true), (8, false), (9, true), (10, false), (11, false)] (by kernel_rfl) (by kernel_rfl) (fun c a w d v h => by cases d <;> exact h) ((Below.refl _ _).drew) ?_
  refine plan_load rfl ?c0 26 (.tmp 1) rfl w.heap.size 0 rfl (KM.pval p) _ ?d0 Tryz.underlying26 rfl (hi26 p) ?_
  case c0 => rfl
  case d0 => exact fun w' hC => (hP.below hC (by omega)).part
  simp only [Act.put, List.setIfInBounds_toArray, List.set_cons_zero, List.set_cons_succ]
  refine plan_call 28 #[.agg (KM.pval p)] rfl ?b1 ?b2 ?b3
  case b1 => rfl
  case b2 => intro w'; kernel_rfl
  refine (posTouch_any p _ hp).mono ?_
  rw [ht]
  rintro e w3 ⟨rfl, hb3⟩
  refine ⟨_, rfl, (Below.refl _ _).drew.trans (hb3.mono (by simp; omega)), ?_⟩
  simp only [Act.put, List.setIfInBounds_toArray, List.set_cons_zero, List.set_cons_succ]
  refine plan_val (v := .bool false) rfl ?c2 (fun w' _ => ?d2) ?_
  case c2 => rfl
  case d2 => kernel_rfl
  simp only [Act.put, List.setIfInBounds_toArray, List.set_cons_zero, List.set_cons_succ]
  refine plan_val (v := .pointer (some ⟨w.heap.size, 0, none⟩)) rfl ?c4 (fun w' _ => ?d4) ?_
  case c4 => rfl
  case d4 => kernel_rfl
  simp only [Act.put, List.setIfInBounds_toArray, List.set_cons_zero, List.set_cons_succ]
  refine plan_load rfl ?c5 24 (.tmp 47) rfl w.heap.size 0 rfl (KM.bval p.b) _ ?d5 Tryz.underlying24 rfl (hi24 p.b) ?_
  case c5 => rfl
  case d5 => exact fun w' hC => (hP.below hC (by omega)).board
  simp only [Act.put, List.setIfInBounds_toArray, List.set_cons_zero, List.set_cons_succ]
  refine plan_val (v := .pointer (some ⟨w.heap.size, 64, none⟩)) rfl ?c6 (fun w' _ => ?d6) ?_
  case c6 => rfl
  case d6 => kernel_rfl
  simp only [Act.put, List.setIfInBounds_toArray, List.set_cons_zero, List.set_cons_succ]
  refine plan_cell rfl ?c7 3 (.tmp 49) rfl w.heap.size 64 rfl (.int .i64 p.turn) _ ?d7 Tryz.underlying3 rfl ?_
  case c7 => rfl
  case d7 => exact fun w' hC => (hP.below hC (by omega)).turn
  simp only [Act.put, List.setIfInBounds_toArray, List.set_cons_zero, List.set_cons_succ]
  refine plan_call 15 #[] rfl ?c3 (fun w' => ?d3) ?_
  case c3 => rfl
  case d3 => kernel_rfl
  refine (attackNew_any _).mono ?_
  rintro e w4 ⟨rfl, hb4⟩
  have hb34 := ((Below.refl (w.heap.size + 1) w2).drew.trans (hb3.mono (by simp; omega)))
  have hsz3 := hb34.size
  have hb44 := hb34.trans (hb4.mono (by omega))
  refine ⟨_, rfl, hb44, ?_⟩
  simp only [Act.put, List.setIfInBounds_toArray, List.set_cons_zero, List.set_cons_succ]
  refine plan_same 27 #[.int .i64 p.turn] rfl ?c8 (fun w' => ?d8) (fun w' => manOther_any _ w') ?_
  case c8 => rfl
  case d8 => kernel_rfl
  simp only [Act.put, List.setIfInBounds_toArray, List.set_cons_zero, List.set_cons_succ]
  refine plan_call 29 #[.pointer (some ⟨w3.heap.size, 0, none⟩), .agg (KM.bval p.b), .int .i64 (KM.other p.turn)] rfl ?c9 (fun w' => ?d9) ?_
  case c9 => rfl
  case d9 => kernel_rfl
  refine (check_any _ _ _ _ hp.b).mono ?_
  rw [hk]
  rintro e w5 ⟨rfl, hb5⟩
  have hsz4 := hb44.size
  have hb55 := hb44.trans (hb5.mono (by omega))
  refine ⟨_, rfl, hb55, ?_⟩
  simp only [Act.put, List.setIfInBounds_toArray, List.set_cons_zero, List.set_cons_succ]
  refine plan_val (v := .bool false) rfl ?c10 (fun w' _ => ?d10) ?_
  case c10 => rfl
  case d10 => kernel_rfl
  simp only [Act.put, List.setIfInBounds_toArray, List.set_cons_zero, List.set_cons_succ]
  refine plan_val (v := .bool false) rfl ?c11 (fun w' _ => ?d11) ?_
  case c11 => rfl
  case d11 => kernel_rfl
  simp only [Act.put, List.setIfInBounds_toArray, List.set_cons_zero, List.set_cons_succ]
  simp only [wpPlan]
  replace hP := hP.below hb55 (by omega)
  replace HB := Lib.hid (HB.out.trans (hb55.mono (by omega)))
  have c66 := hP.ep
  clear hb55 hb5 hb44 hb4 hb34 hb3
  go_wp2_with (first
    | (refine wpList_load_part rfl 24 (.tmp 7) rfl _ 0 rfl _ _ hP.board Tryz.underlying24 rfl (hi24 p.b) ?_)
    | (refine wpList_load_part rfl 24 (.tmp 6) rfl _ 0 rfl _ _ hP.board Tryz.underlying24 rfl (hi24 p.b) ?_)
    | (refine wpList_load_part rfl 26 (.tmp 1) rfl _ 0 rfl _ _ hP.part Tryz.underlying26 rfl (hi26 p) ?_)
    | (go_at_call 25; refine (boardWrong_any _ _ hp.b).mono ?_; rintro e w2 ⟨rfl, hbl⟩; replace hP := hP.below hbl hP.lt; replace HB := Lib.hid (HB.out.step hbl); clear hbl)
    | (go_at_call 26; refine (posPassed_any _ _ hp).mono ?_; rintro e w2 ⟨rfl, hbl⟩; replace hP := hP.below hbl hP.lt; replace HB := Lib.hid (HB.out.step hbl); have c64 := hP.turn; have c65 := hP.castle; have c66 := hP.ep; clear hbl)
    | (go_at_call 30; refine (posCastles_any _ _ hp).mono ?_; rw [hc]; rintro e w2 ⟨rfl, hbl⟩; replace hP := hP.below hbl hP.lt; replace HB := Lib.hid (HB.out.step hbl); have c66 := hP.ep; clear hbl)
    | (go_at_call 27; refine (manOther_any _ _).mono ?_; rintro e w2 ⟨rfl, rfl⟩))
  go_ret
  exact ⟨by rw [HV.out]; first | rfl | (simp; done), HB.out⟩

theorem wrong_pass (p : KM.Po) (w : World) (hp : p.wf) (h0 : KM.wrongB p.b = 0) (h1 : 0 ≤ KM.other p.turn) (h2 : 0 ≤ p.castle) (h3 : p.castle ≤ 15) (h4 : -1 ≤ p.ep) (h5 : p.ep < 64) (ht : KM.touch p.b = false) (hk : KM.check p.b (KM.other p.turn) = false) (hc : KM.castlesB p = true) (h6 : 0 ≤ p.ep) (hq : KM.passB p = false) :
    Calls Tryz.prog 18 #[.agg (KM.pval p)] w fun e w' => e = .returned (.int .i64 (KM.wrong p)) ∧ Below w.heap.size w w' := by
  have hP := PBox.new w p
  have HB := Lib.hid ((Below.refl w.heap.size w).alloc (Nat.le_refl _) (Obj.cells (KM.pval p) 26))
  have HV := Lib.hid (show KM.wrong p = 11 by
    unfold KM.wrong
    rw [if_neg (by rw [h0]; simp), if_neg (by omega), if_neg (by rw [ht, hk]; simp), if_neg (by rw [hc]; simp), if_pos ⟨h6, hq⟩])
  have b0 : (KM.wrongB p.b != 0) = false := by simp [h0]
  have b1 : decide (KM.other p.turn < 0) = false := by simp; omega
  have b2 : decide (p.castle < 0) = false := by simp; omega
  have b3 : decide (15 < p.castle) = false := by simp; omega
  have b4 : decide (p.ep < -1) = false := by simp; omega
  have b5 : decide (64 ≤ p.ep) = false := by simp; omega
  have b6 : decide (0 ≤ p.ep) = true := by simp; omega
  have HP := Lib.hid hp
  go_enter Tryz.func18, Tryz.ntmps18
  go_wp2_with (first
    | (refine wpList_load_part rfl 24 (.tmp 7) rfl _ 0 rfl _ _ hP.board Tryz.underlying24 rfl (hi24 p.b) ?_)
    | (refine wpList_load_part rfl 24 (.tmp 6) rfl _ 0 rfl _ _ hP.board Tryz.underlying24 rfl (hi24 p.b) ?_)
    | (refine wpList_load_part rfl 26 (.tmp 1) rfl _ 0 rfl _ _ hP.part Tryz.underlying26 rfl (hi26 p) ?_)
    | (go_at_call 25; refine (boardWrong_any _ _ hp.b).mono ?_; rintro e w2 ⟨rfl, hbl⟩; replace hP := hP.below hbl hP.lt; replace HB := Lib.hid (HB.out.step hbl); clear hbl)
    | (go_at_call 26; refine (posPassed_any _ _ hp).mono ?_; rw [hq]; rintro e w2 ⟨rfl, hbl⟩; replace hP := hP.below hbl hP.lt; replace HB := Lib.hid (HB.out.step hbl); have c64 := hP.turn; have c65 := hP.castle; have c66 := hP.ep; clear hbl)
    | (go_at_call 30; refine (posCastles_any _ _ hp).mono ?_; rw [hc]; rintro e w2 ⟨rfl, hbl⟩; replace hP := hP.below hbl hP.lt; replace HB := Lib.hid (HB.out.step hbl); have c66 := hP.ep; clear hbl)
    | (go_at_call 27; refine (manOther_any _ _).mono ?_; rintro e w2 ⟨rfl, rfl⟩))
  have hlt := hP.lt
  refine wp_region_plan (fun w' => Below (w.heap.size + 1) w2 w') [(0, false), (1, true), (2, false), (4, false), (5, false), (6, false), (7, false), (3, true), (8, false), (9, true), (10, false), (11, false)] (by kernel_rfl) (by kernel_rfl) (fun c a w d v h => by cases d <;> exact h) ((Below.refl _ _).drew) ?_
  refine plan_load rfl ?c0 26 (.tmp 1) rfl w.heap.size 0 rfl (KM.pval p) _ ?d0 Tryz.underlying26 rfl (hi26 p) ?_
  case c0 => rfl
  case d0 => exact fun w' hC => (hP.below hC (by omega)).part
  simp only [Act.put, List.setIfInBounds_toArray, List.set_cons_zero, List.set_cons_succ]
  refine plan_call 28 #[.agg (KM.pval p)] rfl ?b1 ?b2 ?b3
  case b1 => rfl
  case b2 => intro w'; kernel_rfl
  refine (posTouch_any p _ hp).mono ?_
  rw [ht]
  rintro e w3 ⟨rfl, hb3⟩
  refine ⟨_, rfl, (Below.refl _ _).drew.trans (hb3.mono (by simp; omega)), ?_⟩
  simp only [Act.put, List.setIfInBounds_toArray, List.set_cons_zero, List.set_cons_succ]
  refine plan_val (v := .bool false) rfl ?c2 (fun w' _ => ?d2) ?_
  case c2 => rfl
  case d2 => kernel_rfl
  simp only [Act.put, List.setIfInBounds_toArray, List.set_cons_zero, List.set_cons_succ]
  refine plan_val (v := .pointer (some ⟨w.heap.size, 0, none⟩)) rfl ?c4 (fun w' _ => ?d4) ?_
  case c4 => rfl
  case d4 => kernel_rfl
  simp only [Act.put, List.setIfInBounds_toArray, List.set_cons_zero, List.set_cons_succ]
  refine plan_load rfl ?c5 24 (.tmp 47) rfl w.heap.size 0 rfl (KM.bval p.b) _ ?d5 Tryz.underlying24 rfl (hi24 p.b) ?_
  case c5 => rfl
  case d5 => exact fun w' hC => (hP.below hC (by omega)).board
  simp only [Act.put, List.setIfInBounds_toArray, List.set_cons_zero, List.set_cons_succ]
  refine plan_val (v := .pointer (some ⟨w.heap.size, 64, none⟩)) rfl ?c6 (fun w' _ => ?d6) ?_
  case c6 => rfl
  case d6 => kernel_rfl
  simp only [Act.put, List.setIfInBounds_toArray, List.set_cons_zero, List.set_cons_succ]
  refine plan_cell rfl ?c7 3 (.tmp 49) rfl w.heap.size 64 rfl (.int .i64 p.turn) _ ?d7 Tryz.underlying3 rfl ?_
  case c7 => rfl
  case d7 => exact fun w' hC => (hP.below hC (by omega)).turn
  simp only [Act.put, List.setIfInBounds_toArray, List.set_cons_zero, List.set_cons_succ]
  refine plan_call 15 #[] rfl ?c3 (fun w' => ?d3) ?_
  case c3 => rfl
  case d3 => kernel_rfl
  refine (attackNew_any _).mono ?_
  rintro e w4 ⟨rfl, hb4⟩
  have hb34 := ((Below.refl (w.heap.size + 1) w2).drew.trans (hb3.mono (by simp; omega)))
  have hsz3 := hb34.size
  have hb44 := hb34.trans (hb4.mono (by omega))
  refine ⟨_, rfl, hb44, ?_⟩
  simp only [Act.put, List.setIfInBounds_toArray, List.set_cons_zero, List.set_cons_succ]
  refine plan_same 27 #[.int .i64 p.turn] rfl ?c8 (fun w' => ?d8) (fun w' => manOther_any _ w') ?_
  case c8 => rfl
  case d8 => kernel_rfl
  simp only [Act.put, List.setIfInBounds_toArray, List.set_cons_zero, List.set_cons_succ]
  refine plan_call 29 #[.pointer (some ⟨w3.heap.size, 0, none⟩), .agg (KM.bval p.b), .int .i64 (KM.other p.turn)] rfl ?c9 (fun w' => ?d9) ?_
  case c9 => rfl
  case d9 => kernel_rfl
  refine (check_any _ _ _ _ hp.b).mono ?_
  rw [hk]
  rintro e w5 ⟨rfl, hb5⟩
  have hsz4 := hb44.size
  have hb55 := hb44.trans (hb5.mono (by omega))
  refine ⟨_, rfl, hb55, ?_⟩
  simp only [Act.put, List.setIfInBounds_toArray, List.set_cons_zero, List.set_cons_succ]
  refine plan_val (v := .bool false) rfl ?c10 (fun w' _ => ?d10) ?_
  case c10 => rfl
  case d10 => kernel_rfl
  simp only [Act.put, List.setIfInBounds_toArray, List.set_cons_zero, List.set_cons_succ]
  refine plan_val (v := .bool false) rfl ?c11 (fun w' _ => ?d11) ?_
  case c11 => rfl
  case d11 => kernel_rfl
  simp only [Act.put, List.setIfInBounds_toArray, List.set_cons_zero, List.set_cons_succ]
  simp only [wpPlan]
  replace hP := hP.below hb55 (by omega)
  replace HB := Lib.hid (HB.out.trans (hb55.mono (by omega)))
  have c66 := hP.ep
  clear hb55 hb5 hb44 hb4 hb34 hb3
  go_wp2_with (first
    | (refine wpList_load_part rfl 24 (.tmp 7) rfl _ 0 rfl _ _ hP.board Tryz.underlying24 rfl (hi24 p.b) ?_)
    | (refine wpList_load_part rfl 24 (.tmp 6) rfl _ 0 rfl _ _ hP.board Tryz.underlying24 rfl (hi24 p.b) ?_)
    | (refine wpList_load_part rfl 26 (.tmp 1) rfl _ 0 rfl _ _ hP.part Tryz.underlying26 rfl (hi26 p) ?_)
    | (go_at_call 25; refine (boardWrong_any _ _ hp.b).mono ?_; rintro e w2 ⟨rfl, hbl⟩; replace hP := hP.below hbl hP.lt; replace HB := Lib.hid (HB.out.step hbl); clear hbl)
    | (go_at_call 26; refine (posPassed_any _ _ hp).mono ?_; rw [hq]; rintro e w2 ⟨rfl, hbl⟩; replace hP := hP.below hbl hP.lt; replace HB := Lib.hid (HB.out.step hbl); have c64 := hP.turn; have c65 := hP.castle; have c66 := hP.ep; clear hbl)
    | (go_at_call 30; refine (posCastles_any _ _ hp).mono ?_; rw [hc]; rintro e w2 ⟨rfl, hbl⟩; replace hP := hP.below hbl hP.lt; replace HB := Lib.hid (HB.out.step hbl); have c66 := hP.ep; clear hbl)
    | (go_at_call 27; refine (manOther_any _ _).mono ?_; rintro e w2 ⟨rfl, rfl⟩))
  go_ret
  exact ⟨by rw [HV.out]; first | rfl | (simp; done), HB.out⟩

theorem wrong_ok1 (p : KM.Po) (w : World) (hp : p.wf) (h0 : KM.wrongB p.b = 0) (h1 : 0 ≤ KM.other p.turn) (h2 : 0 ≤ p.castle) (h3 : p.castle ≤ 15) (h4 : -1 ≤ p.ep) (h5 : p.ep < 64) (ht : KM.touch p.b = false) (hk : KM.check p.b (KM.other p.turn) = false) (hc : KM.castlesB p = true) (h6 : 0 ≤ p.ep) (hq : KM.passB p = true) :
    Calls Tryz.prog 18 #[.agg (KM.pval p)] w fun e w' => e = .returned (.int .i64 (KM.wrong p)) ∧ Below w.heap.size w w' := by
  have hP := PBox.new w p
  have HB := Lib.hid ((Below.refl w.heap.size w).alloc (Nat.le_refl _) (Obj.cells (KM.pval p) 26))
  have HV := Lib.hid (show KM.wrong p = 0 by
    unfold KM.wrong
    rw [if_neg (by rw [h0]; simp), if_neg (by omega), if_neg (by rw [ht, hk]; simp), if_neg (by rw [hc]; simp), if_neg (by rw [hq]; simp)])
  have b0 : (KM.wrongB p.b != 0) = false := by simp [h0]
  have b1 : decide (KM.other p.turn < 0) = false := by simp; omega
  have b2 : decide (p.castle < 0) = false := by simp; omega
  have b3 : decide (15 < p.castle) = false := by simp; omega
  have b4 : decide (p.ep < -1) = false := by simp; omega
  have b5 : decide (64 ≤ p.ep) = false := by simp; omega
  have b6 : decide (0 ≤ p.ep) = true := by simp; omega
  have HP := Lib.hid hp
  go_enter Tryz.func18, Tryz.ntmps18
  go_wp2_with (first
    | (refine wpList_load_part rfl 24 (.tmp 7) rfl _ 0 rfl _ _ hP.board Tryz.underlying24 rfl (hi24 p.b) ?_)
    | (refine wpList_load_part rfl 24 (.tmp 6) rfl _ 0 rfl _ _ hP.board Tryz.underlying24 rfl (hi24 p.b) ?_)
    | (refine wpList_load_part rfl 26 (.tmp 1) rfl _ 0 rfl _ _ hP.part Tryz.underlying26 rfl (hi26 p) ?_)
    | (go_at_call 25; refine (boardWrong_any _ _ hp.b).mono ?_; rintro e w2 ⟨rfl, hbl⟩; replace hP := hP.below hbl hP.lt; replace HB := Lib.hid (HB.out.step hbl); clear hbl)
    | (go_at_call 26; refine (posPassed_any _ _ hp).mono ?_; rw [hq]; rintro e w2 ⟨rfl, hbl⟩; replace hP := hP.below hbl hP.lt; replace HB := Lib.hid (HB.out.step hbl); have c64 := hP.turn; have c65 := hP.castle; have c66 := hP.ep; clear hbl)
    | (go_at_call 30; refine (posCastles_any _ _ hp).mono ?_; rw [hc]; rintro e w2 ⟨rfl, hbl⟩; replace hP := hP.below hbl hP.lt; replace HB := Lib.hid (HB.out.step hbl); have c66 := hP.ep; clear hbl)
    | (go_at_call 27; refine (manOther_any _ _).mono ?_; rintro e w2 ⟨rfl, rfl⟩))
  have hlt := hP.lt
  refine wp_region_plan (fun w' => Below (w.heap.size + 1) w2 w') [(0, false), (1, true), (2, false), (4, false), (5, false), (6, false), (7, false), (3, true), (8, false), (9, true), (10, false), (11, false)] (by kernel_rfl) (by kernel_rfl) (fun c a w d v h => by cases d <;> exact h) ((Below.refl _ _).drew) ?_
  refine plan_load rfl ?c0 26 (.tmp 1) rfl w.heap.size 0 rfl (KM.pval p) _ ?d0 Tryz.underlying26 rfl (hi26 p) ?_
  case c0 => rfl
  case d0 => exact fun w' hC => (hP.below hC (by omega)).part
  simp only [Act.put, List.setIfInBounds_toArray, List.set_cons_zero, List.set_cons_succ]
  refine plan_call 28 #[.agg (KM.pval p)] rfl ?b1 ?b2 ?b3
  case b1 => rfl
  case b2 => intro w'; kernel_rfl
  refine (posTouch_any p _ hp).mono ?_
  rw [ht]
  rintro e w3 ⟨rfl, hb3⟩
  refine ⟨_, rfl, (Below.refl _ _).drew.trans (hb3.mono (by simp; omega)), ?_⟩
  simp only [Act.put, List.setIfInBounds_toArray, List.set_cons_zero, List.set_cons_succ]
  refine plan_val (v := .bool false) rfl ?c2 (fun w' _ => ?d2) ?_
  case c2 => rfl
  case d2 => kernel_rfl
  simp only [Act.put, List.setIfInBounds_toArray, List.set_cons_zero, List.set_cons_succ]
  refine plan_val (v := .pointer (some ⟨w.heap.size, 0, none⟩)) rfl ?c4 (fun w' _ => ?d4) ?_
  case c4 => rfl
  case d4 => kernel_rfl
  simp only [Act.put, List.setIfInBounds_toArray, List.set_cons_zero, List.set_cons_succ]
  refine plan_load rfl ?c5 24 (.tmp 47) rfl w.heap.size 0 rfl (KM.bval p.b) _ ?d5 Tryz.underlying24 rfl (hi24 p.b) ?_
  case c5 => rfl
  case d5 => exact fun w' hC => (hP.below hC (by omega)).board
  simp only [Act.put, List.setIfInBounds_toArray, List.set_cons_zero, List.set_cons_succ]
  refine plan_val (v := .pointer (some ⟨w.heap.size, 64, none⟩)) rfl ?c6 (fun w' _ => ?d6) ?_
  case c6 => rfl
  case d6 => kernel_rfl
  simp only [Act.put, List.setIfInBounds_toArray, List.set_cons_zero, List.set_cons_succ]
  refine plan_cell rfl ?c7 3 (.tmp 49) rfl w.heap.size 64 rfl (.int .i64 p.turn) _ ?d7 Tryz.underlying3 rfl ?_
  case c7 => rfl
  case d7 => exact fun w' hC => (hP.below hC (by omega)).turn
  simp only [Act.put, List.setIfInBounds_toArray, List.set_cons_zero, List.set_cons_succ]
  refine plan_call 15 #[] rfl ?c3 (fun w' => ?d3) ?_
  case c3 => rfl
  case d3 => kernel_rfl
  refine (attackNew_any _).mono ?_
  rintro e w4 ⟨rfl, hb4⟩
  have hb34 := ((Below.refl (w.heap.size + 1) w2).drew.trans (hb3.mono (by simp; omega)))
  have hsz3 := hb34.size
  have hb44 := hb34.trans (hb4.mono (by omega))
  refine ⟨_, rfl, hb44, ?_⟩
  simp only [Act.put, List.setIfInBounds_toArray, List.set_cons_zero, List.set_cons_succ]
  refine plan_same 27 #[.int .i64 p.turn] rfl ?c8 (fun w' => ?d8) (fun w' => manOther_any _ w') ?_
  case c8 => rfl
  case d8 => kernel_rfl
  simp only [Act.put, List.setIfInBounds_toArray, List.set_cons_zero, List.set_cons_succ]
  refine plan_call 29 #[.pointer (some ⟨w3.heap.size, 0, none⟩), .agg (KM.bval p.b), .int .i64 (KM.other p.turn)] rfl ?c9 (fun w' => ?d9) ?_
  case c9 => rfl
  case d9 => kernel_rfl
  refine (check_any _ _ _ _ hp.b).mono ?_
  rw [hk]
  rintro e w5 ⟨rfl, hb5⟩
  have hsz4 := hb44.size
  have hb55 := hb44.trans (hb5.mono (by omega))
  refine ⟨_, rfl, hb55, ?_⟩
  simp only [Act.put, List.setIfInBounds_toArray, List.set_cons_zero, List.set_cons_succ]
  refine plan_val (v := .bool false) rfl ?c10 (fun w' _ => ?d10) ?_
  case c10 => rfl
  case d10 => kernel_rfl
  simp only [Act.put, List.setIfInBounds_toArray, List.set_cons_zero, List.set_cons_succ]
  refine plan_val (v := .bool false) rfl ?c11 (fun w' _ => ?d11) ?_
  case c11 => rfl
  case d11 => kernel_rfl
  simp only [Act.put, List.setIfInBounds_toArray, List.set_cons_zero, List.set_cons_succ]
  simp only [wpPlan]
  replace hP := hP.below hb55 (by omega)
  replace HB := Lib.hid (HB.out.trans (hb55.mono (by omega)))
  have c66 := hP.ep
  clear hb55 hb5 hb44 hb4 hb34 hb3
  go_wp2_with (first
    | (refine wpList_load_part rfl 24 (.tmp 7) rfl _ 0 rfl _ _ hP.board Tryz.underlying24 rfl (hi24 p.b) ?_)
    | (refine wpList_load_part rfl 24 (.tmp 6) rfl _ 0 rfl _ _ hP.board Tryz.underlying24 rfl (hi24 p.b) ?_)
    | (refine wpList_load_part rfl 26 (.tmp 1) rfl _ 0 rfl _ _ hP.part Tryz.underlying26 rfl (hi26 p) ?_)
    | (go_at_call 25; refine (boardWrong_any _ _ hp.b).mono ?_; rintro e w2 ⟨rfl, hbl⟩; replace hP := hP.below hbl hP.lt; replace HB := Lib.hid (HB.out.step hbl); clear hbl)
    | (go_at_call 26; refine (posPassed_any _ _ hp).mono ?_; rw [hq]; rintro e w2 ⟨rfl, hbl⟩; replace hP := hP.below hbl hP.lt; replace HB := Lib.hid (HB.out.step hbl); have c64 := hP.turn; have c65 := hP.castle; have c66 := hP.ep; clear hbl)
    | (go_at_call 30; refine (posCastles_any _ _ hp).mono ?_; rw [hc]; rintro e w2 ⟨rfl, hbl⟩; replace hP := hP.below hbl hP.lt; replace HB := Lib.hid (HB.out.step hbl); have c66 := hP.ep; clear hbl)
    | (go_at_call 27; refine (manOther_any _ _).mono ?_; rintro e w2 ⟨rfl, rfl⟩))
  go_ret
  exact ⟨by rw [HV.out]; first | rfl | (simp; done), HB.out⟩

theorem wrong_ok2 (p : KM.Po) (w : World) (hp : p.wf) (h0 : KM.wrongB p.b = 0) (h1 : 0 ≤ KM.other p.turn) (h2 : 0 ≤ p.castle) (h3 : p.castle ≤ 15) (h4 : -1 ≤ p.ep) (h5 : p.ep < 64) (ht : KM.touch p.b = false) (hk : KM.check p.b (KM.other p.turn) = false) (hc : KM.castlesB p = true) (h6 : p.ep < 0) :
    Calls Tryz.prog 18 #[.agg (KM.pval p)] w fun e w' => e = .returned (.int .i64 (KM.wrong p)) ∧ Below w.heap.size w w' := by
  have hP := PBox.new w p
  have HB := Lib.hid ((Below.refl w.heap.size w).alloc (Nat.le_refl _) (Obj.cells (KM.pval p) 26))
  have HV := Lib.hid (show KM.wrong p = 0 by
    unfold KM.wrong
    rw [if_neg (by rw [h0]; simp), if_neg (by omega), if_neg (by rw [ht, hk]; simp), if_neg (by rw [hc]; simp), if_neg (by omega)])
  have b0 : (KM.wrongB p.b != 0) = false := by simp [h0]
  have b1 : decide (KM.other p.turn < 0) = false := by simp; omega
  have b2 : decide (p.castle < 0) = false := by simp; omega
  have b3 : decide (15 < p.castle) = false := by simp; omega
  have b4 : decide (p.ep < -1) = false := by simp; omega
  have b5 : decide (64 ≤ p.ep) = false := by simp; omega
  have b6 : decide (0 ≤ p.ep) = false := by simp; omega
  have HP := Lib.hid hp
  go_enter Tryz.func18, Tryz.ntmps18
  go_wp2_with (first
    | (refine wpList_load_part rfl 24 (.tmp 7) rfl _ 0 rfl _ _ hP.board Tryz.underlying24 rfl (hi24 p.b) ?_)
    | (refine wpList_load_part rfl 24 (.tmp 6) rfl _ 0 rfl _ _ hP.board Tryz.underlying24 rfl (hi24 p.b) ?_)
    | (refine wpList_load_part rfl 26 (.tmp 1) rfl _ 0 rfl _ _ hP.part Tryz.underlying26 rfl (hi26 p) ?_)
    | (go_at_call 25; refine (boardWrong_any _ _ hp.b).mono ?_; rintro e w2 ⟨rfl, hbl⟩; replace hP := hP.below hbl hP.lt; replace HB := Lib.hid (HB.out.step hbl); clear hbl)
    | (go_at_call 26; refine (posPassed_any _ _ hp).mono ?_; rintro e w2 ⟨rfl, hbl⟩; replace hP := hP.below hbl hP.lt; replace HB := Lib.hid (HB.out.step hbl); have c64 := hP.turn; have c65 := hP.castle; have c66 := hP.ep; clear hbl)
    | (go_at_call 30; refine (posCastles_any _ _ hp).mono ?_; rw [hc]; rintro e w2 ⟨rfl, hbl⟩; replace hP := hP.below hbl hP.lt; replace HB := Lib.hid (HB.out.step hbl); have c66 := hP.ep; clear hbl)
    | (go_at_call 27; refine (manOther_any _ _).mono ?_; rintro e w2 ⟨rfl, rfl⟩))
  have hlt := hP.lt
  refine wp_region_plan (fun w' => Below (w.heap.size + 1) w2 w') [(0, false), (1, true), (2, false), (4, false), (5, false), (6, false), (7, false), (3, true), (8, false), (9, true), (10, false), (11, false)] (by kernel_rfl) (by kernel_rfl) (fun c a w d v h => by cases d <;> exact h) ((Below.refl _ _).drew) ?_
  refine plan_load rfl ?c0 26 (.tmp 1) rfl w.heap.size 0 rfl (KM.pval p) _ ?d0 Tryz.underlying26 rfl (hi26 p) ?_
  case c0 => rfl
  case d0 => exact fun w' hC => (hP.below hC (by omega)).part
  simp only [Act.put, List.setIfInBounds_toArray, List.set_cons_zero, List.set_cons_succ]
  refine plan_call 28 #[.agg (KM.pval p)] rfl ?b1 ?b2 ?b3
  case b1 => rfl
  case b2 => intro w'; kernel_rfl
  refine (posTouch_any p _ hp).mono ?_
  rw [ht]
  rintro e w3 ⟨rfl, hb3⟩
  refine ⟨_, rfl, (Below.refl _ _).drew.trans (hb3.mono (by simp; omega)), ?_⟩
  simp only [Act.put, List.setIfInBounds_toArray, List.set_cons_zero, List.set_cons_succ]
  refine plan_val (v := .bool false) rfl ?c2 (fun w' _ => ?d2) ?_
  case c2 => rfl
  case d2 => kernel_rfl
  simp only [Act.put, List.setIfInBounds_toArray, List.set_cons_zero, List.set_cons_succ]
  refine plan_val (v := .pointer (some ⟨w.heap.size, 0, none⟩)) rfl ?c4 (fun w' _ => ?d4) ?_
  case c4 => rfl
  case d4 => kernel_rfl
  simp only [Act.put, List.setIfInBounds_toArray, List.set_cons_zero, List.set_cons_succ]
  refine plan_load rfl ?c5 24 (.tmp 47) rfl w.heap.size 0 rfl (KM.bval p.b) _ ?d5 Tryz.underlying24 rfl (hi24 p.b) ?_
  case c5 => rfl
  case d5 => exact fun w' hC => (hP.below hC (by omega)).board
  simp only [Act.put, List.setIfInBounds_toArray, List.set_cons_zero, List.set_cons_succ]
  refine plan_val (v := .pointer (some ⟨w.heap.size, 64, none⟩)) rfl ?c6 (fun w' _ => ?d6) ?_
  case c6 => rfl
  case d6 => kernel_rfl
  simp only [Act.put, List.setIfInBounds_toArray, List.set_cons_zero, List.set_cons_succ]
  refine plan_cell rfl ?c7 3 (.tmp 49) rfl w.heap.size 64 rfl (.int .i64 p.turn) _ ?d7 Tryz.underlying3 rfl ?_
  case c7 => rfl
  case d7 => exact fun w' hC => (hP.below hC (by omega)).turn
  simp only [Act.put, List.setIfInBounds_toArray, List.set_cons_zero, List.set_cons_succ]
  refine plan_call 15 #[] rfl ?c3 (fun w' => ?d3) ?_
  case c3 => rfl
  case d3 => kernel_rfl
  refine (attackNew_any _).mono ?_
  rintro e w4 ⟨rfl, hb4⟩
  have hb34 := ((Below.refl (w.heap.size + 1) w2).drew.trans (hb3.mono (by simp; omega)))
  have hsz3 := hb34.size
  have hb44 := hb34.trans (hb4.mono (by omega))
  refine ⟨_, rfl, hb44, ?_⟩
  simp only [Act.put, List.setIfInBounds_toArray, List.set_cons_zero, List.set_cons_succ]
  refine plan_same 27 #[.int .i64 p.turn] rfl ?c8 (fun w' => ?d8) (fun w' => manOther_any _ w') ?_
  case c8 => rfl
  case d8 => kernel_rfl
  simp only [Act.put, List.setIfInBounds_toArray, List.set_cons_zero, List.set_cons_succ]
  refine plan_call 29 #[.pointer (some ⟨w3.heap.size, 0, none⟩), .agg (KM.bval p.b), .int .i64 (KM.other p.turn)] rfl ?c9 (fun w' => ?d9) ?_
  case c9 => rfl
  case d9 => kernel_rfl
  refine (check_any _ _ _ _ hp.b).mono ?_
  rw [hk]
  rintro e w5 ⟨rfl, hb5⟩
  have hsz4 := hb44.size
  have hb55 := hb44.trans (hb5.mono (by omega))
  refine ⟨_, rfl, hb55, ?_⟩
  simp only [Act.put, List.setIfInBounds_toArray, List.set_cons_zero, List.set_cons_succ]
  refine plan_val (v := .bool false) rfl ?c10 (fun w' _ => ?d10) ?_
  case c10 => rfl
  case d10 => kernel_rfl
  simp only [Act.put, List.setIfInBounds_toArray, List.set_cons_zero, List.set_cons_succ]
  refine plan_val (v := .bool false) rfl ?c11 (fun w' _ => ?d11) ?_
  case c11 => rfl
  case d11 => kernel_rfl
  simp only [Act.put, List.setIfInBounds_toArray, List.set_cons_zero, List.set_cons_succ]
  simp only [wpPlan]
  replace hP := hP.below hb55 (by omega)
  replace HB := Lib.hid (HB.out.trans (hb55.mono (by omega)))
  have c66 := hP.ep
  clear hb55 hb5 hb44 hb4 hb34 hb3
  go_wp2_with (first
    | (refine wpList_load_part rfl 24 (.tmp 7) rfl _ 0 rfl _ _ hP.board Tryz.underlying24 rfl (hi24 p.b) ?_)
    | (refine wpList_load_part rfl 24 (.tmp 6) rfl _ 0 rfl _ _ hP.board Tryz.underlying24 rfl (hi24 p.b) ?_)
    | (refine wpList_load_part rfl 26 (.tmp 1) rfl _ 0 rfl _ _ hP.part Tryz.underlying26 rfl (hi26 p) ?_)
    | (go_at_call 25; refine (boardWrong_any _ _ hp.b).mono ?_; rintro e w2 ⟨rfl, hbl⟩; replace hP := hP.below hbl hP.lt; replace HB := Lib.hid (HB.out.step hbl); clear hbl)
    | (go_at_call 26; refine (posPassed_any _ _ hp).mono ?_; rintro e w2 ⟨rfl, hbl⟩; replace hP := hP.below hbl hP.lt; replace HB := Lib.hid (HB.out.step hbl); have c64 := hP.turn; have c65 := hP.castle; have c66 := hP.ep; clear hbl)
    | (go_at_call 30; refine (posCastles_any _ _ hp).mono ?_; rw [hc]; rintro e w2 ⟨rfl, hbl⟩; replace hP := hP.below hbl hP.lt; replace HB := Lib.hid (HB.out.step hbl); have c66 := hP.ep; clear hbl)
    | (go_at_call 27; refine (manOther_any _ _).mono ?_; rintro e w2 ⟨rfl, rfl⟩))
  go_ret
  exact ⟨by rw [HV.out]; first | rfl | (simp; done), HB.out⟩

theorem posWrong_any (p : KM.Po) (w : World) (hp : p.wf) :
    Calls Tryz.prog 18 #[.agg (KM.pval p)] w fun e w' => e = .returned (.int .i64 (KM.wrong p)) ∧ Below w.heap.size w w' := by
  by_cases h0 : KM.wrongB p.b = 0
  · by_cases h1 : 0 ≤ KM.other p.turn
    · by_cases h2 : 0 ≤ p.castle
      · by_cases h3 : p.castle ≤ 15
        · by_cases h4 : -1 ≤ p.ep
          · by_cases h5 : p.ep < 64
            · cases ht : KM.touch p.b
              · cases hk : KM.check p.b (KM.other p.turn)
                · cases hc : KM.castlesB p
                  · exact wrong_castles p w hp h0 h1 h2 h3 h4 h5 ht hk hc
                  · by_cases h6 : 0 ≤ p.ep
                    · cases hq : KM.passB p
                      · exact wrong_pass p w hp h0 h1 h2 h3 h4 h5 ht hk hc h6 hq
                      · exact wrong_ok1 p w hp h0 h1 h2 h3 h4 h5 ht hk hc h6 hq
                    · exact wrong_ok2 p w hp h0 h1 h2 h3 h4 h5 ht hk hc (by omega)
                · exact wrong_check p w hp h0 h1 h2 h3 h4 h5 ht hk
              · exact wrong_touch p w hp h0 h1 h2 h3 h4 h5 ht
            · exact wrong_five4 p w hp h0 h1 h2 h3 h4 (by omega)
          · exact wrong_five3 p w hp h0 h1 h2 h3 (by omega)
        · exact wrong_five2 p w hp h0 h1 h2 (by omega)
      · exact wrong_five1 p w hp h0 h1 (by omega)
    · exact wrong_five0 p w hp h0 (by omega)
  · exact wrong_bad p w hp h0

end Go.Proofs.YtgikglnfjkbnhaaGreat
