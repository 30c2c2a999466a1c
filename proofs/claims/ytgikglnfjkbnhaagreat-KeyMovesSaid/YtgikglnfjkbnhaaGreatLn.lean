/-
  gen.from, walked (printed by mkfrom.py).
-/
import Derived.Test.YtgikglnfjkbnhaaGreatLk
import Derived.Test.YtgikglnfjkbnhaaGreatLm
namespace Go.Proofs.YtgikglnfjkbnhaaGreat
open Go.RowKit
set_option maxHeartbeats 2000000
set_option maxRecDepth 20000

theorem KM.wrong_right {p : KM.Po} (h : KM.wrong p = 0) : KM.rightB p.b = true := by
  have h1 : KM.wrongB p.b = 0 := by
    unfold KM.wrong at h
    split at h
    · exact h
    · rename_i h1; simpa using h1
  unfold KM.wrongB at h1
  cases hr : KM.rightB p.b
  · rw [hr] at h1
    simp at h1
  · rfl
theorem KM.right_kind {b : Nat → Int} (h : KM.rightB b = true) {i : Nat} (hi : i < 64) (hz : b i ≠ 0) : 1 ≤ KM.kind (b i) ∧ KM.kind (b i) ≤ 6 := by
  have h1 := KM.allTo_true h hi
  unfold KM.okc at h1
  simp [hz] at h1
  have h2 := KM.manR_iff.1 h1
  unfold KM.kind
  rw [if_pos h1]
  split <;> omega
theorem run_conv22 (n : Int) (h0 : -128 ≤ n) (h1 : n ≤ 127) (w : World) {x : Operand} {ρ : Operand → Value} {o : Oper} (ho : o.op = .convert 22 3 x) (hx : ρ x = .int .i8 n) : (execOp ρ o).run Tryz.prog w = .ok (.value (.int .i64 n)) w := by
  have e : IntKind.i64.wrap n = n := by rw [IntKind.wrap_i64]; omega
  have h : (convert 22 3 (.int .i8 n)).run Tryz.prog w = .ok (.int .i64 (IntKind.i64.wrap n)) w := by kernel_rfl
  rw [e] at h
  unfold execOp
  simp [ho, hx, h]

def wayCells : Array Value := #[.nilFunc, .func (.func 44) #[] #[], .func (.func 45) #[] #[], .func (.func 45) #[] #[], .func (.func 45) #[] #[], .func (.func 45) #[] #[], .func (.func 46) #[] #[]]
theorem way_one : wayCells.all (·.oneCell') = true := by kernel_rfl
theorem hi72 : (Tryz.prog.info? 72).map (·.size) = some wayCells.size := by kernel_rfl

/-- Each way a man goes. -/
theorem way_any (k : Int) (fn : Nat) (gg ge : Nat) (p : KM.Po) (s : Int) (w : World) (hp : p.wf) (hG : GBox w gg ge) (hw : KM.wrong p = 0) (s0 : 0 ≤ s) (s1 : s < 64) (hz : p.b s.toNat ≠ 0) (hsd : KM.side (p.b s.toNat) = p.turn) (hk : KM.kind (p.b s.toNat) = k) (hf : (k = 1 ∧ fn = 44) ∨ (k ≠ 1 ∧ k ≠ 6 ∧ fn = 45) ∨ (k = 6 ∧ fn = 46)) :
    Calls Tryz.prog fn #[.pointer (some ⟨gg, 0, none⟩), .agg (KM.pval p), .int .i64 s] w fun e w' => ∃ l, RetInts w l e w' ∧ l.length ≤ 514 ∧ ∀ x ∈ l, (KM.sqR x = true ∧ KM.opn p x = true) ∧ (KM.kind (p.b s.toNat) = 1 → KM.fore p s x) := by
  have hr := KM.wrong_right hw
  rcases hf with ⟨h1, rfl⟩ | ⟨h1, h2, rfl⟩ | ⟨h1, rfl⟩
  · refine (pawn_any gg ge p s w hp hG hr s0 s1 (KM.wrong_zero hw).1 (by rw [hk]; exact h1) hsd hz).mono ?_
    rintro e w' ⟨l, h3, h4, h5⟩
    exact ⟨l, h3, h4, fun x hx => ⟨(h5 x hx).1, fun _ => (h5 x hx).2⟩⟩
  · refine (jumps_any2 gg ge p s w hp hG hr s0 s1 hz).mono ?_
    rintro e w' ⟨l, h3, h4, h5⟩
    exact ⟨l, h3, by omega, fun x hx => ⟨h5 x hx, fun h => absurd (hk.symm.trans h) h1⟩⟩
  · refine (king_any gg ge p s w hp hG hw hr s0 s1 hz).mono ?_
    rintro e w' ⟨l, h3, h4, h5⟩
    exact ⟨l, h3, h4, fun x hx => ⟨h5 x hx, fun h => by rw [hk, h1] at h; omega⟩⟩

theorem from_a (gg ge : Nat) (p : KM.Po) (s : Int) (w : World) (hp : p.wf) (_hG : GBox w gg ge) (hw : KM.wrong p = 0) (s0 : 0 ≤ s) (s1 : s < 64) (hz : p.b s.toNat = 0) :
    Calls Tryz.prog 24 #[.pointer (some ⟨gg, 0, none⟩), .agg (KM.pval p), .int .i64 s] w fun e w' => ∃ l, RetMvs w l e w' ∧ l.length ≤ 2056 ∧ ∀ m ∈ l, KM.formed p m.1 m.2.1 m.2.2 = true := by
  have hP := PBox.new w p
  have HB := Lib.hid ((Below.refl w.heap.size w).alloc (Nat.le_refl _) (Obj.cells (KM.pval p) 26))
  have hS : w.heap.size + 1 ≤ (w.alloc (Obj.cells (KM.pval p) 26)).heap.size := by simp
  obtain ⟨n0, n1⟩ := hp.b s.toNat (by omega)
  have hq := Lib.hid (show ∀ w', Calls Tryz.prog 31 #[.int .i64 s] w' fun e w'' => e = .returned (.bool true) ∧ w' = w'' by intro w'; have h := sqRight_any s w'; rw [KM.sqR_iff.2 ⟨s0, s1⟩] at h; exact h)
  have bz : (p.b s.toNat == 0) = true := by simp [hz]
  replace hz := Lib.hid hz
  have HW := Lib.hid hw
  clear hw _hG
  go_enter Tryz.func24, Tryz.ntmps24
  go_wp2_with fail
  generalize w.alloc (Obj.cells (KM.pval p) 26) = w0 at *
  have c0 := fun i : Idx (w.heap.size + 1) w0 => (hP.idx (by omega) i).at (i := s.toNat) (by omega)
  have c1 := fun i : Idx (w.heap.size + 1) w0 => (hP.idx (by omega) i).turn
  refine wp_region_idx (w.heap.size + 1) (by kernel_rfl) (by kernel_rfl) ?_
  repeat (first | go_big_quiet_skip | (go_big_quiet_want; (go_big_quiet_op; first | go_big_quiet_on | go_big_quiet_call ((first | (go_at_call 31; exact Idx.calls_same (hq.out _)) | (go_at_call 32; exact Idx.calls_same (manSide_any _ _)))))))
  refine wpQuiet_nil ?_
  intro w1 hwq
  have hbq := Idx.get hwq
  clear hwq c0 c1
  replace HB := Lib.hid (HB.out.trans (hbq.mono (by omega)))
  clear hbq
  go_wp2_with fail
  go_ret
  exact ⟨[], ⟨none, 0, rfl, World.ownsRow_nil _ _ _ _, HB.out⟩, by simp, fun m hm => (by cases hm)⟩

theorem from_b (gg ge : Nat) (p : KM.Po) (s : Int) (w : World) (hp : p.wf) (_hG : GBox w gg ge) (hw : KM.wrong p = 0) (s0 : 0 ≤ s) (s1 : s < 64) (hz : p.b s.toNat ≠ 0) (hsd : KM.side (p.b s.toNat) ≠ p.turn) :
    Calls Tryz.prog 24 #[.pointer (some ⟨gg, 0, none⟩), .agg (KM.pval p), .int .i64 s] w fun e w' => ∃ l, RetMvs w l e w' ∧ l.length ≤ 2056 ∧ ∀ m ∈ l, KM.formed p m.1 m.2.1 m.2.2 = true := by
  have hP := PBox.new w p
  have HB := Lib.hid ((Below.refl w.heap.size w).alloc (Nat.le_refl _) (Obj.cells (KM.pval p) 26))
  have hS : w.heap.size + 1 ≤ (w.alloc (Obj.cells (KM.pval p) 26)).heap.size := by simp
  obtain ⟨n0, n1⟩ := hp.b s.toNat (by omega)
  have hq := Lib.hid (show ∀ w', Calls Tryz.prog 31 #[.int .i64 s] w' fun e w'' => e = .returned (.bool true) ∧ w' = w'' by intro w'; have h := sqRight_any s w'; rw [KM.sqR_iff.2 ⟨s0, s1⟩] at h; exact h)
  have bz : (p.b s.toNat == 0) = false := by simp [hz]
  have bs : (KM.side (p.b s.toNat) != p.turn) = true := by simp [hsd]
  have HW := Lib.hid hw
  clear hw _hG
  go_enter Tryz.func24, Tryz.ntmps24
  go_wp2_with fail
  generalize w.alloc (Obj.cells (KM.pval p) 26) = w0 at *
  have c0 := fun i : Idx (w.heap.size + 1) w0 => (hP.idx (by omega) i).at (i := s.toNat) (by omega)
  have c1 := fun i : Idx (w.heap.size + 1) w0 => (hP.idx (by omega) i).turn
  refine wp_region_idx (w.heap.size + 1) (by kernel_rfl) (by kernel_rfl) ?_
  repeat (first | go_big_quiet_skip | (go_big_quiet_want; (go_big_quiet_op; first | go_big_quiet_on | go_big_quiet_call ((first | (go_at_call 31; exact Idx.calls_same (hq.out _)) | (go_at_call 32; exact Idx.calls_same (manSide_any _ _)))))))
  refine wpQuiet_nil ?_
  intro w1 hwq
  have hbq := Idx.get hwq
  clear hwq c0 c1
  replace HB := Lib.hid (HB.out.trans (hbq.mono (by omega)))
  clear hbq
  go_wp2_with fail
  go_ret
  exact ⟨[], ⟨none, 0, rfl, World.ownsRow_nil _ _ _ _, HB.out⟩, by simp, fun m hm => (by cases hm)⟩

theorem from_c (gg ge : Nat) (p : KM.Po) (s : Int) (w : World) (hp : p.wf) (hG : GBox w gg ge) (hw : KM.wrong p = 0) (s0 : 0 ≤ s) (s1 : s < 64) (hz : p.b s.toNat ≠ 0) (hsd : KM.side (p.b s.toNat) = p.turn) :
    Calls Tryz.prog 24 #[.pointer (some ⟨gg, 0, none⟩), .agg (KM.pval p), .int .i64 s] w fun e w' => ∃ l, RetMvs w l e w' ∧ l.length ≤ 2056 ∧ ∀ m ∈ l, KM.formed p m.1 m.2.1 m.2.2 = true := by
  have hP := PBox.new w p
  have HB := Lib.hid ((Below.refl w.heap.size w).alloc (Nat.le_refl _) (Obj.cells (KM.pval p) 26))
  have hS : w.heap.size + 1 ≤ (w.alloc (Obj.cells (KM.pval p) 26)).heap.size := by simp
  obtain ⟨n0, n1⟩ := hp.b s.toNat (by omega)
  have hq := Lib.hid (show ∀ w', Calls Tryz.prog 31 #[.int .i64 s] w' fun e w'' => e = .returned (.bool true) ∧ w' = w'' by intro w'; have h := sqRight_any s w'; rw [KM.sqR_iff.2 ⟨s0, s1⟩] at h; exact h)
  have bz : (p.b s.toNat == 0) = false := by simp [hz]
  have bs : (KM.side (p.b s.toNat) != p.turn) = false := by simp [hsd]
  obtain ⟨kk1, kk6⟩ := KM.right_kind (KM.wrong_right hw) (show s.toNat < 64 by omega) hz
  have hG0 := hG.below ((Below.refl w.heap.size w).alloc (Nat.le_refl _) (Obj.cells (KM.pval p) 26)) (heap_lt hG)
  have HW := Lib.hid hw
  have HSD := Lib.hid hsd
  have HZ := Lib.hid hz
  have hgl := heap_lt hG
  clear hw hG hsd hz
  go_enter Tryz.func24, Tryz.ntmps24
  go_wp2_with fail
  generalize w.alloc (Obj.cells (KM.pval p) 26) = w0 at *
  have c0 := fun i : Idx (w.heap.size + 1) w0 => (hP.idx (by omega) i).at (i := s.toNat) (by omega)
  have c1 := fun i : Idx (w.heap.size + 1) w0 => (hP.idx (by omega) i).turn
  refine wp_region_idx (w.heap.size + 1) (by kernel_rfl) (by kernel_rfl) ?_
  repeat (first | go_big_quiet_skip | (go_big_quiet_want; (go_big_quiet_op; first | go_big_quiet_on | go_big_quiet_call ((first | (go_at_call 31; exact Idx.calls_same (hq.out _)) | (go_at_call 32; exact Idx.calls_same (manSide_any _ _)))))))
  refine wpQuiet_nil ?_
  intro w1 hwq
  have hbq := Idx.get hwq
  clear hwq c0 c1
  replace HB := Lib.hid (HB.out.trans (hbq.mono (by omega)))
  replace hP := hP.below hbq (by omega)
  replace hG0 := hG0.below hbq (by omega)
  replace hS := Nat.le_trans hS hbq.size
  clear hbq
  go_upto_region 4 with (refine wpList_store_row rfl 72 (.tmp 7) (.tmp 33) rfl _ wayCells rfl rfl 72 #[.nilFunc, .nilFunc, .nilFunc, .nilFunc, .nilFunc, .nilFunc, .nilFunc] (heap_alloc_new w1 _) hi72 rfl way_one ?_)
  try simp only [Act.put]
  have hal := (Below.refl w1.heap.size w1).alloc (Nat.le_refl _) (Obj.cells #[.nilFunc, .nilFunc, .nilFunc, .nilFunc, .nilFunc, .nilFunc, .nilFunc] 72)
  have hW4 := heap_setRow_same (cs := wayCells) (heap_alloc_new w1 (Obj.cells #[.nilFunc, .nilFunc, .nilFunc, .nilFunc, .nilFunc, .nilFunc, .nilFunc] 72))
  have hb14 := below_setRow hal (Nat.le_refl w1.heap.size) (cs := wayCells)
  have hP4 := hP.below hb14 (heap_lt hP)
  have hG4 := hG0.below hb14 (heap_lt hG0)
  have HB4 := Lib.hid (HB.out.trans (hb14.mono (by omega)))
  have hS4 := Nat.le_trans hS hb14.size
  generalize (w1.alloc (Obj.cells #[.nilFunc, .nilFunc, .nilFunc, .nilFunc, .nilFunc, .nilFunc, .nilFunc] 72)).setRow w1.heap.size wayCells = w4 at *
  generalize w1.heap.size = gw at *
  clear hb14 hal hP hG0 HB
  have HF0 := Lib.hid (show KM.kind (p.b s.toNat) = KM.kind (p.b s.toNat) from rfl)
  go_cut [8] from 34 (fun v8 wx => ∃ (l : List Int) (a : Option Addr) (cap : Nat), v8 = .slice a l.length cap ∧ l.length ≤ 514 ∧ wx.ownsRow (w.heap.size + 1) 3 1 (.slice a l.length cap) l.length (KM.ints l) ∧ (∀ x ∈ l, (KM.sqR x = true ∧ KM.opn p x = true) ∧ (KM.kind (p.b s.toNat) = 1 → KM.fore p s x)) ∧ PBox wx w.heap.size p ∧ Below w.heap.size w wx)
  case first =>
    have h6 : KM.kind (p.b s.toNat) = 1 ∨ KM.kind (p.b s.toNat) = 2 ∨ KM.kind (p.b s.toNat) = 3 ∨ KM.kind (p.b s.toNat) = 4 ∨ KM.kind (p.b s.toNat) = 5 ∨ KM.kind (p.b s.toNat) = 6 := by omega
    clear kk1 kk6
    rcases h6 with hk | hk | hk | hk | hk | hk
    · have HWay := Lib.hid (way_any 1 44 gg ge p s w4.drew hp (show GBox w4.drew gg ge from hG4) HW.out s0 s1 HZ.out HSD.out hk (.inl ⟨rfl, rfl⟩))
      have hmk := Lib.hid (show ∀ w', Calls Tryz.prog 47 #[.int .i64 (p.b s.toNat)] w' fun e w'' => e = .returned (.int .i64 1) ∧ w' = w'' by intro w'; have h := manKind_any (p.b s.toNat) w'; rw [hk] at h; exact h)
      clear hk
      refine wp_region_plan (fun w' => Below w4.heap.size w4 w') [(0, false), (1, false), (2, false), (3, false), (4, false), (5, false), (6, false), (7, false), (8, false), (9, false), (10, false), (11, true), (12, false)] (by kernel_rfl) (by kernel_rfl) (fun c a w d v h => by cases d <;> exact h) ((Below.refl _ _).drew) ?_
      refine plan_val (v := .int .i64 s) rfl ?ck1a (fun w' _ => ?dk1a) ?_
      case ck1a => rfl
      case dk1a => kernel_rfl
      simp only [Act.put, List.setIfInBounds_toArray, List.set_cons_zero, List.set_cons_succ]
      refine plan_val (v := .pointer (some ⟨w.heap.size, 0, none⟩)) rfl ?ck1b (fun w' _ => ?dk1b) ?_
      case ck1b => rfl
      case dk1b => kernel_rfl
      simp only [Act.put, List.setIfInBounds_toArray, List.set_cons_zero, List.set_cons_succ]
      refine plan_index rfl ?ck1c (.tmp 35) (.tmp 34) rfl w.heap.size s rfl rfl s0 s1 ?_
      case ck1c => rfl
      simp only [Act.put, List.setIfInBounds_toArray, List.set_cons_zero, List.set_cons_succ]
      refine plan_cell rfl ?ck1d 22 (.tmp 36) rfl w.heap.size s.toNat rfl (.int .i8 (p.b s.toNat)) _ ?dk1d Tryz.underlying22 rfl ?_
      case ck1d => rfl
      case dk1d => exact fun w' hC => (hP4.below hC (heap_lt hP4)).at (by omega)
      simp only [Act.put, List.setIfInBounds_toArray, List.set_cons_zero, List.set_cons_succ]
      refine plan_val (v := .int .i64 (p.b s.toNat)) rfl ?ck1e (fun w' _ => ?dk1e) ?_
      case ck1e => rfl
      case dk1e => exact run_conv22 (p.b s.toNat) n0 n1 w' rfl rfl
      simp only [Act.put, List.setIfInBounds_toArray, List.set_cons_zero, List.set_cons_succ]
      refine plan_same 47 #[.int .i64 (p.b s.toNat)] rfl ?ck1f (fun w' => ?dk1f) (fun w' => hmk.out w') ?_
      case ck1f => rfl
      case dk1f => kernel_rfl
      simp only [Act.put, List.setIfInBounds_toArray, List.set_cons_zero, List.set_cons_succ]
      refine plan_val (v := .pointer (some ⟨gw, 1, none⟩)) rfl ?ck1g (fun w' _ => ?dk1g) ?_
      case ck1g => rfl
      case dk1g => kernel_rfl
      simp only [Act.put, List.setIfInBounds_toArray, List.set_cons_zero, List.set_cons_succ]
      refine plan_cell rfl ?ck1h 70 (.tmp 40) rfl gw 1 rfl (.func (.func 44) #[] #[]) _ ?dk1h Tryz.underlying70 rfl ?_
      case ck1h => rfl
      case dk1h => exact fun w' hC => by rw [cell_of_row w' gw 1 _ _ _ ((hC.block gw (heap_lt hW4)).trans hW4)]; rfl
      simp only [Act.put, List.setIfInBounds_toArray, List.set_cons_zero, List.set_cons_succ]
      refine plan_val (v := .pointer (some ⟨gg, 0, none⟩)) rfl ?ck1i (fun w' _ => ?dk1i) ?_
      case ck1i => rfl
      case dk1i => kernel_rfl
      simp only [Act.put, List.setIfInBounds_toArray, List.set_cons_zero, List.set_cons_succ]
      refine plan_load rfl ?ck1j 26 (.tmp 4) rfl w.heap.size 0 rfl (KM.pval p) _ ?dk1j Tryz.underlying26 rfl (hi26 p) ?_
      case ck1j => rfl
      case dk1j => exact fun w' hC => (hP4.below hC (heap_lt hP4)).part
      simp only [Act.put, List.setIfInBounds_toArray, List.set_cons_zero, List.set_cons_succ]
      refine plan_val (v := .int .i64 s) rfl ?ck1k (fun w' _ => ?dk1k) ?_
      case ck1k => rfl
      case dk1k => kernel_rfl
      simp only [Act.put, List.setIfInBounds_toArray, List.set_cons_zero, List.set_cons_succ]
      refine plan_call 44 #[.pointer (some ⟨gg, 0, none⟩), .agg (KM.pval p), .int .i64 s] rfl ?ck1l (fun w' => ?dk1l) ?_
      case ck1l => rfl
      case dk1l => kernel_rfl
      refine HWay.out.mono ?_
      rintro e w5 ⟨l, ⟨a, cap, rfl, hown, hb5⟩, hl, hin⟩
      have hb45 : Below w4.heap.size w4 w5 := (Below.refl _ _).drew.trans hb5
      refine ⟨_, rfl, hb45, ?_⟩
      simp only [Act.put, List.setIfInBounds_toArray, List.set_cons_zero, List.set_cons_succ]
      refine plan_val (v := .slice a l.length cap) rfl ?ck1m (fun w' _ => ?dk1m) ?_
      case ck1m => rfl
      case dk1m => kernel_rfl
      simp only [Act.put, List.setIfInBounds_toArray, List.set_cons_zero, List.set_cons_succ]
      simp only [wpPlan]
      have HCut := Lib.hid (show l.length ≤ 514 ∧ w5.ownsRow (w.heap.size + 1) 3 1 (.slice a l.length cap) l.length (KM.ints l) ∧ (∀ x ∈ l, (KM.sqR x = true ∧ KM.opn p x = true) ∧ (KM.kind (p.b s.toNat) = 1 → KM.fore p s x)) ∧ PBox w5 w.heap.size p ∧ Below w.heap.size w w5 from
        ⟨hl, ownsRow_base hown (by simp; omega), hin, hP4.below hb45 (heap_lt hP4), HB4.out.step hb45⟩)
      clear hown hin hb5 hb45
      go_wp2_with fail
      go_meet
      exact ⟨l, a, cap, rfl, HCut.out⟩
    · have HWay := Lib.hid (way_any 2 45 gg ge p s w4.drew hp (show GBox w4.drew gg ge from hG4) HW.out s0 s1 HZ.out HSD.out hk (.inr (.inl ⟨by decide, by decide, rfl⟩)))
      have hmk := Lib.hid (show ∀ w', Calls Tryz.prog 47 #[.int .i64 (p.b s.toNat)] w' fun e w'' => e = .returned (.int .i64 2) ∧ w' = w'' by intro w'; have h := manKind_any (p.b s.toNat) w'; rw [hk] at h; exact h)
      clear hk
      refine wp_region_plan (fun w' => Below w4.heap.size w4 w') [(0, false), (1, false), (2, false), (3, false), (4, false), (5, false), (6, false), (7, false), (8, false), (9, false), (10, false), (11, true), (12, false)] (by kernel_rfl) (by kernel_rfl) (fun c a w d v h => by cases d <;> exact h) ((Below.refl _ _).drew) ?_
      refine plan_val (v := .int .i64 s) rfl ?ck2a (fun w' _ => ?dk2a) ?_
      case ck2a => rfl
      case dk2a => kernel_rfl
      simp only [Act.put, List.setIfInBounds_toArray, List.set_cons_zero, List.set_cons_succ]
      refine plan_val (v := .pointer (some ⟨w.heap.size, 0, none⟩)) rfl ?ck2b (fun w' _ => ?dk2b) ?_
      case ck2b => rfl
      case dk2b => kernel_rfl
      simp only [Act.put, List.setIfInBounds_toArray, List.set_cons_zero, List.set_cons_succ]
      refine plan_index rfl ?ck2c (.tmp 35) (.tmp 34) rfl w.heap.size s rfl rfl s0 s1 ?_
      case ck2c => rfl
      simp only [Act.put, List.setIfInBounds_toArray, List.set_cons_zero, List.set_cons_succ]
      refine plan_cell rfl ?ck2d 22 (.tmp 36) rfl w.heap.size s.toNat rfl (.int .i8 (p.b s.toNat)) _ ?dk2d Tryz.underlying22 rfl ?_
      case ck2d => rfl
      case dk2d => exact fun w' hC => (hP4.below hC (heap_lt hP4)).at (by omega)
      simp only [Act.put, List.setIfInBounds_toArray, List.set_cons_zero, List.set_cons_succ]
      refine plan_val (v := .int .i64 (p.b s.toNat)) rfl ?ck2e (fun w' _ => ?dk2e) ?_
      case ck2e => rfl
      case dk2e => exact run_conv22 (p.b s.toNat) n0 n1 w' rfl rfl
      simp only [Act.put, List.setIfInBounds_toArray, List.set_cons_zero, List.set_cons_succ]
      refine plan_same 47 #[.int .i64 (p.b s.toNat)] rfl ?ck2f (fun w' => ?dk2f) (fun w' => hmk.out w') ?_
      case ck2f => rfl
      case dk2f => kernel_rfl
      simp only [Act.put, List.setIfInBounds_toArray, List.set_cons_zero, List.set_cons_succ]
      refine plan_val (v := .pointer (some ⟨gw, 2, none⟩)) rfl ?ck2g (fun w' _ => ?dk2g) ?_
      case ck2g => rfl
      case dk2g => kernel_rfl
      simp only [Act.put, List.setIfInBounds_toArray, List.set_cons_zero, List.set_cons_succ]
      refine plan_cell rfl ?ck2h 70 (.tmp 40) rfl gw 2 rfl (.func (.func 45) #[] #[]) _ ?dk2h Tryz.underlying70 rfl ?_
      case ck2h => rfl
      case dk2h => exact fun w' hC => by rw [cell_of_row w' gw 2 _ _ _ ((hC.block gw (heap_lt hW4)).trans hW4)]; rfl
      simp only [Act.put, List.setIfInBounds_toArray, List.set_cons_zero, List.set_cons_succ]
      refine plan_val (v := .pointer (some ⟨gg, 0, none⟩)) rfl ?ck2i (fun w' _ => ?dk2i) ?_
      case ck2i => rfl
      case dk2i => kernel_rfl
      simp only [Act.put, List.setIfInBounds_toArray, List.set_cons_zero, List.set_cons_succ]
      refine plan_load rfl ?ck2j 26 (.tmp 4) rfl w.heap.size 0 rfl (KM.pval p) _ ?dk2j Tryz.underlying26 rfl (hi26 p) ?_
      case ck2j => rfl
      case dk2j => exact fun w' hC => (hP4.below hC (heap_lt hP4)).part
      simp only [Act.put, List.setIfInBounds_toArray, List.set_cons_zero, List.set_cons_succ]
      refine plan_val (v := .int .i64 s) rfl ?ck2k (fun w' _ => ?dk2k) ?_
      case ck2k => rfl
      case dk2k => kernel_rfl
      simp only [Act.put, List.setIfInBounds_toArray, List.set_cons_zero, List.set_cons_succ]
      refine plan_call 45 #[.pointer (some ⟨gg, 0, none⟩), .agg (KM.pval p), .int .i64 s] rfl ?ck2l (fun w' => ?dk2l) ?_
      case ck2l => rfl
      case dk2l => kernel_rfl
      refine HWay.out.mono ?_
      rintro e w5 ⟨l, ⟨a, cap, rfl, hown, hb5⟩, hl, hin⟩
      have hb45 : Below w4.heap.size w4 w5 := (Below.refl _ _).drew.trans hb5
      refine ⟨_, rfl, hb45, ?_⟩
      simp only [Act.put, List.setIfInBounds_toArray, List.set_cons_zero, List.set_cons_succ]
      refine plan_val (v := .slice a l.length cap) rfl ?ck2m (fun w' _ => ?dk2m) ?_
      case ck2m => rfl
      case dk2m => kernel_rfl
      simp only [Act.put, List.setIfInBounds_toArray, List.set_cons_zero, List.set_cons_succ]
      simp only [wpPlan]
      have HCut := Lib.hid (show l.length ≤ 514 ∧ w5.ownsRow (w.heap.size + 1) 3 1 (.slice a l.length cap) l.length (KM.ints l) ∧ (∀ x ∈ l, (KM.sqR x = true ∧ KM.opn p x = true) ∧ (KM.kind (p.b s.toNat) = 1 → KM.fore p s x)) ∧ PBox w5 w.heap.size p ∧ Below w.heap.size w w5 from
        ⟨hl, ownsRow_base hown (by simp; omega), hin, hP4.below hb45 (heap_lt hP4), HB4.out.step hb45⟩)
      clear hown hin hb5 hb45
      go_wp2_with fail
      go_meet
      exact ⟨l, a, cap, rfl, HCut.out⟩
    · have HWay := Lib.hid (way_any 3 45 gg ge p s w4.drew hp (show GBox w4.drew gg ge from hG4) HW.out s0 s1 HZ.out HSD.out hk (.inr (.inl ⟨by decide, by decide, rfl⟩)))
      have hmk := Lib.hid (show ∀ w', Calls Tryz.prog 47 #[.int .i64 (p.b s.toNat)] w' fun e w'' => e = .returned (.int .i64 3) ∧ w' = w'' by intro w'; have h := manKind_any (p.b s.toNat) w'; rw [hk] at h; exact h)
      clear hk
      refine wp_region_plan (fun w' => Below w4.heap.size w4 w') [(0, false), (1, false), (2, false), (3, false), (4, false), (5, false), (6, false), (7, false), (8, false), (9, false), (10, false), (11, true), (12, false)] (by kernel_rfl) (by kernel_rfl) (fun c a w d v h => by cases d <;> exact h) ((Below.refl _ _).drew) ?_
      refine plan_val (v := .int .i64 s) rfl ?ck3a (fun w' _ => ?dk3a) ?_
      case ck3a => rfl
      case dk3a => kernel_rfl
      simp only [Act.put, List.setIfInBounds_toArray, List.set_cons_zero, List.set_cons_succ]
      refine plan_val (v := .pointer (some ⟨w.heap.size, 0, none⟩)) rfl ?ck3b (fun w' _ => ?dk3b) ?_
      case ck3b => rfl
      case dk3b => kernel_rfl
      simp only [Act.put, List.setIfInBounds_toArray, List.set_cons_zero, List.set_cons_succ]
      refine plan_index rfl ?ck3c (.tmp 35) (.tmp 34) rfl w.heap.size s rfl rfl s0 s1 ?_
      case ck3c => rfl
      simp only [Act.put, List.setIfInBounds_toArray, List.set_cons_zero, List.set_cons_succ]
      refine plan_cell rfl ?ck3d 22 (.tmp 36) rfl w.heap.size s.toNat rfl (.int .i8 (p.b s.toNat)) _ ?dk3d Tryz.underlying22 rfl ?_
      case ck3d => rfl
      case dk3d => exact fun w' hC => (hP4.below hC (heap_lt hP4)).at (by omega)
      simp only [Act.put, List.setIfInBounds_toArray, List.set_cons_zero, List.set_cons_succ]
      refine plan_val (v := .int .i64 (p.b s.toNat)) rfl ?ck3e (fun w' _ => ?dk3e) ?_
      case ck3e => rfl
      case dk3e => exact run_conv22 (p.b s.toNat) n0 n1 w' rfl rfl
      simp only [Act.put, List.setIfInBounds_toArray, List.set_cons_zero, List.set_cons_succ]
      refine plan_same 47 #[.int .i64 (p.b s.toNat)] rfl ?ck3f (fun w' => ?dk3f) (fun w' => hmk.out w') ?_
      case ck3f => rfl
      case dk3f => kernel_rfl
      simp only [Act.put, List.setIfInBounds_toArray, List.set_cons_zero, List.set_cons_succ]
      refine plan_val (v := .pointer (some ⟨gw, 3, none⟩)) rfl ?ck3g (fun w' _ => ?dk3g) ?_
      case ck3g => rfl
      case dk3g => kernel_rfl
      simp only [Act.put, List.setIfInBounds_toArray, List.set_cons_zero, List.set_cons_succ]
      refine plan_cell rfl ?ck3h 70 (.tmp 40) rfl gw 3 rfl (.func (.func 45) #[] #[]) _ ?dk3h Tryz.underlying70 rfl ?_
      case ck3h => rfl
      case dk3h => exact fun w' hC => by rw [cell_of_row w' gw 3 _ _ _ ((hC.block gw (heap_lt hW4)).trans hW4)]; rfl
      simp only [Act.put, List.setIfInBounds_toArray, List.set_cons_zero, List.set_cons_succ]
      refine plan_val (v := .pointer (some ⟨gg, 0, none⟩)) rfl ?ck3i (fun w' _ => ?dk3i) ?_
      case ck3i => rfl
      case dk3i => kernel_rfl
      simp only [Act.put, List.setIfInBounds_toArray, List.set_cons_zero, List.set_cons_succ]
      refine plan_load rfl ?ck3j 26 (.tmp 4) rfl w.heap.size 0 rfl (KM.pval p) _ ?dk3j Tryz.underlying26 rfl (hi26 p) ?_
      case ck3j => rfl
      case dk3j => exact fun w' hC => (hP4.below hC (heap_lt hP4)).part
      simp only [Act.put, List.setIfInBounds_toArray, List.set_cons_zero, List.set_cons_succ]
      refine plan_val (v := .int .i64 s) rfl ?ck3k (fun w' _ => ?dk3k) ?_
      case ck3k => rfl
      case dk3k => kernel_rfl
      simp only [Act.put, List.setIfInBounds_toArray, List.set_cons_zero, List.set_cons_succ]
      refine plan_call 45 #[.pointer (some ⟨gg, 0, none⟩), .agg (KM.pval p), .int .i64 s] rfl ?ck3l (fun w' => ?dk3l) ?_
      case ck3l => rfl
      case dk3l => kernel_rfl
      refine HWay.out.mono ?_
      rintro e w5 ⟨l, ⟨a, cap, rfl, hown, hb5⟩, hl, hin⟩
      have hb45 : Below w4.heap.size w4 w5 := (Below.refl _ _).drew.trans hb5
      refine ⟨_, rfl, hb45, ?_⟩
      simp only [Act.put, List.setIfInBounds_toArray, List.set_cons_zero, List.set_cons_succ]
      refine plan_val (v := .slice a l.length cap) rfl ?ck3m (fun w' _ => ?dk3m) ?_
      case ck3m => rfl
      case dk3m => kernel_rfl
      simp only [Act.put, List.setIfInBounds_toArray, List.set_cons_zero, List.set_cons_succ]
      simp only [wpPlan]
      have HCut := Lib.hid (show l.length ≤ 514 ∧ w5.ownsRow (w.heap.size + 1) 3 1 (.slice a l.length cap) l.length (KM.ints l) ∧ (∀ x ∈ l, (KM.sqR x = true ∧ KM.opn p x = true) ∧ (KM.kind (p.b s.toNat) = 1 → KM.fore p s x)) ∧ PBox w5 w.heap.size p ∧ Below w.heap.size w w5 from
        ⟨hl, ownsRow_base hown (by simp; omega), hin, hP4.below hb45 (heap_lt hP4), HB4.out.step hb45⟩)
      clear hown hin hb5 hb45
      go_wp2_with fail
      go_meet
      exact ⟨l, a, cap, rfl, HCut.out⟩
    · have HWay := Lib.hid (way_any 4 45 gg ge p s w4.drew hp (show GBox w4.drew gg ge from hG4) HW.out s0 s1 HZ.out HSD.out hk (.inr (.inl ⟨by decide, by decide, rfl⟩)))
      have hmk := Lib.hid (show ∀ w', Calls Tryz.prog 47 #[.int .i64 (p.b s.toNat)] w' fun e w'' => e = .returned (.int .i64 4) ∧ w' = w'' by intro w'; have h := manKind_any (p.b s.toNat) w'; rw [hk] at h; exact h)
      clear hk
      refine wp_region_plan (fun w' => Below w4.heap.size w4 w') [(0, false), (1, false), (2, false), (3, false), (4, false), (5, false), (6, false), (7, false), (8, false), (9, false), (10, false), (11, true), (12, false)] (by kernel_rfl) (by kernel_rfl) (fun c a w d v h => by cases d <;> exact h) ((Below.refl _ _).drew) ?_
      refine plan_val (v := .int .i64 s) rfl ?ck4a (fun w' _ => ?dk4a) ?_
      case ck4a => rfl
      case dk4a => kernel_rfl
      simp only [Act.put, List.setIfInBounds_toArray, List.set_cons_zero, List.set_cons_succ]
      refine plan_val (v := .pointer (some ⟨w.heap.size, 0, none⟩)) rfl ?ck4b (fun w' _ => ?dk4b) ?_
      case ck4b => rfl
      case dk4b => kernel_rfl
      simp only [Act.put, List.setIfInBounds_toArray, List.set_cons_zero, List.set_cons_succ]
      refine plan_index rfl ?ck4c (.tmp 35) (.tmp 34) rfl w.heap.size s rfl rfl s0 s1 ?_
      case ck4c => rfl
      simp only [Act.put, List.setIfInBounds_toArray, List.set_cons_zero, List.set_cons_succ]
      refine plan_cell rfl ?ck4d 22 (.tmp 36) rfl w.heap.size s.toNat rfl (.int .i8 (p.b s.toNat)) _ ?dk4d Tryz.underlying22 rfl ?_
      case ck4d => rfl
      case dk4d => exact fun w' hC => (hP4.below hC (heap_lt hP4)).at (by omega)
      simp only [Act.put, List.setIfInBounds_toArray, List.set_cons_zero, List.set_cons_succ]
      refine plan_val (v := .int .i64 (p.b s.toNat)) rfl ?ck4e (fun w' _ => ?dk4e) ?_
      case ck4e => rfl
      case dk4e => exact run_conv22 (p.b s.toNat) n0 n1 w' rfl rfl
      simp only [Act.put, List.setIfInBounds_toArray, List.set_cons_zero, List.set_cons_succ]
      refine plan_same 47 #[.int .i64 (p.b s.toNat)] rfl ?ck4f (fun w' => ?dk4f) (fun w' => hmk.out w') ?_
      case ck4f => rfl
      case dk4f => kernel_rfl
      simp only [Act.put, List.setIfInBounds_toArray, List.set_cons_zero, List.set_cons_succ]
      refine plan_val (v := .pointer (some ⟨gw, 4, none⟩)) rfl ?ck4g (fun w' _ => ?dk4g) ?_
      case ck4g => rfl
      case dk4g => kernel_rfl
      simp only [Act.put, List.setIfInBounds_toArray, List.set_cons_zero, List.set_cons_succ]
      refine plan_cell rfl ?ck4h 70 (.tmp 40) rfl gw 4 rfl (.func (.func 45) #[] #[]) _ ?dk4h Tryz.underlying70 rfl ?_
      case ck4h => rfl
      case dk4h => exact fun w' hC => by rw [cell_of_row w' gw 4 _ _ _ ((hC.block gw (heap_lt hW4)).trans hW4)]; rfl
      simp only [Act.put, List.setIfInBounds_toArray, List.set_cons_zero, List.set_cons_succ]
      refine plan_val (v := .pointer (some ⟨gg, 0, none⟩)) rfl ?ck4i (fun w' _ => ?dk4i) ?_
      case ck4i => rfl
      case dk4i => kernel_rfl
      simp only [Act.put, List.setIfInBounds_toArray, List.set_cons_zero, List.set_cons_succ]
      refine plan_load rfl ?ck4j 26 (.tmp 4) rfl w.heap.size 0 rfl (KM.pval p) _ ?dk4j Tryz.underlying26 rfl (hi26 p) ?_
      case ck4j => rfl
      case dk4j => exact fun w' hC => (hP4.below hC (heap_lt hP4)).part
      simp only [Act.put, List.setIfInBounds_toArray, List.set_cons_zero, List.set_cons_succ]
      refine plan_val (v := .int .i64 s) rfl ?ck4k (fun w' _ => ?dk4k) ?_
      case ck4k => rfl
      case dk4k => kernel_rfl
      simp only [Act.put, List.setIfInBounds_toArray, List.set_cons_zero, List.set_cons_succ]
      refine plan_call 45 #[.pointer (some ⟨gg, 0, none⟩), .agg (KM.pval p), .int .i64 s] rfl ?ck4l (fun w' => ?dk4l) ?_
      case ck4l => rfl
      case dk4l => kernel_rfl
      refine HWay.out.mono ?_
      rintro e w5 ⟨l, ⟨a, cap, rfl, hown, hb5⟩, hl, hin⟩
      have hb45 : Below w4.heap.size w4 w5 := (Below.refl _ _).drew.trans hb5
      refine ⟨_, rfl, hb45, ?_⟩
      simp only [Act.put, List.setIfInBounds_toArray, List.set_cons_zero, List.set_cons_succ]
      refine plan_val (v := .slice a l.length cap) rfl ?ck4m (fun w' _ => ?dk4m) ?_
      case ck4m => rfl
      case dk4m => kernel_rfl
      simp only [Act.put, List.setIfInBounds_toArray, List.set_cons_zero, List.set_cons_succ]
      simp only [wpPlan]
      have HCut := Lib.hid (show l.length ≤ 514 ∧ w5.ownsRow (w.heap.size + 1) 3 1 (.slice a l.length cap) l.length (KM.ints l) ∧ (∀ x ∈ l, (KM.sqR x = true ∧ KM.opn p x = true) ∧ (KM.kind (p.b s.toNat) = 1 → KM.fore p s x)) ∧ PBox w5 w.heap.size p ∧ Below w.heap.size w w5 from
        ⟨hl, ownsRow_base hown (by simp; omega), hin, hP4.below hb45 (heap_lt hP4), HB4.out.step hb45⟩)
      clear hown hin hb5 hb45
      go_wp2_with fail
      go_meet
      exact ⟨l, a, cap, rfl, HCut.out⟩
    · have HWay := Lib.hid (way_any 5 45 gg ge p s w4.drew hp (show GBox w4.drew gg ge from hG4) HW.out s0 s1 HZ.out HSD.out hk (.inr (.inl ⟨by decide, by decide, rfl⟩)))
      have hmk := Lib.hid (show ∀ w', Calls Tryz.prog 47 #[.int .i64 (p.b s.toNat)] w' fun e w'' => e = .returned (.int .i64 5) ∧ w' = w'' by intro w'; have h := manKind_any (p.b s.toNat) w'; rw [hk] at h; exact h)
      clear hk
      refine wp_region_plan (fun w' => Below w4.heap.size w4 w') [(0, false), (1, false), (2, false), (3, false), (4, false), (5, false), (6, false), (7, false), (8, false), (9, false), (10, false), (11, true), (12, false)] (by kernel_rfl) (by kernel_rfl) (fun c a w d v h => by cases d <;> exact h) ((Below.refl _ _).drew) ?_
      refine plan_val (v := .int .i64 s) rfl ?ck5a (fun w' _ => ?dk5a) ?_
      case ck5a => rfl
      case dk5a => kernel_rfl
      simp only [Act.put, List.setIfInBounds_toArray, List.set_cons_zero, List.set_cons_succ]
      refine plan_val (v := .pointer (some ⟨w.heap.size, 0, none⟩)) rfl ?ck5b (fun w' _ => ?dk5b) ?_
      case ck5b => rfl
      case dk5b => kernel_rfl
      simp only [Act.put, List.setIfInBounds_toArray, List.set_cons_zero, List.set_cons_succ]
      refine plan_index rfl ?ck5c (.tmp 35) (.tmp 34) rfl w.heap.size s rfl rfl s0 s1 ?_
      case ck5c => rfl
      simp only [Act.put, List.setIfInBounds_toArray, List.set_cons_zero, List.set_cons_succ]
      refine plan_cell rfl ?ck5d 22 (.tmp 36) rfl w.heap.size s.toNat rfl (.int .i8 (p.b s.toNat)) _ ?dk5d Tryz.underlying22 rfl ?_
      case ck5d => rfl
      case dk5d => exact fun w' hC => (hP4.below hC (heap_lt hP4)).at (by omega)
      simp only [Act.put, List.setIfInBounds_toArray, List.set_cons_zero, List.set_cons_succ]
      refine plan_val (v := .int .i64 (p.b s.toNat)) rfl ?ck5e (fun w' _ => ?dk5e) ?_
      case ck5e => rfl
      case dk5e => exact run_conv22 (p.b s.toNat) n0 n1 w' rfl rfl
      simp only [Act.put, List.setIfInBounds_toArray, List.set_cons_zero, List.set_cons_succ]
      refine plan_same 47 #[.int .i64 (p.b s.toNat)] rfl ?ck5f (fun w' => ?dk5f) (fun w' => hmk.out w') ?_
      case ck5f => rfl
      case dk5f => kernel_rfl
      simp only [Act.put, List.setIfInBounds_toArray, List.set_cons_zero, List.set_cons_succ]
      refine plan_val (v := .pointer (some ⟨gw, 5, none⟩)) rfl ?ck5g (fun w' _ => ?dk5g) ?_
      case ck5g => rfl
      case dk5g => kernel_rfl
      simp only [Act.put, List.setIfInBounds_toArray, List.set_cons_zero, List.set_cons_succ]
      refine plan_cell rfl ?ck5h 70 (.tmp 40) rfl gw 5 rfl (.func (.func 45) #[] #[]) _ ?dk5h Tryz.underlying70 rfl ?_
      case ck5h => rfl
      case dk5h => exact fun w' hC => by rw [cell_of_row w' gw 5 _ _ _ ((hC.block gw (heap_lt hW4)).trans hW4)]; rfl
      simp only [Act.put, List.setIfInBounds_toArray, List.set_cons_zero, List.set_cons_succ]
      refine plan_val (v := .pointer (some ⟨gg, 0, none⟩)) rfl ?ck5i (fun w' _ => ?dk5i) ?_
      case ck5i => rfl
      case dk5i => kernel_rfl
      simp only [Act.put, List.setIfInBounds_toArray, List.set_cons_zero, List.set_cons_succ]
      refine plan_load rfl ?ck5j 26 (.tmp 4) rfl w.heap.size 0 rfl (KM.pval p) _ ?dk5j Tryz.underlying26 rfl (hi26 p) ?_
      case ck5j => rfl
      case dk5j => exact fun w' hC => (hP4.below hC (heap_lt hP4)).part
      simp only [Act.put, List.setIfInBounds_toArray, List.set_cons_zero, List.set_cons_succ]
      refine plan_val (v := .int .i64 s) rfl ?ck5k (fun w' _ => ?dk5k) ?_
      case ck5k => rfl
      case dk5k => kernel_rfl
      simp only [Act.put, List.setIfInBounds_toArray, List.set_cons_zero, List.set_cons_succ]
      refine plan_call 45 #[.pointer (some ⟨gg, 0, none⟩), .agg (KM.pval p), .int .i64 s] rfl ?ck5l (fun w' => ?dk5l) ?_
      case ck5l => rfl
      case dk5l => kernel_rfl
      refine HWay.out.mono ?_
      rintro e w5 ⟨l, ⟨a, cap, rfl, hown, hb5⟩, hl, hin⟩
      have hb45 : Below w4.heap.size w4 w5 := (Below.refl _ _).drew.trans hb5
      refine ⟨_, rfl, hb45, ?_⟩
      simp only [Act.put, List.setIfInBounds_toArray, List.set_cons_zero, List.set_cons_succ]
      refine plan_val (v := .slice a l.length cap) rfl ?ck5m (fun w' _ => ?dk5m) ?_
      case ck5m => rfl
      case dk5m => kernel_rfl
      simp only [Act.put, List.setIfInBounds_toArray, List.set_cons_zero, List.set_cons_succ]
      simp only [wpPlan]
      have HCut := Lib.hid (show l.length ≤ 514 ∧ w5.ownsRow (w.heap.size + 1) 3 1 (.slice a l.length cap) l.length (KM.ints l) ∧ (∀ x ∈ l, (KM.sqR x = true ∧ KM.opn p x = true) ∧ (KM.kind (p.b s.toNat) = 1 → KM.fore p s x)) ∧ PBox w5 w.heap.size p ∧ Below w.heap.size w w5 from
        ⟨hl, ownsRow_base hown (by simp; omega), hin, hP4.below hb45 (heap_lt hP4), HB4.out.step hb45⟩)
      clear hown hin hb5 hb45
      go_wp2_with fail
      go_meet
      exact ⟨l, a, cap, rfl, HCut.out⟩
    · have HWay := Lib.hid (way_any 6 46 gg ge p s w4.drew hp (show GBox w4.drew gg ge from hG4) HW.out s0 s1 HZ.out HSD.out hk (.inr (.inr ⟨rfl, rfl⟩)))
      have hmk := Lib.hid (show ∀ w', Calls Tryz.prog 47 #[.int .i64 (p.b s.toNat)] w' fun e w'' => e = .returned (.int .i64 6) ∧ w' = w'' by intro w'; have h := manKind_any (p.b s.toNat) w'; rw [hk] at h; exact h)
      clear hk
      refine wp_region_plan (fun w' => Below w4.heap.size w4 w') [(0, false), (1, false), (2, false), (3, false), (4, false), (5, false), (6, false), (7, false), (8, false), (9, false), (10, false), (11, true), (12, false)] (by kernel_rfl) (by kernel_rfl) (fun c a w d v h => by cases d <;> exact h) ((Below.refl _ _).drew) ?_
      refine plan_val (v := .int .i64 s) rfl ?ck6a (fun w' _ => ?dk6a) ?_
      case ck6a => rfl
      case dk6a => kernel_rfl
      simp only [Act.put, List.setIfInBounds_toArray, List.set_cons_zero, List.set_cons_succ]
      refine plan_val (v := .pointer (some ⟨w.heap.size, 0, none⟩)) rfl ?ck6b (fun w' _ => ?dk6b) ?_
      case ck6b => rfl
      case dk6b => kernel_rfl
      simp only [Act.put, List.setIfInBounds_toArray, List.set_cons_zero, List.set_cons_succ]
      refine plan_index rfl ?ck6c (.tmp 35) (.tmp 34) rfl w.heap.size s rfl rfl s0 s1 ?_
      case ck6c => rfl
      simp only [Act.put, List.setIfInBounds_toArray, List.set_cons_zero, List.set_cons_succ]
      refine plan_cell rfl ?ck6d 22 (.tmp 36) rfl w.heap.size s.toNat rfl (.int .i8 (p.b s.toNat)) _ ?dk6d Tryz.underlying22 rfl ?_
      case ck6d => rfl
      case dk6d => exact fun w' hC => (hP4.below hC (heap_lt hP4)).at (by omega)
      simp only [Act.put, List.setIfInBounds_toArray, List.set_cons_zero, List.set_cons_succ]
      refine plan_val (v := .int .i64 (p.b s.toNat)) rfl ?ck6e (fun w' _ => ?dk6e) ?_
      case ck6e => rfl
      case dk6e => exact run_conv22 (p.b s.toNat) n0 n1 w' rfl rfl
      simp only [Act.put, List.setIfInBounds_toArray, List.set_cons_zero, List.set_cons_succ]
      refine plan_same 47 #[.int .i64 (p.b s.toNat)] rfl ?ck6f (fun w' => ?dk6f) (fun w' => hmk.out w') ?_
      case ck6f => rfl
      case dk6f => kernel_rfl
      simp only [Act.put, List.setIfInBounds_toArray, List.set_cons_zero, List.set_cons_succ]
      refine plan_val (v := .pointer (some ⟨gw, 6, none⟩)) rfl ?ck6g (fun w' _ => ?dk6g) ?_
      case ck6g => rfl
      case dk6g => kernel_rfl
      simp only [Act.put, List.setIfInBounds_toArray, List.set_cons_zero, List.set_cons_succ]
      refine plan_cell rfl ?ck6h 70 (.tmp 40) rfl gw 6 rfl (.func (.func 46) #[] #[]) _ ?dk6h Tryz.underlying70 rfl ?_
      case ck6h => rfl
      case dk6h => exact fun w' hC => by rw [cell_of_row w' gw 6 _ _ _ ((hC.block gw (heap_lt hW4)).trans hW4)]; rfl
      simp only [Act.put, List.setIfInBounds_toArray, List.set_cons_zero, List.set_cons_succ]
      refine plan_val (v := .pointer (some ⟨gg, 0, none⟩)) rfl ?ck6i (fun w' _ => ?dk6i) ?_
      case ck6i => rfl
      case dk6i => kernel_rfl
      simp only [Act.put, List.setIfInBounds_toArray, List.set_cons_zero, List.set_cons_succ]
      refine plan_load rfl ?ck6j 26 (.tmp 4) rfl w.heap.size 0 rfl (KM.pval p) _ ?dk6j Tryz.underlying26 rfl (hi26 p) ?_
      case ck6j => rfl
      case dk6j => exact fun w' hC => (hP4.below hC (heap_lt hP4)).part
      simp only [Act.put, List.setIfInBounds_toArray, List.set_cons_zero, List.set_cons_succ]
      refine plan_val (v := .int .i64 s) rfl ?ck6k (fun w' _ => ?dk6k) ?_
      case ck6k => rfl
      case dk6k => kernel_rfl
      simp only [Act.put, List.setIfInBounds_toArray, List.set_cons_zero, List.set_cons_succ]
      refine plan_call 46 #[.pointer (some ⟨gg, 0, none⟩), .agg (KM.pval p), .int .i64 s] rfl ?ck6l (fun w' => ?dk6l) ?_
      case ck6l => rfl
      case dk6l => kernel_rfl
      refine HWay.out.mono ?_
      rintro e w5 ⟨l, ⟨a, cap, rfl, hown, hb5⟩, hl, hin⟩
      have hb45 : Below w4.heap.size w4 w5 := (Below.refl _ _).drew.trans hb5
      refine ⟨_, rfl, hb45, ?_⟩
      simp only [Act.put, List.setIfInBounds_toArray, List.set_cons_zero, List.set_cons_succ]
      refine plan_val (v := .slice a l.length cap) rfl ?ck6m (fun w' _ => ?dk6m) ?_
      case ck6m => rfl
      case dk6m => kernel_rfl
      simp only [Act.put, List.setIfInBounds_toArray, List.set_cons_zero, List.set_cons_succ]
      simp only [wpPlan]
      have HCut := Lib.hid (show l.length ≤ 514 ∧ w5.ownsRow (w.heap.size + 1) 3 1 (.slice a l.length cap) l.length (KM.ints l) ∧ (∀ x ∈ l, (KM.sqR x = true ∧ KM.opn p x = true) ∧ (KM.kind (p.b s.toNat) = 1 → KM.fore p s x)) ∧ PBox w5 w.heap.size p ∧ Below w.heap.size w w5 from
        ⟨hl, ownsRow_base hown (by simp; omega), hin, hP4.below hb45 (heap_lt hP4), HB4.out.step hb45⟩)
      clear hown hin hb5 hb45
      go_wp2_with fail
      go_meet
      exact ⟨l, a, cap, rfl, HCut.out⟩
  case rest =>
  obtain ⟨l, a, cap, rfl, hl, hown, hin, hP, hb⟩ := hcut
  clear hW4 hP4 hG4 HF0 hS4
  have HI := Lib.hid hin
  have HB5 := Lib.hid hb
  have HP5 := Lib.hid hP
  have hso := sort_own (w.heap.size + 1) a cap l wc hown (by omega)
  have hPl := hP.lt
  clear hin hb hP
  obtain ⟨i0, hi, hz0, hz1, hz2⟩ := info_parts info35s
  go_wp2_with (go_at_call 48; refine hso.mono ?_; rintro e w6 ⟨rfl, ⟨l', hl1, hl2, hown6⟩, hg6⟩)
  have hb6 : Below (w.heap.size + 1) wc w6 := (Below.refl _ _).grown hg6 (by omega) (fun k hk => by have := hown.lt k hk; omega)
  have HP6 := Lib.hid (HP5.out.below hb6 (by omega))
  have HB6 := Lib.hid (HB5.out.trans (hb6.mono (by omega)))
  have HI6 := Lib.hid (show ∀ x ∈ l', (KM.sqR x = true ∧ KM.opn p x = true) ∧ (KM.kind (p.b s.toNat) = 1 → KM.fore p s x) from fun x hx => HI.out x (hl2 x hx))
  have HR6 := Lib.hid hown6
  have HLL := Lib.hid hl1
  have hz6 : w.heap.size + 1 ≤ w6.heap.size := Nat.le_trans (by omega) hb6.size
  clear hso hown hg6 hl2 hown6 hb6 HI HB5 HP5 hl1
  generalize l.length = n at *
  go_loopw [9, 50] (fun v9 v50 wr => ∃ (k : Nat) (ms : List (Int × Int × Int)) (b : Option Addr) (cb : Nat), v9 = .slice b ms.length cb ∧ v50 = .int .i64 k ∧ k ≤ n ∧ ms.length ≤ 4 * k ∧ wr.ownsRow (w.heap.size + 1) 35 3 (.slice b ms.length cb) ms.length (KM.mvs ms)
    ∧ (∀ m ∈ ms, KM.formed p m.1 m.2.1 m.2.2 = true) ∧ PBox wr w.heap.size p ∧ Below w.heap.size w wr ∧ wr.ownsRow (w.heap.size + 1) 3 1 (.slice a n cap) n (KM.ints l')) (fun _ v _ => n - (intOf v).toNat)
  case atStart => exact ⟨0, [], none, 0, rfl, rfl, by omega, by simp, World.ownsRow_nil _ _ _ _, fun m hm => (by cases hm), HP6.out, HB6.out, HR6.out⟩
  case round =>
    obtain ⟨k, ms, b, cb, rfl, rfl, hk, hms, hown, hfm, hP, hb, hrow⟩ := hrel
    have HO := Lib.hid hown
    have HFM := Lib.hid hfm
    have HBr := Lib.hid hb
    have HRr := Lib.hid hrow
    clear hfm
    by_cases hlt : k < n
    · obtain ⟨x, hx⟩ : ∃ x, l'[k]? = some x := ⟨_, List.getElem?_eq_getElem (by rw [HLL.out]; exact hlt)⟩
      obtain ⟨g2, cap2', he⟩ := ownsRow_some hrow (by omega)
      injection he with e1 e2 e3
      subst e1
      subst e3
      clear e2
      have c1 := hrow.cellAt k (by omega)
      rw [KM.ints_get hx] at c1
      have HX := Lib.hid (HI6.out x (List.mem_of_getElem? hx))
      obtain ⟨x0, x1⟩ := KM.sqR_iff.1 HX.out.1.1
      have hbsz := hb.size
      have hPl2 := hP.lt
      have htu := turned_any p s x wr hp s0 s1 (fun h1 h7 => KM.fore_last (HX.out.2 h1) (KM.wrong_zero HW.out).1 s0 s1 x0 x1 h7)
      clear hx hrow hown hb
      go_upto_region 11 with (first
        | (refine wpList_load_part rfl 26 (.tmp 4) rfl _ 0 rfl _ _ hP.part Tryz.underlying26 rfl (hi26 p) ?_)
        | (go_at_call 49; refine htu.mono ?_; rintro e w7 ⟨tm, ⟨a7, cap7, rfl, hown7, hb7⟩, htm, hin7⟩; have hownb := ownsRow_below HO.out hb7)
        | (at_builtin; refine wpList_append_row rfl _ _ 30 rfl (w.heap.size + 1) 35 i0 _ 3 24 Tryz.underlying30 hi hz0 hz1 hz2 rfl (by decide) _ _ _ rfl hownb _ tm.length wr.heap.size (KM.mvs tm) rfl hown7 KM.mvs_one ?c3 ?c4 ?c5 ?_))
      case c3 => unfold maxLen; omega
      case c4 => omega
      case c5 => exact Nat.le_trans (by omega) hb7.size
      intro v' w8 hown8 hg8
      obtain ⟨a8, cap8, rfl⟩ := ownsRow_shape hown8
      have hz7 := hb7.size
      have hbx : Below (w.heap.size + 1) w7 w8 := (Below.refl _ _).grown hg8 (by omega) (fun k hk => by have := hownb.lt k hk; omega)
      have hrow7 := ownsRow_below HRr.out hb7
      have HR8 := Lib.hid (hrow7.kept hg8 (ownsRow_apart hrow7 hownb (by decide)))
      have HP8 := Lib.hid ((hP.below hb7 hPl2).below hbx (by omega))
      have HB8 := Lib.hid ((HBr.out.step hb7).trans (hbx.mono (by omega)))
      have HO8 := Lib.hid hown8
      have HF8 := Lib.hid (show ∀ m ∈ ms ++ tm, KM.formed p m.1 m.2.1 m.2.2 = true from fun m hm => by
        rcases List.mem_append.1 hm with h | h
        · exact HFM.out m h
        · obtain ⟨h1, h2, h3⟩ := hin7 m h
          rw [h1, h2]
          unfold KM.formed KM.formed1
          rw [KM.sqR_iff.2 ⟨s0, s1⟩, HX.out.1.1, HX.out.1.2, h3]
          simp [HSD.out])
      clear hown8 hg8 hbx hrow7 hownb hown7 hb7 hin7 htu hP c1
      go_wp2_with fail
      go_roundw
      case rel => exact ⟨k + 1, ms ++ tm, a8, cap8, by simp, by go_num, by omega, by rw [List.length_append]; omega, by rw [KM.mvs_append]; simpa using HO8.out, HF8.out, HP8.out, HB8.out, HR8.out⟩
      case measure => simp [intOf]; omega
    · obtain rfl : k = n := by omega
      clear hP hown hrow hb
      go_wp2_with fail
      go_ret
      exact ⟨ms, ⟨b, cb, rfl, ownsRow_base HO.out (by omega), HBr.out⟩, by omega, by first | exact HFM.out | exact fun x y z h => HFM.out (x, y, z) h⟩

theorem gfrom_any (gg ge : Nat) (p : KM.Po) (s : Int) (w : World) (hp : p.wf) (hG : GBox w gg ge) (hw : KM.wrong p = 0) (s0 : 0 ≤ s) (s1 : s < 64) :
    Calls Tryz.prog 24 #[.pointer (some ⟨gg, 0, none⟩), .agg (KM.pval p), .int .i64 s] w fun e w' => ∃ l, RetMvs w l e w' ∧ l.length ≤ 2056 ∧ ∀ m ∈ l, KM.formed p m.1 m.2.1 m.2.2 = true := by
  by_cases hz : p.b s.toNat = 0
  · exact from_a gg ge p s w hp hG hw s0 s1 hz
  · by_cases hsd : KM.side (p.b s.toNat) = p.turn
    · exact from_c gg ge p s w hp hG hw s0 s1 hz hsd
    · exact from_b gg ge p s w hp hG hw s0 s1 hz hsd

end Go.Proofs.YtgikglnfjkbnhaaGreat
