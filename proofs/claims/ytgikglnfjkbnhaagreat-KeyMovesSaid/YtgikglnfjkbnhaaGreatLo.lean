/-
  gen.Each, gen.right, gen.All, gen.New, move.Make, walked.
-/
import Derived.Test.YtgikglnfjkbnhaaGreatLn
import Derived.Laws.ResultCell
namespace Go.Proofs.YtgikglnfjkbnhaaGreat
open Go.RowKit
set_option maxHeartbeats 1000000
set_option maxRecDepth 20000

theorem each_any (gg ge : Nat) (p : KM.Po) (w : World) (hp : p.wf) (hG : GBox w gg ge) (hw : KM.wrong p = 0) :
    Calls Tryz.prog 17 #[.pointer (some ⟨gg, 0, none⟩), .agg (KM.pval p)] w fun e w' => ∃ l, RetMvs w l e w' ∧ l.length ≤ 131584 ∧ ∀ m ∈ l, KM.formed p m.1 m.2.1 m.2.2 = true := by
  have hP := PBox.new w p
  have HB := Lib.hid ((Below.refl w.heap.size w).alloc (Nat.le_refl _) (Obj.cells (KM.pval p) 26))
  have hG0 := hG.below ((Below.refl w.heap.size w).alloc (Nat.le_refl _) (Obj.cells (KM.pval p) 26)) (heap_lt hG)
  have HW := Lib.hid hw
  obtain ⟨i0, hi, hz0, hz1, hz2⟩ := info_parts info35s
  have hgl := heap_lt hG
  clear hw hG
  go_enter Tryz.func17, Tryz.ntmps17
  go_wp2_with fail
  generalize w.alloc (Obj.cells (KM.pval p) 26) = w0 at *
  have HP0 := Lib.hid hP
  have HG0 := Lib.hid hG0
  clear hP hG0
  go_loopw [5, 7] (fun v5 v7 wr => ∃ (k : Nat) (ms : List (Int × Int × Int)) (b : Option Addr) (cb : Nat), v5 = .slice b ms.length cb ∧ v7 = .int .i64 k ∧ k ≤ 64 ∧ ms.length ≤ 2056 * k ∧ wr.ownsRow (w.heap.size + 1) 35 3 (.slice b ms.length cb) ms.length (KM.mvs ms)
    ∧ (∀ m ∈ ms, KM.formed p m.1 m.2.1 m.2.2 = true) ∧ PBox wr w.heap.size p ∧ GBox wr gg ge ∧ Below w.heap.size w wr) (fun _ v _ => 64 - (intOf v).toNat)
  case atStart => exact ⟨0, [], none, 0, rfl, rfl, by omega, by simp, World.ownsRow_nil _ _ _ _, fun m hm => (by cases hm), HP0.out, HG0.out, HB.out⟩
  case round =>
    obtain ⟨k, ms, b, cb, rfl, rfl, hk, hms, hown, hfm, hP, hG, hb⟩ := hrel
    have HO := Lib.hid hown
    have HFM := Lib.hid hfm
    have HBr := Lib.hid hb
    clear hfm
    by_cases hlt : k < 64
    · have hbsz := hb.size
      have hPl := hP.lt
      have hGl := heap_lt hG
      have HGr := Lib.hid hG
      have hfr := Lib.hid (gfrom_any gg ge p (k : Int) wr hp hG HW.out (by omega) (by omega))
      clear hown hb hG
      go_wp2_with (first
        | (refine wpList_load_part rfl 26 (.tmp 3) rfl _ 0 rfl _ _ hP.part Tryz.underlying26 rfl (hi26 p) ?_)
        | (go_at_call 24; refine hfr.out.mono ?_; rintro e w7 ⟨tm, ⟨a7, cap7, rfl, hown7, hb7⟩, htm, hin7⟩; have hownb := ownsRow_below HO.out hb7)
        | (at_builtin; refine wpList_append_row rfl _ _ 30 rfl (w.heap.size + 1) 35 i0 _ 3 24 Tryz.underlying30 hi hz0 hz1 hz2 rfl (by decide) _ _ _ rfl hownb _ tm.length wr.heap.size (KM.mvs tm) rfl hown7 KM.mvs_one ?c3 ?c4 ?c5 ?_))
      case c3 => unfold maxLen; omega
      case c4 => omega
      case c5 => exact Nat.le_trans (by omega) hb7.size
      intro v' w8 hown8 hg8
      obtain ⟨a8, cap8, rfl⟩ := ownsRow_shape hown8
      have hz7 := hb7.size
      have hbx : Below (w.heap.size + 1) w7 w8 := (Below.refl _ _).grown hg8 (by omega) (fun k hk => by have := hownb.lt k hk; omega)
      have HP8 := Lib.hid ((hP.below hb7 hPl).below hbx (by omega))
      have HG8 := Lib.hid ((HGr.out.below hb7 hGl).below hbx (by omega))
      have HB8 := Lib.hid ((HBr.out.step hb7).trans (hbx.mono (by omega)))
      have HO8 := Lib.hid hown8
      have HF8 := Lib.hid (show ∀ m ∈ ms ++ tm, KM.formed p m.1 m.2.1 m.2.2 = true from fun m hm => by
        rcases List.mem_append.1 hm with h | h
        · exact HFM.out m h
        · exact hin7 m h)
      clear hown8 hg8 hbx hownb hown7 hb7 hin7 hfr hP
      go_wp2_with fail
      go_roundw
      case rel => exact ⟨k + 1, ms ++ tm, a8, cap8, by simp, by go_num, by omega, by rw [List.length_append]; omega, by rw [KM.mvs_append]; simpa using HO8.out, HF8.out, HP8.out, HG8.out, HB8.out⟩
      case measure => simp [intOf]; omega
    · obtain rfl : k = 64 := by omega
      clear hP hG hown hb
      go_wp2_with fail
      go_ret
      exact ⟨ms, ⟨b, cb, rfl, ownsRow_base HO.out (by omega), HBr.out⟩, by omega, by first | exact HFM.out | exact fun x y z h => HFM.out (x, y, z) h⟩

theorem gright_any (gg : Nat) (p : KM.Po) (w : World) (hp : p.wf) :
    Calls Tryz.prog 16 #[.pointer (some ⟨gg, 0, none⟩), .agg (KM.pval p)] w fun e w' => e = .returned (.bool (KM.wrong p == 0)) ∧ Below w.heap.size w w' := by
  have hP := PBox.new w p
  have HB := Lib.hid ((Below.refl w.heap.size w).alloc (Nat.le_refl _) (Obj.cells (KM.pval p) 26))
  have hs : w.heap.size ≤ (w.alloc (Obj.cells (KM.pval p) 26)).heap.size := by simp
  go_enter Tryz.func16, Tryz.ntmps16
  go_upto_region 1 with fail
  generalize w.alloc (Obj.cells (KM.pval p) 26) = w0 at *
  go_wp2_with (first
    | (refine wpList_load_part rfl 26 (.tmp 3) rfl _ 0 rfl _ _ hP.part Tryz.underlying26 rfl (hi26 p) ?_)
    | (go_at_call 18; refine (posWrong_any p _ hp).mono ?_; rintro e w1 ⟨rfl, hb1⟩))
  go_ret
  exact ⟨rfl, HB.out.trans (hb1.mono hs)⟩

theorem all_any (gg ge : Nat) (p : KM.Po) (w : World) (hp : p.wf) (hG : GBox w gg ge) :
    Calls Tryz.prog 7 #[.pointer (some ⟨gg, 0, none⟩), .agg (KM.pval p)] w fun e w' => ∃ l, RetMvs w l e w' ∧ l.length ≤ 131584 ∧ (∀ m ∈ l, KM.formed p m.1 m.2.1 m.2.2 = true) ∧ (0 < l.length → KM.wrong p = 0) := by
  have hP := PBox.new w p
  have HB := Lib.hid ((Below.refl w.heap.size w).alloc (Nat.le_refl _) (Obj.cells (KM.pval p) 26))
  have hG0 := hG.below ((Below.refl w.heap.size w).alloc (Nat.le_refl _) (Obj.cells (KM.pval p) 26)) (heap_lt hG)
  have hs : w.heap.size ≤ (w.alloc (Obj.cells (KM.pval p) 26)).heap.size := by simp
  clear hG
  by_cases hw : KM.wrong p = 0
  · have hq := Lib.hid (show ∀ w', Calls Tryz.prog 16 #[.pointer (some ⟨gg, 0, none⟩), .agg (KM.pval p)] w' fun e w'' => e = .returned (.bool true) ∧ Below w'.heap.size w' w'' by
      intro w'; have h := gright_any gg p w' hp; rw [hw] at h; exact h)
    have HW := Lib.hid hw
    clear hw
    go_enter Tryz.func7, Tryz.ntmps7
    go_upto_region 1 with fail
    generalize w.alloc (Obj.cells (KM.pval p) 26) = w0 at *
    have hGl := heap_lt hG0
    go_wp2_with (first
      | (refine wpList_load_part rfl 26 (.tmp 3) rfl _ 0 rfl _ _ hP.part Tryz.underlying26 rfl (hi26 p) ?_)
      | (refine wpList_load_part rfl 26 (.tmp 3) rfl _ 0 rfl _ _ hP1.part Tryz.underlying26 rfl (hi26 p) ?_)
      | (go_at_call 16; refine (hq.out _).mono ?_; rintro e w1 ⟨rfl, hb1⟩; have hP1 := hP.below hb1 hP.lt; have hG1 := hG0.below hb1 hGl; have HB1 := Lib.hid (HB.out.trans (hb1.mono hs)); have hs1 := hb1.size; clear hb1)
      | (go_at_call 17; refine (each_any gg ge p _ hp hG1 HW.out).mono ?_; rintro e w2 ⟨l, ⟨a, cap, rfl, hown, hb2⟩, hl, hin⟩))
    go_ret
    exact ⟨l, ⟨a, cap, rfl, ownsRow_base hown (by omega), HB1.out.trans (hb2.mono (by omega))⟩, hl, by first | exact hin | exact fun x y z h => hin (x, y, z) h, fun _ => HW.out⟩
  · have hq := Lib.hid (show ∀ w', Calls Tryz.prog 16 #[.pointer (some ⟨gg, 0, none⟩), .agg (KM.pval p)] w' fun e w'' => e = .returned (.bool false) ∧ Below w'.heap.size w' w'' by
      intro w'; have h := gright_any gg p w' hp; rw [show (KM.wrong p == 0) = false by simp [hw]] at h; exact h)
    clear hw
    go_enter Tryz.func7, Tryz.ntmps7
    go_upto_region 1 with fail
    generalize w.alloc (Obj.cells (KM.pval p) 26) = w0 at *
    go_wp2_with (first
      | (refine wpList_load_part rfl 26 (.tmp 3) rfl _ 0 rfl _ _ hP.part Tryz.underlying26 rfl (hi26 p) ?_)
      | (go_at_call 16; refine (hq.out _).mono ?_; rintro e w1 ⟨rfl, hb1⟩))
    go_ret
    exact ⟨[], ⟨none, 0, rfl, World.ownsRow_nil _ _ _ _, HB.out.trans (hb1.mono hs)⟩, by simp, fun m hm => (by cases hm), fun h => absurd h (by simp)⟩

theorem gnew_any (w : World) : Calls Tryz.prog 6 #[] w fun e w' => ∃ gg ge, e = .returned (.pointer (some ⟨gg, 0, none⟩)) ∧ GBox w' gg ge ∧ Below w.heap.size w w' := by
  go_enter Tryz.func6, Tryz.ntmps6
  go_wp2_with (go_at_call 15; refine (attackNew_any _).mono ?_; rintro e w1 ⟨rfl, hb1⟩)
  go_ret
  exact ⟨w1.heap.size, w.heap.size, rfl, heap_alloc_new w1 _, hb1.alloc hb1.size _⟩

theorem results_cell_row_tmp {P : Program} {fn : Func} {p u : Tmp} {ty : TypeId} (h : fn.results = #[.cell p ty, .tmp u]) (tmps : Array Value) (w : World) (g : Nat) (t : TypeId) (cs : Array Value) (fr : Nat × Nat) (d : TypeDesc) (v : Value)
    (hp : tmps.getD p undef = .pointer (some ⟨g, 0, none⟩)) (hv : tmps.getD u undef = v) (hg : w.heap[g]? = some (.cells cs t fr))
    (hu : P.underlying ty = some d) (hd : (match d with | .struct _ | .array _ _ => true | _ => false) = true) (hi : (P.info? ty).map (·.size) = some cs.size) :
    (results fn tmps).run P w = .ok (.tuple #[.agg cs, v]) w := by
  rw [results_cell_tmp h, hp, hv]
  simp [asAddr, run_loadVar_row w g t ty cs fr d hg hu hd hi]

theorem make_any (p : KM.Po) (f t r : Int) (w : World) (hp : p.wf) (hw : KM.wrong p = 0) (hf : KM.formed p f t r = true) :
    Calls Tryz.prog 8 #[.agg (KM.pval p), .agg #[.int .i64 f, .int .i64 t, .int .i64 r]] w fun e w' => (∃ q : KM.Po, q.wf ∧ e = .returned (.tuple #[.agg (KM.pval q), .int .i64 0])) ∧ Below w.heap.size w w' := by
  have hP : PBox (((w.alloc (.cells (KM.pval p) 26)).alloc (.cells #[.int .i64 f, .int .i64 t, .int .i64 r] 35)).alloc (.cells Tryz.zeroCells26 26)) w.heap.size p := (pm_p p f t r w).below ((Below.refl _ _).alloc (Nat.le_refl _) _) (pm_p p f t r w).lt
  have hM : MBox (((w.alloc (.cells (KM.pval p) 26)).alloc (.cells #[.int .i64 f, .int .i64 t, .int .i64 r] 35)).alloc (.cells Tryz.zeroCells26 26)) (w.heap.size + 1) f t r := (pm_m p f t r w).below ((Below.refl _ _).alloc (Nat.le_refl _) _) (pm_m p f t r w).lt
  have hR : (((w.alloc (.cells (KM.pval p) 26)).alloc (.cells #[.int .i64 f, .int .i64 t, .int .i64 r] 35)).alloc (.cells Tryz.zeroCells26 26)).heap[w.heap.size + 1 + 1]? = some (.cells Tryz.zeroCells26 26 (0, 0)) := by
    have := heap_alloc_new ((w.alloc (.cells (KM.pval p) 26)).alloc (.cells #[.int .i64 f, .int .i64 t, .int .i64 r] 35)) (Obj.cells Tryz.zeroCells26 26)
    simpa using this
  have hS : w.heap.size + 3 ≤ (((w.alloc (.cells (KM.pval p) 26)).alloc (.cells #[.int .i64 f, .int .i64 t, .int .i64 r] 35)).alloc (.cells Tryz.zeroCells26 26)).heap.size := by simp
  have HB := Lib.hid ((pm_b p f t r w).alloc (by simp; omega) (Obj.cells Tryz.zeroCells26 26))
  have hf1 : KM.formed1 p f t = true := by unfold KM.formed at hf; rw [Bool.and_eq_true] at hf; exact hf.1
  have hf2 : KM.sqR f = true ∧ KM.sqR t = true := by
    unfold KM.formed1 at hf1
    simp only [Bool.and_eq_true] at hf1
    exact ⟨hf1.1.1.1, hf1.1.1.2⟩
  obtain ⟨f0, f1⟩ := KM.sqR_iff.1 hf2.1
  obtain ⟨t0, t1⟩ := KM.sqR_iff.1 hf2.2
  have HU := Lib.hid (KM.wrong_zero hw)
  have hq := Lib.hid (show ∀ w', Calls Tryz.prog 18 #[.agg (KM.pval p)] w' fun e w'' => e = .returned (.int .i64 0) ∧ Below w'.heap.size w' w'' by
    intro w'; have h := posWrong_any p w' hp; rw [hw] at h; exact h)
  have hq2 := Lib.hid (show ∀ w', Calls Tryz.prog 19 #[.agg (KM.pval p), .agg #[.int .i64 f, .int .i64 t, .int .i64 r]] w' fun e w'' => e = .returned (.bool true) ∧ Below w'.heap.size w' w'' by
    intro w'; have h := formed_any p f t r w' hp; rw [hf] at h; exact h)
  have HR := Lib.hid hR
  clear hf1 hf2 hf hw hR
  go_enter Tryz.func8, Tryz.ntmps8
  go_upto_region 1 with fail
  generalize (((w.alloc (.cells (KM.pval p) 26)).alloc (.cells #[.int .i64 f, .int .i64 t, .int .i64 r] 35)).alloc (.cells Tryz.zeroCells26 26)) = w0 at *
  go_upto_region 4 with (first
    | (refine wpList_load_part rfl 26 (.tmp 2) rfl _ 0 rfl _ _ hP.part Tryz.underlying26 rfl (hi26 p) ?_)
    | (go_at_call 18; refine (hq.out _).mono ?_; rintro e w1 ⟨rfl, hb1⟩))
  replace hP := hP.below hb1 (by omega)
  replace hM := hM.below hb1 (by omega)
  replace HR := Lib.hid ((hb1.block _ (by omega)).trans HR.out)
  replace HB := Lib.hid (HB.out.trans (hb1.mono (by omega)))
  replace hS := Nat.le_trans hS hb1.size
  clear hb1
  go_upto_region 6 with (first
    | (refine wpList_load_part rfl 26 (.tmp 2) rfl _ 0 rfl _ _ hP.part Tryz.underlying26 rfl (hi26 p) ?_)
    | (refine wpList_load_part rfl 35 (.tmp 3) rfl _ 0 rfl _ _ hM.part Tryz.underlying35 rfl (hi35 _ _ _) ?_)
    | (go_at_call 19; refine (hq2.out _).mono ?_; rintro e w2 ⟨rfl, hb2⟩))
  replace hP := hP.below hb2 (by omega)
  replace hM := hM.below hb2 (by omega)
  replace HR := Lib.hid ((hb2.block _ (by omega)).trans HR.out)
  replace HB := Lib.hid (HB.out.trans (hb2.mono (by omega)))
  replace hS := Nat.le_trans hS hb2.size
  clear hb2
  go_wp2_with (first
    | (refine wpList_load_part rfl 26 (.tmp 2) rfl _ 0 rfl _ _ hP.part Tryz.underlying26 rfl (hi26 p) ?_)
    | (refine wpList_load_part rfl 35 (.tmp 3) rfl _ 0 rfl _ _ hM.part Tryz.underlying35 rfl (hi35 _ _ _) ?_)
    | (go_at_call 20; refine (do_any p f t r _ hp f0 f1 t0 t1 HU.out.1 HU.out.2.1 HU.out.2.2).mono ?_; rintro e w3 ⟨⟨q, hqw, rfl⟩, hb3⟩; have hR3 := (hb3.block _ (by omega)).trans HR.out)
    | (refine wpList_store_row rfl 26 (.tmp 4) (.tmp 20) rfl _ (KM.pval q) rfl rfl 26 Tryz.zeroCells26 hR3 (hi26 q) (zero26_size q) (KM.pval_one q) ?_))
  refine bodyPost_ret (v := .tuple #[.agg (KM.pval q), .int .i64 0]) ?_ rfl ⟨⟨q, hqw, rfl⟩, ?_⟩
  · exact results_cell_row_tmp rfl _ _ (w.heap.size + 1 + 1) 26 (KM.pval q) (0, 0) _ _ rfl rfl (heap_setRow_same hR3) Tryz.underlying26 rfl (hi26 q)
  · exact below_setRow (HB.out.trans (hb3.mono (by omega))) (by omega)

end Go.Proofs.YtgikglnfjkbnhaaGreat
