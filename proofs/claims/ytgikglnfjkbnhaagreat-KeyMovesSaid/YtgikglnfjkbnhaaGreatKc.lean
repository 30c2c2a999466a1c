/-
  key.Behind: the key of another position, by what changed alone, walked.
-/
import Derived.Test.YtgikglnfjkbnhaaGreatKb
namespace Go.Proofs.YtgikglnfjkbnhaaGreat
open Go.RowKit
set_option maxHeartbeats 400000

theorem behind_any (k : Int) (p q : KM.Po) (w : World) (hp : p.wf) (hq : q.wf) :
    Calls Tryz.prog 9 #[.int .u64 k, .agg (KM.pval p), .agg (KM.pval q)] w fun e w' => e = .returned (.int .u64 (KM.behind k p q)) ∧ Below w.heap.size w w' := by
  have hP : PBox ((w.alloc (.cells (KM.pval p) 26)).alloc (.cells (KM.pval q) 26)) w.heap.size p := heap_alloc2_old w _ _
  have hQ : PBox ((w.alloc (.cells (KM.pval p) 26)).alloc (.cells (KM.pval q) 26)) (w.heap.size + 1) q := heap_alloc2_new w _ _
  have hB := Lib.hid (((Below.refl w.heap.size w).alloc (Nat.le_refl _) (Obj.cells (KM.pval p) 26)).alloc (by simp) (Obj.cells (KM.pval q) 26))
  go_enter Tryz.func9, Tryz.ntmps9
  go_wp2_with fail
  generalize (w.alloc (Obj.cells (KM.pval p) 26)).alloc (Obj.cells (KM.pval q) 26) = w0 at *
  go_loopw [0, 8] (fun x i wr => ∃ n : Nat, n ≤ 64 ∧ i = .int .i64 n ∧ x = .int .u64 (KM.bhTo k p q n) ∧ PBox wr w.heap.size p ∧ PBox wr (w.heap.size + 1) q ∧ Below w.heap.size w wr) (fun _ i _ => 64 - (intOf i).toNat)
  case atStart => exact ⟨0, Nat.zero_le _, rfl, rfl, hP, hQ, hB.out⟩
  case round =>
    obtain ⟨n, hn, rfl, rfl, hP1, hQ1, hB1⟩ := hrel
    have HB1 := Lib.hid hB1
    clear hB1
    by_cases hlt : n < 64
    · have c0 := fun i : Idx (w.heap.size + 2) wr => (hP1.idx (by omega) i).at hlt
      have c1 := fun i : Idx (w.heap.size + 2) wr => (hQ1.idx (by omega) i).at hlt
      obtain ⟨m0, m1⟩ := hp.b n hlt
      obtain ⟨m2, m3⟩ := hq.b n hlt
      go_wp2_with fail
      refine wp_region_idx (w.heap.size + 2) (by kernel_rfl) (by kernel_rfl) ?_
      repeat (first | go_big_quiet_skip | (go_big_quiet_want; go_big_quiet_op; go_big_quiet_on))
      refine wpQuiet_nil ?_
      intro w2 hw'
      have hb2 := Idx.get hw'
      clear hw' c0 c1
      have hP2 := hP1.below hb2 (by omega)
      have hQ2 := hQ1.below hb2 (by omega)
      have HB2 := Lib.hid (HB1.out.trans (hb2.mono (Nat.le_add_right _ 2)))
      clear hP1 hQ1 HB1 hb2
      by_cases hz : p.b n = q.b n
      · have bz : (p.b n != q.b n) = false := by simp [hz]
        have HZ := Lib.hid (show KM.bhTo k p q (n + 1) = KM.bhTo k p q n by rw [KM.bhTo, if_pos hz])
        clear hz
        go_wp2_with fail
        go_roundw
        case rel => exact ⟨n + 1, by omega, by go_num, by rw [HZ.out], hP2, hQ2, HB2.out⟩
        case measure => simp [intOf]; omega
      · have bz : (p.b n != q.b n) = true := by simp [hz]
        have HZ := Lib.hid (show KM.bhTo k p q (n + 1) = KM.xo (KM.bhTo k p q n) (KM.xo (KM.kman n (p.b n)) (KM.kman n (q.b n))) by rw [KM.bhTo, if_neg hz])
        clear hz
        have c0 := fun i : Idx (w.heap.size + 2) w2 => (hP2.idx (by omega) i).at hlt
        have c1 := fun i : Idx (w.heap.size + 2) w2 => (hQ2.idx (by omega) i).at hlt
        go_wp2_with fail
        refine wp_region_idx (w.heap.size + 2) (by kernel_rfl) (by kernel_rfl) ?_
        repeat (first | go_big_quiet_skip | (go_big_quiet_want; go_big_quiet_op; first | go_big_quiet_on | go_big_quiet_call ((go_at_call 14; exact Idx.calls_same (kman_any _ _ _ (by omega) (by omega) (by omega) (by omega))))))
        refine wpQuiet_nil ?_
        intro w3 hw'
        have hb3 := Idx.get hw'
        clear hw' c0 c1
        have hP3 := hP2.below hb3 (by omega)
        have hQ3 := hQ2.below hb3 (by omega)
        have HB3 := Lib.hid (HB2.out.trans (hb3.mono (Nat.le_add_right _ 2)))
        clear hP2 hQ2 HB2 hb3
        go_wp2_with fail
        go_roundw
        case rel => exact ⟨n + 1, by omega, by go_num, by rw [HZ.out]; rfl, hP3, hQ3, HB3.out⟩
        case measure => simp [intOf]; omega
    · obtain rfl : n = 64 := by omega
      go_wp2_with fail
      refine wp_region_idx (w.heap.size + 2) (by kernel_rfl) (by kernel_rfl) ?_
      have hz := hQ1.lt
      repeat (first | go_big_quiet_skip | (go_big_quiet_want; first
        | (refine quiet_load_part 26 (.tmp 4) rfl _ 0 rfl (by omega) _ _ hP1.part Tryz.underlying26 rfl (hi26 p) ?_; simp only [Act.put, List.setIfInBounds_toArray, List.set_cons_zero, List.set_cons_succ]; go_big_quiet_on)
        | (refine quiet_load_part 26 (.tmp 5) rfl _ 0 rfl (by omega) _ _ hQ1.part Tryz.underlying26 rfl (hi26 q) ?_; simp only [Act.put, List.setIfInBounds_toArray, List.set_cons_zero, List.set_cons_succ]; go_big_quiet_on)
        | (go_big_quiet_op; first | go_big_quiet_on | go_big_quiet_call ((first | (go_at_call_of 13 (KM.pval p); exact Idx.calls (by omega) (rest_any p _ hp)) | (go_at_call_of 13 (KM.pval q); exact Idx.calls (by omega) (rest_any q _ hq)))))))
      refine wpQuiet_nil ?_
      intro w2 hw'
      have hb2 := Idx.get hw'
      clear hw'
      have HB2 := Lib.hid (HB1.out.trans (hb2.mono (Nat.le_add_right _ 2)))
      go_wp2
      go_ret
      exact ⟨rfl, HB2.out⟩

end Go.Proofs.YtgikglnfjkbnhaaGreat
