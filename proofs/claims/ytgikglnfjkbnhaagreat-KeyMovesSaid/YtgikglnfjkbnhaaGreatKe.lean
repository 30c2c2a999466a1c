/-
  pos.Passed: the square of the pawn that went two squares, walked.
-/
import Derived.Test.YtgikglnfjkbnhaaGreatKd
namespace Go.Proofs.YtgikglnfjkbnhaaGreat
open Go.RowKit
set_option maxHeartbeats 400000

set_option maxHeartbeats 1000000 in
theorem posPassed_b (p : KM.Po) (w : World) (hp : p.wf) (h1 : p.turn = 1) :
    Calls Tryz.prog 26 #[.agg (KM.pval p)] w fun e w' => e = .returned (.tuple #[.int .i64 (KM.passN p), .bool (KM.passB p)]) ∧ Below w.heap.size w w' := by
  have hP := PBox.new w p
  have HB := Lib.hid ((Below.refl w.heap.size w).alloc (Nat.le_refl _) (Obj.cells (KM.pval p) 26))
  have hsz : w.heap.size < (w.alloc (Obj.cells (KM.pval p) 26)).heap.size := by simp
  have t64 := KM.pval_turn p
  obtain ⟨a0, a1⟩ := KM.ahead_range p.turn
  have b1 : (p.turn == 1) = true := by simp [h1]
  have hw : KM.want p = 2 := by unfold KM.want; rw [if_pos h1]
  clear h1
  by_cases h2 : KM.other p.turn < 0
  · have d2 : decide (KM.other p.turn < 0) = true := by simp [h2]
    have hf : KM.passB p = false := by unfold KM.passB KM.pass1; rw [show decide (0 ≤ KM.other p.turn) = false by simp; omega]; rfl
    have HV := Lib.hid (show KM.passN p = 0 by unfold KM.passN; rw [hf]; rfl)
    have HV2 := Lib.hid hf
    clear hf hw h2
    go_enter Tryz.func26, Tryz.ntmps26
    go_wp2_with fail
    generalize w.alloc (Obj.cells (KM.pval p) 26) = W at *
    have c64 := fun i : Idx (w.heap.size + 1) W => (hP.idx (by omega) i).turn
    have c66 := fun i : Idx (w.heap.size + 1) W => (hP.idx (by omega) i).ep
    refine wp_region_idx (w.heap.size + 1) (by kernel_rfl) (by kernel_rfl) ?_
    repeat (first | go_big_quiet_skip | (go_big_quiet_want; (go_big_quiet_op; first | go_big_quiet_on | go_big_quiet_call ((first | (go_at_call 54; exact Idx.calls_same (posAhead_any _ _)) | (go_at_call 53; exact Idx.calls_same (sqStep_any _ _ _ _)))))))
    refine wpQuiet_nil ?_
    intro w3 hwq
    have hbq := Idx.get hwq
    clear hwq
    replace hP := hP.below hbq (by omega)
    replace HB := Lib.hid (HB.out.trans (hbq.mono (Nat.le_add_right _ 1)))
    clear hbq
    clear c64 c66
    have c64 := fun i : Idx (w.heap.size + 1) w3 => (hP.idx (by omega) i).turn
    have c66 := fun i : Idx (w.heap.size + 1) w3 => (hP.idx (by omega) i).ep
    go_wp2_with fail
    refine wp_region_idx (w.heap.size + 1) (by kernel_rfl) (by kernel_rfl) ?_
    repeat (first | go_big_quiet_skip | (go_big_quiet_want; (go_big_quiet_op; first | go_big_quiet_on | go_big_quiet_call ((first | (go_at_call 54; exact Idx.calls_same (posAhead_any _ _)) | (go_at_call 53; exact Idx.calls_same (sqStep_any _ _ _ _)))))))
    refine wpQuiet_nil ?_
    intro w4 hwq
    have hbq := Idx.get hwq
    clear hwq
    replace hP := hP.below hbq (by omega)
    replace HB := Lib.hid (HB.out.trans (hbq.mono (Nat.le_add_right _ 1)))
    clear hbq
    clear c64 c66
    have c64 := hP.turn
    have c66 := hP.ep
    go_wp2_with (first | (go_at_call 27; refine (manOther_any _ _).mono ?_; rintro e w2 ⟨rfl, rfl⟩) | (go_at_call 35; refine (sqRank_any _ _).mono ?_; rintro e w2 ⟨rfl, rfl⟩))
    go_ret2
    exact ⟨by rw [HV.out, HV2.out]; rfl, HB.out⟩
  · have d2 : decide (KM.other p.turn < 0) = false := by simp; omega
    by_cases h3 : KM.rank p.ep = 2
    · have d3 : (KM.rank p.ep != 2) = false := by simp [h3]
      by_cases h4 : KM.bhB p = true
      · by_cases h5 : KM.frB p = true
        · have hp1 : KM.pass1 p = true := KM.pass1_iff.2 ⟨by omega, by rw [h3, hw], h4, h5⟩
          obtain ⟨r0, r1, -, s0, s1, -⟩ := KM.stepB_range h4
          obtain ⟨q0, q1, -, -, -, -⟩ := KM.stepB_range h5
          have e4 : KM.stepB p.ep 0 (KM.ahead p.turn) = true := h4
          have e5 : KM.stepB p.ep 0 (-(KM.ahead p.turn)) = true := h5
          obtain ⟨g00, g01⟩ := hp.b p.ep.toNat (by omega)
          obtain ⟨g10, g11⟩ := hp.b (KM.stepN p.ep 0 (KM.ahead p.turn)).toNat (by omega)
          obtain ⟨g20, g21⟩ := hp.b (KM.stepN p.ep 0 (-(KM.ahead p.turn))).toNat (by omega)
          clear h3 h4 h5 hw h2
          by_cases h6 : p.b p.ep.toNat = 0
          · have d6 : (p.b p.ep.toNat != 0) = false := by simp [h6]
            by_cases h7 : p.b (KM.stepN p.ep 0 (KM.ahead p.turn)).toNat = 0
            · have d7 : (p.b (KM.stepN p.ep 0 (KM.ahead p.turn)).toNat != 0) = false := by simp [h7]
              by_cases h8 : p.b (KM.stepN p.ep 0 (-(KM.ahead p.turn))).toNat = KM.mk 1 (KM.other p.turn)
              · have d8 : (p.b (KM.stepN p.ep 0 (-(KM.ahead p.turn))).toNat != KM.mk 1 (KM.other p.turn)) = false := by simp [h8]
                have hf : KM.passB p = true := by unfold KM.passB KM.pass2 KM.bhN KM.frN; rw [hp1, h6, h7, h8]; simp
                have HV := Lib.hid (show KM.passN p = KM.stepN p.ep 0 (-(KM.ahead p.turn)) by unfold KM.passN; rw [if_pos hf]; rfl)
                have HV2 := Lib.hid hf
                clear hf h6 h7 h8 hp1
                go_enter Tryz.func26, Tryz.ntmps26
                go_wp2_with fail
                generalize w.alloc (Obj.cells (KM.pval p) 26) = W at *
                have c64 := fun i : Idx (w.heap.size + 1) W => (hP.idx (by omega) i).turn
                have c66 := fun i : Idx (w.heap.size + 1) W => (hP.idx (by omega) i).ep
                refine wp_region_idx (w.heap.size + 1) (by kernel_rfl) (by kernel_rfl) ?_
                repeat (first | go_big_quiet_skip | (go_big_quiet_want; (go_big_quiet_op; first | go_big_quiet_on | go_big_quiet_call ((first | (go_at_call 54; exact Idx.calls_same (posAhead_any _ _)) | (go_at_call 53; exact Idx.calls_same (sqStep_any _ _ _ _)))))))
                refine wpQuiet_nil ?_
                intro w3 hwq
                have hbq := Idx.get hwq
                clear hwq
                replace hP := hP.below hbq (by omega)
                replace HB := Lib.hid (HB.out.trans (hbq.mono (Nat.le_add_right _ 1)))
                clear hbq
                clear c64 c66
                have c64 := fun i : Idx (w.heap.size + 1) w3 => (hP.idx (by omega) i).turn
                have c66 := fun i : Idx (w.heap.size + 1) w3 => (hP.idx (by omega) i).ep
                go_wp2_with fail
                refine wp_region_idx (w.heap.size + 1) (by kernel_rfl) (by kernel_rfl) ?_
                repeat (first | go_big_quiet_skip | (go_big_quiet_want; (go_big_quiet_op; first | go_big_quiet_on | go_big_quiet_call ((first | (go_at_call 54; exact Idx.calls_same (posAhead_any _ _)) | (go_at_call 53; exact Idx.calls_same (sqStep_any _ _ _ _)))))))
                refine wpQuiet_nil ?_
                intro w4 hwq
                have hbq := Idx.get hwq
                clear hwq
                replace hP := hP.below hbq (by omega)
                replace HB := Lib.hid (HB.out.trans (hbq.mono (Nat.le_add_right _ 1)))
                clear hbq
                clear c64 c66
                have c64 := hP.turn
                have c66 := hP.ep
                go_wp2_with (first | (go_at_call 27; refine (manOther_any _ _).mono ?_; rintro e w2 ⟨rfl, rfl⟩) | (go_at_call 35; refine (sqRank_any _ _).mono ?_; rintro e w2 ⟨rfl, rfl⟩))
                have k0 := fun i : Idx (w.heap.size + 1) w4 => (hP.idx (by omega) i).at (i := p.ep.toNat) (by omega)
                have k1 := fun i : Idx (w.heap.size + 1) w4 => (hP.idx (by omega) i).at (i := (KM.stepN p.ep 0 (KM.ahead p.turn)).toNat) (by omega)
                have k2 := fun i : Idx (w.heap.size + 1) w4 => (hP.idx (by omega) i).at (i := (KM.stepN p.ep 0 (-(KM.ahead p.turn))).toNat) (by omega)
                clear c64 c66
                have c64 := fun i : Idx (w.heap.size + 1) w4 => (hP.idx (by omega) i).turn
                have c66 := fun i : Idx (w.heap.size + 1) w4 => (hP.idx (by omega) i).ep
                refine wp_region_idx (w.heap.size + 1) (by kernel_rfl) (by kernel_rfl) ?_
                repeat (first | go_big_quiet_skip | (go_big_quiet_want; (go_big_quiet_op; first | go_big_quiet_on | go_big_quiet_call ((first | (go_at_call 27; exact Idx.calls_same (manOther_any _ _)) | (go_at_call 41; exact Idx.calls_same (manMake_any _ _ _)))))))
                refine wpQuiet_nil ?_
                intro w5 hwq
                have hbq := Idx.get hwq
                clear hwq
                replace hP := hP.below hbq (by omega)
                replace HB := Lib.hid (HB.out.trans (hbq.mono (Nat.le_add_right _ 1)))
                clear hbq
                clear c64 c66 k0 k1 k2
                go_wp2_with fail
                go_ret2
                exact ⟨by rw [HV.out, HV2.out]; rfl, HB.out⟩
              · have d8 : (p.b (KM.stepN p.ep 0 (-(KM.ahead p.turn))).toNat != KM.mk 1 (KM.other p.turn)) = true := by simp [h8]
                have hf : KM.passB p = false := by unfold KM.passB KM.pass2 KM.bhN KM.frN; simp [h8]
                have HV := Lib.hid (show KM.passN p = 0 by unfold KM.passN; rw [hf]; rfl)
                have HV2 := Lib.hid hf
                clear hf h6 h7 h8 hp1
                go_enter Tryz.func26, Tryz.ntmps26
                go_wp2_with fail
                generalize w.alloc (Obj.cells (KM.pval p) 26) = W at *
                have c64 := fun i : Idx (w.heap.size + 1) W => (hP.idx (by omega) i).turn
                have c66 := fun i : Idx (w.heap.size + 1) W => (hP.idx (by omega) i).ep
                refine wp_region_idx (w.heap.size + 1) (by kernel_rfl) (by kernel_rfl) ?_
                repeat (first | go_big_quiet_skip | (go_big_quiet_want; (go_big_quiet_op; first | go_big_quiet_on | go_big_quiet_call ((first | (go_at_call 54; exact Idx.calls_same (posAhead_any _ _)) | (go_at_call 53; exact Idx.calls_same (sqStep_any _ _ _ _)))))))
                refine wpQuiet_nil ?_
                intro w3 hwq
                have hbq := Idx.get hwq
                clear hwq
                replace hP := hP.below hbq (by omega)
                replace HB := Lib.hid (HB.out.trans (hbq.mono (Nat.le_add_right _ 1)))
                clear hbq
                clear c64 c66
                have c64 := fun i : Idx (w.heap.size + 1) w3 => (hP.idx (by omega) i).turn
                have c66 := fun i : Idx (w.heap.size + 1) w3 => (hP.idx (by omega) i).ep
                go_wp2_with fail
                refine wp_region_idx (w.heap.size + 1) (by kernel_rfl) (by kernel_rfl) ?_
                repeat (first | go_big_quiet_skip | (go_big_quiet_want; (go_big_quiet_op; first | go_big_quiet_on | go_big_quiet_call ((first | (go_at_call 54; exact Idx.calls_same (posAhead_any _ _)) | (go_at_call 53; exact Idx.calls_same (sqStep_any _ _ _ _)))))))
                refine wpQuiet_nil ?_
                intro w4 hwq
                have hbq := Idx.get hwq
                clear hwq
                replace hP := hP.below hbq (by omega)
                replace HB := Lib.hid (HB.out.trans (hbq.mono (Nat.le_add_right _ 1)))
                clear hbq
                clear c64 c66
                have c64 := hP.turn
                have c66 := hP.ep
                go_wp2_with (first | (go_at_call 27; refine (manOther_any _ _).mono ?_; rintro e w2 ⟨rfl, rfl⟩) | (go_at_call 35; refine (sqRank_any _ _).mono ?_; rintro e w2 ⟨rfl, rfl⟩))
                have k0 := fun i : Idx (w.heap.size + 1) w4 => (hP.idx (by omega) i).at (i := p.ep.toNat) (by omega)
                have k1 := fun i : Idx (w.heap.size + 1) w4 => (hP.idx (by omega) i).at (i := (KM.stepN p.ep 0 (KM.ahead p.turn)).toNat) (by omega)
                have k2 := fun i : Idx (w.heap.size + 1) w4 => (hP.idx (by omega) i).at (i := (KM.stepN p.ep 0 (-(KM.ahead p.turn))).toNat) (by omega)
                clear c64 c66
                have c64 := fun i : Idx (w.heap.size + 1) w4 => (hP.idx (by omega) i).turn
                have c66 := fun i : Idx (w.heap.size + 1) w4 => (hP.idx (by omega) i).ep
                refine wp_region_idx (w.heap.size + 1) (by kernel_rfl) (by kernel_rfl) ?_
                repeat (first | go_big_quiet_skip | (go_big_quiet_want; (go_big_quiet_op; first | go_big_quiet_on | go_big_quiet_call ((first | (go_at_call 27; exact Idx.calls_same (manOther_any _ _)) | (go_at_call 41; exact Idx.calls_same (manMake_any _ _ _)))))))
                refine wpQuiet_nil ?_
                intro w5 hwq
                have hbq := Idx.get hwq
                clear hwq
                replace hP := hP.below hbq (by omega)
                replace HB := Lib.hid (HB.out.trans (hbq.mono (Nat.le_add_right _ 1)))
                clear hbq
                clear c64 c66 k0 k1 k2
                go_wp2_with fail
                go_ret2
                exact ⟨by rw [HV.out, HV2.out]; rfl, HB.out⟩
            · have d7 : (p.b (KM.stepN p.ep 0 (KM.ahead p.turn)).toNat != 0) = true := by simp [h7]
              have hf : KM.passB p = false := by unfold KM.passB KM.pass2 KM.bhN KM.frN; simp [h7]
              have HV := Lib.hid (show KM.passN p = 0 by unfold KM.passN; rw [hf]; rfl)
              have HV2 := Lib.hid hf
              clear hf h6 h7 hp1
              go_enter Tryz.func26, Tryz.ntmps26
              go_wp2_with fail
              generalize w.alloc (Obj.cells (KM.pval p) 26) = W at *
              have c64 := fun i : Idx (w.heap.size + 1) W => (hP.idx (by omega) i).turn
              have c66 := fun i : Idx (w.heap.size + 1) W => (hP.idx (by omega) i).ep
              refine wp_region_idx (w.heap.size + 1) (by kernel_rfl) (by kernel_rfl) ?_
              repeat (first | go_big_quiet_skip | (go_big_quiet_want; (go_big_quiet_op; first | go_big_quiet_on | go_big_quiet_call ((first | (go_at_call 54; exact Idx.calls_same (posAhead_any _ _)) | (go_at_call 53; exact Idx.calls_same (sqStep_any _ _ _ _)))))))
              refine wpQuiet_nil ?_
              intro w3 hwq
              have hbq := Idx.get hwq
              clear hwq
              replace hP := hP.below hbq (by omega)
              replace HB := Lib.hid (HB.out.trans (hbq.mono (Nat.le_add_right _ 1)))
              clear hbq
              clear c64 c66
              have c64 := fun i : Idx (w.heap.size + 1) w3 => (hP.idx (by omega) i).turn
              have c66 := fun i : Idx (w.heap.size + 1) w3 => (hP.idx (by omega) i).ep
              go_wp2_with fail
              refine wp_region_idx (w.heap.size + 1) (by kernel_rfl) (by kernel_rfl) ?_
              repeat (first | go_big_quiet_skip | (go_big_quiet_want; (go_big_quiet_op; first | go_big_quiet_on | go_big_quiet_call ((first | (go_at_call 54; exact Idx.calls_same (posAhead_any _ _)) | (go_at_call 53; exact Idx.calls_same (sqStep_any _ _ _ _)))))))
              refine wpQuiet_nil ?_
              intro w4 hwq
              have hbq := Idx.get hwq
              clear hwq
              replace hP := hP.below hbq (by omega)
              replace HB := Lib.hid (HB.out.trans (hbq.mono (Nat.le_add_right _ 1)))
              clear hbq
              clear c64 c66
              have c64 := hP.turn
              have c66 := hP.ep
              go_wp2_with (first | (go_at_call 27; refine (manOther_any _ _).mono ?_; rintro e w2 ⟨rfl, rfl⟩) | (go_at_call 35; refine (sqRank_any _ _).mono ?_; rintro e w2 ⟨rfl, rfl⟩))
              have k0 := fun i : Idx (w.heap.size + 1) w4 => (hP.idx (by omega) i).at (i := p.ep.toNat) (by omega)
              have k1 := fun i : Idx (w.heap.size + 1) w4 => (hP.idx (by omega) i).at (i := (KM.stepN p.ep 0 (KM.ahead p.turn)).toNat) (by omega)
              have k2 := fun i : Idx (w.heap.size + 1) w4 => (hP.idx (by omega) i).at (i := (KM.stepN p.ep 0 (-(KM.ahead p.turn))).toNat) (by omega)
              clear c64 c66
              have c64 := fun i : Idx (w.heap.size + 1) w4 => (hP.idx (by omega) i).turn
              have c66 := fun i : Idx (w.heap.size + 1) w4 => (hP.idx (by omega) i).ep
              refine wp_region_idx (w.heap.size + 1) (by kernel_rfl) (by kernel_rfl) ?_
              repeat (first | go_big_quiet_skip | (go_big_quiet_want; (go_big_quiet_op; first | go_big_quiet_on | go_big_quiet_call ((first | (go_at_call 27; exact Idx.calls_same (manOther_any _ _)) | (go_at_call 41; exact Idx.calls_same (manMake_any _ _ _)))))))
              refine wpQuiet_nil ?_
              intro w5 hwq
              have hbq := Idx.get hwq
              clear hwq
              replace hP := hP.below hbq (by omega)
              replace HB := Lib.hid (HB.out.trans (hbq.mono (Nat.le_add_right _ 1)))
              clear hbq
              clear c64 c66 k0 k1 k2
              go_wp2_with fail
              go_ret2
              exact ⟨by rw [HV.out, HV2.out]; rfl, HB.out⟩
          · have d6 : (p.b p.ep.toNat != 0) = true := by simp [h6]
            have hf : KM.passB p = false := by unfold KM.passB KM.pass2 KM.bhN KM.frN; simp [h6]
            have HV := Lib.hid (show KM.passN p = 0 by unfold KM.passN; rw [hf]; rfl)
            have HV2 := Lib.hid hf
            clear hf h6 hp1
            go_enter Tryz.func26, Tryz.ntmps26
            go_wp2_with fail
            generalize w.alloc (Obj.cells (KM.pval p) 26) = W at *
            have c64 := fun i : Idx (w.heap.size + 1) W => (hP.idx (by omega) i).turn
            have c66 := fun i : Idx (w.heap.size + 1) W => (hP.idx (by omega) i).ep
            refine wp_region_idx (w.heap.size + 1) (by kernel_rfl) (by kernel_rfl) ?_
            repeat (first | go_big_quiet_skip | (go_big_quiet_want; (go_big_quiet_op; first | go_big_quiet_on | go_big_quiet_call ((first | (go_at_call 54; exact Idx.calls_same (posAhead_any _ _)) | (go_at_call 53; exact Idx.calls_same (sqStep_any _ _ _ _)))))))
            refine wpQuiet_nil ?_
            intro w3 hwq
            have hbq := Idx.get hwq
            clear hwq
            replace hP := hP.below hbq (by omega)
            replace HB := Lib.hid (HB.out.trans (hbq.mono (Nat.le_add_right _ 1)))
            clear hbq
            clear c64 c66
            have c64 := fun i : Idx (w.heap.size + 1) w3 => (hP.idx (by omega) i).turn
            have c66 := fun i : Idx (w.heap.size + 1) w3 => (hP.idx (by omega) i).ep
            go_wp2_with fail
            refine wp_region_idx (w.heap.size + 1) (by kernel_rfl) (by kernel_rfl) ?_
            repeat (first | go_big_quiet_skip | (go_big_quiet_want; (go_big_quiet_op; first | go_big_quiet_on | go_big_quiet_call ((first | (go_at_call 54; exact Idx.calls_same (posAhead_any _ _)) | (go_at_call 53; exact Idx.calls_same (sqStep_any _ _ _ _)))))))
            refine wpQuiet_nil ?_
            intro w4 hwq
            have hbq := Idx.get hwq
            clear hwq
            replace hP := hP.below hbq (by omega)
            replace HB := Lib.hid (HB.out.trans (hbq.mono (Nat.le_add_right _ 1)))
            clear hbq
            clear c64 c66
            have c64 := hP.turn
            have c66 := hP.ep
            go_wp2_with (first | (go_at_call 27; refine (manOther_any _ _).mono ?_; rintro e w2 ⟨rfl, rfl⟩) | (go_at_call 35; refine (sqRank_any _ _).mono ?_; rintro e w2 ⟨rfl, rfl⟩))
            have k0 := fun i : Idx (w.heap.size + 1) w4 => (hP.idx (by omega) i).at (i := p.ep.toNat) (by omega)
            have k1 := fun i : Idx (w.heap.size + 1) w4 => (hP.idx (by omega) i).at (i := (KM.stepN p.ep 0 (KM.ahead p.turn)).toNat) (by omega)
            have k2 := fun i : Idx (w.heap.size + 1) w4 => (hP.idx (by omega) i).at (i := (KM.stepN p.ep 0 (-(KM.ahead p.turn))).toNat) (by omega)
            clear c64 c66
            have c64 := fun i : Idx (w.heap.size + 1) w4 => (hP.idx (by omega) i).turn
            have c66 := fun i : Idx (w.heap.size + 1) w4 => (hP.idx (by omega) i).ep
            refine wp_region_idx (w.heap.size + 1) (by kernel_rfl) (by kernel_rfl) ?_
            repeat (first | go_big_quiet_skip | (go_big_quiet_want; (go_big_quiet_op; first | go_big_quiet_on | go_big_quiet_call ((first | (go_at_call 27; exact Idx.calls_same (manOther_any _ _)) | (go_at_call 41; exact Idx.calls_same (manMake_any _ _ _)))))))
            refine wpQuiet_nil ?_
            intro w5 hwq
            have hbq := Idx.get hwq
            clear hwq
            replace hP := hP.below hbq (by omega)
            replace HB := Lib.hid (HB.out.trans (hbq.mono (Nat.le_add_right _ 1)))
            clear hbq
            clear c64 c66 k0 k1 k2
            go_wp2_with fail
            go_ret2
            exact ⟨by rw [HV.out, HV2.out]; rfl, HB.out⟩
        · replace h5 := Bool.eq_false_iff.2 h5
          have hf : KM.passB p = false := by unfold KM.passB KM.pass1; rw [h5]; simp
          have HV := Lib.hid (show KM.passN p = 0 by unfold KM.passN; rw [hf]; rfl)
          have HV2 := Lib.hid hf
          have e4 : KM.stepB p.ep 0 (KM.ahead p.turn) = true := h4
          have e5 : KM.stepB p.ep 0 (-(KM.ahead p.turn)) = false := h5
          clear h3 h4 h5
          clear hf hw h2
          go_enter Tryz.func26, Tryz.ntmps26
          go_wp2_with fail
          generalize w.alloc (Obj.cells (KM.pval p) 26) = W at *
          have c64 := fun i : Idx (w.heap.size + 1) W => (hP.idx (by omega) i).turn
          have c66 := fun i : Idx (w.heap.size + 1) W => (hP.idx (by omega) i).ep
          refine wp_region_idx (w.heap.size + 1) (by kernel_rfl) (by kernel_rfl) ?_
          repeat (first | go_big_quiet_skip | (go_big_quiet_want; (go_big_quiet_op; first | go_big_quiet_on | go_big_quiet_call ((first | (go_at_call 54; exact Idx.calls_same (posAhead_any _ _)) | (go_at_call 53; exact Idx.calls_same (sqStep_any _ _ _ _)))))))
          refine wpQuiet_nil ?_
          intro w3 hwq
          have hbq := Idx.get hwq
          clear hwq
          replace hP := hP.below hbq (by omega)
          replace HB := Lib.hid (HB.out.trans (hbq.mono (Nat.le_add_right _ 1)))
          clear hbq
          clear c64 c66
          have c64 := fun i : Idx (w.heap.size + 1) w3 => (hP.idx (by omega) i).turn
          have c66 := fun i : Idx (w.heap.size + 1) w3 => (hP.idx (by omega) i).ep
          go_wp2_with fail
          refine wp_region_idx (w.heap.size + 1) (by kernel_rfl) (by kernel_rfl) ?_
          repeat (first | go_big_quiet_skip | (go_big_quiet_want; (go_big_quiet_op; first | go_big_quiet_on | go_big_quiet_call ((first | (go_at_call 54; exact Idx.calls_same (posAhead_any _ _)) | (go_at_call 53; exact Idx.calls_same (sqStep_any _ _ _ _)))))))
          refine wpQuiet_nil ?_
          intro w4 hwq
          have hbq := Idx.get hwq
          clear hwq
          replace hP := hP.below hbq (by omega)
          replace HB := Lib.hid (HB.out.trans (hbq.mono (Nat.le_add_right _ 1)))
          clear hbq
          clear c64 c66
          have c64 := hP.turn
          have c66 := hP.ep
          go_wp2_with (first | (go_at_call 27; refine (manOther_any _ _).mono ?_; rintro e w2 ⟨rfl, rfl⟩) | (go_at_call 35; refine (sqRank_any _ _).mono ?_; rintro e w2 ⟨rfl, rfl⟩))
          go_ret2
          exact ⟨by rw [HV.out, HV2.out]; rfl, HB.out⟩
      · replace h4 := Bool.eq_false_iff.2 h4
        have hf : KM.passB p = false := by unfold KM.passB KM.pass1; rw [h4]; simp
        have HV := Lib.hid (show KM.passN p = 0 by unfold KM.passN; rw [hf]; rfl)
        have HV2 := Lib.hid hf
        have e4 : KM.stepB p.ep 0 (KM.ahead p.turn) = false := h4
        clear h3 h4
        clear hf hw h2
        go_enter Tryz.func26, Tryz.ntmps26
        go_wp2_with fail
        generalize w.alloc (Obj.cells (KM.pval p) 26) = W at *
        have c64 := fun i : Idx (w.heap.size + 1) W => (hP.idx (by omega) i).turn
        have c66 := fun i : Idx (w.heap.size + 1) W => (hP.idx (by omega) i).ep
        refine wp_region_idx (w.heap.size + 1) (by kernel_rfl) (by kernel_rfl) ?_
        repeat (first | go_big_quiet_skip | (go_big_quiet_want; (go_big_quiet_op; first | go_big_quiet_on | go_big_quiet_call ((first | (go_at_call 54; exact Idx.calls_same (posAhead_any _ _)) | (go_at_call 53; exact Idx.calls_same (sqStep_any _ _ _ _)))))))
        refine wpQuiet_nil ?_
        intro w3 hwq
        have hbq := Idx.get hwq
        clear hwq
        replace hP := hP.below hbq (by omega)
        replace HB := Lib.hid (HB.out.trans (hbq.mono (Nat.le_add_right _ 1)))
        clear hbq
        clear c64 c66
        have c64 := fun i : Idx (w.heap.size + 1) w3 => (hP.idx (by omega) i).turn
        have c66 := fun i : Idx (w.heap.size + 1) w3 => (hP.idx (by omega) i).ep
        go_wp2_with fail
        refine wp_region_idx (w.heap.size + 1) (by kernel_rfl) (by kernel_rfl) ?_
        repeat (first | go_big_quiet_skip | (go_big_quiet_want; (go_big_quiet_op; first | go_big_quiet_on | go_big_quiet_call ((first | (go_at_call 54; exact Idx.calls_same (posAhead_any _ _)) | (go_at_call 53; exact Idx.calls_same (sqStep_any _ _ _ _)))))))
        refine wpQuiet_nil ?_
        intro w4 hwq
        have hbq := Idx.get hwq
        clear hwq
        replace hP := hP.below hbq (by omega)
        replace HB := Lib.hid (HB.out.trans (hbq.mono (Nat.le_add_right _ 1)))
        clear hbq
        clear c64 c66
        have c64 := hP.turn
        have c66 := hP.ep
        go_wp2_with (first | (go_at_call 27; refine (manOther_any _ _).mono ?_; rintro e w2 ⟨rfl, rfl⟩) | (go_at_call 35; refine (sqRank_any _ _).mono ?_; rintro e w2 ⟨rfl, rfl⟩))
        go_ret2
        exact ⟨by rw [HV.out, HV2.out]; rfl, HB.out⟩
    · have d3 : (KM.rank p.ep != 2) = true := by simp [h3]
      have hf : KM.passB p = false := by unfold KM.passB KM.pass1; rw [hw]; simp [h3]
      have HV := Lib.hid (show KM.passN p = 0 by unfold KM.passN; rw [hf]; rfl)
      have HV2 := Lib.hid hf
      clear h3
      clear hf hw h2
      go_enter Tryz.func26, Tryz.ntmps26
      go_wp2_with fail
      generalize w.alloc (Obj.cells (KM.pval p) 26) = W at *
      have c64 := fun i : Idx (w.heap.size + 1) W => (hP.idx (by omega) i).turn
      have c66 := fun i : Idx (w.heap.size + 1) W => (hP.idx (by omega) i).ep
      refine wp_region_idx (w.heap.size + 1) (by kernel_rfl) (by kernel_rfl) ?_
      repeat (first | go_big_quiet_skip | (go_big_quiet_want; (go_big_quiet_op; first | go_big_quiet_on | go_big_quiet_call ((first | (go_at_call 54; exact Idx.calls_same (posAhead_any _ _)) | (go_at_call 53; exact Idx.calls_same (sqStep_any _ _ _ _)))))))
      refine wpQuiet_nil ?_
      intro w3 hwq
      have hbq := Idx.get hwq
      clear hwq
      replace hP := hP.below hbq (by omega)
      replace HB := Lib.hid (HB.out.trans (hbq.mono (Nat.le_add_right _ 1)))
      clear hbq
      clear c64 c66
      have c64 := fun i : Idx (w.heap.size + 1) w3 => (hP.idx (by omega) i).turn
      have c66 := fun i : Idx (w.heap.size + 1) w3 => (hP.idx (by omega) i).ep
      go_wp2_with fail
      refine wp_region_idx (w.heap.size + 1) (by kernel_rfl) (by kernel_rfl) ?_
      repeat (first | go_big_quiet_skip | (go_big_quiet_want; (go_big_quiet_op; first | go_big_quiet_on | go_big_quiet_call ((first | (go_at_call 54; exact Idx.calls_same (posAhead_any _ _)) | (go_at_call 53; exact Idx.calls_same (sqStep_any _ _ _ _)))))))
      refine wpQuiet_nil ?_
      intro w4 hwq
      have hbq := Idx.get hwq
      clear hwq
      replace hP := hP.below hbq (by omega)
      replace HB := Lib.hid (HB.out.trans (hbq.mono (Nat.le_add_right _ 1)))
      clear hbq
      clear c64 c66
      have c64 := hP.turn
      have c66 := hP.ep
      go_wp2_with (first | (go_at_call 27; refine (manOther_any _ _).mono ?_; rintro e w2 ⟨rfl, rfl⟩) | (go_at_call 35; refine (sqRank_any _ _).mono ?_; rintro e w2 ⟨rfl, rfl⟩))
      go_ret2
      exact ⟨by rw [HV.out, HV2.out]; rfl, HB.out⟩

set_option maxHeartbeats 1000000 in
theorem posPassed_w (p : KM.Po) (w : World) (hp : p.wf) (h1 : ¬ p.turn = 1) :
    Calls Tryz.prog 26 #[.agg (KM.pval p)] w fun e w' => e = .returned (.tuple #[.int .i64 (KM.passN p), .bool (KM.passB p)]) ∧ Below w.heap.size w w' := by
  have hP := PBox.new w p
  have HB := Lib.hid ((Below.refl w.heap.size w).alloc (Nat.le_refl _) (Obj.cells (KM.pval p) 26))
  have hsz : w.heap.size < (w.alloc (Obj.cells (KM.pval p) 26)).heap.size := by simp
  have t64 := KM.pval_turn p
  obtain ⟨a0, a1⟩ := KM.ahead_range p.turn
  have b1 : (p.turn == 1) = false := by simp [h1]
  have hw : KM.want p = 5 := by unfold KM.want; rw [if_neg h1]
  clear h1
  by_cases h2 : KM.other p.turn < 0
  · have d2 : decide (KM.other p.turn < 0) = true := by simp [h2]
    have hf : KM.passB p = false := by unfold KM.passB KM.pass1; rw [show decide (0 ≤ KM.other p.turn) = false by simp; omega]; rfl
    have HV := Lib.hid (show KM.passN p = 0 by unfold KM.passN; rw [hf]; rfl)
    have HV2 := Lib.hid hf
    clear hf hw h2
    go_enter Tryz.func26, Tryz.ntmps26
    go_wp2_with fail
    generalize w.alloc (Obj.cells (KM.pval p) 26) = W at *
    have c64 := fun i : Idx (w.heap.size + 1) W => (hP.idx (by omega) i).turn
    have c66 := fun i : Idx (w.heap.size + 1) W => (hP.idx (by omega) i).ep
    refine wp_region_idx (w.heap.size + 1) (by kernel_rfl) (by kernel_rfl) ?_
    repeat (first | go_big_quiet_skip | (go_big_quiet_want; (go_big_quiet_op; first | go_big_quiet_on | go_big_quiet_call ((first | (go_at_call 54; exact Idx.calls_same (posAhead_any _ _)) | (go_at_call 53; exact Idx.calls_same (sqStep_any _ _ _ _)))))))
    refine wpQuiet_nil ?_
    intro w3 hwq
    have hbq := Idx.get hwq
    clear hwq
    replace hP := hP.below hbq (by omega)
    replace HB := Lib.hid (HB.out.trans (hbq.mono (Nat.le_add_right _ 1)))
    clear hbq
    clear c64 c66
    have c64 := fun i : Idx (w.heap.size + 1) w3 => (hP.idx (by omega) i).turn
    have c66 := fun i : Idx (w.heap.size + 1) w3 => (hP.idx (by omega) i).ep
    go_wp2_with fail
    refine wp_region_idx (w.heap.size + 1) (by kernel_rfl) (by kernel_rfl) ?_
    repeat (first | go_big_quiet_skip | (go_big_quiet_want; (go_big_quiet_op; first | go_big_quiet_on | go_big_quiet_call ((first | (go_at_call 54; exact Idx.calls_same (posAhead_any _ _)) | (go_at_call 53; exact Idx.calls_same (sqStep_any _ _ _ _)))))))
    refine wpQuiet_nil ?_
    intro w4 hwq
    have hbq := Idx.get hwq
    clear hwq
    replace hP := hP.below hbq (by omega)
    replace HB := Lib.hid (HB.out.trans (hbq.mono (Nat.le_add_right _ 1)))
    clear hbq
    clear c64 c66
    have c64 := hP.turn
    have c66 := hP.ep
    go_wp2_with (first | (go_at_call 27; refine (manOther_any _ _).mono ?_; rintro e w2 ⟨rfl, rfl⟩) | (go_at_call 35; refine (sqRank_any _ _).mono ?_; rintro e w2 ⟨rfl, rfl⟩))
    go_ret2
    exact ⟨by rw [HV.out, HV2.out]; rfl, HB.out⟩
  · have d2 : decide (KM.other p.turn < 0) = false := by simp; omega
    by_cases h3 : KM.rank p.ep = 5
    · have d3 : (KM.rank p.ep != 5) = false := by simp [h3]
      by_cases h4 : KM.bhB p = true
      · by_cases h5 : KM.frB p = true
        · have hp1 : KM.pass1 p = true := KM.pass1_iff.2 ⟨by omega, by rw [h3, hw], h4, h5⟩
          obtain ⟨r0, r1, -, s0, s1, -⟩ := KM.stepB_range h4
          obtain ⟨q0, q1, -, -, -, -⟩ := KM.stepB_range h5
          have e4 : KM.stepB p.ep 0 (KM.ahead p.turn) = true := h4
          have e5 : KM.stepB p.ep 0 (-(KM.ahead p.turn)) = true := h5
          obtain ⟨g00, g01⟩ := hp.b p.ep.toNat (by omega)
          obtain ⟨g10, g11⟩ := hp.b (KM.stepN p.ep 0 (KM.ahead p.turn)).toNat (by omega)
          obtain ⟨g20, g21⟩ := hp.b (KM.stepN p.ep 0 (-(KM.ahead p.turn))).toNat (by omega)
          clear h3 h4 h5 hw h2
          by_cases h6 : p.b p.ep.toNat = 0
          · have d6 : (p.b p.ep.toNat != 0) = false := by simp [h6]
            by_cases h7 : p.b (KM.stepN p.ep 0 (KM.ahead p.turn)).toNat = 0
            · have d7 : (p.b (KM.stepN p.ep 0 (KM.ahead p.turn)).toNat != 0) = false := by simp [h7]
              by_cases h8 : p.b (KM.stepN p.ep 0 (-(KM.ahead p.turn))).toNat = KM.mk 1 (KM.other p.turn)
              · have d8 : (p.b (KM.stepN p.ep 0 (-(KM.ahead p.turn))).toNat != KM.mk 1 (KM.other p.turn)) = false := by simp [h8]
                have hf : KM.passB p = true := by unfold KM.passB KM.pass2 KM.bhN KM.frN; rw [hp1, h6, h7, h8]; simp
                have HV := Lib.hid (show KM.passN p = KM.stepN p.ep 0 (-(KM.ahead p.turn)) by unfold KM.passN; rw [if_pos hf]; rfl)
                have HV2 := Lib.hid hf
                clear hf h6 h7 h8 hp1
                go_enter Tryz.func26, Tryz.ntmps26
                go_wp2_with fail
                generalize w.alloc (Obj.cells (KM.pval p) 26) = W at *
                have c64 := fun i : Idx (w.heap.size + 1) W => (hP.idx (by omega) i).turn
                have c66 := fun i : Idx (w.heap.size + 1) W => (hP.idx (by omega) i).ep
                refine wp_region_idx (w.heap.size + 1) (by kernel_rfl) (by kernel_rfl) ?_
                repeat (first | go_big_quiet_skip | (go_big_quiet_want; (go_big_quiet_op; first | go_big_quiet_on | go_big_quiet_call ((first | (go_at_call 54; exact Idx.calls_same (posAhead_any _ _)) | (go_at_call 53; exact Idx.calls_same (sqStep_any _ _ _ _)))))))
                refine wpQuiet_nil ?_
                intro w3 hwq
                have hbq := Idx.get hwq
                clear hwq
                replace hP := hP.below hbq (by omega)
                replace HB := Lib.hid (HB.out.trans (hbq.mono (Nat.le_add_right _ 1)))
                clear hbq
                clear c64 c66
                have c64 := fun i : Idx (w.heap.size + 1) w3 => (hP.idx (by omega) i).turn
                have c66 := fun i : Idx (w.heap.size + 1) w3 => (hP.idx (by omega) i).ep
                go_wp2_with fail
                refine wp_region_idx (w.heap.size + 1) (by kernel_rfl) (by kernel_rfl) ?_
                repeat (first | go_big_quiet_skip | (go_big_quiet_want; (go_big_quiet_op; first | go_big_quiet_on | go_big_quiet_call ((first | (go_at_call 54; exact Idx.calls_same (posAhead_any _ _)) | (go_at_call 53; exact Idx.calls_same (sqStep_any _ _ _ _)))))))
                refine wpQuiet_nil ?_
                intro w4 hwq
                have hbq := Idx.get hwq
                clear hwq
                replace hP := hP.below hbq (by omega)
                replace HB := Lib.hid (HB.out.trans (hbq.mono (Nat.le_add_right _ 1)))
                clear hbq
                clear c64 c66
                have c64 := hP.turn
                have c66 := hP.ep
                go_wp2_with (first | (go_at_call 27; refine (manOther_any _ _).mono ?_; rintro e w2 ⟨rfl, rfl⟩) | (go_at_call 35; refine (sqRank_any _ _).mono ?_; rintro e w2 ⟨rfl, rfl⟩))
                have k0 := fun i : Idx (w.heap.size + 1) w4 => (hP.idx (by omega) i).at (i := p.ep.toNat) (by omega)
                have k1 := fun i : Idx (w.heap.size + 1) w4 => (hP.idx (by omega) i).at (i := (KM.stepN p.ep 0 (KM.ahead p.turn)).toNat) (by omega)
                have k2 := fun i : Idx (w.heap.size + 1) w4 => (hP.idx (by omega) i).at (i := (KM.stepN p.ep 0 (-(KM.ahead p.turn))).toNat) (by omega)
                clear c64 c66
                have c64 := fun i : Idx (w.heap.size + 1) w4 => (hP.idx (by omega) i).turn
                have c66 := fun i : Idx (w.heap.size + 1) w4 => (hP.idx (by omega) i).ep
                refine wp_region_idx (w.heap.size + 1) (by kernel_rfl) (by kernel_rfl) ?_
                repeat (first | go_big_quiet_skip | (go_big_quiet_want; (go_big_quiet_op; first | go_big_quiet_on | go_big_quiet_call ((first | (go_at_call 27; exact Idx.calls_same (manOther_any _ _)) | (go_at_call 41; exact Idx.calls_same (manMake_any _ _ _)))))))
                refine wpQuiet_nil ?_
                intro w5 hwq
                have hbq := Idx.get hwq
                clear hwq
                replace hP := hP.below hbq (by omega)
                replace HB := Lib.hid (HB.out.trans (hbq.mono (Nat.le_add_right _ 1)))
                clear hbq
                clear c64 c66 k0 k1 k2
                go_wp2_with fail
                go_ret2
                exact ⟨by rw [HV.out, HV2.out]; rfl, HB.out⟩
              · have d8 : (p.b (KM.stepN p.ep 0 (-(KM.ahead p.turn))).toNat != KM.mk 1 (KM.other p.turn)) = true := by simp [h8]
                have hf : KM.passB p = false := by unfold KM.passB KM.pass2 KM.bhN KM.frN; simp [h8]
                have HV := Lib.hid (show KM.passN p = 0 by unfold KM.passN; rw [hf]; rfl)
                have HV2 := Lib.hid hf
                clear hf h6 h7 h8 hp1
                go_enter Tryz.func26, Tryz.ntmps26
                go_wp2_with fail
                generalize w.alloc (Obj.cells (KM.pval p) 26) = W at *
                have c64 := fun i : Idx (w.heap.size + 1) W => (hP.idx (by omega) i).turn
                have c66 := fun i : Idx (w.heap.size + 1) W => (hP.idx (by omega) i).ep
                refine wp_region_idx (w.heap.size + 1) (by kernel_rfl) (by kernel_rfl) ?_
                repeat (first | go_big_quiet_skip | (go_big_quiet_want; (go_big_quiet_op; first | go_big_quiet_on | go_big_quiet_call ((first | (go_at_call 54; exact Idx.calls_same (posAhead_any _ _)) | (go_at_call 53; exact Idx.calls_same (sqStep_any _ _ _ _)))))))
                refine wpQuiet_nil ?_
                intro w3 hwq
                have hbq := Idx.get hwq
                clear hwq
                replace hP := hP.below hbq (by omega)
                replace HB := Lib.hid (HB.out.trans (hbq.mono (Nat.le_add_right _ 1)))
                clear hbq
                clear c64 c66
                have c64 := fun i : Idx (w.heap.size + 1) w3 => (hP.idx (by omega) i).turn
                have c66 := fun i : Idx (w.heap.size + 1) w3 => (hP.idx (by omega) i).ep
                go_wp2_with fail
                refine wp_region_idx (w.heap.size + 1) (by kernel_rfl) (by kernel_rfl) ?_
                repeat (first | go_big_quiet_skip | (go_big_quiet_want; (go_big_quiet_op; first | go_big_quiet_on | go_big_quiet_call ((first | (go_at_call 54; exact Idx.calls_same (posAhead_any _ _)) | (go_at_call 53; exact Idx.calls_same (sqStep_any _ _ _ _)))))))
                refine wpQuiet_nil ?_
                intro w4 hwq
                have hbq := Idx.get hwq
                clear hwq
                replace hP := hP.below hbq (by omega)
                replace HB := Lib.hid (HB.out.trans (hbq.mono (Nat.le_add_right _ 1)))
                clear hbq
                clear c64 c66
                have c64 := hP.turn
                have c66 := hP.ep
                go_wp2_with (first | (go_at_call 27; refine (manOther_any _ _).mono ?_; rintro e w2 ⟨rfl, rfl⟩) | (go_at_call 35; refine (sqRank_any _ _).mono ?_; rintro e w2 ⟨rfl, rfl⟩))
                have k0 := fun i : Idx (w.heap.size + 1) w4 => (hP.idx (by omega) i).at (i := p.ep.toNat) (by omega)
                have k1 := fun i : Idx (w.heap.size + 1) w4 => (hP.idx (by omega) i).at (i := (KM.stepN p.ep 0 (KM.ahead p.turn)).toNat) (by omega)
                have k2 := fun i : Idx (w.heap.size + 1) w4 => (hP.idx (by omega) i).at (i := (KM.stepN p.ep 0 (-(KM.ahead p.turn))).toNat) (by omega)
                clear c64 c66
                have c64 := fun i : Idx (w.heap.size + 1) w4 => (hP.idx (by omega) i).turn
                have c66 := fun i : Idx (w.heap.size + 1) w4 => (hP.idx (by omega) i).ep
                refine wp_region_idx (w.heap.size + 1) (by kernel_rfl) (by kernel_rfl) ?_
                repeat (first | go_big_quiet_skip | (go_big_quiet_want; (go_big_quiet_op; first | go_big_quiet_on | go_big_quiet_call ((first | (go_at_call 27; exact Idx.calls_same (manOther_any _ _)) | (go_at_call 41; exact Idx.calls_same (manMake_any _ _ _)))))))
                refine wpQuiet_nil ?_
                intro w5 hwq
                have hbq := Idx.get hwq
                clear hwq
                replace hP := hP.below hbq (by omega)
                replace HB := Lib.hid (HB.out.trans (hbq.mono (Nat.le_add_right _ 1)))
                clear hbq
                clear c64 c66 k0 k1 k2
                go_wp2_with fail
                go_ret2
                exact ⟨by rw [HV.out, HV2.out]; rfl, HB.out⟩
            · have d7 : (p.b (KM.stepN p.ep 0 (KM.ahead p.turn)).toNat != 0) = true := by simp [h7]
              have hf : KM.passB p = false := by unfold KM.passB KM.pass2 KM.bhN KM.frN; simp [h7]
              have HV := Lib.hid (show KM.passN p = 0 by unfold KM.passN; rw [hf]; rfl)
              have HV2 := Lib.hid hf
              clear hf h6 h7 hp1
              go_enter Tryz.func26, Tryz.ntmps26
              go_wp2_with fail
              generalize w.alloc (Obj.cells (KM.pval p) 26) = W at *
              have c64 := fun i : Idx (w.heap.size + 1) W => (hP.idx (by omega) i).turn
              have c66 := fun i : Idx (w.heap.size + 1) W => (hP.idx (by omega) i).ep
              refine wp_region_idx (w.heap.size + 1) (by kernel_rfl) (by kernel_rfl) ?_
              repeat (first | go_big_quiet_skip | (go_big_quiet_want; (go_big_quiet_op; first | go_big_quiet_on | go_big_quiet_call ((first | (go_at_call 54; exact Idx.calls_same (posAhead_any _ _)) | (go_at_call 53; exact Idx.calls_same (sqStep_any _ _ _ _)))))))
              refine wpQuiet_nil ?_
              intro w3 hwq
              have hbq := Idx.get hwq
              clear hwq
              replace hP := hP.below hbq (by omega)
              replace HB := Lib.hid (HB.out.trans (hbq.mono (Nat.le_add_right _ 1)))
              clear hbq
              clear c64 c66
              have c64 := fun i : Idx (w.heap.size + 1) w3 => (hP.idx (by omega) i).turn
              have c66 := fun i : Idx (w.heap.size + 1) w3 => (hP.idx (by omega) i).ep
              go_wp2_with fail
              refine wp_region_idx (w.heap.size + 1) (by kernel_rfl) (by kernel_rfl) ?_
              repeat (first | go_big_quiet_skip | (go_big_quiet_want; (go_big_quiet_op; first | go_big_quiet_on | go_big_quiet_call ((first | (go_at_call 54; exact Idx.calls_same (posAhead_any _ _)) | (go_at_call 53; exact Idx.calls_same (sqStep_any _ _ _ _)))))))
              refine wpQuiet_nil ?_
              intro w4 hwq
              have hbq := Idx.get hwq
              clear hwq
              replace hP := hP.below hbq (by omega)
              replace HB := Lib.hid (HB.out.trans (hbq.mono (Nat.le_add_right _ 1)))
              clear hbq
              clear c64 c66
              have c64 := hP.turn
              have c66 := hP.ep
              go_wp2_with (first | (go_at_call 27; refine (manOther_any _ _).mono ?_; rintro e w2 ⟨rfl, rfl⟩) | (go_at_call 35; refine (sqRank_any _ _).mono ?_; rintro e w2 ⟨rfl, rfl⟩))
              have k0 := fun i : Idx (w.heap.size + 1) w4 => (hP.idx (by omega) i).at (i := p.ep.toNat) (by omega)
              have k1 := fun i : Idx (w.heap.size + 1) w4 => (hP.idx (by omega) i).at (i := (KM.stepN p.ep 0 (KM.ahead p.turn)).toNat) (by omega)
              have k2 := fun i : Idx (w.heap.size + 1) w4 => (hP.idx (by omega) i).at (i := (KM.stepN p.ep 0 (-(KM.ahead p.turn))).toNat) (by omega)
              clear c64 c66
              have c64 := fun i : Idx (w.heap.size + 1) w4 => (hP.idx (by omega) i).turn
              have c66 := fun i : Idx (w.heap.size + 1) w4 => (hP.idx (by omega) i).ep
              refine wp_region_idx (w.heap.size + 1) (by kernel_rfl) (by kernel_rfl) ?_
              repeat (first | go_big_quiet_skip | (go_big_quiet_want; (go_big_quiet_op; first | go_big_quiet_on | go_big_quiet_call ((first | (go_at_call 27; exact Idx.calls_same (manOther_any _ _)) | (go_at_call 41; exact Idx.calls_same (manMake_any _ _ _)))))))
              refine wpQuiet_nil ?_
              intro w5 hwq
              have hbq := Idx.get hwq
              clear hwq
              replace hP := hP.below hbq (by omega)
              replace HB := Lib.hid (HB.out.trans (hbq.mono (Nat.le_add_right _ 1)))
              clear hbq
              clear c64 c66 k0 k1 k2
              go_wp2_with fail
              go_ret2
              exact ⟨by rw [HV.out, HV2.out]; rfl, HB.out⟩
          · have d6 : (p.b p.ep.toNat != 0) = true := by simp [h6]
            have hf : KM.passB p = false := by unfold KM.passB KM.pass2 KM.bhN KM.frN; simp [h6]
            have HV := Lib.hid (show KM.passN p = 0 by unfold KM.passN; rw [hf]; rfl)
            have HV2 := Lib.hid hf
            clear hf h6 hp1
            go_enter Tryz.func26, Tryz.ntmps26
            go_wp2_with fail
            generalize w.alloc (Obj.cells (KM.pval p) 26) = W at *
            have c64 := fun i : Idx (w.heap.size + 1) W => (hP.idx (by omega) i).turn
            have c66 := fun i : Idx (w.heap.size + 1) W => (hP.idx (by omega) i).ep
            refine wp_region_idx (w.heap.size + 1) (by kernel_rfl) (by kernel_rfl) ?_
            repeat (first | go_big_quiet_skip | (go_big_quiet_want; (go_big_quiet_op; first | go_big_quiet_on | go_big_quiet_call ((first | (go_at_call 54; exact Idx.calls_same (posAhead_any _ _)) | (go_at_call 53; exact Idx.calls_same (sqStep_any _ _ _ _)))))))
            refine wpQuiet_nil ?_
            intro w3 hwq
            have hbq := Idx.get hwq
            clear hwq
            replace hP := hP.below hbq (by omega)
            replace HB := Lib.hid (HB.out.trans (hbq.mono (Nat.le_add_right _ 1)))
            clear hbq
            clear c64 c66
            have c64 := fun i : Idx (w.heap.size + 1) w3 => (hP.idx (by omega) i).turn
            have c66 := fun i : Idx (w.heap.size + 1) w3 => (hP.idx (by omega) i).ep
            go_wp2_with fail
            refine wp_region_idx (w.heap.size + 1) (by kernel_rfl) (by kernel_rfl) ?_
            repeat (first | go_big_quiet_skip | (go_big_quiet_want; (go_big_quiet_op; first | go_big_quiet_on | go_big_quiet_call ((first | (go_at_call 54; exact Idx.calls_same (posAhead_any _ _)) | (go_at_call 53; exact Idx.calls_same (sqStep_any _ _ _ _)))))))
            refine wpQuiet_nil ?_
            intro w4 hwq
            have hbq := Idx.get hwq
            clear hwq
            replace hP := hP.below hbq (by omega)
            replace HB := Lib.hid (HB.out.trans (hbq.mono (Nat.le_add_right _ 1)))
            clear hbq
            clear c64 c66
            have c64 := hP.turn
            have c66 := hP.ep
            go_wp2_with (first | (go_at_call 27; refine (manOther_any _ _).mono ?_; rintro e w2 ⟨rfl, rfl⟩) | (go_at_call 35; refine (sqRank_any _ _).mono ?_; rintro e w2 ⟨rfl, rfl⟩))
            have k0 := fun i : Idx (w.heap.size + 1) w4 => (hP.idx (by omega) i).at (i := p.ep.toNat) (by omega)
            have k1 := fun i : Idx (w.heap.size + 1) w4 => (hP.idx (by omega) i).at (i := (KM.stepN p.ep 0 (KM.ahead p.turn)).toNat) (by omega)
            have k2 := fun i : Idx (w.heap.size + 1) w4 => (hP.idx (by omega) i).at (i := (KM.stepN p.ep 0 (-(KM.ahead p.turn))).toNat) (by omega)
            clear c64 c66
            have c64 := fun i : Idx (w.heap.size + 1) w4 => (hP.idx (by omega) i).turn
            have c66 := fun i : Idx (w.heap.size + 1) w4 => (hP.idx (by omega) i).ep
            refine wp_region_idx (w.heap.size + 1) (by kernel_rfl) (by kernel_rfl) ?_
            repeat (first | go_big_quiet_skip | (go_big_quiet_want; (go_big_quiet_op; first | go_big_quiet_on | go_big_quiet_call ((first | (go_at_call 27; exact Idx.calls_same (manOther_any _ _)) | (go_at_call 41; exact Idx.calls_same (manMake_any _ _ _)))))))
            refine wpQuiet_nil ?_
            intro w5 hwq
            have hbq := Idx.get hwq
            clear hwq
            replace hP := hP.below hbq (by omega)
            replace HB := Lib.hid (HB.out.trans (hbq.mono (Nat.le_add_right _ 1)))
            clear hbq
            clear c64 c66 k0 k1 k2
            go_wp2_with fail
            go_ret2
            exact ⟨by rw [HV.out, HV2.out]; rfl, HB.out⟩
        · replace h5 := Bool.eq_false_iff.2 h5
          have hf : KM.passB p = false := by unfold KM.passB KM.pass1; rw [h5]; simp
          have HV := Lib.hid (show KM.passN p = 0 by unfold KM.passN; rw [hf]; rfl)
          have HV2 := Lib.hid hf
          have e4 : KM.stepB p.ep 0 (KM.ahead p.turn) = true := h4
          have e5 : KM.stepB p.ep 0 (-(KM.ahead p.turn)) = false := h5
          clear h3 h4 h5
          clear hf hw h2
          go_enter Tryz.func26, Tryz.ntmps26
          go_wp2_with fail
          generalize w.alloc (Obj.cells (KM.pval p) 26) = W at *
          have c64 := fun i : Idx (w.heap.size + 1) W => (hP.idx (by omega) i).turn
          have c66 := fun i : Idx (w.heap.size + 1) W => (hP.idx (by omega) i).ep
          refine wp_region_idx (w.heap.size + 1) (by kernel_rfl) (by kernel_rfl) ?_
          repeat (first | go_big_quiet_skip | (go_big_quiet_want; (go_big_quiet_op; first | go_big_quiet_on | go_big_quiet_call ((first | (go_at_call 54; exact Idx.calls_same (posAhead_any _ _)) | (go_at_call 53; exact Idx.calls_same (sqStep_any _ _ _ _)))))))
          refine wpQuiet_nil ?_
          intro w3 hwq
          have hbq := Idx.get hwq
          clear hwq
          replace hP := hP.below hbq (by omega)
          replace HB := Lib.hid (HB.out.trans (hbq.mono (Nat.le_add_right _ 1)))
          clear hbq
          clear c64 c66
          have c64 := fun i : Idx (w.heap.size + 1) w3 => (hP.idx (by omega) i).turn
          have c66 := fun i : Idx (w.heap.size + 1) w3 => (hP.idx (by omega) i).ep
          go_wp2_with fail
          refine wp_region_idx (w.heap.size + 1) (by kernel_rfl) (by kernel_rfl) ?_
          repeat (first | go_big_quiet_skip | (go_big_quiet_want; (go_big_quiet_op; first | go_big_quiet_on | go_big_quiet_call ((first | (go_at_call 54; exact Idx.calls_same (posAhead_any _ _)) | (go_at_call 53; exact Idx.calls_same (sqStep_any _ _ _ _)))))))
          refine wpQuiet_nil ?_
          intro w4 hwq
          have hbq := Idx.get hwq
          clear hwq
          replace hP := hP.below hbq (by omega)
          replace HB := Lib.hid (HB.out.trans (hbq.mono (Nat.le_add_right _ 1)))
          clear hbq
          clear c64 c66
          have c64 := hP.turn
          have c66 := hP.ep
          go_wp2_with (first | (go_at_call 27; refine (manOther_any _ _).mono ?_; rintro e w2 ⟨rfl, rfl⟩) | (go_at_call 35; refine (sqRank_any _ _).mono ?_; rintro e w2 ⟨rfl, rfl⟩))
          go_ret2
          exact ⟨by rw [HV.out, HV2.out]; rfl, HB.out⟩
      · replace h4 := Bool.eq_false_iff.2 h4
        have hf : KM.passB p = false := by unfold KM.passB KM.pass1; rw [h4]; simp
        have HV := Lib.hid (show KM.passN p = 0 by unfold KM.passN; rw [hf]; rfl)
        have HV2 := Lib.hid hf
        have e4 : KM.stepB p.ep 0 (KM.ahead p.turn) = false := h4
        clear h3 h4
        clear hf hw h2
        go_enter Tryz.func26, Tryz.ntmps26
        go_wp2_with fail
        generalize w.alloc (Obj.cells (KM.pval p) 26) = W at *
        have c64 := fun i : Idx (w.heap.size + 1) W => (hP.idx (by omega) i).turn
        have c66 := fun i : Idx (w.heap.size + 1) W => (hP.idx (by omega) i).ep
        refine wp_region_idx (w.heap.size + 1) (by kernel_rfl) (by kernel_rfl) ?_
        repeat (first | go_big_quiet_skip | (go_big_quiet_want; (go_big_quiet_op; first | go_big_quiet_on | go_big_quiet_call ((first | (go_at_call 54; exact Idx.calls_same (posAhead_any _ _)) | (go_at_call 53; exact Idx.calls_same (sqStep_any _ _ _ _)))))))
        refine wpQuiet_nil ?_
        intro w3 hwq
        have hbq := Idx.get hwq
        clear hwq
        replace hP := hP.below hbq (by omega)
        replace HB := Lib.hid (HB.out.trans (hbq.mono (Nat.le_add_right _ 1)))
        clear hbq
        clear c64 c66
        have c64 := fun i : Idx (w.heap.size + 1) w3 => (hP.idx (by omega) i).turn
        have c66 := fun i : Idx (w.heap.size + 1) w3 => (hP.idx (by omega) i).ep
        go_wp2_with fail
        refine wp_region_idx (w.heap.size + 1) (by kernel_rfl) (by kernel_rfl) ?_
        repeat (first | go_big_quiet_skip | (go_big_quiet_want; (go_big_quiet_op; first | go_big_quiet_on | go_big_quiet_call ((first | (go_at_call 54; exact Idx.calls_same (posAhead_any _ _)) | (go_at_call 53; exact Idx.calls_same (sqStep_any _ _ _ _)))))))
        refine wpQuiet_nil ?_
        intro w4 hwq
        have hbq := Idx.get hwq
        clear hwq
        replace hP := hP.below hbq (by omega)
        replace HB := Lib.hid (HB.out.trans (hbq.mono (Nat.le_add_right _ 1)))
        clear hbq
        clear c64 c66
        have c64 := hP.turn
        have c66 := hP.ep
        go_wp2_with (first | (go_at_call 27; refine (manOther_any _ _).mono ?_; rintro e w2 ⟨rfl, rfl⟩) | (go_at_call 35; refine (sqRank_any _ _).mono ?_; rintro e w2 ⟨rfl, rfl⟩))
        go_ret2
        exact ⟨by rw [HV.out, HV2.out]; rfl, HB.out⟩
    · have d3 : (KM.rank p.ep != 5) = true := by simp [h3]
      have hf : KM.passB p = false := by unfold KM.passB KM.pass1; rw [hw]; simp [h3]
      have HV := Lib.hid (show KM.passN p = 0 by unfold KM.passN; rw [hf]; rfl)
      have HV2 := Lib.hid hf
      clear h3
      clear hf hw h2
      go_enter Tryz.func26, Tryz.ntmps26
      go_wp2_with fail
      generalize w.alloc (Obj.cells (KM.pval p) 26) = W at *
      have c64 := fun i : Idx (w.heap.size + 1) W => (hP.idx (by omega) i).turn
      have c66 := fun i : Idx (w.heap.size + 1) W => (hP.idx (by omega) i).ep
      refine wp_region_idx (w.heap.size + 1) (by kernel_rfl) (by kernel_rfl) ?_
      repeat (first | go_big_quiet_skip | (go_big_quiet_want; (go_big_quiet_op; first | go_big_quiet_on | go_big_quiet_call ((first | (go_at_call 54; exact Idx.calls_same (posAhead_any _ _)) | (go_at_call 53; exact Idx.calls_same (sqStep_any _ _ _ _)))))))
      refine wpQuiet_nil ?_
      intro w3 hwq
      have hbq := Idx.get hwq
      clear hwq
      replace hP := hP.below hbq (by omega)
      replace HB := Lib.hid (HB.out.trans (hbq.mono (Nat.le_add_right _ 1)))
      clear hbq
      clear c64 c66
      have c64 := fun i : Idx (w.heap.size + 1) w3 => (hP.idx (by omega) i).turn
      have c66 := fun i : Idx (w.heap.size + 1) w3 => (hP.idx (by omega) i).ep
      go_wp2_with fail
      refine wp_region_idx (w.heap.size + 1) (by kernel_rfl) (by kernel_rfl) ?_
      repeat (first | go_big_quiet_skip | (go_big_quiet_want; (go_big_quiet_op; first | go_big_quiet_on | go_big_quiet_call ((first | (go_at_call 54; exact Idx.calls_same (posAhead_any _ _)) | (go_at_call 53; exact Idx.calls_same (sqStep_any _ _ _ _)))))))
      refine wpQuiet_nil ?_
      intro w4 hwq
      have hbq := Idx.get hwq
      clear hwq
      replace hP := hP.below hbq (by omega)
      replace HB := Lib.hid (HB.out.trans (hbq.mono (Nat.le_add_right _ 1)))
      clear hbq
      clear c64 c66
      have c64 := hP.turn
      have c66 := hP.ep
      go_wp2_with (first | (go_at_call 27; refine (manOther_any _ _).mono ?_; rintro e w2 ⟨rfl, rfl⟩) | (go_at_call 35; refine (sqRank_any _ _).mono ?_; rintro e w2 ⟨rfl, rfl⟩))
      go_ret2
      exact ⟨by rw [HV.out, HV2.out]; rfl, HB.out⟩

theorem posPassed_any (p : KM.Po) (w : World) (hp : p.wf) :
    Calls Tryz.prog 26 #[.agg (KM.pval p)] w fun e w' => e = .returned (.tuple #[.int .i64 (KM.passN p), .bool (KM.passB p)]) ∧ Below w.heap.size w w' := by
  by_cases h1 : p.turn = 1
  · exact posPassed_b p w hp h1
  · exact posPassed_w p w hp h1

end Go.Proofs.YtgikglnfjkbnhaaGreat
