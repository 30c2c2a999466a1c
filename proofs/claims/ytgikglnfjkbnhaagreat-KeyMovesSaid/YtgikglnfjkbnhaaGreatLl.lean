/-
  gen.turned, walked.
-/
import Derived.Test.YtgikglnfjkbnhaaGreatKy
import Derived.Test.YtgikglnfjkbnhaaGreatKh
import Derived.Test.YtgikglnfjkbnhaaGreatLd
namespace Go.Proofs.YtgikglnfjkbnhaaGreat
open Go.RowKit
set_option maxHeartbeats 1000000
set_option maxRecDepth 20000

/-- Moves as cells. -/
def KM.mvs (l : List (Int × Int × Int)) : List Value := l.flatMap fun m => [.int .i64 m.1, .int .i64 m.2.1, .int .i64 m.2.2]
theorem KM.mvs_length (l : List (Int × Int × Int)) : (KM.mvs l).length = l.length * 3 := by
  induction l with
  | nil => rfl
  | cons x l ih => simp [KM.mvs] at *; omega
theorem KM.mvs_append (l k : List (Int × Int × Int)) : KM.mvs (l ++ k) = KM.mvs l ++ KM.mvs k := by simp [KM.mvs]
theorem KM.mvs_one {l : List (Int × Int × Int)} : ∀ u ∈ KM.mvs l, u.oneCell' = true := by
  intro u hu
  unfold KM.mvs at hu
  obtain ⟨x, _, hx⟩ := List.mem_flatMap.1 hu
  simp at hx
  rcases hx with rfl | rfl | rfl <;> rfl
theorem KM.mvs_get {l : List (Int × Int × Int)} {i : Nat} {m : Int × Int × Int} (h : l[i]? = some m) : (KM.mvs l)[i * 3]? = some (.int .i64 m.1) ∧ (KM.mvs l)[i * 3 + 1]? = some (.int .i64 m.2.1) ∧ (KM.mvs l)[i * 3 + 2]? = some (.int .i64 m.2.2) := by
  induction l generalizing i with
  | nil => simp at h
  | cons y l ih =>
    have e : KM.mvs (y :: l) = .int .i64 y.1 :: .int .i64 y.2.1 :: .int .i64 y.2.2 :: KM.mvs l := by simp [KM.mvs]
    cases i with
    | zero => simp at h; subst h; rw [e]; simp
    | succ i =>
      have h' : l[i]? = some m := by simpa using h
      have := ih h'
      rw [e, show (i + 1) * 3 = i * 3 + 1 + 1 + 1 by omega]
      simpa using this

/-- A slice of moves in memory of the call's own. -/
def RetMvs (w : World) (l : List (Int × Int × Int)) (e : Ending) (w' : World) : Prop :=
  ∃ a cap, e = .returned (.slice a l.length cap) ∧ w'.ownsRow w.heap.size 35 3 (.slice a l.length cap) l.length (KM.mvs l) ∧ Below w.heap.size w w'

theorem info35s : (Tryz.prog.info? 35).map (fun i => (i.zero, i.size, i.bytes)) = some (some (.agg #[.int .i64 0, .int .i64 0, .int .i64 0]), 3, 24) := by kernel_rfl

theorem three_cells (w : World) (x y z : Value) (E : TypeId) (j : Nat) (u : Value) (h : [x, y, z][j]? = some u) : (w.alloc (.cells #[x, y, z] E)).cell? ((⟨w.heap.size, 0, none⟩ : Addr).add j) = some u := by
  have hadd : (⟨w.heap.size, 0, none⟩ : Addr).add j = ⟨w.heap.size, j, none⟩ := by unfold Addr.add; split <;> simp_all
  rw [hadd, cell_of_row _ _ j _ _ _ (heap_alloc_new w _)]
  rw [← Array.getElem?_toList]
  exact h

theorem MBox.frozen {w : World} {g : Nat} {f t r : Int} (h : MBox w g f t r) (i : Nat) : w.frozen? ⟨g, i, none⟩ = false := by
  unfold MBox at h
  simp [World.frozen?, h]
theorem MBox.store {w : World} {g : Nat} {f t r : Int} (h : MBox w g f t r) (x : Int) : MBox (w.setCell ⟨g, 2, none⟩ (.int .i64 x)) g f t x := by
  unfold MBox
  rw [heap_setCell_same w g 2 _ _ _ h]
  rfl

theorem turned_a (p : KM.Po) (f t : Int) (w : World) (hp : p.wf) (f0 : 0 ≤ f) (f1 : f < 64) (hk : KM.kind (p.b f.toNat) ≠ 1) :
    Calls Tryz.prog 49 #[.agg (KM.pval p), .agg #[.int .i64 f, .int .i64 t, .int .i64 0]] w fun e w' => ∃ l, RetMvs w l e w' ∧ l.length ≤ 4 ∧ ∀ m ∈ l, m.1 = f ∧ m.2.1 = t ∧ KM.promoOk p f t m.2.2 = true := by
  have hP := pm_p p f t 0 w
  have hM := pm_m p f t 0 w
  have HB := Lib.hid ((pm_b p f t 0 w).alloc (by simp; omega) (Obj.cells #[.int .i64 f, .int .i64 t, .int .i64 0] 35))
  have HO := Lib.hid (World.ownsRow_lit (base := w.heap.size) (e := 35) (size := 3) ((w.alloc (Obj.cells (KM.pval p) 26)).alloc (Obj.cells #[.int .i64 f, .int .i64 t, .int .i64 0] 35)) #[.int .i64 f, .int .i64 t, .int .i64 0] 1 (by simp; omega) (by decide) rfl)
  obtain ⟨m0, m1⟩ := hp.b f.toNat (by omega)
  have HPO := Lib.hid (show KM.promoOk p f t 0 = true by unfold KM.promoOk; rw [if_neg (fun h => hk h.1)]; rfl)
  have bk : (KM.kind (p.b f.toNat) != 1) = true := by simp [hk]
  replace hk := Lib.hid hk
  have c0 := hM.from
  have c1 := hM.to
  have c2 := hP.at (i := f.toNat) (by omega)
  go_enter Tryz.func49, Tryz.ntmps49
  go_wp2_with (first
    | (go_at_call 35; refine (sqRank_any _ _).mono ?_; rintro e w' ⟨rfl, rfl⟩)
    | (go_at_call 47; refine (manKind_any _ _).mono ?_; rintro e w' ⟨rfl, rfl⟩)
    | (refine wpList_load_part rfl 35 (.tmp 3) rfl _ 0 rfl _ _ hM.part Tryz.underlying35 rfl (hi35 _ _ _) ?_))
  go_ret
  refine ⟨[(f, t, 0)], ⟨some ⟨w.heap.size + 1 + 1, 0, none⟩, 1, rfl, by have := HO.out; simpa [KM.mvs] using this, HB.out⟩, by simp, fun m hm => ?_⟩
  rw [List.mem_singleton] at hm
  subst hm
  exact ⟨rfl, rfl, HPO.out⟩

theorem turned_b (p : KM.Po) (f t : Int) (w : World) (hp : p.wf) (f0 : 0 ≤ f) (f1 : f < 64) (hk : KM.kind (p.b f.toNat) = 1) (hr0 : KM.rank t ≠ 0) (hr7 : KM.rank t ≠ 7) :
    Calls Tryz.prog 49 #[.agg (KM.pval p), .agg #[.int .i64 f, .int .i64 t, .int .i64 0]] w fun e w' => ∃ l, RetMvs w l e w' ∧ l.length ≤ 4 ∧ ∀ m ∈ l, m.1 = f ∧ m.2.1 = t ∧ KM.promoOk p f t m.2.2 = true := by
  have hP := pm_p p f t 0 w
  have hM := pm_m p f t 0 w
  have HB := Lib.hid ((pm_b p f t 0 w).alloc (by simp; omega) (Obj.cells #[.int .i64 f, .int .i64 t, .int .i64 0] 35))
  have HO := Lib.hid (World.ownsRow_lit (base := w.heap.size) (e := 35) (size := 3) ((w.alloc (Obj.cells (KM.pval p) 26)).alloc (Obj.cells #[.int .i64 f, .int .i64 t, .int .i64 0] 35)) #[.int .i64 f, .int .i64 t, .int .i64 0] 1 (by simp; omega) (by decide) rfl)
  obtain ⟨m0, m1⟩ := hp.b f.toNat (by omega)
  have HPO := Lib.hid (show KM.promoOk p f t 0 = true by unfold KM.promoOk; rw [if_neg (fun h => by have h2 := h.2; unfold KM.last at h2; split at h2 <;> omega)]; rfl)
  have bk : (KM.kind (p.b f.toNat) != 1) = false := by simp [hk]
  have b0 : (KM.rank t != 0) = true := by simp [hr0]
  have b7 : (KM.rank t != 7) = true := by simp [hr7]
  replace hk := Lib.hid hk
  have c0 := hM.from
  have c1 := hM.to
  have c2 := hP.at (i := f.toNat) (by omega)
  go_enter Tryz.func49, Tryz.ntmps49
  go_wp2_with (first
    | (go_at_call 35; refine (sqRank_any _ _).mono ?_; rintro e w' ⟨rfl, rfl⟩)
    | (go_at_call 47; refine (manKind_any _ _).mono ?_; rintro e w' ⟨rfl, rfl⟩)
    | (refine wpList_load_part rfl 35 (.tmp 3) rfl _ 0 rfl _ _ hM.part Tryz.underlying35 rfl (hi35 _ _ _) ?_))
  go_ret
  refine ⟨[(f, t, 0)], ⟨some ⟨w.heap.size + 1 + 1, 0, none⟩, 1, rfl, by have := HO.out; simpa [KM.mvs] using this, HB.out⟩, by simp, fun m hm => ?_⟩
  rw [List.mem_singleton] at hm
  subst hm
  exact ⟨rfl, rfl, HPO.out⟩

theorem turned_c (p : KM.Po) (f t : Int) (w : World) (hp : p.wf) (f0 : 0 ≤ f) (f1 : f < 64) (hk : KM.kind (p.b f.toNat) = 1) (hr : KM.rank t = 0) (hl : KM.rank t = KM.last p.turn) :
    Calls Tryz.prog 49 #[.agg (KM.pval p), .agg #[.int .i64 f, .int .i64 t, .int .i64 0]] w fun e w' => ∃ l, RetMvs w l e w' ∧ l.length ≤ 4 ∧ ∀ m ∈ l, m.1 = f ∧ m.2.1 = t ∧ KM.promoOk p f t m.2.2 = true := by
  have hP := pm_p p f t 0 w
  have hM := pm_m p f t 0 w
  have HB := Lib.hid (pm_b p f t 0 w)
  have hS := pm_s p f t 0 w
  have hown0 : ((w.alloc (.cells (KM.pval p) 26)).alloc (.cells #[.int .i64 f, .int .i64 t, .int .i64 0] 35)).ownsRow (w.heap.size + 2) 35 3 (.slice none 0 0) 0 [] := World.ownsRow_nil _ _ _ _
  obtain ⟨m0, m1⟩ := hp.b f.toNat (by omega)
  obtain ⟨i0, hi, hz0, hz1, hz2⟩ := info_parts info35s
  have HPO := Lib.hid (show ∀ r, 2 ≤ r → r ≤ 5 → KM.promoOk p f t r = true from fun r h2 h5 => by unfold KM.promoOk; rw [if_pos ⟨hk, hl⟩]; simp [h2, h5])
  have bk : (KM.kind (p.b f.toNat) != 1) = false := by simp [hk]
  have b0 : ((0 : Int) != 0) = false := rfl
  replace hk := Lib.hid hk
  replace hl := Lib.hid hl
  have hq := Lib.hid (show ∀ w', Calls Tryz.prog 35 #[.int .i64 t] w' fun e w'' => e = .returned (.int .i64 0) ∧ w' = w'' by intro w'; have h := sqRank_any t w'; rw [hr] at h; exact h)
  clear hr
  have c0 := hM.from
  have c1 := hM.to
  have c2 := hP.at (i := f.toNat) (by omega)
  go_enter Tryz.func49, Tryz.ntmps49
  go_wp2_with (first
    | (go_at_call 35; refine (hq.out _).mono ?_; rintro e w' ⟨rfl, rfl⟩)
    | (go_at_call 47; refine (manKind_any _ _).mono ?_; rintro e w' ⟨rfl, rfl⟩))
  have HM0 := Lib.hid hM
  have HO0 := Lib.hid hown0
  clear c0 c1 c2 hM hP hown0
  generalize (w.alloc (.cells (KM.pval p) 26)).alloc (.cells #[.int .i64 f, .int .i64 t, .int .i64 0] 35) = w0 at *
  go_loopw [6, 7] (fun v6 v7 wr => ∃ (l : List (Int × Int × Int)) (k : Int) (a : Option Addr) (cap : Nat), v6 = .slice a l.length cap ∧ v7 = .int .i64 k ∧ 1 ≤ k ∧ k ≤ 5 ∧ (l.length : Int) = 5 - k ∧ wr.ownsRow (w.heap.size + 2) 35 3 (.slice a l.length cap) l.length (KM.mvs l)
    ∧ (∀ m ∈ l, m.1 = f ∧ m.2.1 = t ∧ KM.promoOk p f t m.2.2 = true) ∧ (∃ r, MBox wr (w.heap.size + 1) f t r) ∧ Below w.heap.size w wr) (fun _ v _ => (intOf v).toNat)
  case atStart => exact ⟨[], 5, none, 0, rfl, rfl, by omega, by omega, rfl, HO0.out, fun m hm => (by cases hm), ⟨0, HM0.out⟩, HB.out⟩
  case round =>
    obtain ⟨l, k, a, cap, rfl, rfl, k1, k5, hlen, hown, hin, ⟨r, hM⟩, hb⟩ := hrel
    have HI := Lib.hid hin
    have HB1 := Lib.hid hb
    have HL := Lib.hid hlen
    have hl4 : l.length ≤ 4 := by omega
    have hMl := heap_lt hM
    clear hin hb hlen
    by_cases hlt : 2 ≤ k
    · have c2 := hM.promo
      have f2 := hM.frozen 2
      have hM2 := hM.store k
      have hown2 : (wr.setCell ⟨w.heap.size + 1, 2, none⟩ (.int .i64 k)).ownsRow (w.heap.size + 2) 35 3 (.slice a l.length cap) l.length (KM.mvs l) := ownsRow_setCell_below hown (by simp) _
      have hbz : w.heap.size + 2 ≤ wr.heap.size := by omega
      have HB2 := Lib.hid (below_setCell (g := w.heap.size + 1) (o := 2) (v := .int .i64 k) HB1.out (by omega))
      have hMp := hM2.part
      go_wp2_with (first
        | (refine wpList_load_part rfl 35 (.tmp 3) rfl _ 0 rfl _ _ hMp Tryz.underlying35 rfl (hi35 _ _ _) ?_)
        | (at_builtin; refine wpList_append_own2 rfl _ _ 30 rfl (w.heap.size + 2) 35 i0 _ 3 24 Tryz.underlying30 hi hz0 hz1 hz2 rfl (by decide) _ _ _ rfl (hown2.alloc _) ⟨wr.heap.size, 0, none⟩ 1 1 [.int .i64 f, .int .i64 t, .int .i64 k] rfl rfl ?c1 ?c2 (by decide) ?c3 ?c4 ?c5 ?_))
      case c1 =>
        intro j u hu
        have h := three_cells (wr.setCell ⟨w.heap.size + 1, 2, none⟩ (.int .i64 k)) (.int .i64 f) (.int .i64 t) (.int .i64 k) 35 j u hu
        rw [show (wr.setCell ⟨w.heap.size + 1, 2, none⟩ (.int .i64 k)).heap.size = wr.heap.size by simp [World.setCell]] at h
        exact h
      case c2 => intro u hu; simp at hu; rcases hu with rfl | rfl | rfl <;> rfl
      case c3 => unfold maxLen; omega
      case c4 => omega
      case c5 => simp [World.setCell]; omega
      intro v' w3 hown3 hgrow _
      obtain ⟨a3, cap3, rfl⟩ := ownsRow_shape hown3
      have hbx : Below (w.heap.size + 2) ((wr.setCell ⟨w.heap.size + 1, 2, none⟩ (.int .i64 k)).alloc (Obj.cells #[.int .i64 f, .int .i64 t, .int .i64 k] 35)) w3 := (Below.refl _ _).grown hgrow (by simp [World.setCell]; omega) (fun k hk => by have := hown2.lt k hk; omega)
      have HM3 := Lib.hid ((hM2.below ((Below.refl _ _).alloc (Nat.le_refl _) _) (heap_lt hM2)).below hbx (by omega))
      have HB3 := Lib.hid ((HB2.out.alloc (by simp [World.setCell]; omega) (Obj.cells #[.int .i64 f, .int .i64 t, .int .i64 k] 35)).trans (hbx.mono (by omega)))
      have HO3 := Lib.hid hown3
      have HI3 := Lib.hid (show ∀ m ∈ l ++ [(f, t, k)], m.1 = f ∧ m.2.1 = t ∧ KM.promoOk p f t m.2.2 = true from fun m hm => by
        rcases List.mem_append.1 hm with h | h
        · exact HI.out m h
        · rw [List.mem_singleton] at h
          subst h
          exact ⟨rfl, rfl, HPO.out k hlt k5⟩)
      clear hgrow hown3 hown2 hown hbx hM2 hMp hM c2 f2
      go_wp2_with fail
      go_roundw
      case rel => exact ⟨l ++ [(f, t, k)], k - 1, a3, cap3, by simp, by go_num, by omega, by omega, by have := HL.out; rw [List.length_append, List.length_singleton]; omega, by rw [show KM.mvs (l ++ [(f, t, k)]) = KM.mvs l ++ [.int .i64 f, .int .i64 t, .int .i64 k] from KM.mvs_append _ _]; simpa using HO3.out, HI3.out, ⟨k, HM3.out⟩, HB3.out⟩
      case measure => simp [intOf]; omega
    · have HO1 := Lib.hid hown
      clear hown hM
      go_wp2_with fail
      go_ret
      exact ⟨l, ⟨a, cap, rfl, ownsRow_base HO1.out (by omega), HB1.out⟩, hl4, fun a b c h => HI.out (a, b, c) h⟩

theorem turned_d (p : KM.Po) (f t : Int) (w : World) (hp : p.wf) (f0 : 0 ≤ f) (f1 : f < 64) (hk : KM.kind (p.b f.toNat) = 1) (hr : KM.rank t = 7) (hl : KM.rank t = KM.last p.turn) :
    Calls Tryz.prog 49 #[.agg (KM.pval p), .agg #[.int .i64 f, .int .i64 t, .int .i64 0]] w fun e w' => ∃ l, RetMvs w l e w' ∧ l.length ≤ 4 ∧ ∀ m ∈ l, m.1 = f ∧ m.2.1 = t ∧ KM.promoOk p f t m.2.2 = true := by
  have hP := pm_p p f t 0 w
  have hM := pm_m p f t 0 w
  have HB := Lib.hid (pm_b p f t 0 w)
  have hS := pm_s p f t 0 w
  have hown0 : ((w.alloc (.cells (KM.pval p) 26)).alloc (.cells #[.int .i64 f, .int .i64 t, .int .i64 0] 35)).ownsRow (w.heap.size + 2) 35 3 (.slice none 0 0) 0 [] := World.ownsRow_nil _ _ _ _
  obtain ⟨m0, m1⟩ := hp.b f.toNat (by omega)
  obtain ⟨i0, hi, hz0, hz1, hz2⟩ := info_parts info35s
  have HPO := Lib.hid (show ∀ r, 2 ≤ r → r ≤ 5 → KM.promoOk p f t r = true from fun r h2 h5 => by unfold KM.promoOk; rw [if_pos ⟨hk, hl⟩]; simp [h2, h5])
  have bk : (KM.kind (p.b f.toNat) != 1) = false := by simp [hk]
  have b0 : ((7 : Int) != 0) = true := rfl
  replace hk := Lib.hid hk
  replace hl := Lib.hid hl
  have hq := Lib.hid (show ∀ w', Calls Tryz.prog 35 #[.int .i64 t] w' fun e w'' => e = .returned (.int .i64 7) ∧ w' = w'' by intro w'; have h := sqRank_any t w'; rw [hr] at h; exact h)
  clear hr
  have c0 := hM.from
  have c1 := hM.to
  have c2 := hP.at (i := f.toNat) (by omega)
  go_enter Tryz.func49, Tryz.ntmps49
  go_wp2_with (first
    | (go_at_call 35; refine (hq.out _).mono ?_; rintro e w' ⟨rfl, rfl⟩)
    | (go_at_call 47; refine (manKind_any _ _).mono ?_; rintro e w' ⟨rfl, rfl⟩))
  have HM0 := Lib.hid hM
  have HO0 := Lib.hid hown0
  clear c0 c1 c2 hM hP hown0
  generalize (w.alloc (.cells (KM.pval p) 26)).alloc (.cells #[.int .i64 f, .int .i64 t, .int .i64 0] 35) = w0 at *
  go_loopw [6, 7] (fun v6 v7 wr => ∃ (l : List (Int × Int × Int)) (k : Int) (a : Option Addr) (cap : Nat), v6 = .slice a l.length cap ∧ v7 = .int .i64 k ∧ 1 ≤ k ∧ k ≤ 5 ∧ (l.length : Int) = 5 - k ∧ wr.ownsRow (w.heap.size + 2) 35 3 (.slice a l.length cap) l.length (KM.mvs l)
    ∧ (∀ m ∈ l, m.1 = f ∧ m.2.1 = t ∧ KM.promoOk p f t m.2.2 = true) ∧ (∃ r, MBox wr (w.heap.size + 1) f t r) ∧ Below w.heap.size w wr) (fun _ v _ => (intOf v).toNat)
  case atStart => exact ⟨[], 5, none, 0, rfl, rfl, by omega, by omega, rfl, HO0.out, fun m hm => (by cases hm), ⟨0, HM0.out⟩, HB.out⟩
  case round =>
    obtain ⟨l, k, a, cap, rfl, rfl, k1, k5, hlen, hown, hin, ⟨r, hM⟩, hb⟩ := hrel
    have HI := Lib.hid hin
    have HB1 := Lib.hid hb
    have HL := Lib.hid hlen
    have hl4 : l.length ≤ 4 := by omega
    have hMl := heap_lt hM
    clear hin hb hlen
    by_cases hlt : 2 ≤ k
    · have c2 := hM.promo
      have f2 := hM.frozen 2
      have hM2 := hM.store k
      have hown2 : (wr.setCell ⟨w.heap.size + 1, 2, none⟩ (.int .i64 k)).ownsRow (w.heap.size + 2) 35 3 (.slice a l.length cap) l.length (KM.mvs l) := ownsRow_setCell_below hown (by simp) _
      have hbz : w.heap.size + 2 ≤ wr.heap.size := by omega
      have HB2 := Lib.hid (below_setCell (g := w.heap.size + 1) (o := 2) (v := .int .i64 k) HB1.out (by omega))
      have hMp := hM2.part
      go_wp2_with (first
        | (refine wpList_load_part rfl 35 (.tmp 3) rfl _ 0 rfl _ _ hMp Tryz.underlying35 rfl (hi35 _ _ _) ?_)
        | (at_builtin; refine wpList_append_own2 rfl _ _ 30 rfl (w.heap.size + 2) 35 i0 _ 3 24 Tryz.underlying30 hi hz0 hz1 hz2 rfl (by decide) _ _ _ rfl (hown2.alloc _) ⟨wr.heap.size, 0, none⟩ 1 1 [.int .i64 f, .int .i64 t, .int .i64 k] rfl rfl ?c1 ?c2 (by decide) ?c3 ?c4 ?c5 ?_))
      case c1 =>
        intro j u hu
        have h := three_cells (wr.setCell ⟨w.heap.size + 1, 2, none⟩ (.int .i64 k)) (.int .i64 f) (.int .i64 t) (.int .i64 k) 35 j u hu
        rw [show (wr.setCell ⟨w.heap.size + 1, 2, none⟩ (.int .i64 k)).heap.size = wr.heap.size by simp [World.setCell]] at h
        exact h
      case c2 => intro u hu; simp at hu; rcases hu with rfl | rfl | rfl <;> rfl
      case c3 => unfold maxLen; omega
      case c4 => omega
      case c5 => simp [World.setCell]; omega
      intro v' w3 hown3 hgrow _
      obtain ⟨a3, cap3, rfl⟩ := ownsRow_shape hown3
      have hbx : Below (w.heap.size + 2) ((wr.setCell ⟨w.heap.size + 1, 2, none⟩ (.int .i64 k)).alloc (Obj.cells #[.int .i64 f, .int .i64 t, .int .i64 k] 35)) w3 := (Below.refl _ _).grown hgrow (by simp [World.setCell]; omega) (fun k hk => by have := hown2.lt k hk; omega)
      have HM3 := Lib.hid ((hM2.below ((Below.refl _ _).alloc (Nat.le_refl _) _) (heap_lt hM2)).below hbx (by omega))
      have HB3 := Lib.hid ((HB2.out.alloc (by simp [World.setCell]; omega) (Obj.cells #[.int .i64 f, .int .i64 t, .int .i64 k] 35)).trans (hbx.mono (by omega)))
      have HO3 := Lib.hid hown3
      have HI3 := Lib.hid (show ∀ m ∈ l ++ [(f, t, k)], m.1 = f ∧ m.2.1 = t ∧ KM.promoOk p f t m.2.2 = true from fun m hm => by
        rcases List.mem_append.1 hm with h | h
        · exact HI.out m h
        · rw [List.mem_singleton] at h
          subst h
          exact ⟨rfl, rfl, HPO.out k hlt k5⟩)
      clear hgrow hown3 hown2 hown hbx hM2 hMp hM c2 f2
      go_wp2_with fail
      go_roundw
      case rel => exact ⟨l ++ [(f, t, k)], k - 1, a3, cap3, by simp, by go_num, by omega, by omega, by have := HL.out; rw [List.length_append, List.length_singleton]; omega, by rw [show KM.mvs (l ++ [(f, t, k)]) = KM.mvs l ++ [.int .i64 f, .int .i64 t, .int .i64 k] from KM.mvs_append _ _]; simpa using HO3.out, HI3.out, ⟨k, HM3.out⟩, HB3.out⟩
      case measure => simp [intOf]; omega
    · have HO1 := Lib.hid hown
      clear hown hM
      go_wp2_with fail
      go_ret
      exact ⟨l, ⟨a, cap, rfl, ownsRow_base HO1.out (by omega), HB1.out⟩, hl4, fun a b c h => HI.out (a, b, c) h⟩

theorem turned_any (p : KM.Po) (f t : Int) (w : World) (hp : p.wf) (f0 : 0 ≤ f) (f1 : f < 64) (hl : KM.kind (p.b f.toNat) = 1 → KM.rank t = 0 ∨ KM.rank t = 7 → KM.rank t = KM.last p.turn) :
    Calls Tryz.prog 49 #[.agg (KM.pval p), .agg #[.int .i64 f, .int .i64 t, .int .i64 0]] w fun e w' => ∃ l, RetMvs w l e w' ∧ l.length ≤ 4 ∧ ∀ m ∈ l, m.1 = f ∧ m.2.1 = t ∧ KM.promoOk p f t m.2.2 = true := by
  by_cases hk : KM.kind (p.b f.toNat) = 1
  · by_cases h0 : KM.rank t = 0
    · exact turned_c p f t w hp f0 f1 hk h0 (hl hk (.inl h0))
    · by_cases h7 : KM.rank t = 7
      · exact turned_d p f t w hp f0 f1 hk h7 (hl hk (.inr h7))
      · exact turned_b p f t w hp f0 f1 hk h0 h7
  · exact turned_a p f t w hp f0 f1 hk

end Go.Proofs.YtgikglnfjkbnhaaGreat
