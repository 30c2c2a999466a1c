/-
  Plain definitions: rays, what goes along them, and who strikes a square, as lists of whole numbers. No program is named here.
-/
import Derived.Test.YtgikglnfjkbnhaaGreatKm
namespace Go.Proofs.YtgikglnfjkbnhaaGreat.KM

def straightL : List (Int × Int) := [(0, 1), (1, 0), (0, -1), (-1, 0)]
def slantL : List (Int × Int) := [(1, 1), (1, -1), (-1, -1), (-1, 1)]
def jumpsL : List (Int × Int) := [(1, 2), (2, 1), (2, -1), (1, -2), (-1, -2), (-2, -1), (-2, 1), (-1, 2)]
def pawnL (m : Int) : List (Int × Int) := if side m = 1 then [(1, -1), (-1, -1)] else [(1, 1), (-1, 1)]
def stepsL (m : Int) : List (Int × Int) :=
  if kind m = 1 then pawnL m else if kind m = 2 then jumpsL else if kind m = 3 then slantL else if kind m = 4 then straightL else straightL ++ slantL
def mostN (m : Int) : Nat := if kind m = 1 ∨ kind m = 2 ∨ kind m = 6 then 1 else 64

def pcs (l : List (Int × Int)) : List Value := l.flatMap fun x => [.int .i64 x.1, .int .i64 x.2]
def ints (l : List Int) : List Value := l.map fun x => .int .i64 x
theorem pcs_length (l : List (Int × Int)) : (pcs l).length = l.length * 2 := by
  induction l with
  | nil => rfl
  | cons x l ih => simp [pcs] at *; omega
theorem ints_length (l : List Int) : (ints l).length = l.length * 1 := by simp [ints]
theorem pcs_append (l k : List (Int × Int)) : pcs (l ++ k) = pcs l ++ pcs k := by simp [pcs]
theorem ints_append (l k : List Int) : ints (l ++ k) = ints l ++ ints k := by simp [ints]
theorem pcs_get {l : List (Int × Int)} {i : Nat} {x : Int × Int} (h : l[i]? = some x) : (pcs l)[i * 2]? = some (.int .i64 x.1) ∧ (pcs l)[i * 2 + 1]? = some (.int .i64 x.2) := by
  induction l generalizing i with
  | nil => simp at h
  | cons y l ih =>
    cases i with
    | zero => simp at h; subst h; simp [pcs]
    | succ i =>
      have h' : l[i]? = some x := by simpa using h
      have := ih h'
      have e : pcs (y :: l) = .int .i64 y.1 :: .int .i64 y.2 :: pcs l := by simp [pcs]
      rw [e, show (i + 1) * 2 = i * 2 + 1 + 1 by omega, show i * 2 + 1 + 1 + 1 = i * 2 + 1 + 1 + 1 from rfl]
      simpa using this
theorem ints_get {l : List Int} {i : Nat} {x : Int} (h : l[i]? = some x) : (ints l)[i]? = some (.int .i64 x) := by simp [ints, h]

/-- The squares of a ray, at most n of them. -/
def walkL (f r : Int) : Nat → Int → List Int
  | 0, _ => []
  | n + 1, s => if stepB s f r = true ∧ ¬ (f = 0 ∧ r = 0) then stepN s f r :: walkL f r n (stepN s f r) else []

theorem walkL_length (f r : Int) : ∀ (n : Nat) (s : Int), (walkL f r n s).length ≤ n
  | 0, _ => Nat.le_refl 0
  | n + 1, s => by
    unfold walkL
    split
    · have := walkL_length f r n (stepN s f r)
      simp; omega
    · simp
theorem walkL_in (f r : Int) : ∀ (n : Nat) (s x : Int), x ∈ walkL f r n s → 0 ≤ x ∧ x < 64
  | 0, _, _, h => by simp [walkL] at h
  | n + 1, s, x, h => by
    unfold walkL at h
    split at h
    · rename_i hs
      rcases List.mem_cons.1 h with rfl | h
      · have := stepB_range hs.1; exact ⟨this.1, this.2.1⟩
      · exact walkL_in f r n _ x h
    · simp at h

/-- Along a ray, as long as it is told to go on. -/
def runRay {σ : Type} (g : σ → Int → σ × Bool) : List Int → σ → σ
  | [], s => s
  | x :: l, s => if (g s x).2 = true then runRay g l (g s x).1 else (g s x).1
def runRays {σ : Type} (g : σ → Int → σ × Bool) (m : Nat) (sq : Int) : List (Int × Int) → σ → σ
  | [], s => s
  | x :: l, s => runRays g m sq l (runRay g (walkL x.1 x.2 m sq) s)
def along {σ : Type} (g : σ → Int → σ × Bool) (man sq : Int) (s : σ) : σ := runRays g (mostN man) sq (stepsL man) s

/-- What Strikes and from keep. -/
def gStrikes (b : Nat → Int) (l : List Int) (x : Int) : List Int × Bool := (l ++ [x], b x.toNat == 0)
def gFrom (b : Nat → Int) (man : Int) (most : Int) (l : List Int) (x : Int) : List Int × Bool :=
  (if (b x.toNat == man) = true ∧ (l.length : Int) < most then l ++ [x] else l, b x.toNat == 0)

theorem stepsL_length (m : Int) : (stepsL m).length ≤ 8 := by
  unfold stepsL
  repeat' split
  all_goals (first | decide | (unfold pawnL; split <;> decide))
theorem mostN_le (m : Int) : mostN m ≤ 64 := by unfold mostN; split <;> omega

/-- A property that each step keeps. -/
theorem runRay_keeps {σ : Type} {g : σ → Int → σ × Bool} (R : σ → Prop) (hg : ∀ s x, 0 ≤ x → x < 64 → R s → R (g s x).1) :
    ∀ (l : List Int) (s : σ), (∀ x ∈ l, 0 ≤ x ∧ x < 64) → R s → R (runRay g l s)
  | [], _, _, h => h
  | x :: l, s, hl, h => by
    have hx := hl x (List.mem_cons_self ..)
    have h' := hg s x hx.1 hx.2 h
    unfold runRay
    split
    · exact runRay_keeps R hg l _ (fun y hy => hl y (List.mem_cons_of_mem _ hy)) h'
    · exact h'
theorem runRays_keeps {σ : Type} {g : σ → Int → σ × Bool} (R : σ → Prop) (hg : ∀ s x, 0 ≤ x → x < 64 → R s → R (g s x).1) (m : Nat) (sq : Int) :
    ∀ (l : List (Int × Int)) (s : σ), R s → R (runRays g m sq l s)
  | [], _, h => h
  | x :: l, s, h => by
    unfold runRays
    exact runRays_keeps R hg m sq l _ (runRay_keeps R hg _ _ (walkL_in _ _ _ _) h)

/-- What a man strikes, in the order in which it is met. -/
def strikes (b : Nat → Int) (s : Int) : List Int := along (gStrikes b) (b s.toNat) s []
/-- The squares of a side's men that strike a square, in the order in which they are met. -/
def fromK (b : Nat → Int) (s sd most : Int) : Nat → List Int → List Int
  | 0, l => l
  | n + 1, l => along (gFrom b (mk (n + 1) sd) most) (-(mk (n + 1) sd)) s (fromK b s sd most n l)
def fromL (b : Nat → Int) (s sd most : Int) : List Int := fromK b s sd most 6 []
def struck (b : Nat → Int) (s sd : Int) : Bool := sqR s && rightB b && decide (0 ≤ other sd) && decide (0 < (fromL b s sd 1).length)
def check (b : Nat → Int) (sd : Int) : Bool := decide (0 ≤ king b sd) && struck b (king b sd) (other sd)

/-- What is wrong with a position. -/
def wrong (p : Po) : Int :=
  if wrongB p.b ≠ 0 then wrongB p.b
  else if other p.turn < 0 ∨ p.castle < 0 ∨ 15 < p.castle ∨ p.ep < -1 ∨ 64 ≤ p.ep then 5
  else if touch p.b = true ∨ check p.b (other p.turn) = true then 9
  else if castlesB p = false then 10
  else if 0 ≤ p.ep ∧ passB p = false then 11
  else 0

end Go.Proofs.YtgikglnfjkbnhaaGreat.KM
