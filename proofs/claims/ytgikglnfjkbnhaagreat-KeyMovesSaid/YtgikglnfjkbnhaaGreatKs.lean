/-
  Plain definitions: what the small functions of the program compute, on whole numbers. No program is named here.
-/
namespace Go.Proofs.YtgikglnfjkbnhaaGreat.KM

def sqR (s : Int) : Bool := decide (0 ≤ s) && decide (s < 64)
def onB (n : Int) : Bool := decide (0 ≤ n) && decide (n < 8)
def rank (s : Int) : Int := if sqR s = true then s / 8 else -1
def file (s : Int) : Int := if sqR s = true then s % 8 else -1
def manR (m : Int) : Bool := decide (m ≠ 0) && decide (-6 ≤ m) && decide (m ≤ 6)
def kind (m : Int) : Int := if manR m = true then (if m < 0 then -m else m) else 0
def side (m : Int) : Int := if manR m = true then (if 0 < m then 0 else 1) else -1
def other (s : Int) : Int := if s = 0 then 1 else if s = 1 then 0 else -1
def mk (k s : Int) : Int := if 1 ≤ k ∧ k ≤ 6 then (if s = 0 then k else if s = 1 then -k else 0) else 0
def last (s : Int) : Int := if s = 0 then 7 else 0
def ahead (s : Int) : Int := if s = 1 then -1 else 1
def atB (f r : Int) : Bool := onB f && onB r
def atN (f r : Int) : Int := if atB f r = true then 8 * r + f else 0
def stepOk (s f r : Int) : Bool := sqR s && decide (-8 < f) && decide (f < 8) && decide (-8 < r) && decide (r < 8)
def stepB (s f r : Int) : Bool := stepOk s f r && atB (s % 8 + f) (s / 8 + r)
def stepN (s f r : Int) : Int := if stepB s f r = true then s + f + 8 * r else 0
def gap (a b : Int) : Int := if a < b then b - a else a - b
def far (a b : Int) : Int := if sqR a = true ∧ sqR b = true then (if gap (a % 8) (b % 8) < gap (a / 8) (b / 8) then gap (a / 8) (b / 8) else gap (a % 8) (b % 8)) else -1

theorem sqR_iff {s : Int} : sqR s = true ↔ 0 ≤ s ∧ s < 64 := by simp [sqR]
theorem sqR_false {s : Int} : sqR s = false ↔ s < 0 ∨ 64 ≤ s := by
  rw [← Bool.not_eq_true, sqR_iff]; omega
theorem onB_iff {s : Int} : onB s = true ↔ 0 ≤ s ∧ s < 8 := by simp [onB]
theorem onB_false {s : Int} : onB s = false ↔ s < 0 ∨ 8 ≤ s := by
  rw [← Bool.not_eq_true, onB_iff]; omega
theorem manR_iff {m : Int} : manR m = true ↔ m ≠ 0 ∧ -6 ≤ m ∧ m ≤ 6 := by simp [manR, and_assoc]
theorem manR_false {m : Int} : manR m = false ↔ m = 0 ∨ m < -6 ∨ 6 < m := by
  rw [← Bool.not_eq_true, manR_iff]; omega

theorem stepOk_iff {s f r : Int} : stepOk s f r = true ↔ 0 ≤ s ∧ s < 64 ∧ -8 < f ∧ f < 8 ∧ -8 < r ∧ r < 8 := by simp [stepOk, sqR, and_assoc]
theorem stepOk_false {s f r : Int} : stepOk s f r = false ↔ s < 0 ∨ 64 ≤ s ∨ f ≤ -8 ∨ 8 ≤ f ∨ r ≤ -8 ∨ 8 ≤ r := by
  rw [← Bool.not_eq_true, stepOk_iff]; omega
theorem atB_iff {f r : Int} : atB f r = true ↔ 0 ≤ f ∧ f < 8 ∧ 0 ≤ r ∧ r < 8 := by simp [atB, onB, and_assoc]
theorem stepN_eq {s f r : Int} (h : stepOk s f r = true) : atN (s % 8 + f) (s / 8 + r) = stepN s f r := by
  unfold stepN stepB atN
  rw [h, Bool.true_and]
  split
  · omega
  · rfl
theorem stepB_range {s f r : Int} (h : stepB s f r = true) : 0 ≤ stepN s f r ∧ stepN s f r < 64 ∧ stepN s f r = s + f + 8 * r ∧ 0 ≤ s ∧ s < 64 ∧ stepN s f r / 8 = s / 8 + r := by
  have h2 := h
  unfold stepB at h2
  rw [Bool.and_eq_true, atB_iff, stepOk_iff] at h2
  unfold stepN
  rw [if_pos h]
  omega

/-! Boards. -/
def allTo (f : Nat → Bool) : Nat → Bool
  | 0 => true
  | n + 1 => allTo f n && f n
theorem allTo_succ {f : Nat → Bool} {n : Nat} (h : allTo f n = true) (h' : f n = true) : allTo f (n + 1) = true := by
  show (allTo f n && f n) = true
  rw [h, h']; rfl
theorem allTo_false {f : Nat → Bool} {i : Nat} (h : f i = false) : ∀ {n : Nat}, i < n → allTo f n = false
  | 0, hi => by omega
  | n + 1, hi => by
    show (allTo f n && f n) = false
    by_cases e : i = n
    · subst e; rw [h, Bool.and_false]
    · rw [allTo_false h (by omega : i < n), Bool.false_and]
theorem allTo_true {f : Nat → Bool} {i : Nat} : ∀ {n : Nat}, allTo f n = true → i < n → f i = true
  | 0, _, hi => by omega
  | n + 1, h, hi => by
    have h' : (allTo f n && f n) = true := h
    rw [Bool.and_eq_true] at h'
    by_cases e : i = n
    · subst e; exact h'.2
    · exact allTo_true h'.1 (by omega)

def okc (b : Nat → Int) (i : Nat) : Bool := decide (b i = 0) || manR (b i)
def rightB (b : Nat → Int) : Bool := allTo (okc b) 64
def rimc (b : Nat → Int) (i : Nat) : Bool := !(decide (kind (b i) = 1) && (decide ((i : Int) / 8 = 0) || decide ((i : Int) / 8 = 7)))
def rimB (b : Nat → Int) : Bool := !(allTo (rimc b) 64)
def cnt (b : Nat → Int) (k s : Int) (i : Nat) : Bool := manR (b i) && decide (side (b i) = s) && (decide (k = 0) || decide (kind (b i) = k))
def manyTo (b : Nat → Int) (k s : Int) : Nat → Nat
  | 0 => 0
  | n + 1 => if cnt b k s n = true then manyTo b k s n + 1 else manyTo b k s n
theorem manyTo_le (b : Nat → Int) (k s : Int) (n : Nat) : manyTo b k s n ≤ n := by
  induction n with
  | zero => exact Nat.le_refl 0
  | succ n ih => rw [manyTo]; split <;> omega
def many (b : Nat → Int) (k s : Int) : Nat := manyTo b k s 64
theorem manyTo_zero {b : Nat → Int} {k s : Int} : ∀ {n : Nat}, (∀ i, i < n → b i = 0) → manyTo b k s n = 0
  | 0, _ => rfl
  | n + 1, h => by
    rw [manyTo, if_neg (by simp [cnt, manR, h n (by omega)])]
    exact manyTo_zero fun i hi => h i (by omega)
theorem many_zero {b : Nat → Int} {k s : Int} (h : ∀ i, i < 64 → b i = 0) : many b k s = 0 := manyTo_zero h
def find (f : Nat → Bool) : Nat → Nat → Int
  | 0, _ => -1
  | m + 1, i => if f i = true then i else find f m (i + 1)
theorem find_range (f : Nat → Bool) : ∀ (m i : Nat), find f m i = -1 ∨ (i ≤ find f m i ∧ find f m i < i + m ∧ f (find f m i).toNat = true)
  | 0, _ => .inl rfl
  | m + 1, i => by
    unfold find
    split
    · rename_i h
      exact .inr ⟨by omega, by omega, by simpa using h⟩
    · rcases find_range f m (i + 1) with h | ⟨h1, h2, h3⟩
      · exact .inl h
      · exact .inr ⟨by omega, by omega, h3⟩
theorem find_yes {f : Nat → Bool} {m i : Nat} (h : f i = true) (hm : 0 < m) : find f m i = i := by
  obtain ⟨k, rfl⟩ : ∃ k, m = k + 1 := ⟨m - 1, by omega⟩
  rw [find, if_pos h]
theorem find_no {f : Nat → Bool} {m i : Nat} (h : f i = false) (hm : 0 < m) : find f m i = find f (m - 1) (i + 1) := by
  obtain ⟨k, rfl⟩ : ∃ k, m = k + 1 := ⟨m - 1, by omega⟩
  rw [find, if_neg (by rw [h]; exact Bool.false_ne_true)]; rfl
def isK (b : Nat → Int) (k : Int) (i : Nat) : Bool := decide (k ≠ 0) && decide (b i = k)
def king (b : Nat → Int) (s : Int) : Int := find (isK b (mk 6 s)) 64 0
theorem king_range (b : Nat → Int) (s : Int) : king b s = -1 ∨ (0 ≤ king b s ∧ king b s < 64) := by
  rcases find_range (isK b (mk 6 s)) 64 0 with h | ⟨h1, h2, _⟩
  · exact .inl h
  · exact .inr ⟨by unfold king; omega, by unfold king; omega⟩
def manAt (b : Nat → Int) (s : Int) : Int := if sqR s = true then b s.toNat else 0
/-- A right is backed. -/
def bk (b : Nat → Int) (k r s : Int) : Bool := (manAt b k == mk 6 s) && (manAt b r == mk 4 s)
def wrongB (b : Nat → Int) : Int :=
  if rightB b = false then 5
  else if many b 6 0 ≠ 1 ∨ many b 6 1 ≠ 1 then 6
  else if rimB b = true then 7
  else if 16 < many b 0 0 ∨ 16 < many b 0 1 then 8
  else 0
def touch (b : Nat → Int) : Bool := decide (far (king b 0) (king b 1) ≤ 1)

end Go.Proofs.YtgikglnfjkbnhaaGreat.KM
