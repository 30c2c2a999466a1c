/-
  Plain definitions: keys as numbers; positions as data. No program is named here.
-/
import Derived.Laws.Bits64
import Derived.Laws.BitsAllLaws
import Derived.Test.YtgikglnfjkbnhaaGreatKs
namespace Go.Proofs.YtgikglnfjkbnhaaGreat.KM

def xo (a b : Int) : Int := bits .xor .u64 a b
def u64 (a : Int) : Int := IntKind.u64.wrap a
def m1 (n : Int) : Int := u64 (u64 (n * 11400714819323198485) + 11400714819323198485)
def m2 (x : Int) : Int := u64 (xo x (x / 1073741824) * 13787848793156543929)
def m3 (x : Int) : Int := u64 (xo x (x / 134217728) * 10723151780598845931)
def m4 (x : Int) : Int := xo x (x / 2147483648)
def mix (n : Int) : Int := m4 (m3 (m2 (m1 n)))

theorem u64_range (a : Int) : 0 ≤ u64 a ∧ u64 a < 18446744073709551616 := by
  unfold u64
  rw [IntKind.wrap_u64]
  omega
theorem u64_id {a : Int} (h0 : 0 ≤ a) (h1 : a < 18446744073709551616) : u64 a = a := by
  unfold u64
  rw [IntKind.wrap_u64]
  omega
theorem xo_nat {a b : Int} (h1 : 0 ≤ a) (h2 : a < 18446744073709551616) (h3 : 0 ≤ b) (h4 : b < 18446744073709551616) : xo a b = ((a.toNat ^^^ b.toNat : Nat) : Int) :=
  u64_xor a b h1 h2 h3 h4
theorem xo_range {a b : Int} (h1 : 0 ≤ a) (h2 : a < 18446744073709551616) (h3 : 0 ≤ b) (h4 : b < 18446744073709551616) : 0 ≤ xo a b ∧ xo a b < 18446744073709551616 := by
  rw [xo_nat h1 h2 h3 h4]
  have := Nat.xor_lt_two_pow (n := 64) (x := a.toNat) (y := b.toNat) (by omega) (by omega)
  omega
theorem mix_range (n : Int) : 0 ≤ mix n ∧ mix n < 18446744073709551616 := by
  unfold mix m4
  have h := u64_range (xo (m2 (m1 n)) (m2 (m1 n) / 134217728) * 10723151780598845931)
  have e : m3 (m2 (m1 n)) = u64 (xo (m2 (m1 n)) (m2 (m1 n) / 134217728) * 10723151780598845931) := rfl
  rw [e]
  generalize u64 (xo (m2 (m1 n)) (m2 (m1 n) / 134217728) * 10723151780598845931) = x at *
  exact xo_range h.1 h.2 (by omega) (by omega)

/-- The same number by the reference's text. -/
theorem m1_ref (n : Int) : u64 (u64 (n + 1) * 11400714819323198485) = m1 n := by
  unfold m1 u64
  simp only [IntKind.wrap_u64]
  omega

/-- A position as data. -/
structure Po where
  b : Nat → Int
  turn : Int
  castle : Int
  ep : Int

def i64ok (n : Int) : Prop := -9223372036854775808 ≤ n ∧ n ≤ 9223372036854775807
def bok (b : Nat → Int) : Prop := ∀ i, i < 64 → -128 ≤ b i ∧ b i ≤ 127
structure Po.wf (p : Po) : Prop where
  b : bok p.b
  turn : i64ok p.turn
  castle : i64ok p.castle
  ep : i64ok p.ep

def bcells (b : Nat → Int) : List Value := (List.range 64).map fun i => .int .i8 (b i)
def pcells (p : Po) : List Value := bcells p.b ++ [.int .i64 p.turn, .int .i64 p.castle, .int .i64 p.ep]
def bval (b : Nat → Int) : Array Value := (bcells b).toArray
def pval (p : Po) : Array Value := (pcells p).toArray

theorem bval_size (b : Nat → Int) : (bval b).size = 64 := by simp [bval, bcells]
theorem pval_size (p : Po) : (pval p).size = 67 := by simp [pval, pcells, bcells]
theorem bval_get (b : Nat → Int) {i : Nat} (h : i < 64) : (bval b)[i]? = some (.int .i8 (b i)) := by
  simp [bval, bcells, List.getElem?_map, List.getElem?_range h]
theorem pval_get (p : Po) {i : Nat} (h : i < 64) : (pval p)[i]? = some (.int .i8 (p.b i)) := by
  unfold pval pcells
  rw [List.getElem?_toArray, List.getElem?_append_left (by simpa [bcells] using h)]
  simp [bcells, List.getElem?_map, List.getElem?_range h]
theorem pval_turn (p : Po) : (pval p)[64]? = some (.int .i64 p.turn) := by
  unfold pval pcells
  rw [List.getElem?_toArray, List.getElem?_append_right (by simp [bcells])]
  simp [bcells]
theorem pval_castle (p : Po) : (pval p)[65]? = some (.int .i64 p.castle) := by
  unfold pval pcells
  rw [List.getElem?_toArray, List.getElem?_append_right (by simp [bcells])]
  simp [bcells]
theorem pval_ep (p : Po) : (pval p)[66]? = some (.int .i64 p.ep) := by
  unfold pval pcells
  rw [List.getElem?_toArray, List.getElem?_append_right (by simp [bcells])]
  simp [bcells]

attribute [irreducible] pval bval

def kman (s m : Int) : Int := if m = 0 then 0 else mix (u64 (16 * s + m + 8))
def fl (c r : Int) : Bool := bits .and .i64 c r != 0
def re0 (p : Po) : Int := if p.turn = 1 then xo 0 (mix 1024) else 0
def reS (c r k : Int) : Int := if fl c r = true then xo k (mix (u64 (1032 + r))) else k
theorem reS_pos {c r k : Int} (h : fl c r = true) : reS c r k = xo k (mix (u64 (1032 + r))) := by unfold reS; rw [if_pos h]
theorem reS_neg {c r k : Int} (h : ¬ fl c r = true) : reS c r k = k := by unfold reS; rw [if_neg h]
def re4 (p : Po) : Int := reS p.castle 8 (reS p.castle 4 (reS p.castle 2 (reS p.castle 1 (re0 p))))
def rest (p : Po) : Int := if -1 < p.ep then xo (re4 p) (mix (1056 + p.ep)) else re4 p

def ofTo (p : Po) : Nat → Int
  | 0 => rest p
  | n + 1 => xo (ofTo p n) (kman n (p.b n))
def kOf (p : Po) : Int := ofTo p 64

/-! The reference's text. -/
def r1 (n : Int) : Int := u64 (u64 (n + 1) * 11400714819323198485)
def r2 (x : Int) : Int := u64 (xo x (u64 (x.tdiv 1073741824)) * 13787848793156543929)
def r3 (x : Int) : Int := u64 (xo x (u64 (x.tdiv 134217728)) * 10723151780598845931)
def r4 (x : Int) : Int := xo x (u64 (x.tdiv 2147483648))
def rmix (n : Int) : Int := r4 (r3 (r2 (r1 n)))

theorem u64_div {x c : Int} (h0 : 0 ≤ x) (h1 : x < 18446744073709551616) (hc : 1 ≤ c) : u64 (x.tdiv c) = x / c := by
  rw [Int.tdiv_eq_ediv_of_nonneg h0]
  have a := Int.ediv_nonneg h0 (by omega : 0 ≤ c)
  have b : x / c ≤ x := Int.ediv_le_self c h0
  exact u64_id a (by omega)

theorem rmix_eq (n : Int) : rmix n = mix n := by
  have e1 : r1 n = m1 n := m1_ref n
  have h1 : 0 ≤ m1 n ∧ m1 n < 18446744073709551616 := u64_range _
  have e2 : r2 (m1 n) = m2 (m1 n) := by unfold r2 m2; rw [u64_div h1.1 h1.2 (by omega)]
  have h2 : 0 ≤ m2 (m1 n) ∧ m2 (m1 n) < 18446744073709551616 := u64_range _
  have e3 : r3 (m2 (m1 n)) = m3 (m2 (m1 n)) := by unfold r3 m3; rw [u64_div h2.1 h2.2 (by omega)]
  have h3 : 0 ≤ m3 (m2 (m1 n)) ∧ m3 (m2 (m1 n)) < 18446744073709551616 := u64_range _
  unfold rmix mix
  rw [e1, e2, e3]
  unfold r4 m4
  rw [u64_div h3.1 h3.2 (by omega)]

def rbTo (p : Po) : Nat → Int
  | 0 => 0
  | n + 1 => if p.b n = 0 then rbTo p n else xo (rbTo p n) (mix (u64 (16 * n + p.b n + 8)))
def rf0 (p : Po) : Int := if p.turn = 1 then xo (rbTo p 64) (mix 1024) else rbTo p 64
def rf4 (p : Po) : Int := reS p.castle 8 (reS p.castle 4 (reS p.castle 2 (reS p.castle 1 (rf0 p))))
def rOf (p : Po) : Int := if -1 < p.ep then xo (rf4 p) (mix (1056 + p.ep)) else rf4 p

theorem kman_range (s m : Int) : 0 ≤ kman s m ∧ kman s m < 18446744073709551616 := by
  unfold kman
  split
  · omega
  · exact mix_range _

/-- Numbers of 64 bits. -/
def In (a : Int) : Prop := 0 ≤ a ∧ a < 18446744073709551616

theorem xo_in {a b : Int} (h : In a) (k : In b) : In (xo a b) := xo_range h.1 h.2 k.1 k.2
theorem mix_in (n : Int) : In (mix n) := mix_range n
theorem kman_in (s m : Int) : In (kman s m) := kman_range s m
theorem zero_in : In 0 := by unfold In; omega

theorem xo_comm {a b : Int} (h : In a) (k : In b) : xo a b = xo b a := by
  rw [xo_nat h.1 h.2 k.1 k.2, xo_nat k.1 k.2 h.1 h.2, Nat.xor_comm]
theorem xo_assoc {a b c : Int} (h : In a) (k : In b) (l : In c) : xo (xo a b) c = xo a (xo b c) := by
  have e1 := xo_in h k
  have e2 := xo_in k l
  rw [xo_nat e1.1 e1.2 l.1 l.2, xo_nat h.1 h.2 e2.1 e2.2, xo_nat h.1 h.2 k.1 k.2, xo_nat k.1 k.2 l.1 l.2]
  simp only [Int.toNat_natCast]
  rw [Nat.xor_assoc]
theorem xo_self {a : Int} (h : In a) : xo a a = 0 := by
  rw [xo_nat h.1 h.2 h.1 h.2, Nat.xor_self]; rfl
theorem xo_zero {a : Int} (h : In a) : xo a 0 = a := by
  rw [xo_nat h.1 h.2 (by omega) (by omega)]
  simp only [Int.toNat_zero, Nat.xor_zero]
  exact Int.toNat_of_nonneg h.1
theorem zero_xo {a : Int} (h : In a) : xo 0 a = a := by rw [xo_comm zero_in h, xo_zero h]
theorem xo_right {a b c : Int} (h : In a) (k : In b) (l : In c) : xo (xo a b) c = xo (xo a c) b := by
  rw [xo_assoc h k l, xo_comm k l, ← xo_assoc h l k]

theorem reS_in {c r k : Int} (h : In k) : In (reS c r k) := by
  unfold reS
  split
  · exact xo_in h (mix_in _)
  · exact h
theorem re0_in (p : Po) : In (re0 p) := by
  unfold re0
  split
  · exact xo_in zero_in (mix_in _)
  · exact zero_in
theorem re4_in (p : Po) : In (re4 p) := reS_in (reS_in (reS_in (reS_in (re0_in p))))
theorem rest_in (p : Po) : In (rest p) := by
  unfold rest
  split
  · exact xo_in (re4_in p) (mix_in _)
  · exact re4_in p
theorem ofTo_in (p : Po) (n : Nat) : In (ofTo p n) := by
  induction n with
  | zero => exact rest_in p
  | succ n ih => exact xo_in ih (kman_in _ _)
theorem rbTo_in (p : Po) (n : Nat) : In (rbTo p n) := by
  induction n with
  | zero => exact zero_in
  | succ n ih =>
    unfold rbTo
    split
    · exact ih
    · exact xo_in ih (mix_in _)

/-- The board's share is the same, in whatever order. -/
theorem ofTo_eq (p : Po) (n : Nat) : ofTo p n = xo (rest p) (rbTo p n) := by
  induction n with
  | zero => exact (xo_zero (rest_in p)).symm
  | succ n ih =>
    show xo (ofTo p n) (kman n (p.b n)) = xo (rest p) (if p.b n = 0 then rbTo p n else xo (rbTo p n) (mix (u64 (16 * n + p.b n + 8))))
    rw [ih]
    by_cases h : p.b n = 0
    · rw [if_pos h, show kman n (p.b n) = 0 by unfold kman; rw [if_pos h]]
      exact xo_zero (xo_in (rest_in p) (rbTo_in p n))
    · rw [if_neg h, show kman n (p.b n) = mix (u64 (16 * n + p.b n + 8)) by unfold kman; rw [if_neg h]]
      exact xo_assoc (rest_in p) (rbTo_in p n) (mix_in _)

theorem reS_xo {c r k x : Int} (h : In k) (hx : In x) : reS c r (xo x k) = xo x (reS c r k) := by
  unfold reS
  split
  · exact xo_assoc hx h (mix_in _)
  · rfl

theorem rOf_eq (p : Po) : rOf p = kOf p := by
  have hb := rbTo_in p 64
  have e0 : rf0 p = xo (rbTo p 64) (re0 p) := by
    unfold rf0 re0
    split
    · rw [zero_xo (mix_in _)]
    · exact (xo_zero hb).symm
  have i0 := re0_in p
  have e4 : rf4 p = xo (rbTo p 64) (re4 p) := by
    unfold rf4 re4
    rw [e0, reS_xo i0 hb, reS_xo (reS_in i0) hb, reS_xo (reS_in (reS_in i0)) hb, reS_xo (reS_in (reS_in (reS_in i0))) hb]
  have e5 : rOf p = xo (rbTo p 64) (rest p) := by
    unfold rOf rest
    rw [e4]
    split
    · exact xo_assoc hb (re4_in p) (mix_in _)
    · rfl
  rw [e5]
  unfold kOf
  rw [ofTo_eq, xo_comm hb (rest_in p)]

/-- From one position to another, by what changed. -/
def bhTo (k : Int) (p q : Po) : Nat → Int
  | 0 => k
  | n + 1 => if p.b n = q.b n then bhTo k p q n else xo (bhTo k p q n) (xo (kman n (p.b n)) (kman n (q.b n)))
def behind (k : Int) (p q : Po) : Int := xo (xo (bhTo k p q 64) (rest p)) (rest q)

theorem bhTo_in {k : Int} (h : In k) (p q : Po) (n : Nat) : In (bhTo k p q n) := by
  induction n with
  | zero => exact h
  | succ n ih =>
    unfold bhTo
    split
    · exact ih
    · exact xo_in ih (xo_in (kman_in _ _) (kman_in _ _))

def bbTo (p : Po) : Nat → Int
  | 0 => 0
  | n + 1 => xo (bbTo p n) (kman n (p.b n))
theorem bbTo_in (p : Po) (n : Nat) : In (bbTo p n) := by
  induction n with
  | zero => exact zero_in
  | succ n ih => exact xo_in ih (kman_in _ _)
theorem ofTo_bb (p : Po) (n : Nat) : ofTo p n = xo (rest p) (bbTo p n) := by
  induction n with
  | zero => exact (xo_zero (rest_in p)).symm
  | succ n ih =>
    show xo (ofTo p n) (kman n (p.b n)) = xo (rest p) (xo (bbTo p n) (kman n (p.b n)))
    rw [ih]
    exact xo_assoc (rest_in p) (bbTo_in p n) (kman_in _ _)

theorem bhTo_eq {k : Int} (h : In k) (p q : Po) (n : Nat) : bhTo k p q n = xo (xo k (bbTo p n)) (bbTo q n) := by
  induction n with
  | zero =>
    show k = xo (xo k 0) 0
    rw [xo_zero h, xo_zero h]
  | succ n ih =>
    have a := bbTo_in p n
    have b := bbTo_in q n
    have c := kman_in n (p.b n)
    have d := kman_in n (q.b n)
    have key : xo (xo (xo k (bbTo p n)) (bbTo q n)) (xo (kman n (p.b n)) (kman n (q.b n))) = xo (xo k (xo (bbTo p n) (kman n (p.b n)))) (xo (bbTo q n) (kman n (q.b n))) := by
      rw [← xo_assoc (xo_in (xo_in h a) b) c d, xo_right (xo_in h a) b c, xo_assoc h a c, xo_assoc (xo_in h (xo_in a c)) b d]
    show (if p.b n = q.b n then bhTo k p q n else xo (bhTo k p q n) (xo (kman n (p.b n)) (kman n (q.b n)))) = xo (xo k (xo (bbTo p n) (kman n (p.b n)))) (xo (bbTo q n) (kman n (q.b n)))
    rw [ih]
    split
    · rename_i he
      rw [← key, he, xo_self d]
      exact (xo_zero (xo_in (xo_in h a) b)).symm
    · exact key

/-- The key behind: that of the position. -/
theorem behind_eq (p q : Po) : behind (kOf p) p q = kOf q := by
  have rp := rest_in p
  have rq := rest_in q
  have bp := bbTo_in p 64
  have bq := bbTo_in q 64
  have hk : In (kOf p) := ofTo_in p 64
  unfold behind
  rw [bhTo_eq hk]
  have e1 : xo (kOf p) (bbTo p 64) = rest p := by
    unfold kOf
    rw [ofTo_bb, xo_assoc rp bp bp, xo_self bp, xo_zero rp]
  rw [e1, xo_right rp bq rp, xo_self rp, zero_xo bq, xo_comm bq rq]
  exact (ofTo_bb q 64).symm

/-! Positions: the pawn that went two squares; what is wrong. -/
def want (p : Po) : Int := if p.turn = 1 then 2 else 5
def bhN (p : Po) : Int := stepN p.ep 0 (ahead p.turn)
def bhB (p : Po) : Bool := stepB p.ep 0 (ahead p.turn)
def frN (p : Po) : Int := stepN p.ep 0 (-(ahead p.turn))
def frB (p : Po) : Bool := stepB p.ep 0 (-(ahead p.turn))
def pass1 (p : Po) : Bool := decide (0 ≤ other p.turn) && decide (rank p.ep = want p) && bhB p && frB p
def pass2 (p : Po) : Bool := decide (p.b p.ep.toNat = 0) && decide (p.b (bhN p).toNat = 0) && decide (p.b (frN p).toNat = mk 1 (other p.turn))
def passB (p : Po) : Bool := pass1 p && pass2 p
def passN (p : Po) : Int := if passB p = true then frN p else 0

/-- A right is backed, or not there. -/
def cs (p : Po) (j : Nat) : Bool :=
  match j with
  | 0 => !(fl p.castle 1) || bk p.b 4 7 0
  | 1 => !(fl p.castle 2) || bk p.b 4 0 0
  | 2 => !(fl p.castle 4) || bk p.b 60 63 1
  | _ => !(fl p.castle 8) || bk p.b 60 56 1
def castlesB (p : Po) : Bool := cs p 0 && cs p 1 && cs p 2 && cs p 3
theorem castlesB_yes (p : Po) (h0 : cs p 0 = true) (h1 : cs p 1 = true) (h2 : cs p 2 = true) (h3 : cs p 3 = true) : castlesB p = true := by
  unfold castlesB; rw [h0, h1, h2, h3]; rfl
theorem castlesB_no (p : Po) (j : Nat) (hj : j < 4) (h : cs p j = false) : castlesB p = false := by
  unfold castlesB
  have : j = 0 ∨ j = 1 ∨ j = 2 ∨ j = 3 := by omega
  rcases this with rfl | rfl | rfl | rfl <;> rw [h] <;> simp

theorem ahead_range (t : Int) : -1 ≤ ahead t ∧ ahead t ≤ 1 := by unfold ahead; split <;> omega
theorem pass1_iff {p : Po} : pass1 p = true ↔ 0 ≤ other p.turn ∧ rank p.ep = want p ∧ bhB p = true ∧ frB p = true := by simp [pass1, and_assoc]
theorem passB_range {p : Po} (h : passB p = true) : 0 ≤ frN p ∧ frN p < 64 := by
  unfold passB at h
  rw [Bool.and_eq_true, pass1_iff] at h
  have := stepB_range h.1.2.2.2
  exact ⟨this.1, this.2.1⟩

end Go.Proofs.YtgikglnfjkbnhaaGreat.KM
