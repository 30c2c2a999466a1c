/-
  Laws on slices of the call's own: an append that also tells which block the new slice lies in; footprints.
-/
import Derived.Test.YtgikglnfjkbnhaaGreatKw
import Derived.Laws.AppendOwn
import Derived.Laws.OwnMore
namespace Go.Proofs.YtgikglnfjkbnhaaGreat
open Go.RowKit

theorem append_block {P : Program} {w : World} (base : Nat) (t ty e : TypeId) (i : TypeInfo) (z : Value) (size bytes : Nat) (ht : P.underlying t = some (.slice e)) (hi : P.info? e = some i) (hz : i.zero = some z)
    (hsize : i.size = size) (hby : i.bytes = bytes)
    (v : Value) (n : Nat) (xs : List Value) (hown : w.ownsRow base e size v n xs)
    (a : Addr) (m c : Nat) (news : List Value) (hl : news.length = m * size) (hnews : ∀ j u, news[j]? = some u → w.cell? (a.add j) = some u) (h1 : ∀ u ∈ news, u.oneCell' = true)
    (hm : 0 < m) (h63 : n + m ≤ maxLen) (hbytes : (n + m) * bytes ≤ 140737488355328) {v' : Value} {w' : World}
    (hr : (Builtin.append_ #[t, t] ty #[v, .slice (some a) m c]).run P w = .ok v' w') : v'.ownBlock = v.ownBlock ∨ v'.ownBlock = some w.heap.size := by
  subst hsize
  subst hby
  have hsmall : n + m ≤ 9223372036854775807 := by simp only [maxLen] at h63; omega
  rcases hown.2 with ⟨rfl, rfl⟩ | ⟨g, cap, cur, rfl, hbg, hg, hnc, hcm, hcs, htake⟩
  · have hr2 := run_append_nil (P := P) w t ty e i z ht hi hz a m c news hl hnews hm (by omega) (by have hb := hbytes; simp only [Nat.zero_add] at hb; omega)
    rw [hr2] at hr
    injection hr with e1 e2
    subst e1
    exact .inr rfl
  · by_cases hroom : n + m ≤ cap
    · have hfit : n * i.size + news.length ≤ cur.size := by rw [hl, hcs, ← Nat.add_mul]; exact Nat.mul_le_mul_right _ hroom
      have hr2 := run_append_room (P := P) w t ty e i ht hi g n cap cur hg a m c news hl hnews h1 hroom hfit
      rw [hr2] at hr
      injection hr with e1 e2
      subst e1
      exact .inl rfl
    · have hr2 := run_append_grow (P := P) w t ty e i z ht hi hz ⟨g, 0, none⟩ n cap xs hown.1 (hown.cells (g := g) rfl) a m c news hl hnews (by omega) (by omega) (growslice_fits (by omega) hbytes)
      rw [hr2] at hr
      injection hr with e1 e2
      subst e1
      exact .inr rfl

/-- An append to a slice of the call's own: the new slice lies where the old one lay, or in a new block. -/
theorem wpList_append_own2 {P : Program} {ops : Array Oper} {rest : List Oper} {o : Oper} {a : Act} {w : World} {Q : Exit → Act → World → Prop} (hgd : Region.wanted o (yielded ops a.tmps) = true) (s x : Operand) (t : TypeId)
    (ho : o.op = .call { callee := .builtin .append, args := #[s, x], argTypes := #[t, t] })
    (base : Nat) (e : TypeId) (i : TypeInfo) (z : Value) (size bytes : Nat) (ht : P.underlying t = some (.slice e)) (hi : P.info? e = some i) (hz : i.zero = some z)
    (hsize : i.size = size) (hby : i.bytes = bytes) (hzs : z.cells.size = size) (hsz : 0 < size)
    (v : Value) (n : Nat) (xs : List Value) (hs : a.eval s = v) (hown : w.ownsRow base e size v n xs)
    (ad : Addr) (m c : Nat) (news : List Value) (hx : a.eval x = .slice (some ad) m c) (hl : news.length = m * size) (hnews : ∀ j u, news[j]? = some u → w.cell? (ad.add j) = some u) (h1 : ∀ u ∈ news, u.oneCell' = true)
    (hm : 0 < m) (h63 : n + m ≤ maxLen) (hbytes : (n + m) * bytes ≤ 140737488355328) (hbase : base ≤ w.heap.size)
    (h : ∀ v' w', w'.ownsRow base e size v' (n + m) (xs ++ news) → w.grownBy w' v.ownBlock → (v'.ownBlock = v.ownBlock ∨ v'.ownBlock = some w.heap.size) → wpList P ops Q rest (a.put o.dst v') w') : wpList P ops Q (o :: rest) a w :=
  BigFrame.wpList_want hgd fun _ hK => by
    obtain ⟨v', w', hr, h2, h3, _⟩ := run_append_own (P := P) w base t o.type e i z size bytes ht hi hz hsize hby hzs hsz v n xs hown ad m c news hl hnews h1 h63 hbytes hbase
    have hb := append_block (P := P) base t o.type e i z size bytes ht hi hz hsize hby v n xs hown ad m c news hl hnews h1 hm h63 hbytes hr
    unfold Oper.wp execOp
    simp only [ho, resolve, invoke, builtin, Sem.run_bind, Sem.run_pure, Result.andThen_ok, List.map_toArray, List.map_cons, List.map_nil, hs, hx, hr]
    exact hK _ _ (h v' w' h2 h3 hb)

theorem ownsRow_below {w1 w' : World} {base E size : Nat} {v : Value} {n : Nat} {xs : List Value} (h : w1.ownsRow base E size v n xs) (hb : Below w1.heap.size w1 w') : w'.ownsRow base E size v n xs := by
  refine ⟨h.1, ?_⟩
  rcases h.2 with hn | ⟨g, cap, cur, rfl, hbg, hg, r⟩
  · exact .inl hn
  · exact .inr ⟨g, cap, cur, rfl, hbg, by rw [hb.block g (Array.getElem?_eq_some_iff.1 hg).1]; exact hg, r⟩
theorem ownsRow_shape {w : World} {base E size : Nat} {v : Value} {n : Nat} {xs : List Value} (h : w.ownsRow base E size v n xs) : ∃ a cap, v = .slice a n cap := by
  rcases h.2 with ⟨rfl, rfl⟩ | ⟨g, cap, cur, rfl, _⟩
  · exact ⟨_, _, rfl⟩
  · exact ⟨_, _, rfl⟩
theorem ownsRow_some {w : World} {base E size : Nat} {v : Value} {n : Nat} {xs : List Value} (h : w.ownsRow base E size v n xs) (hn : 0 < n) : ∃ g cap, v = .slice (some ⟨g, 0, none⟩) n cap := by
  rcases h.2 with ⟨rfl, rfl⟩ | ⟨g, cap, cur, rfl, _⟩
  · omega
  · exact ⟨_, _, rfl⟩
theorem ownsRow_base {w : World} {base base' E size : Nat} {v : Value} {n : Nat} {xs : List Value} (h : w.ownsRow base E size v n xs) (hb : base' ≤ base) : w.ownsRow base' E size v n xs := by
  refine ⟨h.1, ?_⟩
  rcases h.2 with hn | ⟨g, cap, cur, rfl, hbg, r⟩
  · exact .inl hn
  · exact .inr ⟨g, cap, cur, rfl, Nat.le_trans hb hbg, r⟩
theorem one_cell (w : World) (v : Value) (E : TypeId) (j : Nat) (u : Value) (h : [v][j]? = some u) : (w.alloc (.cells #[v] E)).cell? ((⟨w.heap.size, 0, none⟩ : Addr).add j) = some u := by
  have hj : j = 0 := by
    by_cases hj : j = 0
    · exact hj
    · rw [List.getElem?_eq_none (by simp; omega)] at h; cases h
  subst hj
  simp at h
  subst h
  show (w.alloc (.cells #[v] E)).cell? ⟨w.heap.size, 0, none⟩ = some v
  rw [cell_of_row _ _ 0 _ _ _ (heap_alloc_new w _)]
  rfl
theorem heap_lt {w : World} {g : Nat} {o : Obj} (h : w.heap[g]? = some o) : g < w.heap.size := (Array.getElem?_eq_some_iff.1 h).1

/-- What may have changed: new blocks, and those of a footprint, which holds no other old block behind it. -/
structure Chg (F : World → Nat → Prop) (w w' : World) : Prop where
  os : w'.os = w.os
  tape : w'.tape = w.tape
  output : w'.output = w.output
  size : w.heap.size ≤ w'.heap.size
  keep : ∀ k, k < w.heap.size → ¬ F w k → w'.heap[k]? = w.heap[k]?
  new : ∀ k, F w' k → F w k ∨ w.heap.size ≤ k

theorem Chg.refl (F : World → Nat → Prop) (w : World) : Chg F w w := ⟨rfl, rfl, rfl, Nat.le_refl _, fun _ _ _ => rfl, fun _ h => .inl h⟩
theorem Chg.trans {F : World → Nat → Prop} {a b c : World} (h : Chg F a b) (k : Chg F b c) : Chg F a c := by
  refine ⟨k.os.trans h.os, k.tape.trans h.tape, k.output.trans h.output, Nat.le_trans h.size k.size, fun i hi hn => ?_, fun i hi => ?_⟩
  · have hn' : ¬ F b i := fun hb => by
      rcases h.new i hb with h1 | h1
      · exact hn h1
      · omega
    rw [k.keep i (Nat.lt_of_lt_of_le hi h.size) hn', h.keep i hi hn]
  · rcases k.new i hi with h1 | h1
    · exact h.new i h1
    · exact .inr (Nat.le_trans h.size h1)
theorem Chg.of_below {F : World → Nat → Prop} {w w' : World} (h : Below w.heap.size w w') (hF : ∀ k, F w' k → F w k) : Chg F w w' :=
  ⟨h.os, h.tape, h.output, h.size, fun k hk _ => h.block k hk, fun k hk => .inl (hF k hk)⟩
/-- Below a block under which the footprint holds nothing. -/
theorem Chg.below {F : World → Nat → Prop} {w w' : World} (h : Chg F w w') (B : Nat) (hB : B ≤ w.heap.size) (hF : ∀ k, F w k → B ≤ k) : Below B w w' :=
  ⟨h.os, h.tape, h.output, h.size, fun k hk => h.keep k (by omega) (fun hf => by have := hF k hf; omega)⟩

/-- A captured variable in block 'go' holds a slice of numbers. -/
def OutVar (go : Nat) (l : List Int) (w : World) : Prop :=
  ∃ a cap, w.heap[go]? = some (.cells #[.slice a l.length cap] 73 (0, 0)) ∧ w.ownsRow (go + 1) 3 1 (.slice a l.length cap) l.length (l.map fun x => Value.int .i64 x)
/-- The blocks that belong to it. -/
def SF (go : Nat) (w : World) (k : Nat) : Prop := k = go ∨ ∃ v, w.cell? ⟨go, 0, none⟩ = some v ∧ v.ownBlock = some k

theorem OutVar.below {go : Nat} {l : List Int} {w w' : World} (h : OutVar go l w) (hb : Below w.heap.size w w') : OutVar go l w' ∧ ∀ k, SF go w' k → SF go w k := by
  obtain ⟨a, cap, h1, h2⟩ := h
  have hlt := heap_lt h1
  have e : w'.heap[go]? = w.heap[go]? := hb.block go hlt
  refine ⟨⟨a, cap, by rw [e]; exact h1, ownsRow_below h2 hb⟩, fun k hk => ?_⟩
  unfold SF at *
  rw [show w'.cell? ⟨go, 0, none⟩ = w.cell? ⟨go, 0, none⟩ from World.cell?_of_block e] at hk
  exact hk
theorem OutVar.cell {go : Nat} {w : World} {a : Option Addr} {n cap : Nat} (h : w.heap[go]? = some (.cells #[.slice a n cap] 73 (0, 0))) : w.cell? ⟨go, 0, none⟩ = some (.slice a n cap) := by
  rw [cell_of_row w go 0 _ _ _ h]; rfl
theorem OutVar.lt {go : Nat} {l : List Int} {w : World} {k : Nat} (h : OutVar go l w) (hk : SF go w k) : k < w.heap.size ∧ go ≤ k := by
  obtain ⟨a, cap, h1, h2⟩ := h
  have hlt := heap_lt h1
  rcases hk with rfl | ⟨v, hv, hk⟩
  · exact ⟨hlt, Nat.le_refl _⟩
  · rw [OutVar.cell h1] at hv
    cases hv
    have := h2.lt k hk
    omega

/-- Behind an append to it, and the store. -/
theorem OutVar.append {go : Nat} {l : List Int} {x : Int} {w w1 w3 : World} {a : Option Addr} {cap : Nat} {v' : Value}
    (h1 : w.heap[go]? = some (.cells #[.slice a l.length cap] 73 (0, 0))) (h2 : w.ownsRow (go + 1) 3 1 (.slice a l.length cap) l.length (l.map fun x => Value.int .i64 x))
    (hb : Below w.heap.size w w1) (h3 : w3.ownsRow (go + 1) 3 1 v' (l.length + 1) ((l.map fun x => Value.int .i64 x) ++ [.int .i64 x])) (hg : w1.grownBy w3 (Value.slice a l.length cap).ownBlock)
    (hn : v'.ownBlock = (Value.slice a l.length cap).ownBlock ∨ v'.ownBlock = some w1.heap.size) :
    OutVar go (l ++ [x]) (w3.setCell ⟨go, 0, none⟩ v') ∧ Chg (SF go) w (w3.setCell ⟨go, 0, none⟩ v') := by
  have hlt := heap_lt h1
  have c0 := OutVar.cell h1
  have hgo1 : w1.heap[go]? = w.heap[go]? := hb.block go hlt
  have hgo3 : w3.heap[go]? = some (.cells #[.slice a l.length cap] 73 (0, 0)) := by
    rw [hg.block go (by have := hb.size; omega) (fun e => by have := h2.lt go e.symm; omega), hgo1]
    exact h1
  have hgo4 : (w3.setCell ⟨go, 0, none⟩ v').heap[go]? = some (.cells #[v'] 73 (0, 0)) := by
    rw [heap_setCell_same w3 go 0 _ _ v' hgo3]
    rfl
  have c4 : (w3.setCell ⟨go, 0, none⟩ v').cell? ⟨go, 0, none⟩ = some v' := by rw [cell_of_row _ go 0 _ _ _ hgo4]; rfl
  have ho4 : (w3.setCell ⟨go, 0, none⟩ v').ownsRow (go + 1) 3 1 v' (l.length + 1) ((l.map fun x => Value.int .i64 x) ++ [.int .i64 x]) := ownsRow_setCell_below h3 (by simp) v'
  have hs4 : (w3.setCell ⟨go, 0, none⟩ v').heap.size = w3.heap.size := by simp [World.setCell]
  obtain ⟨a3, cap3, rfl⟩ := ownsRow_shape h3
  refine ⟨⟨a3, cap3, ?_, ?_⟩, ⟨hg.os.trans hb.os, hg.tape.trans hb.tape, hg.output.trans hb.output, ?_, fun k hk hF => ?_, fun k hk => ?_⟩⟩
  · rw [hgo4]; simp
  · simpa using ho4
  · rw [hs4]; exact Nat.le_trans hb.size hg.size
  · have hne : k ≠ go := fun e => hF (.inl e)
    rw [Below.heap_setCell _ _ _ _ hne, hg.block k (by have := hb.size; omega) (fun e => hF (.inr ⟨_, c0, e.symm⟩)), hb.block k hk]
  · rcases hk with rfl | ⟨v, hv, hk⟩
    · exact .inl (.inl rfl)
    · rw [c4] at hv
      cases hv
      rcases hn with hn | hn
      · exact .inl (.inr ⟨_, c0, by rw [← hn]; exact hk⟩)
      · rw [hn] at hk
        cases hk
        exact .inr hb.size

end Go.Proofs.YtgikglnfjkbnhaaGreat
