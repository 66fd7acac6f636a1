/-
  How the program's data lie in memory: readings of slices of whole numbers, of texts, of points, of needs, of routes, of layouts; small laws on them. No program in sight.
-/
import Derived.WalkKit
import Derived.OwnWalk
import Derived.Below
import Derived.Maps.AppendAt
import Derived.Laws.OwnMore
import Derived.Lib.Hide
import Derived.Deep.Draws
import Derived.Deep.QuietTactic
import Derived.Laws.AppendOwnNone
import Derived.Lib.AppendZeros
namespace Go.Proofs.Ytmoccpbiogdbgaa
open Go.RowKit

/-! ### The data -/
structure Pt where
  name : ByteArray
  sec : Int
structure Nd where
  pt : Int
  rev : Bool
structure Rt where
  name : ByteArray
  sig : Int
  path : List Int
  points : List Nd
  overlap : List Int
  flank : List Nd
structure Ly where
  sections : List ByteArray
  points : List Pt
  signals : List Pt
  routes : List Rt




/-! ### Endings -/
/-- The call returns v; what lay below the heap's end lies as it lay. -/
def Ret (v : Value) (w : World) (e : Ending) (w' : World) : Prop := e = .returned v ∧ Below w.heap.size w w'
def RetB (b : Bool) (w : World) (e : Ending) (w' : World) : Prop := e = .returned (.bool b) ∧ Below w.heap.size w w'
def RetI (n : Int) (w : World) (e : Ending) (w' : World) : Prop := e = .returned (.int .i64 n) ∧ Below w.heap.size w w'
/-- The call returns a slice that reads so. -/
def RetS (R : World → Option Addr → Nat → Prop) (w : World) (e : Ending) (w' : World) : Prop := ∃ A n c, e = .returned (.slice A n c) ∧ n ≤ c ∧ Below w.heap.size w w' ∧ R w' A n

theorem rb {a b : Bool} (h : a = b) : Ending.returned (.bool a) = .returned (.bool b) := by rw [h]
theorem ri {k : IntKind} {a b : Int} (h : a = b) : Ending.returned (.int k a) = .returned (.int k b) := by rw [h]

/-! ### Worlds -/
theorem bcell {w W : World} (h : Below w.heap.size w W) {b o : Nat} {v : Value} (hc : w.cell? ⟨b, o, none⟩ = some v) : W.cell? ⟨b, o, none⟩ = some v :=
  (h.cell (World.block_lt_of_cell? w _ hc)).trans hc
theorem bcells {w W : World} (h : Below w.heap.size w W) : ∀ b o, b < w.heap.size → W.cell? ⟨b, o, none⟩ = w.cell? ⟨b, o, none⟩ := fun b o hb => h.cell (p := ⟨b, o, none⟩) hb
theorem bthen {B : Nat} {w w1 w2 : World} (h : Below B w w1) (hB : B ≤ w1.heap.size) (k : Below w1.heap.size w1 w2) : Below B w w2 := h.trans (k.mono hB)
/-- From the call's start on: w, then w1, then w2. -/
theorem bnext {w w1 w2 : World} (h : Below w.heap.size w w1) (k : Below w1.heap.size w1 w2) : Below w.heap.size w w2 := bthen h h.size k
theorem bdrewN {B : Nat} {w W : World} (h : Below B w W) (n : Nat) : Below B w (W.drewN n) := ⟨h.os, h.tape, h.output, h.size, h.block⟩
theorem ownBelow {w w1 : World} {base : Nat} {e : TypeId} {size n : Nat} {v : Value} {xs : List Value} (h : w.ownsRow base e size v n xs) (hb : Below w.heap.size w w1) : w1.ownsRow base e size v n xs :=
  h.kept (row := none) ⟨hb.os, hb.tape, hb.output, hb.size, fun i hi _ => hb.block i hi⟩ (by cases v.ownBlock <;> simp)

/-! ### Rows -/
/-- A slice of n elements of k cells each: the j-th cell of the i-th. -/
def Row (w : World) (k : Nat) (A : Option Addr) (n : Nat) (f : Nat → Nat → Value) : Prop :=
  ∃ b off, (0 < n → A = some ⟨b, off, none⟩) ∧ ∀ i j, i < n → j < k → w.cell? ⟨b, off + i * k + j, none⟩ = some (f i j)
theorem Row.below {w W : World} {k : Nat} {A : Option Addr} {n : Nat} {f : Nat → Nat → Value} (h : Row w k A n f) (hb : Below w.heap.size w W) : Row W k A n f := by
  obtain ⟨b, off, hA, hc⟩ := h
  exact ⟨b, off, hA, fun i j hi hj => bcell hb (hc i j hi hj)⟩

/-- A slice of whole numbers. -/
def RInts (w : World) (A : Option Addr) (n : Nat) (xs : List Int) : Prop :=
  xs.length = n ∧ n ≤ 140737488355328 ∧ ∃ b off, (0 < n → A = some ⟨b, off, none⟩) ∧ ∀ i (h : i < xs.length), w.cell? ⟨b, off + i, none⟩ = some (.int .i64 xs[i])
theorem RInts.below {w W : World} {A : Option Addr} {n : Nat} {xs : List Int} (h : RInts w A n xs) (hb : Below w.heap.size w W) : RInts W A n xs := by
  obtain ⟨h1, h2, b, off, hA, hc⟩ := h
  exact ⟨h1, h2, b, off, hA, fun i hi => bcell hb (hc i hi)⟩
theorem RInts_take {w W : World} {A : Option Addr} {n : Nat} {xs : List Int} (h : RInts w A n xs) (hb : Below w.heap.size w W) (k : Nat) (hk : k ≤ n) : RInts W A k (xs.take k) := by
  obtain ⟨h1, h2, b, off, hA, hc⟩ := h.below hb
  exact ⟨by simp; omega, by omega, b, off, fun h => hA (by omega), fun i hi => by simp at hi; simpa using hc i (by omega)⟩
/-- A slice of texts. -/
def RStrs (w : World) (A : Option Addr) (n : Nat) (xs : List ByteArray) : Prop :=
  xs.length = n ∧ n ≤ 140737488355328 ∧ (∀ s ∈ xs, s.size ≤ 140737488355328) ∧ ∃ b off, (0 < n → A = some ⟨b, off, none⟩) ∧ ∀ i (h : i < xs.length), w.cell? ⟨b, off + i, none⟩ = some (.string xs[i])
theorem RStrs.below {w W : World} {A : Option Addr} {n : Nat} {xs : List ByteArray} (h : RStrs w A n xs) (hb : Below w.heap.size w W) : RStrs W A n xs := by
  obtain ⟨h1, h2, h3, b, off, hA, hc⟩ := h
  exact ⟨h1, h2, h3, b, off, hA, fun i hi => bcell hb (hc i hi)⟩
/-- A slice of points (or signals). -/
def RPts (w : World) (A : Option Addr) (n : Nat) (xs : List Pt) : Prop :=
  xs.length = n ∧ n ≤ 140737488355328 ∧ (∀ s ∈ xs, s.name.size ≤ 140737488355328) ∧ ∃ b off, (0 < n → A = some ⟨b, off, none⟩) ∧
    ∀ i (h : i < xs.length), w.cell? ⟨b, off + i * 2, none⟩ = some (.string xs[i].name) ∧ w.cell? ⟨b, off + i * 2 + 1, none⟩ = some (.int .i64 xs[i].sec)
theorem RPts.below {w W : World} {A : Option Addr} {n : Nat} {xs : List Pt} (h : RPts w A n xs) (hb : Below w.heap.size w W) : RPts W A n xs := by
  obtain ⟨h1, h2, h3, b, off, hA, hc⟩ := h
  exact ⟨h1, h2, h3, b, off, hA, fun i hi => ⟨bcell hb (hc i hi).1, bcell hb (hc i hi).2⟩⟩
/-- A slice of needs. -/
def RNds (w : World) (A : Option Addr) (n : Nat) (xs : List Nd) : Prop :=
  xs.length = n ∧ n ≤ 140737488355328 ∧ ∃ b off, (0 < n → A = some ⟨b, off, none⟩) ∧
    ∀ i (h : i < xs.length), w.cell? ⟨b, off + i * 2, none⟩ = some (.int .i64 xs[i].pt) ∧ w.cell? ⟨b, off + i * 2 + 1, none⟩ = some (.bool xs[i].rev)
theorem RNds.below {w W : World} {A : Option Addr} {n : Nat} {xs : List Nd} (h : RNds w A n xs) (hb : Below w.heap.size w W) : RNds W A n xs := by
  obtain ⟨h1, h2, b, off, hA, hc⟩ := h
  exact ⟨h1, h2, b, off, hA, fun i hi => ⟨bcell hb (hc i hi).1, bcell hb (hc i hi).2⟩⟩

theorem RNds_take {w W : World} {A : Option Addr} {n : Nat} {xs : List Nd} (h : RNds w A n xs) (hb : Below w.heap.size w W) (k : Nat) (hk : k ≤ n) : RNds W A k (xs.take k) := by
  obtain ⟨h1, h2, b, off, hA, hc⟩ := h.below hb
  exact ⟨by simp; omega, by omega, b, off, fun h => hA (by omega), fun i hi => by simp at hi; simpa using hc i (by omega)⟩

/-! ### Routes -/
/-- A slice's head. -/
structure Hd where
  A : Option Addr
  n : Nat
  c : Nat
abbrev Hd.v (h : Hd) : Value := .slice h.A h.n h.c
/-- A nil slice has no room. -/
def Hd.ok (h : Hd) : Prop := h.A = none → h.n = 0 ∧ h.c = 0
/-- What a route's four slices read as. -/
def RRt (w : World) (p q o f : Hd) (r : Rt) : Prop :=
  (p.ok ∧ q.ok ∧ o.ok ∧ f.ok) ∧ r.name.size ≤ 140737488355328 ∧ RInts w p.A p.n r.path ∧ RNds w q.A q.n r.points ∧ RInts w o.A o.n r.overlap ∧ RNds w f.A f.n r.flank
theorem RRt.below {w W : World} {p q o f : Hd} {r : Rt} (h : RRt w p q o f r) (hb : Below w.heap.size w W) : RRt W p q o f r :=
  ⟨h.1, h.2.1, h.2.2.1.below hb, h.2.2.2.1.below hb, h.2.2.2.2.1.below hb, h.2.2.2.2.2.below hb⟩
abbrev rtv (r : Rt) (p q o f : Hd) : Value := .agg #[.string r.name, .int .i64 r.sig, p.v, q.v, o.v, f.v]
/-- A slice of routes. -/
def RRts (w : World) (A : Option Addr) (n : Nat) (xs : List Rt) : Prop :=
  xs.length = n ∧ n ≤ 140737488355328 ∧ ∃ b off, (0 < n → A = some ⟨b, off, none⟩) ∧
    ∀ i (h : i < xs.length), ∃ p q o f, RRt w p q o f xs[i] ∧ w.cell? ⟨b, off + i * 6, none⟩ = some (.string xs[i].name) ∧ w.cell? ⟨b, off + i * 6 + 1, none⟩ = some (.int .i64 xs[i].sig) ∧
      w.cell? ⟨b, off + i * 6 + 2, none⟩ = some p.v ∧ w.cell? ⟨b, off + i * 6 + 3, none⟩ = some q.v ∧ w.cell? ⟨b, off + i * 6 + 4, none⟩ = some o.v ∧ w.cell? ⟨b, off + i * 6 + 5, none⟩ = some f.v
theorem RRts.below {w W : World} {A : Option Addr} {n : Nat} {xs : List Rt} (h : RRts w A n xs) (hb : Below w.heap.size w W) : RRts W A n xs := by
  obtain ⟨h1, h2, b, off, hA, hc⟩ := h
  refine ⟨h1, h2, b, off, hA, fun i hi => ?_⟩
  obtain ⟨p, q, o, f, hr, c0, c1, c2, c3, c4, c5⟩ := hc i hi
  exact ⟨p, q, o, f, hr.below hb, bcell hb c0, bcell hb c1, bcell hb c2, bcell hb c3, bcell hb c4, bcell hb c5⟩

/-! ### Layouts -/
abbrev lyv (s p g r : Hd) : Value := .agg #[s.v, p.v, g.v, r.v]
def RLy (w : World) (s p g r : Hd) (l : Ly) : Prop := (s.ok ∧ p.ok ∧ g.ok ∧ r.ok) ∧ RStrs w s.A s.n l.sections ∧ RPts w p.A p.n l.points ∧ RPts w g.A g.n l.signals ∧ RRts w r.A r.n l.routes
theorem RLy.below {w W : World} {s p g r : Hd} {l : Ly} (h : RLy w s p g r l) (hb : Below w.heap.size w W) : RLy W s p g r l :=
  ⟨h.1, h.2.1.below hb, h.2.2.1.below hb, h.2.2.2.1.below hb, h.2.2.2.2.below hb⟩

/-! ### Rows of the call's own read as slices -/
theorem ints_of_own {w : World} {base : Nat} {e : TypeId} {v : Value} {n : Nat} {xs : List Int} (h : w.ownsRow base e 1 v n (xs.map (Value.int .i64))) (hn : n ≤ 140737488355328) :
    ∃ A c, v = .slice A n c ∧ n ≤ c ∧ RInts w A n xs := by
  obtain ⟨h1, h2⟩ := h
  have hl : xs.length = n := by simpa using h1
  rcases h2 with ⟨rfl, rfl⟩ | ⟨g, cap, cur, rfl, hb, hh, hc, hm, hs, ht⟩
  · exact ⟨none, 0, rfl, Nat.le_refl _, hl, hn, 0, 0, fun h => by omega, fun i hi => by omega⟩
  · refine ⟨some ⟨g, 0, none⟩, cap, rfl, hc, hl, hn, g, 0, fun _ => rfl, fun i hi => ?_⟩
    have : (cur.toList.take (n * 1))[i]? = some (.int .i64 xs[i]) := by rw [ht]; simp [hi]
    rw [List.getElem?_take] at this
    split at this
    · simp [World.cell?, hh]; simpa using this
    · cases this
theorem cell_of_own {w : World} {base : Nat} {e : TypeId} {k : Nat} {v : Value} {n : Nat} {xs : List Value} (h : w.ownsRow base e k v n xs) :
    ∃ A c, v = .slice A n c ∧ n ≤ c ∧ ∃ b off, (0 < n → A = some ⟨b, off, none⟩) ∧ ∀ (i : Nat) (x : Value), xs[i]? = some x → w.cell? ⟨b, off + i, none⟩ = some x := by
  obtain ⟨h1, h2⟩ := h
  rcases h2 with ⟨rfl, rfl⟩ | ⟨g, cap, cur, rfl, hb, hh, hc, hm, hs, ht⟩
  · refine ⟨none, 0, rfl, Nat.le_refl _, 0, 0, fun h => by omega, fun i x hx => ?_⟩
    have := (List.getElem?_eq_some_iff.1 hx).1
    omega
  · refine ⟨some ⟨g, 0, none⟩, cap, rfl, hc, g, 0, fun _ => rfl, fun i x hx => ?_⟩
    rw [← ht, List.getElem?_take] at hx
    split at hx
    · simp [World.cell?, hh]; simpa using hx
    · cases hx

/-! ### Appending to a row of the call's own -/
/-- A slice type t of elements of type e, of so many cells and bytes. -/
def Elem (P : Program) (t e : TypeId) (size bytes : Nat) : Prop :=
  ∃ i z, P.underlying t = some (.slice e) ∧ P.info? e = some i ∧ i.zero = some z ∧ i.size = size ∧ i.bytes = bytes ∧ z.cells.size = size ∧ 0 < size
theorem own_ge {w : World} {base : Nat} {e : TypeId} {size n : Nat} {v : Value} {xs : List Value} (h : w.ownsRow base e size v n xs) (k : Nat) (hk : v.ownBlock = some k) : base ≤ k := by
  rcases h.2 with ⟨rfl, _⟩ | ⟨g, cap, cur, rfl, hb, _⟩
  · simp [Value.ownBlock] at hk
  · have : g = k := by simpa [Value.ownBlock] using hk
    omega
theorem own_form {w : World} {base : Nat} {e : TypeId} {size n : Nat} {v : Value} {xs : List Value} (h : w.ownsRow base e size v n xs) : ∃ A c, v = .slice A n c := by
  rcases h.2 with ⟨rfl, rfl⟩ | ⟨g, cap, cur, rfl, _⟩
  · exact ⟨_, _, rfl⟩
  · exact ⟨_, _, rfl⟩
section
variable {P : Program} {ops : Array Oper} {rest : List Oper} {o : Oper} {a : Act} {Q : Exit → Act → World → Prop} {w : World}
/-- append of what is known cell by cell. -/
theorem wpList_app (hgd : o.guard = none) (s x : Operand) (t : TypeId) (ho : o.op = .call { callee := .builtin .append, args := #[s, x], argTypes := #[t, t] })
    {e : TypeId} {size bytes : Nat} (hE : Elem P t e size bytes) (base : Nat) (v : Value) (n : Nat) (xs : List Value) (hs : a.eval s = v) (hown : w.ownsRow base e size v n xs)
    (m c : Nat) (ad : Addr) (news : List Value) (hx : a.eval x = .slice (some ad) m c) (hl : news.length = m * size) (hnews : ∀ j u, news[j]? = some u → w.cell? (ad.add j) = some u) (h1 : ∀ u ∈ news, u.oneCell' = true)
    (hn : (n + m) * bytes ≤ 140737488355328) (h63 : n + m ≤ 140737488355328) (hbase : base ≤ w.heap.size)
    (h : ∀ A c' w', w'.ownsRow base e size (.slice A (n + m) c') (n + m) (xs ++ news) → w.grownBy w' v.ownBlock → Below base w w' → wpList P ops Q rest (a.put o.dst (.slice A (n + m) c')) w') : wpList P ops Q (o :: rest) a w := by
  obtain ⟨i, z, ht, hi, hz, hsize, hby, hzs, hsz⟩ := hE
  refine wpList_append_own w hgd s x t ho base e i z size bytes ht hi hz hsize hby hzs hsz v n xs hs hown ad m c news hx hl hnews h1 (by unfold maxLen; omega) hn hbase ?_
  intro v' w' h2 h3 h4
  obtain ⟨A, c', rfl⟩ := own_form h2
  exact h A c' w' h2 h3 ((Below.refl base w).grown h3 hbase (fun k hk => own_ge hown k hk))
/-- append of one value of one cell. -/
theorem wpList_app1 (hgd : o.guard = none) (s x : Operand) (t : TypeId) (ho : o.op = .call { callee := .builtin .append, args := #[s, x], argTypes := #[t, t] })
    {e : TypeId} {bytes : Nat} (hE : Elem P t e 1 bytes) (base : Nat) (v : Value) (n : Nat) (xs : List Value) (hs : a.eval s = v) (hown : w.ownsRow base e 1 v n xs)
    (c : Nat) (ad : Addr) (y : Value) (hx : a.eval x = .slice (some ad) 1 c) (hy : w.cell? ad = some y) (h1 : y.oneCell' = true)
    (hn : (n + 1) * bytes ≤ 140737488355328) (h63 : n + 1 ≤ 140737488355328) (hbase : base ≤ w.heap.size)
    (h : ∀ A c' w', w'.ownsRow base e 1 (.slice A (n + 1) c') (n + 1) (xs ++ [y]) → w.grownBy w' v.ownBlock → Below base w w' → wpList P ops Q rest (a.put o.dst (.slice A (n + 1) c')) w') : wpList P ops Q (o :: rest) a w :=
  wpList_app hgd s x t ho hE base v n xs hs hown 1 c ad [y] hx rfl (fun j u hj => by
    cases j with
    | zero => simp at hj; subst hj; simpa [Addr.add] using hy
    | succ j => simp at hj) (by simpa using h1) hn h63 hbase h
theorem addr_add (b off j : Nat) : (⟨b, off, none⟩ : Addr).add j = ⟨b, off + j, none⟩ := by unfold Addr.add; split <;> simp_all
/-- append of a whole slice, nil or not. -/
theorem wpList_appAll (hgd : o.guard = none) (s x : Operand) (t : TypeId) (ho : o.op = .call { callee := .builtin .append, args := #[s, x], argTypes := #[t, t] })
    {e : TypeId} {size bytes : Nat} (hE : Elem P t e size bytes) (base : Nat) (v : Value) (n : Nat) (xs : List Value) (hs : a.eval s = v) (hown : w.ownsRow base e size v n xs)
    (A : Option Addr) (m c : Nat) (news : List Value) (hx : a.eval x = .slice A m c) (hnil : A = none → m = 0 ∧ c = 0) (hl : news.length = m * size)
    (hsrc : ∃ b off, (0 < m → A = some ⟨b, off, none⟩) ∧ ∀ j u, news[j]? = some u → w.cell? ⟨b, off + j, none⟩ = some u) (h1 : ∀ u ∈ news, u.oneCell' = true)
    (hn : (n + m) * bytes ≤ 140737488355328) (h63 : n + m ≤ 140737488355328) (hbase : base ≤ w.heap.size)
    (h : ∀ A c' w', w'.ownsRow base e size (.slice A (n + m) c') (n + m) (xs ++ news) → w.grownBy w' v.ownBlock → Below base w w' → wpList P ops Q rest (a.put o.dst (.slice A (n + m) c')) w') : wpList P ops Q (o :: rest) a w := by
  obtain ⟨b, off, hA, hc⟩ := hsrc
  cases A with
  | none =>
    obtain ⟨rfl, rfl⟩ := hnil rfl
    have hE' := hE
    obtain ⟨i, z, ht, hi, hz, hsize, hby, hzs, hsz⟩ := hE'
    refine wpList_append_own_none hgd s x t ho base e i size ht hi v n xs hs hown hx ?_
    have hnews : news = [] := List.length_eq_zero_iff.1 (by simpa using hl)
    subst hnews
    obtain ⟨A', c', rfl⟩ := own_form hown
    refine h A' c' w (by simpa using hown) ?_ (Below.refl _ _)
    exact ⟨rfl, rfl, rfl, Nat.le_refl _, fun _ _ _ => rfl⟩
  | some ad =>
    refine wpList_app hgd s x t ho hE base v n xs hs hown m c ad news hx hl ?_ h1 hn h63 hbase h
    intro j u hj
    by_cases hm : 0 < m
    · have hA' := hA hm
      cases hA'
      rw [addr_add]
      exact hc j u hj
    · have : m = 0 := by omega
      subst this
      have hnews : news = [] := List.length_eq_zero_iff.1 (by simpa using hl)
      subst hnews
      simp at hj
/-- append([]T(nil), make([]T, n)...), n at least one; cut back to nothing it is a row of the call's own. -/
theorem wpList_growNil (hgd : o.guard = none) (s x : Operand) (t tn : TypeId) (ho : o.op = .call { callee := .builtin .append, args := #[s, x], argTypes := #[t, tn] })
    {e : TypeId} {size bytes : Nat} (hE : Elem P t e size bytes) (htn : P.underlying tn = some (.int .i64)) (n : Nat) (hs : a.eval s = .slice none 0 0) (hx : a.eval x = .int .i64 n)
    (h0 : 0 < n) (hn : n * bytes ≤ 140737488355328) (h63 : n ≤ 140737488355328)
    (h : ∀ g c w', w'.ownsRow w.heap.size e size (.slice (some ⟨g, 0, none⟩) 0 c) 0 [] → Below w.heap.size w w' → n ≤ c → c ≤ 9223372036854775807 → wpList P ops Q rest (a.put o.dst (.slice (some ⟨g, 0, none⟩) n c)) w') : wpList P ops Q (o :: rest) a w := by
  obtain ⟨i, z, ht, hi, hz, hsize, hby, hzs, hsz⟩ := hE
  have hr := Lib.run_append_nil_zeros (P := P) w t tn o.type e i z .i64 .i64 ht htn hi hz n h0 (by omega) (by omega) (by rw [hby]; omega)
  refine Lib.wpList_append_run w hgd s x t tn ho _ _ hs hx _ _ hr ?_
  have hge := grownCap_ge w n 0 e
  have hle : grownCap w n 0 e ≤ maxLen := by
    unfold grownCap Question.cut maxLen
    simp only
    have : (w.tape w.drawn (Question.appendCap n 0 e)) % (2 ^ 63 - n) < 2 ^ 63 - n := Nat.mod_lt _ (by omega)
    omega
  refine h _ _ _ ⟨by simp, .inr ⟨w.heap.size, _, _, rfl, Nat.le_refl _, heap_alloc_new _ _, Nat.zero_le _, hle, ?_, by simp⟩⟩ ((Below.refl _ _).drew.alloc (Nat.le_refl _) _) hge hle
  simp [Builtin.zeroCells, hzs]
  rw [← Nat.add_mul]
  congr 1
  omega
end

/-! ### Regions that draw their order, whose calls may lay blocks -/
theorem wp_region_calm {P : Program} {id : Nat} {Q : Exit → Act → World → Prop} {a : Act} {w : World} {l : List Oper} (hm : P.follows .mixedOrders = true) (hB : Region.lexB .any l.toArray = true)
    (h : wpQuiet P l.toArray (fun W => Below w.heap.size w W) (fun a' => ∀ W, Below w.heap.size w W → Q .normal a' W) l a) : (Code.region id l.toArray true).wp P Q a w :=
  wp_region_quiet (C := fun W => Below w.heap.size w W) hm hB ⟨rfl, rfl, rfl, Nat.le_refl _, fun _ _ => rfl⟩ (by simpa using h)
theorem calm_call {P : Program} {f : FuncId} {args : Array Value} {w W : World} {v : Value} {R : Ending → World → Prop} (h : Calls P f args W R) (hb : Below w.heap.size w W) (hR : ∀ e w', R e w' → e = .returned v ∧ Below W.heap.size W w') :
    Calls P f args W fun e w'' => e = .returned v ∧ Below w.heap.size w w'' :=
  h.mono fun e w' hr => ⟨(hR e w' hr).1, bnext hb (hR e w' hr).2⟩

/-! ### Boxes -/
/-- The world behind a new block of cells gets a name. -/
theorem name_box {P : Program} {c : Code} {Q : Exit → Act → World → Prop} {a : Act} {w : World} {cs : Array Value} {T : TypeId}
    (h : ∀ W, Below w.heap.size w W → w.heap.size < W.heap.size → (∀ j v, cs[j]? = some v → W.cell? ⟨w.heap.size, j, none⟩ = some v) → c.wp P Q a W) : c.wp P Q a (w.alloc (.cells cs T)) := by
  refine h _ ((Below.refl _ _).alloc (Nat.le_refl _) _) (by simp) (fun j v hj => ?_)
  have : (w.alloc (.cells cs T)).heap[w.heap.size]? = some (.cells cs T) := heap_alloc_new w _
  unfold World.cell?; rw [this]; exact hj
/-- The like behind two new blocks. -/
theorem name_box2 {P : Program} {c : Code} {Q : Exit → Act → World → Prop} {a : Act} {w : World} {cs ds : Array Value} {T U : TypeId}
    (h : ∀ W, Below w.heap.size w W → w.heap.size < W.heap.size → w.heap.size + 1 < W.heap.size → (∀ j v, cs[j]? = some v → W.cell? ⟨w.heap.size, j, none⟩ = some v) → (∀ j v, ds[j]? = some v → W.cell? ⟨w.heap.size + 1, j, none⟩ = some v) → c.wp P Q a W) :
    c.wp P Q a ((w.alloc (.cells cs T)).alloc (.cells ds U)) := by
  have h1 : ((w.alloc (.cells cs T)).alloc (.cells ds U)).heap[w.heap.size]? = some (.cells cs T) := (Below.heap_alloc _ _ _ (by simp)).trans (heap_alloc_new w _)
  have h2 : ((w.alloc (.cells cs T)).alloc (.cells ds U)).heap[w.heap.size + 1]? = some (.cells ds U) := by have := heap_alloc_new (w.alloc (.cells cs T)) (.cells ds U); simpa using this
  refine h _ (((Below.refl _ _).alloc (Nat.le_refl _) _).alloc (by simp) _) (by simp; omega) (by simp) (fun j v hj => ?_) (fun j v hj => ?_)
  · unfold World.cell?; rw [h1]; exact hj
  · unfold World.cell?; rw [h2]; exact hj
end Go.Proofs.Ytmoccpbiogdbgaa
