/-
  What names, layouts' rules and shapes are, in plain Lean: layers 3, 4, 5.
-/
import Derived.Test.YtmoccpbiogdbgaaData
import Derived.Laws.RangeAny
namespace Go.Proofs.Ytmoccpbiogdbgaa
open Go.RowKit

/-- May a character stand in a name? -/
def signB (r : Int) : Bool := decide (33 ≤ r) && (!(r == 58) && (!(r == 35) && (!(r == 43) && (!(r == 45) && (!(r == 65533) && (decide (r < 127) || decide (160 < r)))))))
/-- From a place of a text on, n characters having been met: is it a name? -/
def rightGo (s : ByteArray) : Nat → Nat → Nat → Bool
  | 0, _, n => decide (1 ≤ n) && decide (n ≤ 16)
  | b + 1, pos, n => if pos < s.size then (if signB (Utf8.decode s pos).1 then rightGo s b (pos + (Utf8.decode s pos).2) (n + 1) else false) else (decide (1 ≤ n) && decide (n ≤ 16))
def rightB (s : ByteArray) : Bool := rightGo s s.size 0 0
theorem width_pos (s : ByteArray) (pos : Nat) (h : pos < s.size) : 1 ≤ (Utf8.decode s pos).2 := by
  by_cases hb : (s[pos]'h).toNat < 128
  · rw [decode_ascii s pos h hb]
    exact Nat.le_refl _
  · exact (decode_high s pos h (by omega)).2
theorem rightGo_end (s : ByteArray) (b pos n : Nat) (h : ¬ pos < s.size) : rightGo s b pos n = (decide (1 ≤ n) && decide (n ≤ 16)) := by
  cases b with
  | zero => rfl
  | succ b => simp [rightGo, h]

/-! ### Loops tell what is left -/
theorem dropStep {α : Type} {xs : List α} {k : Nat} (h : k < xs.length) : xs.drop k = xs[k] :: xs.drop (k + 1) := List.drop_eq_getElem_cons h
theorem dropEnd {α : Type} {xs : List α} {k : Nat} (h : ¬ k < xs.length) : xs.drop k = [] := List.drop_eq_nil_of_le (by omega)

/-! ### Layer 4 -/
/-- Are all numbers from 0 up to n? -/
def inR (n : Int) (xs : List Int) : Bool := xs.all fun x => decide (0 ≤ x) && decide (x < n)
/-- The place of a text, from a place on. -/
def findFrom (s : ByteArray) : List ByteArray → Nat → Int
  | [], _ => -1
  | x :: xs, k => if (x.toList == s.toList) = true then (k : Int) else findFrom s xs (k + 1)
theorem findFrom_iff (s : ByteArray) (xs : List ByteArray) : ∀ k, 0 ≤ findFrom s xs k ↔ (xs.any fun x => x.toList == s.toList) = true := by
  induction xs with
  | nil => intro k; simp [findFrom]
  | cons x xs ih =>
    intro k
    unfold findFrom
    by_cases h : (x.toList == s.toList) = true
    · rw [if_pos h]; simp [h]
    · rw [if_neg h, ih]; simp [h]

/-- All numbers from 0 up to n, and at most 16. -/
def inB (n : Int) (xs : List Int) : Bool := decide (xs.length ≤ 16) && inR n xs
def ptsOf (xs : List Nd) : List Int := xs.map Nd.pt
/-- How often a number is in a row. -/
def cntI (x : Int) : List Int → Nat
  | [] => 0
  | y :: ys => (if (y == x) = true then 1 else 0) + cntI x ys
theorem cntI_le (x : Int) (xs : List Int) : cntI x xs ≤ xs.length := by
  induction xs with
  | nil => simp [cntI]
  | cons y ys ih => simp only [cntI, List.length_cons]; split <;> omega
theorem takeStep {α : Type} {xs : List α} {k : Nat} (h : k < xs.length) : xs.take (k + 1) = xs.take k ++ [xs[k]] := by rw [List.take_succ_eq_append_getElem h]
theorem inR_take (n : Int) (xs : List Int) (k : Nat) (h : inR n xs = true) : inR n (xs.take k) = true := by
  simp only [inR, List.all_eq_true] at *
  exact fun x hx => h x (List.mem_of_mem_take hx)
theorem inR_of_drop (n : Int) (xs : List Int) (k : Nat) (h : inR n (xs.drop k) = false) : inR n xs = false := by
  cases h' : inR n xs
  · rfl
  · simp only [inR, List.all_eq_true, List.all_eq_false] at *
    obtain ⟨x, hx, hx'⟩ := h
    exact absurd (h' x (List.mem_of_mem_drop hx)) hx'

def fullB (l : Ly) : Bool := decide (64 < l.sections.length) || (decide (32 < l.points.length) || (decide (32 < l.signals.length) || decide (64 < l.routes.length)))
/-- The names of a layout, in order. -/
def namesOf (l : Ly) : List ByteArray := l.sections ++ (l.points.map Pt.name ++ (l.signals.map Pt.name ++ l.routes.map Rt.name))
end Go.Proofs.Ytmoccpbiogdbgaa
