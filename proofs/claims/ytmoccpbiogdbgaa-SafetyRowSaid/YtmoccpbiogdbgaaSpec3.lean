/-
  May a layout be? As the program's text goes: names one by one.
-/
import Derived.Test.YtmoccpbiogdbgaaMap
namespace Go.Proofs.Ytmoccpbiogdbgaa
open Go.RowKit

def mayN (n : Int) (xs : List Nd) : Bool := decide (xs.length ≤ 16) && xs.all fun x => decide (0 ≤ x.pt) && decide (x.pt < n)
theorem mayN_eq (n : Int) (xs : List Nd) : mayN n xs = inB n (ptsOf xs) := by
  unfold mayN inB inR ptsOf; simp [List.all_map]; rfl
def ndIn (n : Int) (x : Nd) : Bool := decide (0 ≤ x.pt) && decide (x.pt < n)
/-- What is known on the way: all well so far; the names that have been met. -/
abbrev MaySt := Bool × List ByteArray
def stName (st : MaySt) (n : ByteArray) : MaySt :=
  if st.1 = true then (if rightB n = true then (if hasS n st.2 = true then (false, st.2) else (true, st.2 ++ [n])) else (false, st.2)) else (false, st.2)
def stPt (s : Int) (st : MaySt) (p : Pt) : MaySt := ((stName st p.name).1 && inR s [p.sec], (stName st p.name).2)
def stRt1 (g : Int) (st : MaySt) (r : Rt) : MaySt := ((stName st r.name).1 && inR g [r.sig], (stName st r.name).2)
def rtOk1 (s : Int) (r : Rt) : Bool := decide (r.path.length ≤ 16) && (decide (r.overlap.length ≤ 16) && (inR s r.path && inR s r.overlap))
def rtOk2 (p : Int) (r : Rt) : Bool := mayN p r.points && mayN p r.flank
def stRt (s p g : Int) (st : MaySt) (r : Rt) : MaySt := (((stRt1 g st r).1 && rtOk1 s r) && rtOk2 p r, (stRt1 g st r).2)
def st1 (l : Ly) : MaySt := l.sections.foldl stName (true, [])
def st2 (l : Ly) : MaySt := l.points.foldl (stPt l.sections.length) (st1 l)
def st3 (l : Ly) : MaySt := l.signals.foldl (stPt l.sections.length) (st2 l)
def st4 (l : Ly) : MaySt := l.routes.foldl (stRt l.sections.length l.points.length l.signals.length) (st3 l)
/-- May a layout be? -/
def mayB (l : Ly) : Bool := !fullB l && (st4 l).1
theorem foldStep {α β : Type} (f : β → α → β) (b : β) (xs : List α) (k : Nat) (h : k < xs.length) : (xs.take (k + 1)).foldl f b = f ((xs.take k).foldl f b) xs[k] := by
  rw [takeStep h, List.foldl_append]; rfl

/-! ### As the reference's text goes -/
def okNames : List ByteArray → List ByteArray → Bool
  | _, [] => true
  | pre, x :: xs => if rightB x = true then (if hasS x pre = true then false else okNames (pre ++ [x]) xs) else false
theorem okNames_step (xs : List ByteArray) (k : Nat) (h : k < xs.length) : okNames (xs.take k) (xs.drop k) = if rightB xs[k] = true then (if hasS xs[k] (xs.take k) = true then false else okNames (xs.take (k + 1)) (xs.drop (k + 1))) else false := by
  rw [dropStep h, takeStep h]; rfl
def rtIn (l : Ly) (r : Rt) : Bool := inR l.signals.length [r.sig] && (inB l.sections.length r.path && (inB l.sections.length r.overlap && (inB l.points.length (ptsOf r.points) && inB l.points.length (ptsOf r.flank))))
def secIn (n : Int) (p : Pt) : Bool := inR n [p.sec]
def refMayB (l : Ly) : Bool := !fullB l && (okNames [] (namesOf l) && (l.points.all (secIn l.sections.length) && (l.signals.all (secIn l.sections.length) && l.routes.all (rtIn l))))
theorem findFrom_hasS (x : ByteArray) (xs : List ByteArray) : decide (0 ≤ findFrom x xs 0) = hasS x xs := by
  rw [Bool.eq_iff_iff]; simp only [decide_eq_true_eq]; exact findFrom_iff x xs 0
theorem inB_take17 (n : Int) (xs : List Nd) : inB n (ptsOf (xs.take 17)) = inB n (ptsOf xs) := by
  by_cases h : xs.length ≤ 17
  · rw [List.take_of_length_le h]
  · have h1 : decide ((ptsOf (xs.take 17)).length ≤ 16) = false := by simp [ptsOf]; omega
    have h2 : decide ((ptsOf xs).length ≤ 16) = false := by simp [ptsOf]; omega
    unfold inB; rw [h1, h2]; rfl
end Go.Proofs.Ytmoccpbiogdbgaa
