/-
  Plain words on searching.
-/
import Derived.Test.YtmoccpbiogdbgaaSpec1
namespace Go.Proofs.Ytmoccpbiogdbgaa
open Go.RowKit
/-- The first place, from a place on, where a test says yes. -/
def idxFrom {α : Type} (p : α → Bool) : List α → Nat → Int
  | [], _ => -1
  | x :: xs, k => if p x = true then (k : Int) else idxFrom p xs (k + 1)
theorem idxFrom_any {α : Type} (p : α → Bool) (xs : List α) : ∀ k, decide (0 ≤ idxFrom p xs k) = xs.any p := by
  induction xs with
  | nil => intro k; simp [idxFrom]
  | cons x xs ih =>
    intro k
    unfold idxFrom
    by_cases h : p x = true
    · rw [if_pos h]; simp [h]
    · rw [if_neg h, ih]; simp [h]
/-- Is a number in a row? -/
def hasI (n : Int) (xs : List Int) : Bool := xs.any fun x => n == x
/-- Have two members of a row one key? -/
def twiceFrom {α : Type} (key : α → Int) : List α → List α → Bool
  | _, [] => false
  | pre, x :: xs => (pre.any fun y => key x == key y) || twiceFrom key (pre ++ [x]) xs
/-- No row of a route is long. -/
def Rt.small (r : Rt) : Prop := r.path.length ≤ 1000 ∧ r.points.length ≤ 1000 ∧ r.overlap.length ≤ 1000 ∧ r.flank.length ≤ 1000
def Rt.track (r : Rt) : List Int := r.path ++ r.overlap
def Rt.needs (r : Rt) : List Nd := r.points ++ r.flank
/-- Is a point among needs? -/
def hasP (n : Int) (xs : List Nd) : Bool := xs.any fun x => x.pt == n
/-- Do the points, from a place on, lie in a track just if they are needed there, and no such one is a flank's? -/
def ptsOk (t : List Int) (r : Rt) : List Pt → Nat → Bool
  | [], _ => true
  | p :: ps, i => if (hasI p.sec t != hasP i r.points) = true then false else if (hasI p.sec t && hasP i r.flank) = true then false else ptsOk t r ps (i + 1)
/-- The section ahead of a route's signal. -/
def secOf (l : Ly) (r : Rt) : Int := ((l.signals[r.sig.toNat]?).map Pt.sec).getD 0
/-- Is a route well-formed? -/
def formedB (l : Ly) (r : Rt) : Bool :=
  !(r.path.length == 0) && (!(twiceFrom (fun x => x) [] r.track) && (!(hasI (secOf l r) r.track) && (!(twiceFrom Nd.pt [] r.needs) && ptsOk r.track r l.points 0)))
end Go.Proofs.Ytmoccpbiogdbgaa
