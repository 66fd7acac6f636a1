/-
  When two routes conflict: as the program's text goes, and as the reference's.
-/
import Derived.Test.YtmoccpbiogdbgaaW16
namespace Go.Proofs.Ytmoccpbiogdbgaa
open Go.RowKit
/-- Is a point needed; and reversed? (The program keeps both in a map.) -/
def needs? (n : Int) (r : Rt) : Bool := decide (needOf n r.needs ≠ 0)
def rev? (n : Int) (r : Rt) : Bool := decide (needOf n r.needs = 2)
def ptMeet (a b : Rt) (p : Pt) (i : Nat) : Bool :=
  ((needs? i a && needs? i b) || ((needs? i a && hasI p.sec b.track) || (needs? i b && hasI p.sec a.track))) && !((needs? i a == needs? i b) && (rev? i a == rev? i b))
def refPtMeet (a b : Rt) (p : Pt) (i : Nat) : Bool :=
  decide (needOf i a.needs ≠ needOf i b.needs) && ((decide (0 < needOf i a.needs) && decide (0 < needOf i b.needs)) || ((decide (0 < needOf i a.needs) && hasI p.sec b.track) || (decide (0 < needOf i b.needs) && hasI p.sec a.track)))
def anyPt (f : Pt → Nat → Bool) : List Pt → Nat → Bool
  | [], _ => false
  | p :: ps, i => f p i || anyPt f ps (i + 1)
def conflictB (l : Ly) (a b : Rt) : Bool := decide (a.sig = b.sig) || ((a.track.any fun s => hasI s b.track) || anyPt (ptMeet a b) l.points 0)
def refConflictB (l : Ly) (a b : Rt) : Bool := decide (a.sig = b.sig) || ((a.track.any fun s => hasI s b.track) || anyPt (refPtMeet a b) l.points 0)
theorem needOf_three (n : Int) (xs : List Nd) : needOf n xs = 0 ∨ needOf n xs = 1 ∨ needOf n xs = 2 := by
  induction xs with
  | nil => exact .inl rfl
  | cons x xs ih =>
    rw [needOf_cons]
    by_cases h : x.pt = n
    · rw [if_pos h]; by_cases h2 : x.rev = true
      · rw [if_pos h2]; exact .inr (.inr rfl)
      · rw [if_neg h2]; exact .inr (.inl rfl)
    · rw [if_neg h]; exact ih
theorem ptMeet_eq (a b : Rt) (p : Pt) (i : Nat) : ptMeet a b p i = refPtMeet a b p i := by
  unfold ptMeet refPtMeet needs? rev?
  rcases needOf_three i a.needs with h1 | h1 | h1 <;> rcases needOf_three i b.needs with h2 | h2 | h2 <;> rw [h1, h2] <;> simp
theorem anyPt_congr {f g : Pt → Nat → Bool} (h : ∀ p i, f p i = g p i) (ps : List Pt) (i : Nat) : anyPt f ps i = anyPt g ps i := by
  induction ps generalizing i with
  | nil => rfl
  | cons p ps ih => simp only [anyPt, h, ih]
theorem conflict_eq (l : Ly) (a b : Rt) : conflictB l a b = refConflictB l a b := by
  unfold conflictB refConflictB; rw [anyPt_congr (ptMeet_eq a b)]
end Go.Proofs.Ytmoccpbiogdbgaa
