/-
  Rows of routes of the call's own, cell by cell.
-/
import Derived.Test.YtmoccpbiogdbgaaW4
namespace Go.Proofs.Ytmoccpbiogdbgaa
open Go.RowKit
/-- A route and its four slices' heads. -/
structure RtH where
  rt : Rt
  p : Hd
  q : Hd
  o : Hd
  f : Hd
def RtH.cells (x : RtH) : List Value := [.string x.rt.name, .int .i64 x.rt.sig, x.p.v, x.q.v, x.o.v, x.f.v]
def rtCells (hs : List RtH) : List Value := hs.flatMap RtH.cells
theorem rtCells_length (hs : List RtH) : (rtCells hs).length = hs.length * 6 := by
  induction hs with
  | nil => rfl
  | cons x xs ih => simp only [rtCells, List.flatMap_cons, List.length_append] at *; rw [ih]; simp [RtH.cells]; omega
theorem rtCells_at (hs : List RtH) : ∀ (i : Nat) (h : i < hs.length) (j : Nat), j < 6 → (rtCells hs)[i * 6 + j]? = hs[i].cells[j]? := by
  induction hs with
  | nil => intro i h; simp at h
  | cons x xs ih =>
    intro i h j hj
    have hlx : x.cells.length = 6 := rfl
    cases i with
    | zero =>
      simp only [rtCells, List.flatMap_cons, Nat.zero_mul, Nat.zero_add, List.getElem_cons_zero]
      rw [List.getElem?_append_left (by omega)]
    | succ i =>
      have := ih i (by simpa using h) j hj
      simp only [rtCells, List.flatMap_cons, List.getElem_cons_succ] at *
      rw [List.getElem?_append_right (by omega), hlx, ← this]
      congr 1; omega
theorem rts_of_own {w : World} {base : Nat} {e : TypeId} {v : Value} {n : Nat} {hs : List RtH} (h : w.ownsRow base e 6 v n (rtCells hs)) (hr : ∀ x ∈ hs, RRt w x.p x.q x.o x.f x.rt) (hn : n ≤ 140737488355328) :
    ∃ A c, v = .slice A n c ∧ n ≤ c ∧ RRts w A n (hs.map RtH.rt) := by
  have hl := h.1
  rw [rtCells_length] at hl
  obtain ⟨A, c, rfl, hle, b, off, hA, hc⟩ := cell_of_own h
  refine ⟨A, c, rfl, hle, by simp; omega, hn, b, off, hA, fun i hi => ?_⟩
  have hi' : i < hs.length := by simpa using hi
  have hat := fun j hj => rtCells_at hs i hi' j hj
  have hcc := fun j hj u (hu : hs[i].cells[j]? = some u) => hc (i * 6 + j) u ((hat j hj).trans hu)
  have em : (hs.map RtH.rt)[i] = hs[i].rt := by simp
  rw [em]
  have hx := hr _ (List.getElem_mem hi')
  generalize hs[i] = x at *
  have k := fun j hj u hu => hcc j hj u hu
  refine ⟨x.p, x.q, x.o, x.f, hx, ?_, ?_, ?_, ?_, ?_, ?_⟩
  · have := k 0 (by omega) _ rfl; simpa using this
  · have := k 1 (by omega) _ rfl; rwa [← Nat.add_assoc] at this
  · have := k 2 (by omega) _ rfl; rwa [← Nat.add_assoc] at this
  · have := k 3 (by omega) _ rfl; rwa [← Nat.add_assoc] at this
  · have := k 4 (by omega) _ rfl; rwa [← Nat.add_assoc] at this
  · have := k 5 (by omega) _ rfl; rwa [← Nat.add_assoc] at this
end Go.Proofs.Ytmoccpbiogdbgaa
