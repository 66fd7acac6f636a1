/-
  A well-formed route, as the reference's text goes.
-/
import Derived.Test.YtmoccpbiogdbgaaSpec3
namespace Go.Proofs.Ytmoccpbiogdbgaa
open Go.RowKit
/-- Is the number more than so often in the row? -/
def moreI (m : Nat) (x : Int) (xs : List Int) : Bool := decide (m < cntI x xs)
def dupFree (xs : List Int) : Bool := xs.all fun x => !moreI 1 x xs
def refPtOk (t : List Int) (r : Rt) (p : Pt) (i : Nat) : Bool :=
  !((moreI 0 p.sec t != moreI 0 i (ptsOf r.points)) || (moreI 0 p.sec t && moreI 0 i (ptsOf r.flank)))
def refPtsOk (t : List Int) (r : Rt) : List Pt → Nat → Bool
  | [], _ => true
  | p :: ps, i => refPtOk t r p i && refPtsOk t r ps (i + 1)
def refFormedB (l : Ly) (r : Rt) : Bool :=
  !((r.path.length == 0) || moreI 0 (secOf l r) r.track) && (dupFree r.track && (dupFree (ptsOf r.needs) && refPtsOk r.track r l.points 0))
theorem cntI_pos (x : Int) (xs : List Int) : moreI 0 x xs = xs.any fun y => x == y := by
  unfold moreI
  induction xs with
  | nil => simp [cntI]
  | cons y ys ih =>
    simp only [cntI, List.any_cons]
    rw [← ih]
    by_cases h : y = x
    · subst h; simp; omega
    · have h' : ¬ x = y := fun e => h e.symm
      simp [h, h']
theorem moreI_has (x : Int) (xs : List Int) : moreI 0 x xs = hasI x xs := cntI_pos x xs
theorem moreI_hasP (x : Int) (xs : List Nd) : moreI 0 x (ptsOf xs) = hasP x xs := by
  rw [cntI_pos]; unfold ptsOf hasP; rw [List.any_map]; congr 1; funext y; simp only [Function.comp]; rw [Bool.eq_iff_iff]; simp; exact ⟨Eq.symm, Eq.symm⟩
theorem cntI_app (x : Int) (xs ys : List Int) : cntI x (xs ++ ys) = cntI x xs + cntI x ys := by
  induction xs with
  | nil => simp [cntI]
  | cons y xs ih => simp only [List.cons_append, cntI, ih]; omega
theorem twiceFrom_map {α : Type} (key : α → Int) (pre xs : List α) : twiceFrom key pre xs = twiceFrom (fun x => x) (pre.map key) (xs.map key) := by
  induction xs generalizing pre with
  | nil => rfl
  | cons x xs ih => simp only [twiceFrom, List.map_cons, ih, List.map_append, List.map_nil, List.any_map]; rfl
theorem dup_iff (xs : List Int) : dupFree xs = true ↔ xs.Nodup := by
  unfold dupFree moreI
  simp only [List.all_eq_true, Bool.not_eq_true', decide_eq_false_iff_not, Nat.not_lt]
  have hc : ∀ (x : Int) (ys : List Int), cntI x ys = ys.count x := by
    intro x ys
    induction ys with
    | nil => simp [cntI]
    | cons y ys ih => simp only [cntI, ih, List.count_cons]; split <;> omega
  simp only [hc]
  rw [List.nodup_iff_count]
  exact ⟨fun h a => (Classical.em (a ∈ xs)).elim (fun ha => h a ha) (fun ha => by rw [List.count_eq_zero_of_not_mem ha]; omega), fun h a _ => h a⟩
theorem twice_iff (pre xs : List Int) (hp : pre.Nodup) : twiceFrom (fun x => x) pre xs = false ↔ (pre ++ xs).Nodup := by
  induction xs generalizing pre with
  | nil => simp [twiceFrom, hp]
  | cons x xs ih =>
    simp only [twiceFrom, Bool.or_eq_false_iff]
    by_cases hx : x ∈ pre
    · constructor
      · rintro ⟨h, _⟩
        rw [List.any_eq_false] at h
        exact absurd (h x hx) (by simp)
      · intro h
        rw [List.nodup_append] at h
        exact absurd rfl (h.2.2 x hx x List.mem_cons_self)
    · have hp' : (pre ++ [x]).Nodup := by
        rw [List.nodup_append]
        exact ⟨hp, by simp, fun a ha b hb => by simp at hb; subst hb; exact fun e => hx (e ▸ ha)⟩
      have := ih (pre ++ [x]) hp'
      rw [List.append_assoc] at this
      simp only [List.singleton_append] at this
      rw [this]
      constructor
      · exact fun h => h.2
      · refine fun h => ⟨?_, h⟩
        rw [List.any_eq_false]
        intro y hy
        simp only [beq_iff_eq]
        exact fun e => hx (e ▸ hy)
theorem twice_dup {α : Type} (key : α → Int) (xs : List α) : (!twiceFrom key [] xs) = dupFree (xs.map key) := by
  rw [twiceFrom_map, Bool.eq_iff_iff, dup_iff]
  have := twice_iff [] (xs.map key) (by simp)
  simpa using this
theorem refPts_eq (t : List Int) (r : Rt) (ps : List Pt) (i : Nat) : refPtsOk t r ps i = ptsOk t r ps i := by
  induction ps generalizing i with
  | nil => rfl
  | cons p ps ih =>
    simp only [refPtsOk, ptsOk, refPtOk, ih, moreI_hasP]
    simp only [moreI_has]
    cases (hasI p.sec t != hasP i r.points) <;> cases (hasI p.sec t && hasP i r.flank) <;> rfl
/-- The two are one. -/
theorem formed_eq (l : Ly) (r : Rt) : formedB l r = refFormedB l r := by
  unfold formedB refFormedB
  rw [twice_dup, twice_dup, refPts_eq, moreI_has]
  simp only [List.map_id']
  unfold ptsOf
  cases (r.path.length == 0) <;> cases hasI (secOf l r) r.track <;> cases dupFree r.track <;> rfl
end Go.Proofs.Ytmoccpbiogdbgaa
