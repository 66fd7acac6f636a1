/-
  The plain law of May: the program's way through the names and the reference's are one.
-/
import Derived.Test.YtmoccpbiogdbgaaSpec3
namespace Go.Proofs.Ytmoccpbiogdbgaa
open Go.RowKit

theorem okNames_app (pre xs ys : List ByteArray) : okNames pre (xs ++ ys) = (okNames pre xs && okNames (pre ++ xs) ys) := by
  induction xs generalizing pre with
  | nil => simp [okNames]
  | cons x xs ih =>
    simp only [List.cons_append, okNames, ih, List.append_assoc, List.nil_append]
    by_cases h1 : rightB x = true
    · by_cases h2 : hasS x pre = true
      · simp [h1, h2]
      · simp [h1, h2]
    · simp [h1]
theorem foldNm {α : Type} (nm : α → ByteArray) (c : α → Bool) (f : MaySt → α → MaySt) (hf : ∀ st x, f st x = ((stName st (nm x)).1 && c x, (stName st (nm x)).2)) :
    ∀ (xs : List α) (b : Bool) (pre : List ByteArray), (xs.foldl f (b, pre)).1 = (b && (okNames pre (xs.map nm) && xs.all c)) ∧ ((xs.foldl f (b, pre)).1 = true → (xs.foldl f (b, pre)).2 = pre ++ xs.map nm) := by
  intro xs
  induction xs with
  | nil => intro b pre; simp [okNames]
  | cons x xs ih =>
    intro b pre
    rw [List.foldl_cons, hf]
    cases b
    · have e : stName (false, pre) (nm x) = (false, pre) := by simp [stName]
      rw [e]
      have := ih (false && c x) pre
      simp only [Bool.false_and] at this ⊢
      exact ⟨this.1, fun h => by rw [this.1] at h; cases h⟩
    · by_cases h1 : rightB (nm x) = true
      · by_cases h2 : hasS (nm x) pre = true
        · have e : stName (true, pre) (nm x) = (false, pre) := by simp [stName, h1, h2]
          rw [e]
          have := ih (false && c x) pre
          simp only [Bool.false_and] at this ⊢
          have h0 : okNames pre (List.map nm (x :: xs)) = false := by simp [okNames, h1, h2]
          rw [h0]
          exact ⟨by rw [this.1]; simp, fun h => by rw [this.1] at h; cases h⟩
        · have e : stName (true, pre) (nm x) = (true, pre ++ [nm x]) := by simp [stName, h1, h2]
          rw [e]
          have := ih (true && c x) (pre ++ [nm x])
          simp only [Bool.true_and] at this ⊢
          have h0 : okNames pre (List.map nm (x :: xs)) = okNames (pre ++ [nm x]) (xs.map nm) := by simp [okNames, h1, h2]
          rw [h0, this.1, List.all_cons]
          refine ⟨by ac_rfl, fun h => ?_⟩
          rw [this.2 (by rw [this.1]; exact h)]; simp
      · have e : stName (true, pre) (nm x) = (false, pre) := by simp [stName, h1]
        rw [e]
        have := ih (false && c x) pre
        simp only [Bool.false_and] at this ⊢
        have h0 : okNames pre (List.map nm (x :: xs)) = false := by simp [okNames, h1]
        rw [h0]
        exact ⟨by rw [this.1]; simp, fun h => by rw [this.1] at h; cases h⟩
theorem st1_eq (l : Ly) : (st1 l).1 = okNames [] l.sections ∧ ((st1 l).1 = true → (st1 l).2 = l.sections) := by
  have := foldNm (fun x => x) (fun _ => true) stName (fun st x => by simp) l.sections true []
  unfold st1
  have ha : (l.sections.all fun _ => true) = true := by simp
  rw [ha] at this
  simpa using this
theorem rtc_eq (l : Ly) (r : Rt) : (inR l.signals.length [r.sig] && (rtOk1 l.sections.length r && rtOk2 l.points.length r)) = rtIn l r := by
  unfold rtOk1 rtOk2 rtIn
  rw [mayN_eq, mayN_eq]
  unfold inB
  ac_rfl
theorem mayB_eq (l : Ly) : mayB l = refMayB l := by
  unfold mayB refMayB namesOf
  congr 1
  have h1 := st1_eq l
  have h2 := foldNm Pt.name (secIn l.sections.length) (stPt l.sections.length) (fun st x => rfl) l.points
  have h3 := foldNm Pt.name (secIn l.sections.length) (stPt l.sections.length) (fun st x => rfl) l.signals
  have h4 := foldNm Rt.name (rtIn l) (stRt l.sections.length l.points.length l.signals.length) (fun st x => by rw [← rtc_eq]; unfold stRt stRt1; simp [Bool.and_assoc]) l.routes
  rw [okNames_app, okNames_app, okNames_app]
  simp only [List.nil_append]
  unfold st4
  by_cases a1 : (st1 l).1 = true
  · have e1 : st1 l = (true, l.sections) := Prod.ext a1 (h1.2 a1)
    rw [h1.1] at a1
    have h2 := h2 true l.sections
    have e2' : st2 l = l.points.foldl (stPt l.sections.length) (true, l.sections) := by unfold st2; rw [e1]
    rw [← e2'] at h2
    by_cases a2 : (st2 l).1 = true
    · have e2 : st2 l = (true, l.sections ++ l.points.map Pt.name) := Prod.ext a2 (h2.2 a2)
      rw [h2.1] at a2
      have h3 := h3 true (l.sections ++ l.points.map Pt.name)
      have e3' : st3 l = l.signals.foldl (stPt l.sections.length) (true, l.sections ++ l.points.map Pt.name) := by unfold st3; rw [e2]
      rw [← e3'] at h3
      by_cases a3 : (st3 l).1 = true
      · have e3 : st3 l = (true, (l.sections ++ l.points.map Pt.name) ++ l.signals.map Pt.name) := Prod.ext a3 (h3.2 a3)
        rw [h3.1] at a3
        rw [e3, (h4 _ _).1]
        simp only [Bool.true_and, Bool.and_eq_true] at a2 a3
        rw [a1, a2.1, a2.2, a3.1, a3.2]
        simp [List.append_assoc]
      · have e3 : st3 l = (false, (st3 l).2) := Prod.ext (by simpa using a3) rfl
        rw [h3.1] at a3
        rw [e3, (h4 _ _).1]
        simp only [Bool.true_and, Bool.and_eq_true] at a2 a3
        rw [a1, a2.1, a2.2]
        symm
        simp only [Bool.true_and, Bool.false_and]
        cases u : okNames (l.sections ++ l.points.map Pt.name) (l.signals.map Pt.name)
        · simp
        · have : l.signals.all (secIn l.sections.length) = false := by
            cases v : l.signals.all (secIn l.sections.length)
            · rfl
            · exact absurd (And.intro u v) a3
          rw [this]; simp
    · have a2' : (st2 l).1 = false := by simpa using a2
      have e2 : st2 l = (false, (st2 l).2) := Prod.ext a2' rfl
      have e3 : (st3 l).1 = false := by unfold st3; rw [e2, (h3 _ _).1]; rfl
      have e3' : st3 l = (false, (st3 l).2) := Prod.ext e3 rfl
      rw [e3', (h4 _ _).1, a1]
      rw [h2.1] at a2'
      symm
      simp only [Bool.true_and, Bool.false_and] at a2' ⊢
      cases u : okNames l.sections (l.points.map Pt.name)
      · simp
      · rw [u] at a2'; simp only [Bool.true_and] at a2'; rw [a2']; simp
  · have a1' : (st1 l).1 = false := by simpa using a1
    have e1 : st1 l = (false, (st1 l).2) := Prod.ext a1' rfl
    have e2 : (st2 l).1 = false := by unfold st2; rw [e1, (h2 _ _).1]; rfl
    have e2' : st2 l = (false, (st2 l).2) := Prod.ext e2 rfl
    have e3 : (st3 l).1 = false := by unfold st3; rw [e2', (h3 _ _).1]; rfl
    have e3' : st3 l = (false, (st3 l).2) := Prod.ext e3 rfl
    rw [e3', (h4 _ _).1]
    rw [h1.1] at a1'
    rw [a1']; rfl
/-- What May grants. -/
theorem may_facts (l : Ly) (h : mayB l = true) : (l.sections.length ≤ 64 ∧ l.points.length ≤ 32 ∧ l.signals.length ≤ 32 ∧ l.routes.length ≤ 64) ∧ (∀ p ∈ l.points, secIn l.sections.length p = true) ∧ (∀ p ∈ l.signals, secIn l.sections.length p = true) ∧ ∀ r ∈ l.routes, rtIn l r = true := by
  rw [mayB_eq] at h
  unfold refMayB at h
  simp only [Bool.and_eq_true, List.all_eq_true] at h
  obtain ⟨h1, _, h2, h3, h4⟩ := h
  refine ⟨?_, h2, h3, h4⟩
  simp [fullB] at h1; omega
theorem rtIn_facts {l : Ly} {r : Rt} (h : rtIn l r = true) : r.small ∧ 0 ≤ r.sig ∧ r.sig < l.signals.length := by
  unfold rtIn inB at h
  simp [inR, ptsOf] at h
  unfold Rt.small; omega
end Go.Proofs.Ytmoccpbiogdbgaa
