/-
  Maps from whole numbers to yes or no: what a look-up and a store do.
-/
import Derived.Test.YtmoccpbiogdbgaaSpec5
import Derived.MapKept
namespace Go.Proofs.Ytmoccpbiogdbgaa
open Go.RowKit Go.MapKept
/-- What a look-up finds. -/
def MapIs (w : World) (r : Nat) (f : Int → Option Bool) : Prop :=
  ∃ es clock, w.heap[r]? = some (.map es clock) ∧ Stamped es clock ∧ (∀ x ∈ es.toList, IsKey (.int .i64) x.key) ∧
    ∀ k : Int, (f k = none ∧ ∀ x ∈ es.toList, x.key ≠ .int .i64 k) ∨ (∃ b, f k = some b ∧ (∃ x ∈ es.toList, x.key = .int .i64 k) ∧ ∀ x ∈ es.toList, x.key = .int .i64 k → x.val = .bool b)
theorem MapIs.made (w : World) : MapIs (w.alloc (.map #[] 0)) w.heap.size (fun _ => none) := ⟨#[], 0, heap_alloc_new w _, stamped_empty 0, by simp, fun k => .inl ⟨rfl, by simp⟩⟩
theorem MapIs.below {w W : World} {B r : Nat} {f : Int → Option Bool} (h : MapIs w r f) (hb : Below B w W) (hr : r < B) : MapIs W r f := by
  obtain ⟨es, clock, h1, h2⟩ := h
  exact ⟨es, clock, (hb.block r hr).trans h1, h2⟩
theorem MapIs.same {w W : World} {r : Nat} {f : Int → Option Bool} (h : MapIs w r f) (hb : W.heap[r]? = w.heap[r]?) : MapIs W r f := by
  obtain ⟨es, clock, h1, h2⟩ := h
  exact ⟨es, clock, hb.trans h1, h2⟩
theorem MapIs.lt {w : World} {r : Nat} {f : Int → Option Bool} (h : MapIs w r f) : r < w.heap.size := by
  obtain ⟨es, clock, h1, h2⟩ := h
  exact (Array.getElem?_eq_some_iff.1 h1).1
section
variable {P : Program} {w : World} {T kt et : TypeId} {r : Nat} {f : Int → Option Bool}
theorem run_lookup_mapI (hm : P.underlying T = some (.map kt et)) (hd : P.underlying kt = some (.int .i64)) (hz : ∀ w, (zeroValue et).run P w = .ok (.bool false) w) (h : MapIs w r f) (k : Int) :
    (Instr.lookup T (.map (some r)) (.int .i64 k) true).run P w = .ok (.tuple #[.bool ((f k).getD false), .bool (f k).isSome]) w := by
  obtain ⟨es, clock, hb, hst, hks, hf⟩ := h
  have hkey : IsKey (.int .i64) (.int .i64 k) := rfl
  rcases findNow_spec hkey es.toList 0 hks with ⟨h1, h2⟩ | ⟨j, e, h1, h2, h3⟩
  · have hno : f k = none := by
      rcases hf k with h | ⟨b, _, ⟨x, hx, he⟩, _⟩
      · exact h.1
      · exact absurd he (h2 x hx)
    simp [Instr.lookup, run_underlying hm, Go.MapKept.run_getObj_map hb, run_checkKey hd hkey, run_findKey hd h1, hz, hno, Result.andThen]
  · have he : e ∈ es.toList := List.mem_of_getElem? h2
    rcases hf k with h | ⟨b, hfb, _, hall⟩
    · exact absurd h3 (h.2 e he)
    · simp [Instr.lookup, run_underlying hm, Go.MapKept.run_getObj_map hb, run_checkKey hd hkey, run_findKey hd h1, hall e he h3, hfb, Result.andThen]
/-- A store. -/
theorem run_update_mapI (hm : P.underlying T = some (.map kt et)) (hd : P.underlying kt = some (.int .i64)) (h : MapIs w r f) (k : Int) (b : Bool) :
    ∃ w', (Instr.mapUpdate T (.map (some r)) (.int .i64 k) (.bool b)).run P w = .ok () w' ∧ MapIs w' r (fun j => if j = k then some b else f j) ∧ w.grownBy w' (some r) ∧ w'.heap.size = w.heap.size := by
  obtain ⟨es, clock, hb, hst, hks, hf⟩ := h
  have hkey : IsKey (.int .i64) (.int .i64 k) := rfl
  rcases findNow_spec hkey es.toList 0 hks with ⟨h1, h2⟩ | ⟨j, e, h1, h2, h3⟩
  · refine ⟨{ w with heap := w.heap.setIfInBounds r (.map (es.push { key := .int .i64 k, val := .bool b, born := clock }) (clock + 1)) }, by simp [Instr.mapUpdate, run_underlying hm, Go.MapKept.run_getObj_map hb, run_checkKey hd hkey, run_findKey hd h1, Go.MapKept.run_setObj_map _ hb, Result.andThen], ⟨_, _, (heap_set hb).1, stamped_push hst h2, ?_, ?_⟩, ⟨rfl, rfl, rfl, by simp, fun k hk1 hk2 => (heap_set hb).2 k (fun e => hk2 (by rw [e]))⟩, by simp⟩
    · intro x hx
      simp only [Array.toList_push, List.mem_append, List.mem_singleton] at hx
      rcases hx with hx | rfl
      · exact hks x hx
      · exact hkey
    · intro q
      by_cases hq : q = k
      · subst hq
        right
        refine ⟨b, by simp, ⟨_, by simp; exact .inr rfl, rfl⟩, ?_⟩
        intro x hx he
        simp only [Array.toList_push, List.mem_append, List.mem_singleton] at hx
        rcases hx with hx | rfl
        · exact absurd he (h2 x hx)
        · rfl
      · have hne : (Value.int .i64 k) ≠ .int .i64 q := fun e => by injection e with _ e; exact hq e.symm
        rcases hf q with ⟨h4, h5⟩ | ⟨c, h4, ⟨x, hx, he⟩, h5⟩
        · left
          refine ⟨by simp [hq, h4], fun x hx => ?_⟩
          simp only [Array.toList_push, List.mem_append, List.mem_singleton] at hx
          rcases hx with hx | rfl
          · exact h5 x hx
          · exact hne
        · right
          refine ⟨c, by simp [hq, h4], ⟨x, by simp; exact .inl (by simpa using hx), he⟩, fun y hy hye => ?_⟩
          simp only [Array.toList_push, List.mem_append, List.mem_singleton] at hy
          rcases hy with hy | rfl
          · exact h5 y hy hye
          · exact absurd hye hne
  · have hj : es[j]? = some e := by simpa using h2
    have hjl : j < es.size := (Array.getElem?_eq_some_iff.1 hj).1
    have hE : ∀ x, x ∈ (es.modify j fun e => { e with key := .int .i64 k, val := .bool b }).toList ↔ ∃ i, ∃ y, es[i]? = some y ∧ x = if i = j then { y with key := .int .i64 k, val := .bool b } else y := by
      intro x
      rw [Array.mem_toList_iff, Array.mem_iff_getElem?]
      constructor
      · rintro ⟨i, hi⟩
        rw [Array.getElem?_modify] at hi
        by_cases hij : j = i
        · subst hij
          rw [if_pos rfl, hj] at hi
          exact ⟨j, e, hj, by rw [if_pos rfl]; simpa using hi.symm⟩
        · rw [if_neg hij] at hi
          exact ⟨i, x, hi, by rw [if_neg (Ne.symm hij)]⟩
      · rintro ⟨i, y, hi, rfl⟩
        refine ⟨i, ?_⟩
        rw [Array.getElem?_modify]
        by_cases hij : j = i
        · subst hij; rw [if_pos rfl, if_pos rfl, hi]; rfl
        · rw [if_neg hij, if_neg (Ne.symm hij), hi]
    have hmem : ∀ i y, es[i]? = some y → y ∈ es.toList := fun i y hy => Array.mem_toList_iff.2 (Array.mem_of_getElem? hy)
    refine ⟨{ w with heap := w.heap.setIfInBounds r (.map (es.modify j fun e => { e with key := .int .i64 k, val := .bool b }) clock) }, by simp [Instr.mapUpdate, run_underlying hm, Go.MapKept.run_getObj_map hb, run_checkKey hd hkey, run_findKey hd h1, hj, h3, run_keyThatStays hkey, Go.MapKept.run_setObj_map _ hb, Result.andThen], ⟨_, _, (heap_set hb).1, stamped_modify hst _ _ (fun _ _ => rfl) (fun e1 _ he1 => by rw [hj] at he1; cases he1; exact h3.symm), ?_, ?_⟩, ⟨rfl, rfl, rfl, by simp, fun k hk1 hk2 => (heap_set hb).2 k (fun e => hk2 (by rw [e]))⟩, by simp⟩
    · intro x hx
      obtain ⟨i, y, hy, rfl⟩ := (hE x).1 hx
      split
      · exact hkey
      · exact hks y (hmem i y hy)
    · intro q
      by_cases hq : q = k
      · subst hq
        right
        refine ⟨b, by simp, ⟨_, (hE _).2 ⟨j, e, hj, rfl⟩, by simp⟩, ?_⟩
        intro x hx he
        obtain ⟨i, y, hy, rfl⟩ := (hE x).1 hx
        split
        · rfl
        · rename_i hij
          rw [if_neg hij] at he
          exfalso
          have hnd := hst.2.2
          have hil : i < es.size := (Array.getElem?_eq_some_iff.1 hy).1
          refine hij ((List.getElem_inj (h₀ := by simpa using hil) (h₁ := by simpa using hjl) hnd).1 ?_)
          have e1 : es[i] = y := (Array.getElem?_eq_some_iff.1 hy).2
          have e2 : es[j] = e := (Array.getElem?_eq_some_iff.1 hj).2
          simp [e1, e2, he, h3]
      · have hne : (Value.int .i64 k) ≠ .int .i64 q := fun e => by injection e with _ e; exact hq e.symm
        rcases hf q with ⟨h4, h5⟩ | ⟨c, h4, ⟨x, hx, he⟩, h5⟩
        · left
          refine ⟨by simp [hq, h4], fun x hx => ?_⟩
          obtain ⟨i, y, hy, rfl⟩ := (hE x).1 hx
          split
          · exact hne
          · exact h5 y (hmem i y hy)
        · right
          refine ⟨c, by simp [hq, h4], ?_, fun y hy hye => ?_⟩
          · obtain ⟨i, hi⟩ := Array.mem_iff_getElem?.1 (Array.mem_toList_iff.1 hx)
            have hij : i ≠ j := fun e' => by subst e'; rw [hj] at hi; cases hi; rw [h3] at he; exact hne he
            exact ⟨x, (hE x).2 ⟨i, x, hi, by rw [if_neg hij]⟩, he⟩
          · obtain ⟨i, z, hz, rfl⟩ := (hE y).1 hy
            by_cases hij : i = j
            · rw [if_pos hij] at hye; exact absurd hye hne
            · rw [if_neg hij] at hye ⊢; exact h5 z (hmem i z hz) hye
end
end Go.Proofs.Ytmoccpbiogdbgaa
