/-
  Maps whose keys are texts: what a look-up and a store do to the set of names.
-/
import Derived.Test.YtmoccpbiogdbgaaSpec2
import Derived.MapKept
import Derived.Lib.IndexBytes
namespace Go.Proofs.Ytmoccpbiogdbgaa
open Go.RowKit Go.MapKept

theorem bytesEq (a b : ByteArray) : (a.toList == b.toList) = true ↔ a = b := by
  constructor
  · intro h
    have h' : a.toList = b.toList := by simpa using h
    rw [Lib.toList_data, Lib.toList_data] at h'
    cases a; cases b
    simp at h'
    rw [h']
  · rintro rfl; simp
/-- Is a text among some? -/
def hasS (s : ByteArray) (xs : List ByteArray) : Bool := xs.any fun x => x.toList == s.toList
theorem hasS_iff (s : ByteArray) (xs : List ByteArray) : hasS s xs = true ↔ s ∈ xs := by
  simp only [hasS, List.any_eq_true, bytesEq]
  constructor
  · rintro ⟨x, hx, rfl⟩; exact hx
  · intro h; exact ⟨s, h, rfl⟩

/-- A map whose keys are these texts. -/
def HasNames (w : World) (r : Nat) (names : List ByteArray) : Prop := ∃ es clock, w.heap[r]? = some (.map es clock) ∧ es.toList.map (fun e => e.key) = names.map Value.string
theorem HasNames.below {w W : World} {B r : Nat} {names : List ByteArray} (h : HasNames w r names) (hb : Below B w W) (hr : r < B) : HasNames W r names := by
  obtain ⟨es, clock, h1, h2⟩ := h
  exact ⟨es, clock, (hb.block r hr).trans h1, h2⟩
theorem HasNames.lt {w : World} {r : Nat} {names : List ByteArray} (h : HasNames w r names) : r < w.heap.size := by
  obtain ⟨es, clock, h1, h2⟩ := h
  exact (Array.getElem?_eq_some_iff.1 h1).1
theorem HasNames.made (w : World) : HasNames (w.alloc (.map #[] 0)) w.heap.size [] := ⟨#[], 0, heap_alloc_new w _, rfl⟩
theorem names_keys {es : List MapEntry} {names : List ByteArray} (h : es.map (fun e => e.key) = names.map Value.string) : ∀ x ∈ es, IsKey .string x.key := by
  intro x hx
  have : x.key ∈ names.map Value.string := by rw [← h]; exact List.mem_map.2 ⟨x, hx, rfl⟩
  obtain ⟨s, _, hs⟩ := List.mem_map.1 this
  rw [← hs]; trivial
theorem names_mem {es : List MapEntry} {names : List ByteArray} (h : es.map (fun e => e.key) = names.map Value.string) (s : ByteArray) : (∃ x ∈ es, x.key = .string s) ↔ s ∈ names := by
  constructor
  · rintro ⟨x, hx, he⟩
    have : x.key ∈ names.map Value.string := by rw [← h]; exact List.mem_map.2 ⟨x, hx, rfl⟩
    rw [he] at this
    obtain ⟨t, ht, hs⟩ := List.mem_map.1 this
    cases hs; exact ht
  · intro hs
    have : Value.string s ∈ es.map (fun e => e.key) := by rw [h]; exact List.mem_map.2 ⟨s, hs, rfl⟩
    obtain ⟨x, hx, he⟩ := List.mem_map.1 this
    exact ⟨x, hx, he⟩
section
variable {P : Program} {w : World} {T kt et : TypeId} {r : Nat} {names : List ByteArray}
theorem run_lookup_name (hm : P.underlying T = some (.map kt et)) (hd : P.underlying kt = some .string) {z : Value} (hz : ∀ w, (zeroValue et).run P w = .ok z w) (h : HasNames w r names) (s : ByteArray) :
    ∃ v, (Instr.lookup T (.map (some r)) (.string s) true).run P w = .ok (.tuple #[v, .bool (hasS s names)]) w := by
  obtain ⟨es, clock, hb, hk⟩ := h
  have hks := names_keys hk
  have hkey : IsKey .string (.string s) := trivial
  rcases findNow_spec hkey es.toList 0 hks with ⟨h1, h2⟩ | ⟨j, e, h1, h2, h3⟩
  · have hno : hasS s names = false := by
      cases hh : hasS s names
      · rfl
      · obtain ⟨x, hx, he⟩ := (names_mem hk s).2 ((hasS_iff s names).1 hh)
        exact absurd he (h2 x hx)
    refine ⟨z, ?_⟩
    simp [Instr.lookup, run_underlying hm, Go.MapKept.run_getObj_map hb, run_checkKey hd hkey, run_findKey hd h1, hz, hno, Result.andThen]
  · have hyes : hasS s names = true := (hasS_iff s names).2 ((names_mem hk s).1 ⟨e, List.mem_of_getElem? h2, h3⟩)
    refine ⟨e.val, ?_⟩
    simp [Instr.lookup, run_underlying hm, Go.MapKept.run_getObj_map hb, run_checkKey hd hkey, run_findKey hd h1, hyes, Result.andThen]
/-- A store of a name that is not there yet. -/
theorem run_update_name (hm : P.underlying T = some (.map kt et)) (hd : P.underlying kt = some .string) (h : HasNames w r names) (s : ByteArray) (hno : hasS s names = false) (v : Value) :
    ∃ w', (Instr.mapUpdate T (.map (some r)) (.string s) v).run P w = .ok () w' ∧ HasNames w' r (names ++ [s]) ∧ w.grownBy w' (some r) ∧ w'.heap.size = w.heap.size := by
  obtain ⟨es, clock, hb, hk⟩ := h
  have hks := names_keys hk
  have hkey : IsKey .string (.string s) := trivial
  rcases findNow_spec hkey es.toList 0 hks with ⟨h1, h2⟩ | ⟨j, e, h1, h2, h3⟩
  · refine ⟨{ w with heap := w.heap.setIfInBounds r (.map (es.push { key := .string s, val := v, born := clock }) (clock + 1)) }, by simp [Instr.mapUpdate, run_underlying hm, Go.MapKept.run_getObj_map hb, run_checkKey hd hkey, run_findKey hd h1, Go.MapKept.run_setObj_map _ hb, Result.andThen], ⟨_, _, (heap_set hb).1, ?_⟩, ⟨rfl, rfl, rfl, by simp, fun k hk1 hk2 => (heap_set hb).2 k (fun e => hk2 (by rw [e]))⟩, by simp⟩
    simp [hk]
  · have hyes : hasS s names = true := (hasS_iff s names).2 ((names_mem hk s).1 ⟨e, List.mem_of_getElem? h2, h3⟩)
    rw [hno] at hyes; cases hyes
end
end Go.Proofs.Ytmoccpbiogdbgaa
