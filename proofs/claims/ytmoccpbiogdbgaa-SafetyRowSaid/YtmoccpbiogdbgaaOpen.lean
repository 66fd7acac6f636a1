/-
  The arguments, read: from the reading of a claim's row to the readings of Data. Sizes of nested parts by their weights.
-/
import Derived.Test.YtmoccpbiogdbgaaW18
import Derived.ProofKit
import Derived.Deep.Slices
import Derived.Deep.Fields
import Derived.Lib.SmallJoins
import Derived.SizedLaws
namespace Go.Proofs.Ytmoccpbiogdbgaa
set_option linter.constructorNameAsVariable false
set_option maxRecDepth 100000
open Go.RowKit Go.ChangeShapes Go.WideShapes Go.ChangeAt Go.Deep Go.Joins
instance : Inhabited Pt := ⟨⟨.empty, 0⟩⟩
instance : Inhabited Nd := ⟨⟨0, false⟩⟩
instance : Inhabited Rt := ⟨⟨.empty, 0, [], [], [], []⟩⟩

/-- Every part that is read takes at most so many bytes. -/
def Wt {H : Type} (P : Program) (t : TypeId) (d : DataW H) : Prop := ∀ n ∈ d.weights P t, n ≤ reachBytes
section
variable {H : Type} {P : Program}
theorem Wt.each {ts : List TypeId} {ds : List (DataW H)} (h : (DataW.weightsEach P ts ds).all (· ≤ reachBytes) = true) {j : Nat} {t : TypeId} {d : DataW H} (ht : ts[j]? = some t) (hd : ds[j]? = some d) : Wt P t d := fun n hn => by
  simpa using List.all_eq_true.1 h n (DataW.weights_mem_each ht hd n hn)
theorem weights_mem_all {e : TypeId} : ∀ {ds : List (DataW H)} {d : DataW H}, d ∈ ds → ∀ n ∈ d.weights P e, n ∈ DataW.weightsAll P e ds
  | d0 :: ds, d, hd, n, hn => by
    simp only [DataW.weightsAll, List.mem_append]
    rcases List.mem_cons.1 hd with rfl | h
    · exact .inl hn
    · exact .inr (weights_mem_all h n hn)
theorem Wt.slice {t e : TypeId} {elems spare : List (DataW H)} (ht : P.underlying t = some (.slice e)) (h : Wt P t (.slice elems spare)) :
    (elems.length + spare.length) * P.bytesOf e ≤ reachBytes ∧ ∀ d ∈ elems, Wt P e d := by
  refine ⟨h _ (by simp [DataW.weights, ht]), fun d hd n hn => h n ?_⟩
  simp only [DataW.weights, ht, List.mem_cons, List.mem_append]
  exact .inr (.inl (weights_mem_all hd n hn))
theorem Wt.string {t : TypeId} {s : ByteArray} (h : Wt P t (.lit (.string s.data.toList) : DataW H)) : s.size ≤ 140737488355328 := by
  have h1 := h s.data.toList.length (by simp only [DataW.weights, List.mem_singleton])
  have : s.data.toList.length = s.size := by rw [Array.length_toList]; rfl
  unfold reachBytes at h1
  omega
theorem Wt.field {t : TypeId} {fs : Array Field} {parts : List (DataW H)} (ht : P.underlying t = some (.struct fs)) (h : Wt P t (.agg parts)) {j : Nat} {f : Field} {d : DataW H} (hf : fs.toList[j]? = some f) (hd : parts[j]? = some d) : Wt P f.type d := fun n hn => by
  refine h n ?_
  simp only [DataW.weights, ht]
  exact DataW.weights_mem_each (j := j) (by simp [List.getElem?_map, hf]) hd n hn
end

theorem listOf {α : Type} [Inhabited α] {n : Nat} {p : Nat → α → Prop} (h : ∀ i, i < n → ∃ x, p i x) : ∃ xs : List α, xs.length = n ∧ ∀ i (h : i < xs.length), p i xs[i] := by
  obtain ⟨f, hf⟩ := choose_lt h
  exact ⟨(List.range n).map f, by simp, fun i hi => by simp at hi; simpa using hf i hi⟩

section
variable {H : Type} {enc : TypeId × Value → H} {P : Program} {W : World}
/-- A slice, opened: its head, and each element's cells with their reading. -/
theorem open_row {t e : TypeId} {k fuel : Nat} {cs : List Value} {y : DataW H × List MemPlace} (ht : P.underlying t = some (.slice e)) (hk : P.cellsOf e = k) (hk0 : 0 < k) (hby : 0 < P.bytesOf e)
    (hw : Wt P t y.1) (h : DataW.trod enc P W 0 (fun _ => true) true fuel t cs = some y) :
    ∃ hd : Hd, cs = [hd.v] ∧ hd.ok ∧ hd.n ≤ hd.c ∧ hd.n ≤ 140737488355328 ∧ ∃ b off m, (0 < hd.n → hd.A = some ⟨b, off, none⟩) ∧
      ∀ i, i < hd.n → ∃ (es : List Value) (z : DataW H × List MemPlace), es.length = k ∧ (∀ j, j < k → W.cell? ⟨b, off + i * k + j, none⟩ = es[j]?) ∧ DataW.trod enc P W 0 (fun _ => true) true m e es = some z ∧ Wt P e z.1 := by
  rcases open_slice ht h with ⟨rfl, rfl⟩ | ⟨a, len, cap, m, n, D, Pl, rfl, _, hl, _, hm, rfl, hx⟩
  · exact ⟨⟨none, 0, 0⟩, rfl, fun _ => ⟨rfl, rfl⟩, Nat.le_refl _, by simp, 0, 0, 0, fun h => absurd h (Nat.lt_irrefl 0), fun i hi => absurd hi (Nat.not_lt_zero i)⟩
  · simp only [if_true] at hm
    subst hm
    obtain ⟨h1, h2⟩ := hw.slice ht
    simp only [List.length_map, List.length_range] at h1
    have h3 : len ≤ 140737488355328 := by
      have : (len + (m - len)) * 1 ≤ (len + (m - len)) * P.bytesOf e := Nat.mul_le_mul_left _ hby
      unfold reachBytes at h1
      omega
    obtain ⟨b, o, spot⟩ := a
    by_cases hlen : 0 < len
    · have hspot : spot = none := by
        obtain ⟨es, hc, _⟩ := hx 0 (by omega)
        obtain ⟨_, hes, hcell⟩ := World.cells?_some hc
        have g := hcell 0 (by omega)
        rw [List.getElem?_eq_getElem (by omega)] at g
        simpa [Addr.add] using World.cell?_spot g
      subst hspot
      refine ⟨⟨some ⟨b, o, none⟩, len, m⟩, rfl, fun h => (by cases h), hl, h3, b, o, n, fun _ => rfl, fun i hi => ?_⟩
      obtain ⟨es, hc, hz⟩ := hx i (Nat.lt_of_lt_of_le hi hl)
      obtain ⟨_, hes, hcell⟩ := World.cells?_some hc
      refine ⟨es, (D i, Pl i), hes.trans hk, fun j hj => ?_, hz, h2 _ (List.mem_map.2 ⟨i, List.mem_range.2 hi, rfl⟩)⟩
      have := hcell j (by omega)
      rw [hk, addr_add, addr_add] at this
      exact this
    · exact ⟨⟨some ⟨b, o, spot⟩, len, m⟩, rfl, fun h => (by cases h), hl, h3, 0, 0, 0, fun h => absurd h hlen, fun i hi => absurd (Nat.lt_of_le_of_lt (Nat.zero_le i) hi) hlen⟩

theorem open_ints' {t e : TypeId} {fuel : Nat} {cs : List Value} {y : DataW H × List MemPlace} (ht : P.underlying t = some (.slice e)) (he : P.underlying e = some (.int .i64)) (hk : P.cellsOf e = 1) (hby : 0 < P.bytesOf e)
    (hw : Wt P t y.1) (h : DataW.trod enc P W 0 (fun _ => true) true fuel t cs = some y) : ∃ (hd : Hd) (xs : List Int), cs = [hd.v] ∧ hd.ok ∧ hd.n ≤ hd.c ∧ RInts W hd.A hd.n xs := by
  obtain ⟨hd, rfl, hok, hc, hn, b, off, m, hA, hx⟩ := open_row ht hk (by decide) hby hw h
  obtain ⟨xs, hl, hxs⟩ := listOf (p := fun i (x : Int) => W.cell? ⟨b, off + i, none⟩ = some (.int .i64 x)) (n := hd.n) (fun i hi => by
    obtain ⟨es, z, hes, hcell, hz, _⟩ := hx i hi
    obtain ⟨x, rfl, _⟩ := DataW.trod_int he hz
    exact ⟨x, by simpa using hcell 0 (by decide)⟩)
  exact ⟨hd, xs, rfl, hok, hc, hl, hn, b, off, hA, hxs⟩

theorem open_strs' {t e : TypeId} {fuel : Nat} {cs : List Value} {y : DataW H × List MemPlace} (ht : P.underlying t = some (.slice e)) (he : P.underlying e = some .string) (hk : P.cellsOf e = 1) (hby : 0 < P.bytesOf e)
    (hw : Wt P t y.1) (h : DataW.trod enc P W 0 (fun _ => true) true fuel t cs = some y) : ∃ (hd : Hd) (xs : List ByteArray), cs = [hd.v] ∧ hd.ok ∧ hd.n ≤ hd.c ∧ RStrs W hd.A hd.n xs := by
  obtain ⟨hd, rfl, hok, hc, hn, b, off, m, hA, hx⟩ := open_row ht hk (by decide) hby hw h
  obtain ⟨xs, hl, hxs⟩ := listOf (p := fun i (x : ByteArray) => W.cell? ⟨b, off + i, none⟩ = some (.string x) ∧ x.size ≤ 140737488355328) (n := hd.n) (fun i hi => by
    obtain ⟨es, z, hes, hcell, hz, hwz⟩ := hx i hi
    obtain ⟨x, rfl, rfl, _⟩ := DataW.trod_string he hz
    exact ⟨x, by simpa using hcell 0 (by decide), hwz.string⟩)
  refine ⟨hd, xs, rfl, hok, hc, hl, hn, fun s hs => ?_, b, off, hA, fun i hi => (hxs i hi).1⟩
  obtain ⟨i, hi, rfl⟩ := List.getElem_of_mem hs
  exact (hxs i hi).2

/-- A struct of two cells: its two readings. -/
theorem open_two {t : TypeId} {f0 f1 : Field} {fuel : Nat} {es : List Value} {z : DataW H × List MemPlace} (hs : P.underlying t = some (.struct #[f0, f1])) (hone : oneCellFields P #[f0, f1] = true) (hl : es.length = 2) (hw : Wt P t z.1)
    (h : DataW.trod enc P W 0 (fun _ => true) true fuel t es = some z) :
    ∃ v0 v1 y0 y1 n, es = [v0, v1] ∧ DataW.trod enc P W 0 (fun _ => true) true n f0.type [v0] = some y0 ∧ DataW.trod enc P W 0 (fun _ => true) true n f1.type [v1] = some y1 ∧ Wt P f0.type y0.1 ∧ Wt P f1.type y1.1 := by
  obtain ⟨y0, y1, n, rfl, _, h0, h1⟩ := trod_struct2 hs h
  obtain ⟨o0, k0⟩ := hone_of hone 0 f0 rfl
  obtain ⟨o1, k1⟩ := hone_of hone 1 f1 rfl
  match es, hl with
  | [v0, v1], _ => exact ⟨v0, v1, y0, y1, n, rfl, by simpa [o0, k0] using h0, by simpa [o1, k1] using h1, hw.field hs (j := 0) rfl rfl, hw.field hs (j := 1) rfl rfl⟩

theorem open_six {t : TypeId} {f0 f1 f2 f3 f4 f5 : Field} {fuel : Nat} {es : List Value} {z : DataW H × List MemPlace} (hs : P.underlying t = some (.struct #[f0, f1, f2, f3, f4, f5])) (hone : oneCellFields P #[f0, f1, f2, f3, f4, f5] = true) (hl : es.length = 6) (hw : Wt P t z.1)
    (h : DataW.trod enc P W 0 (fun _ => true) true fuel t es = some z) :
    ∃ v0 v1 v2 v3 v4 v5 y0 y1 y2 y3 y4 y5 n, es = [v0, v1, v2, v3, v4, v5] ∧ (DataW.trod enc P W 0 (fun _ => true) true n f0.type [v0] = some y0 ∧ Wt P f0.type y0.1) ∧ (DataW.trod enc P W 0 (fun _ => true) true n f1.type [v1] = some y1 ∧ Wt P f1.type y1.1) ∧
      (DataW.trod enc P W 0 (fun _ => true) true n f2.type [v2] = some y2 ∧ Wt P f2.type y2.1) ∧ (DataW.trod enc P W 0 (fun _ => true) true n f3.type [v3] = some y3 ∧ Wt P f3.type y3.1) ∧
      (DataW.trod enc P W 0 (fun _ => true) true n f4.type [v4] = some y4 ∧ Wt P f4.type y4.1) ∧ (DataW.trod enc P W 0 (fun _ => true) true n f5.type [v5] = some y5 ∧ Wt P f5.type y5.1) := by
  obtain ⟨xs, n, _, rfl, _, hlen, hf⟩ := DataW.trod_struct hs h
  obtain ⟨o0, k0⟩ := hone_of hone 0 f0 rfl
  obtain ⟨o1, k1⟩ := hone_of hone 1 f1 rfl
  obtain ⟨o2, k2⟩ := hone_of hone 2 f2 rfl
  obtain ⟨o3, k3⟩ := hone_of hone 3 f3 rfl
  obtain ⟨o4, k4⟩ := hone_of hone 4 f4 rfl
  obtain ⟨o5, k5⟩ := hone_of hone 5 f5 rfl
  match es, hl, xs, hlen, hf, hw with
  | [v0, v1, v2, v3, v4, v5], _, [y0, y1, y2, y3, y4, y5], _, hf, hw =>
    exact ⟨v0, v1, v2, v3, v4, v5, y0, y1, y2, y3, y4, y5, n, rfl, ⟨by simpa [o0, k0] using hf 0 f0 rfl, hw.field hs (j := 0) rfl rfl⟩, ⟨by simpa [o1, k1] using hf 1 f1 rfl, hw.field hs (j := 1) rfl rfl⟩,
      ⟨by simpa [o2, k2] using hf 2 f2 rfl, hw.field hs (j := 2) rfl rfl⟩, ⟨by simpa [o3, k3] using hf 3 f3 rfl, hw.field hs (j := 3) rfl rfl⟩, ⟨by simpa [o4, k4] using hf 4 f4 rfl, hw.field hs (j := 4) rfl rfl⟩, ⟨by simpa [o5, k5] using hf 5 f5 rfl, hw.field hs (j := 5) rfl rfl⟩⟩

theorem open_pts {t e : TypeId} {f0 f1 : Field} {fuel : Nat} {cs : List Value} {y : DataW H × List MemPlace} (ht : P.underlying t = some (.slice e)) (hs : P.underlying e = some (.struct #[f0, f1])) (hone : oneCellFields P #[f0, f1] = true)
    (h0 : P.underlying f0.type = some .string) (h1 : P.underlying f1.type = some (.int .i64)) (hk : P.cellsOf e = 2) (hby : 0 < P.bytesOf e)
    (hw : Wt P t y.1) (h : DataW.trod enc P W 0 (fun _ => true) true fuel t cs = some y) : ∃ (hd : Hd) (xs : List Pt), cs = [hd.v] ∧ hd.ok ∧ hd.n ≤ hd.c ∧ RPts W hd.A hd.n xs := by
  obtain ⟨hd, rfl, hok, hc, hn, b, off, m, hA, hx⟩ := open_row ht hk (by decide) hby hw h
  obtain ⟨xs, hl, hxs⟩ := listOf (p := fun i (x : Pt) => (W.cell? ⟨b, off + i * 2, none⟩ = some (.string x.name) ∧ W.cell? ⟨b, off + i * 2 + 1, none⟩ = some (.int .i64 x.sec)) ∧ x.name.size ≤ 140737488355328) (n := hd.n) (fun i hi => by
    obtain ⟨es, z, hes, hcell, hz, hwz⟩ := hx i hi
    obtain ⟨v0, v1, y0, y1, n, rfl, g0, g1, w0, _⟩ := open_two hs hone hes hwz hz
    obtain ⟨x, hx0, rfl, _⟩ := DataW.trod_string h0 g0
    obtain ⟨s, hx1, rfl, _⟩ := DataW.trod_int h1 g1
    cases hx0; cases hx1
    exact ⟨⟨x, s⟩, ⟨by simpa using hcell 0 (by decide), by simpa using hcell 1 (by decide)⟩, w0.string⟩)
  refine ⟨hd, xs, rfl, hok, hc, hl, hn, fun s hs => ?_, b, off, hA, fun i hi => (hxs i hi).1⟩
  obtain ⟨i, hi, rfl⟩ := List.getElem_of_mem hs
  exact (hxs i hi).2

theorem open_nds {t e : TypeId} {f0 f1 : Field} {fuel : Nat} {cs : List Value} {y : DataW H × List MemPlace} (ht : P.underlying t = some (.slice e)) (hs : P.underlying e = some (.struct #[f0, f1])) (hone : oneCellFields P #[f0, f1] = true)
    (h0 : P.underlying f0.type = some (.int .i64)) (h1 : P.underlying f1.type = some .bool) (hk : P.cellsOf e = 2) (hby : 0 < P.bytesOf e)
    (hw : Wt P t y.1) (h : DataW.trod enc P W 0 (fun _ => true) true fuel t cs = some y) : ∃ (hd : Hd) (xs : List Nd), cs = [hd.v] ∧ hd.ok ∧ hd.n ≤ hd.c ∧ RNds W hd.A hd.n xs := by
  obtain ⟨hd, rfl, hok, hc, hn, b, off, m, hA, hx⟩ := open_row ht hk (by decide) hby hw h
  obtain ⟨xs, hl, hxs⟩ := listOf (p := fun i (x : Nd) => W.cell? ⟨b, off + i * 2, none⟩ = some (.int .i64 x.pt) ∧ W.cell? ⟨b, off + i * 2 + 1, none⟩ = some (.bool x.rev)) (n := hd.n) (fun i hi => by
    obtain ⟨es, z, hes, hcell, hz, hwz⟩ := hx i hi
    obtain ⟨v0, v1, y0, y1, n, rfl, g0, g1, _, _⟩ := open_two hs hone hes hwz hz
    obtain ⟨x, hx0, rfl, _⟩ := DataW.trod_int h0 g0
    obtain ⟨s, hx1, rfl⟩ := DataW.trod_bool h1 g1
    cases hx0; cases hx1
    exact ⟨⟨x, s⟩, by simpa using hcell 0 (by decide), by simpa using hcell 1 (by decide)⟩)
  exact ⟨hd, xs, rfl, hok, hc, hl, hn, b, off, hA, hxs⟩
end

/-! ### The program's types -/
theorem cellsE (t k : Nat) (h : Try.prog.cellsOf t = k) : Try.prog.cellsOf t = k := h
section
variable {H : Type} {enc : TypeId × Value → H} {W : World}
theorem open_rts {fuel : Nat} {cs : List Value} {y : DataW H × List MemPlace} (hw : Wt Try.prog 25 y.1) (h : DataW.trod enc Try.prog W 0 (fun _ => true) true fuel 25 cs = some y) :
    ∃ (hd : Hd) (xs : List Rt), cs = [hd.v] ∧ hd.ok ∧ hd.n ≤ hd.c ∧ RRts W hd.A hd.n xs := by
  obtain ⟨hd, rfl, hok, hc, hn, b, off, m, hA, hx⟩ := open_row Try.underlying25 (k := 6) (by kernel_rfl) (by decide) (of_decide_eq_true (by kernel_rfl)) hw h
  obtain ⟨xs, hl, hxs⟩ := listOf (p := fun i (x : Rt) => ∃ p q o f, RRt W p q o f x ∧ W.cell? ⟨b, off + i * 6, none⟩ = some (.string x.name) ∧ W.cell? ⟨b, off + i * 6 + 1, none⟩ = some (.int .i64 x.sig) ∧
      W.cell? ⟨b, off + i * 6 + 2, none⟩ = some p.v ∧ W.cell? ⟨b, off + i * 6 + 3, none⟩ = some q.v ∧ W.cell? ⟨b, off + i * 6 + 4, none⟩ = some o.v ∧ W.cell? ⟨b, off + i * 6 + 5, none⟩ = some f.v) (n := hd.n) (fun i hi => by
    obtain ⟨es, z, hes, hcell, hz, hwz⟩ := hx i hi
    obtain ⟨v0, v1, v2, v3, v4, v5, y0, y1, y2, y3, y4, y5, n, rfl, ⟨g0, w0⟩, ⟨g1, w1⟩, ⟨g2, w2⟩, ⟨g3, w3⟩, ⟨g4, w4⟩, ⟨g5, w5⟩⟩ := open_six Try.underlying64 (by kernel_rfl) hes hwz hz
    obtain ⟨nm, hx0, rfl, _⟩ := DataW.trod_string Try.underlying9 g0
    obtain ⟨sg, hx1, rfl, _⟩ := DataW.trod_int Try.underlying3 g1
    obtain ⟨p, ps, hx2, pok, _, hp⟩ := open_ints' Try.underlying61 Try.underlying3 (by kernel_rfl) (of_decide_eq_true (by kernel_rfl)) w2 g2
    obtain ⟨q, qs, hx3, qok, _, hq⟩ := open_nds Try.underlying62 Try.underlying93 (by kernel_rfl) Try.underlying3 Try.underlying4 (by kernel_rfl) (of_decide_eq_true (by kernel_rfl)) w3 g3
    obtain ⟨o, os, hx4, ook, _, ho⟩ := open_ints' Try.underlying61 Try.underlying3 (by kernel_rfl) (of_decide_eq_true (by kernel_rfl)) w4 g4
    obtain ⟨f, fs, hx5, fok, _, hf⟩ := open_nds Try.underlying62 Try.underlying93 (by kernel_rfl) Try.underlying3 Try.underlying4 (by kernel_rfl) (of_decide_eq_true (by kernel_rfl)) w5 g5
    cases hx0; cases hx1; cases hx2; cases hx3; cases hx4; cases hx5
    exact ⟨⟨nm, sg, ps, qs, os, fs⟩, p, q, o, f, ⟨⟨pok, qok, ook, fok⟩, w0.string, hp, hq, ho, hf⟩, by simpa using hcell 0 (by decide), by simpa using hcell 1 (by decide), by simpa using hcell 2 (by decide), by simpa using hcell 3 (by decide), by simpa using hcell 4 (by decide), by simpa using hcell 5 (by decide)⟩)
  exact ⟨hd, xs, rfl, hok, hc, hl, hn, b, off, hA, hxs⟩

/-- A layout. -/
theorem open_ly {r : Reach} {b0 : Nat} {v : Value} {d : DataW H} {p : List MemPlace} (hv : Value.okWide Try.prog W r b0 27 v) (hw : Wt Try.prog 27 d)
    (h : DataW.Trod enc Try.prog W 0 (fun _ => true) true 27 v d p) : ∃ s p g rr l, v = lyv s p g rr ∧ RLy W s p g rr l := by
  obtain ⟨v0, v1, v2, v3, y0, y1, y2, y3, n, rfl, rfl, rfl, h0, h1, h2, h3⟩ := open_agg4 Try.underlying27 (by kernel_rfl) (by kernel_rfl) hv h
  obtain ⟨s, ss, hx0, sok, _, hs⟩ := open_strs' Try.underlying22 Try.underlying9 (by kernel_rfl) (of_decide_eq_true (by kernel_rfl)) (hw.field Try.underlying27 (j := 0) rfl rfl) h0
  obtain ⟨p, ps, hx1, pok, _, hp⟩ := open_pts Try.underlying23 Try.underlying67 (by kernel_rfl) Try.underlying9 Try.underlying3 (by kernel_rfl) (of_decide_eq_true (by kernel_rfl)) (hw.field Try.underlying27 (j := 1) rfl rfl) h1
  obtain ⟨g, gs, hx2, gok, _, hg⟩ := open_pts Try.underlying24 Try.underlying115 (by kernel_rfl) Try.underlying9 Try.underlying3 (by kernel_rfl) (of_decide_eq_true (by kernel_rfl)) (hw.field Try.underlying27 (j := 2) rfl rfl) h2
  obtain ⟨r, rs, hx3, rok, _, hr⟩ := open_rts (hw.field Try.underlying27 (j := 3) rfl rfl) h3
  cases hx0; cases hx1; cases hx2; cases hx3
  exact ⟨s, p, g, r, ⟨ss, ps, gs, rs⟩, rfl, ⟨sok, pok, gok, rok⟩, hs, hp, hg, hr⟩

theorem nat_u64 {n : Int} (h : (Lit.int .u64 n).wf = true) : ∃ m : Nat, n = m ∧ m < 18446744073709551616 := by
  simp [Lit.wf, IntKind.min, IntKind.max, IntKind.signed, IntKind.bits] at h
  exact ⟨n.toNat, by omega, by omega⟩
theorem nat_u32 {n : Int} (h : (Lit.int .u32 n).wf = true) : ∃ m : Nat, n = m ∧ m < 4294967296 := by
  simp [Lit.wf, IntKind.min, IntKind.max, IntKind.signed, IntKind.bits] at h
  exact ⟨n.toNat, by omega, by omega⟩

/-- An input. -/
theorem open_in {r : Reach} {b0 : Nat} {v : Value} {d : DataW H} {p : List MemPlace} (hv : Value.okWide Try.prog W r b0 48 v) (hw : Wt Try.prog 48 d)
    (h : DataW.Trod enc Try.prog W 0 (fun _ => true) true 48 v d p) :
    ∃ (oc nr rv : Nat) (c : Hd), v = .agg #[.int .u64 oc, .int .u32 nr, .int .u32 rv, c.v] ∧ oc < 18446744073709551616 ∧ nr < 4294967296 ∧ rv < 4294967296 ∧ c.n ≤ 140737488355328 := by
  obtain ⟨v0, v1, v2, v3, y0, y1, y2, y3, n, rfl, rfl, rfl, h0, h1, h2, h3⟩ := open_agg4 Try.underlying48 (by kernel_rfl) (by kernel_rfl) hv h
  obtain ⟨oc, hx0, rfl, w0⟩ := DataW.trod_int Try.underlying32 h0
  obtain ⟨nr, hx1, rfl, w1⟩ := DataW.trod_int Try.underlying33 h1
  obtain ⟨rv, hx2, rfl, w2⟩ := DataW.trod_int Try.underlying33 h2
  obtain ⟨c, hx3, cok, _, cn, _⟩ := open_row Try.underlying46 (k := 2) (by kernel_rfl) (by decide) (of_decide_eq_true (by kernel_rfl)) (hw.field Try.underlying48 (j := 3) rfl rfl) h3
  cases hx0; cases hx1; cases hx2; cases hx3
  obtain ⟨o, rfl, ho⟩ := nat_u64 w0
  obtain ⟨a, rfl, ha⟩ := nat_u32 w1
  obtain ⟨b, rfl, hb⟩ := nat_u32 w2
  exact ⟨o, a, b, c, rfl, ho, ha, hb, cn⟩
theorem open_out {r : Reach} {b0 : Nat} {v : Value} {d : DataW H} {p : List MemPlace} (hv : Value.okWide Try.prog W r b0 35 v)
    (h : DataW.Trod enc Try.prog W 0 (fun _ => true) true 35 v d p) :
    ∃ (pr ps : Nat), v = .agg #[.int .u64 pr, .int .u32 ps] ∧ pr < 18446744073709551616 ∧ ps < 4294967296 := by
  obtain ⟨v0, v1, y0, y1, n, rfl, rfl, rfl, h0, h1⟩ := open_agg2 Try.underlying35 (by kernel_rfl) (by kernel_rfl) hv h
  obtain ⟨pr, hx0, rfl, w0⟩ := DataW.trod_int Try.underlying32 h0
  obtain ⟨ps, hx1, rfl, w1⟩ := DataW.trod_int Try.underlying33 h1
  cases hx0; cases hx1
  obtain ⟨o, rfl, ho⟩ := nat_u64 w0
  obtain ⟨a, rfl, ha⟩ := nat_u32 w1
  exact ⟨o, a, rfl, ho, ha⟩
end
end Go.Proofs.Ytmoccpbiogdbgaa
