/-
  Rows of inputs, of outputs, read.
-/
import Derived.Test.YtmoccpbiogdbgaaOpen
import Derived.Test.YtmoccpbiogdbgaaW33
namespace Go.Proofs.Ytmoccpbiogdbgaa
set_option linter.constructorNameAsVariable false
set_option maxRecDepth 100000
open Go.RowKit Go.ChangeShapes Go.WideShapes Go.ChangeAt Go.Deep Go.Joins
instance : Inhabited In4 := ⟨⟨0, 0, 0, ⟨none, 0, 0⟩⟩⟩
instance : Inhabited Ou2 := ⟨⟨0, 0⟩⟩
section
variable {H : Type} {enc : TypeId × Value → H} {P : Program} {W : World}
theorem open_four {t : TypeId} {f0 f1 f2 f3 : Field} {fuel : Nat} {es : List Value} {z : DataW H × List MemPlace} (hs : P.underlying t = some (.struct #[f0, f1, f2, f3])) (hone : oneCellFields P #[f0, f1, f2, f3] = true) (hl : es.length = 4) (hw : Wt P t z.1)
    (h : DataW.trod enc P W 0 (fun _ => true) true fuel t es = some z) :
    ∃ v0 v1 v2 v3 y0 y1 y2 y3 n, es = [v0, v1, v2, v3] ∧ (DataW.trod enc P W 0 (fun _ => true) true n f0.type [v0] = some y0 ∧ Wt P f0.type y0.1) ∧ (DataW.trod enc P W 0 (fun _ => true) true n f1.type [v1] = some y1 ∧ Wt P f1.type y1.1) ∧
      (DataW.trod enc P W 0 (fun _ => true) true n f2.type [v2] = some y2 ∧ Wt P f2.type y2.1) ∧ (DataW.trod enc P W 0 (fun _ => true) true n f3.type [v3] = some y3 ∧ Wt P f3.type y3.1) := by
  obtain ⟨xs, n, _, rfl, _, hlen, hf⟩ := DataW.trod_struct hs h
  obtain ⟨o0, k0⟩ := hone_of hone 0 f0 rfl
  obtain ⟨o1, k1⟩ := hone_of hone 1 f1 rfl
  obtain ⟨o2, k2⟩ := hone_of hone 2 f2 rfl
  obtain ⟨o3, k3⟩ := hone_of hone 3 f3 rfl
  match es, hl, xs, hlen, hf, hw with
  | [v0, v1, v2, v3], _, [y0, y1, y2, y3], _, hf, hw =>
    exact ⟨v0, v1, v2, v3, y0, y1, y2, y3, n, rfl, ⟨by simpa [o0, k0] using hf 0 f0 rfl, hw.field hs (j := 0) rfl rfl⟩, ⟨by simpa [o1, k1] using hf 1 f1 rfl, hw.field hs (j := 1) rfl rfl⟩,
      ⟨by simpa [o2, k2] using hf 2 f2 rfl, hw.field hs (j := 2) rfl rfl⟩, ⟨by simpa [o3, k3] using hf 3 f3 rfl, hw.field hs (j := 3) rfl rfl⟩⟩
end
section
variable {H : Type} {enc : TypeId × Value → H} {W : World}
theorem open_ins {r : Reach} {b0 : Nat} {v : Value} {d : DataW H} {p : List MemPlace} (hv : Value.okWide Try.prog W r b0 28 v) (hw : Wt Try.prog 28 d) (h : DataW.Trod enc Try.prog W 0 (fun _ => true) true 28 v d p) :
    ∃ (hd : Hd) (xs : List In4), v = hd.v ∧ RIns W hd.A hd.n xs := by
  obtain ⟨a0, len, cap, rfl⟩ := okWide_slice Try.underlying28 hv
  obtain ⟨fuel, hf⟩ := h
  obtain ⟨hd, he, hok, hc, hn, b, off, m, hA, hx⟩ := open_row (y := (d, p)) Try.underlying28 (k := 4) (by kernel_rfl) (by decide) (of_decide_eq_true (by kernel_rfl)) hw hf
  obtain ⟨xs, hl, hxs⟩ := listOf (p := fun i (x : In4) => x.ok ∧ W.cell? ⟨b, off + i * 4, none⟩ = some (.int .u64 x.oc) ∧ W.cell? ⟨b, off + i * 4 + 1, none⟩ = some (.int .u32 x.nr) ∧ W.cell? ⟨b, off + i * 4 + 2, none⟩ = some (.int .u32 x.rv) ∧ W.cell? ⟨b, off + i * 4 + 3, none⟩ = some x.c.v) (n := hd.n) (fun i hi => by
    obtain ⟨es, z, hes, hcell, hz, hwz⟩ := hx i hi
    obtain ⟨v0, v1, v2, v3, y0, y1, y2, y3, n, rfl, ⟨g0, w0⟩, ⟨g1, w1⟩, ⟨g2, w2⟩, ⟨g3, w3⟩⟩ := open_four Try.underlying48 (by kernel_rfl) hes hwz hz
    obtain ⟨oc, hx0, rfl, u0⟩ := DataW.trod_int Try.underlying32 g0
    obtain ⟨nr, hx1, rfl, u1⟩ := DataW.trod_int Try.underlying33 g1
    obtain ⟨rv, hx2, rfl, u2⟩ := DataW.trod_int Try.underlying33 g2
    obtain ⟨c, hx3, _⟩ := open_row Try.underlying46 (k := 2) (by kernel_rfl) (by decide) (of_decide_eq_true (by kernel_rfl)) w3 g3
    cases hx0; cases hx1; cases hx2; cases hx3
    obtain ⟨o, rfl, ho⟩ := nat_u64 u0
    obtain ⟨a, rfl, ha⟩ := nat_u32 u1
    obtain ⟨b, rfl, hb⟩ := nat_u32 u2
    exact ⟨⟨o, a, b, c⟩, ⟨ho, ha, hb⟩, by simpa using hcell 0 (by decide), by simpa using hcell 1 (by decide), by simpa using hcell 2 (by decide), by simpa using hcell 3 (by decide)⟩)
  refine ⟨hd, xs, by simpa [Value.cells] using he, hl, hn, fun s hs => ?_, b, off, hA, fun i hi => (hxs i hi).2⟩
  obtain ⟨i, hi, rfl⟩ := List.getElem_of_mem hs
  exact (hxs i hi).1
theorem open_outs {r : Reach} {b0 : Nat} {v : Value} {d : DataW H} {p : List MemPlace} (hv : Value.okWide Try.prog W r b0 39 v) (hw : Wt Try.prog 39 d) (h : DataW.Trod enc Try.prog W 0 (fun _ => true) true 39 v d p) :
    ∃ (hd : Hd) (xs : List Ou2), v = hd.v ∧ ROuts W hd.A hd.n xs := by
  obtain ⟨a0, len, cap, rfl⟩ := okWide_slice Try.underlying39 hv
  obtain ⟨fuel, hf⟩ := h
  obtain ⟨hd, he, hok, hc, hn, b, off, m, hA, hx⟩ := open_row (y := (d, p)) Try.underlying39 (k := 2) (by kernel_rfl) (by decide) (of_decide_eq_true (by kernel_rfl)) hw hf
  obtain ⟨xs, hl, hxs⟩ := listOf (p := fun i (x : Ou2) => x.ok ∧ W.cell? ⟨b, off + i * 2, none⟩ = some (.int .u64 x.pr) ∧ W.cell? ⟨b, off + i * 2 + 1, none⟩ = some (.int .u32 x.ps)) (n := hd.n) (fun i hi => by
    obtain ⟨es, z, hes, hcell, hz, hwz⟩ := hx i hi
    obtain ⟨v0, v1, y0, y1, n, rfl, g0, g1, _, _⟩ := open_two Try.underlying35 (by kernel_rfl) hes hwz hz
    obtain ⟨pr, hx0, rfl, u0⟩ := DataW.trod_int Try.underlying32 g0
    obtain ⟨ps, hx1, rfl, u1⟩ := DataW.trod_int Try.underlying33 g1
    cases hx0; cases hx1
    obtain ⟨o, rfl, ho⟩ := nat_u64 u0
    obtain ⟨a, rfl, ha⟩ := nat_u32 u1
    exact ⟨⟨o, a⟩, ⟨ho, ha⟩, by simpa using hcell 0 (by decide), by simpa using hcell 1 (by decide)⟩)
  refine ⟨hd, xs, by simpa [Value.cells] using he, hl, hn, fun s hs => ?_, b, off, hA, fun i hi => (hxs i hi).2⟩
  obtain ⟨i, hi, rfl⟩ := List.getElem_of_mem hs
  exact (hxs i hi).1
end
end Go.Proofs.Ytmoccpbiogdbgaa
