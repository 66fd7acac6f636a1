/-
  The walks of SafetyRow and of SafetyCycle.
-/
import Derived.Test.YtmoccpbiogdbgaaW33
import Derived.Test.YtmoccpbiogdbgaaW28
namespace Go.Proofs.Ytmoccpbiogdbgaa
open Go.RowKit
theorem rowP_eq (l : Ly) (xs : List In4) (ys : List Ou2) (hx : ∀ x ∈ xs, x.ok) (hy : ∀ y ∈ ys, y.ok) : rowP (cycleP l) xs ys = rowP (cycleR l) xs ys := by
  unfold rowP
  generalize 0 = k
  induction xs generalizing ys k with
  | nil => rfl
  | cons x xs ih =>
    cases ys with
    | nil => rfl
    | cons y ys =>
      have h1 := hy y List.mem_cons_self
      have e : cycleP l (ioOf x y) = cycleR l (ioOf x y) := cycle_eq l (ioOf x y) h1.1 h1.2
      simp only [List.zipWith_cons_cons, rowFrom, e]
      rw [ih ys (fun z hz => hx z (List.mem_cons_of_mem _ hz)) (fun z hz => hy z (List.mem_cons_of_mem _ hz))]
set_option maxRecDepth 10000 in
set_option maxHeartbeats 2000000 in
theorem safetyRow_any (s p g rr : Hd) (l : Ly) (I O : Hd) (xs : List In4) (ys : List Ou2) (w : World) (hl : RLy w s p g rr l) (hx : RIns w I.A I.n xs) (hy : ROuts w O.A O.n ys) :
    Calls Try.prog 5 #[lyv s p g rr, I.v, O.v] w (RetB true w) := by
  have HW := Lib.hid (fun W (hb : Below w.heap.size w W) => weight_any s p g rr l 400 W (hl.below hb))
  have H1 := Lib.hid (fun W (hb : Below w.heap.size w W) => row29_any s p g rr l I O xs ys W (hl.below hb) (hx.below hb) (hy.below hb))
  have H2 := Lib.hid (fun W (hb : Below w.heap.size w W) => refrow29_any s p g rr l I O xs ys W (hl.below hb) (hx.below hb) (hy.below hb))
  rw [← rowP_eq l xs ys hx.2.2.1 hy.2.2.1] at H2
  have m1 := hx.2.1
  have m2 := hy.2.1
  clear hl hx hy
  generalize rowP (cycleP l) xs ys = q at *
  obtain ⟨qa, qx⟩ := q
  unfold lyv Hd.v at *
  obtain ⟨IA, n1, Ic⟩ := I
  obtain ⟨OA, n2, Oc⟩ := O
  dsimp only at *
  go_enter Try.func5, Try.ntmps5
  go_upto_region 1 with (fail)
  refine name_box (fun W hbW hlt hbox1 => ?_)
  have A0 : W.cell? ⟨w.heap.size, 0, none⟩ = some (.slice s.A s.n s.c) := hbox1 0 _ rfl
  have A1 : W.cell? ⟨w.heap.size, 1, none⟩ = some (.slice p.A p.n p.c) := hbox1 1 _ rfl
  have A2 : W.cell? ⟨w.heap.size, 2, none⟩ = some (.slice g.A g.n g.c) := hbox1 2 _ rfl
  have A3 : W.cell? ⟨w.heap.size, 3, none⟩ = some (.slice rr.A rr.n rr.c) := hbox1 3 _ rfl
  clear hbox1
  go_wp2_with (go_at_call 22; with_reducible refine Calls.mono (HW.out _ hbW) ?_)
  rintro e w1 ⟨z, rfl, hb1⟩
  have hbw1 := bnext hbW hb1
  have A0 := bcell hb1 A0
  have A1 := bcell hb1 A1
  have A2 := bcell hb1 A2
  have A3 := bcell hb1 A3
  have hlt := Nat.lt_of_lt_of_le hlt hb1.size
  clear hb1 HW
  by_cases hz : 400 < z
  · go_wp2_with (go_at_call 23; with_reducible refine Calls.mono (works29_any _) ?_)
    rintro e w2 ⟨rfl, hb2⟩
    go_wp2
    go_ret
    exact ⟨rfl, bnext hbw1 hb2⟩
  have hz2 : decide (400 < z) = false := by simpa using hz
  by_cases hc : 60 < n1
  · go_wp2_with (go_at_call 23; with_reducible refine Calls.mono (works29_any _) ?_)
    rintro e w2 ⟨rfl, hb2⟩
    go_wp2
    go_ret
    exact ⟨rfl, bnext hbw1 hb2⟩
  have hc2 : decide (60 < (n1 : Int)) = false := by simp; omega
  by_cases hd : 60 < n2
  · go_wp2_with (go_at_call 23; with_reducible refine Calls.mono (works29_any _) ?_)
    rintro e w2 ⟨rfl, hb2⟩
    go_wp2
    go_ret
    exact ⟨rfl, bnext hbw1 hb2⟩
  have hd2 : decide (60 < (n2 : Int)) = false := by simp; omega
  go_wp2_with (go_at_call 27; with_reducible refine Calls.mono (H1.out _ hbw1) ?_)
  rintro e w2 ⟨rfl, hb2⟩
  have hbw2 := bnext hbw1 hb2
  have A0 := bcell hb2 A0
  have A1 := bcell hb2 A1
  have A2 := bcell hb2 A2
  have A3 := bcell hb2 A3
  have hlt := Nat.lt_of_lt_of_le hlt hb2.size
  clear hb2 H1
  go_wp2_with (go_at_call 28; with_reducible refine Calls.mono (H2.out _ hbw2) ?_)
  rintro e w3 ⟨rfl, hb3⟩
  have hbw3 := bnext hbw2 hb3
  clear hb3 H2
  go_wp2_with (go_at_call 23; with_reducible refine Calls.mono (works29_any _) ?_)
  rintro e w4 ⟨rfl, hb4⟩
  go_wp2
  go_ret
  exact ⟨rfl, bnext hbw3 hb4⟩
end Go.Proofs.Ytmoccpbiogdbgaa
