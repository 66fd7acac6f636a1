/-
  The walks of slices.Grow and slices.Concat at whole numbers and needs; a route's track and needs.
-/
import Derived.Test.YtmoccpbiogdbgaaW4
namespace Go.Proofs.Ytmoccpbiogdbgaa
open Go.RowKit Go.Shelf

/-- slices.Grow of nil: an empty row of the call's own. -/
def GrowPostI (w : World) (e : Ending) (w' : World) : Prop := ∃ A c, e = .returned (.slice A 0 c) ∧ Below w.heap.size w w' ∧ w'.ownsRow w.heap.size 3 1 (.slice A 0 c) 0 []
set_option maxRecDepth 10000 in
set_option maxHeartbeats 400000 in
theorem growI (n : Nat) (w : World) (hn : n ≤ 1000000) : Calls Try.prog 167 #[.slice none 0 0, .int .i64 n] w (GrowPostI w) := by
  by_cases h0 : n = 0
  · subst h0
    go_enter Try.func167, Try.ntmps167
    go_wp2
    go_ret
    exact ⟨none, 0, rfl, Below.refl _ _, World.ownsRow_nil _ _ _ _⟩
  · have h1 : 0 < n := by omega
    clear h0
    go_enter Try.func167, Try.ntmps167
    go_wp2_with (at_builtin; go_must (refine wpList_growNil rfl _ _ _ _ rfl elemInt Try.underlying3 n rfl rfl ?c0 ?c1 ?c2 ?_))
    case c0 => omega
    case c1 => omega
    case c2 => omega
    intro g c w1 hown hb hc1 hc2
    have HO := Lib.hid hown
    clear hown
    go_wp2
    go_ret
    exact ⟨_, _, rfl, hb, HO.out⟩

set_option maxRecDepth 10000 in
set_option maxHeartbeats 1000000 in
theorem concatI (b o : Nat) (p q : Hd) (xs ys : List Int) (w : World) (hp : RInts w p.A p.n xs) (hq : RInts w q.A q.n ys) (op : p.ok) (oq : q.ok) (hx : p.n ≤ 1000) (hy : q.n ≤ 1000)
    (C0 : w.cell? ⟨b, o, none⟩ = some p.v) (C1 : w.cell? ⟨b, o + 1, none⟩ = some q.v) :
    Calls Try.prog 120 #[.slice (some ⟨b, o, none⟩) 2 2] w (RetS (fun W A n => RInts W A n (xs ++ ys)) w) := by
  unfold Hd.v at C0 C1
  have hlp := hp.1
  have hlq := hq.1
  go_enter Try.func120, Try.ntmps120
  go_wp2_with fail
  refine wp_loop_rounds 3 ?_
  rw [rounds_succ]
  go_wp2_with fail
  rw [rounds_succ]
  go_wp2_with fail
  rw [rounds_succ]
  have G : ∀ m : Int, 0 ≤ m → m ≤ 100000 → Calls Try.prog 167 #[.slice none 0 0, .int .i64 m] w (GrowPostI w) := by
    intro m h0 h1
    obtain ⟨m', rfl⟩ := Int.eq_ofNat_of_zero_le h0
    exact growI m' w (by omega)
  have HG := Lib.hid G
  clear G
  go_wp2_with (go_at_call 167; refine (HG.out _ (by omega) (by omega)).mono ?_; rintro e w1 ⟨A1, cc, rfl, hb1, ho1⟩)
  have c0 := bcell hb1 C0
  have c1 := bcell hb1 C1
  have hz1 := hb1.size
  refine wp_loop_rounds 3 ?_
  rw [rounds_succ]
  have HO1 := Lib.hid ho1
  clear ho1
  go_wp2_with (at_builtin; go_must (refine wpList_appAll rfl _ _ _ rfl elemInt w.heap.size _ 0 _ rfl HO1.out p.A p.n p.c (xs.map (Value.int .i64)) rfl op ?d0 ?d1 ?d2 ?d3 ?d4 ?d5 ?_))
  case d0 => simp; omega
  case d1 => exact intCells_src (hp.below hb1)
  case d2 => exact intCells_one xs
  case d3 => omega
  case d4 => omega
  case d5 => exact hz1
  intro A2 c2 w2 ho2 hg2 hb2
  have hb2' := hb1.trans hb2
  have hz2 := hb2'.size
  have c1 := bcell hb2' C1
  have HO2 : Hid (w2.ownsRow w.heap.size 3 1 (.slice A2 p.n c2) p.n (xs.map (Value.int .i64))) := by simpa [Hid] using ho2
  clear ho2 hg2 hb2
  go_wp2_with fail
  rw [rounds_succ]
  go_wp2_with (at_builtin; go_must (refine wpList_appAll rfl _ _ _ rfl elemInt w.heap.size _ p.n _ rfl HO2.out q.A q.n q.c (ys.map (Value.int .i64)) rfl oq ?d0 ?d1 ?d2 ?d3 ?d4 ?d5 ?_))
  case d0 => simp; omega
  case d1 => exact intCells_src (hq.below hb2')
  case d2 => exact intCells_one ys
  case d3 => omega
  case d4 => omega
  case d5 => exact hz2
  intro A3 c3 w3 ho3 hg3 hb3
  have hb3' := hb2'.trans hb3
  have HO3 := Lib.hid ho3
  clear ho3 hg3 hb3
  go_wp2_with fail
  rw [rounds_succ]
  go_wp2
  go_ret
  have h := HO3.out
  rw [← List.map_append] at h
  obtain ⟨A', c', he, hle, hr⟩ := ints_of_own h (by omega)
  cases he
  exact ⟨_, _, _, rfl, hle, hb3', hr⟩

/-- slices.Grow of nil: an empty row of the call's own. -/
def GrowPostN (w : World) (e : Ending) (w' : World) : Prop := ∃ A c, e = .returned (.slice A 0 c) ∧ Below w.heap.size w w' ∧ w'.ownsRow w.heap.size 93 2 (.slice A 0 c) 0 []
set_option maxRecDepth 10000 in
set_option maxHeartbeats 400000 in
theorem growN (n : Nat) (w : World) (hn : n ≤ 1000000) : Calls Try.prog 169 #[.slice none 0 0, .int .i64 n] w (GrowPostN w) := by
  by_cases h0 : n = 0
  · subst h0
    go_enter Try.func169, Try.ntmps169
    go_wp2
    go_ret
    exact ⟨none, 0, rfl, Below.refl _ _, World.ownsRow_nil _ _ _ _⟩
  · have h1 : 0 < n := by omega
    clear h0
    go_enter Try.func169, Try.ntmps169
    go_wp2_with (at_builtin; go_must (refine wpList_growNil rfl _ _ _ _ rfl elemNd Try.underlying3 n rfl rfl ?c0 ?c1 ?c2 ?_))
    case c0 => omega
    case c1 => omega
    case c2 => omega
    intro g c w1 hown hb hc1 hc2
    have HO := Lib.hid hown
    clear hown
    go_wp2
    go_ret
    exact ⟨_, _, rfl, hb, HO.out⟩

set_option maxRecDepth 10000 in
set_option maxHeartbeats 1000000 in
theorem concatN (b o : Nat) (p q : Hd) (xs ys : List Nd) (w : World) (hp : RNds w p.A p.n xs) (hq : RNds w q.A q.n ys) (op : p.ok) (oq : q.ok) (hx : p.n ≤ 1000) (hy : q.n ≤ 1000)
    (C0 : w.cell? ⟨b, o, none⟩ = some p.v) (C1 : w.cell? ⟨b, o + 1, none⟩ = some q.v) :
    Calls Try.prog 135 #[.slice (some ⟨b, o, none⟩) 2 2] w (RetS (fun W A n => RNds W A n (xs ++ ys)) w) := by
  unfold Hd.v at C0 C1
  have hlp := hp.1
  have hlq := hq.1
  go_enter Try.func135, Try.ntmps135
  go_wp2_with fail
  refine wp_loop_rounds 3 ?_
  rw [rounds_succ]
  go_wp2_with fail
  rw [rounds_succ]
  go_wp2_with fail
  rw [rounds_succ]
  have G : ∀ m : Int, 0 ≤ m → m ≤ 100000 → Calls Try.prog 169 #[.slice none 0 0, .int .i64 m] w (GrowPostN w) := by
    intro m h0 h1
    obtain ⟨m', rfl⟩ := Int.eq_ofNat_of_zero_le h0
    exact growN m' w (by omega)
  have HG := Lib.hid G
  clear G
  go_wp2_with (go_at_call 169; refine (HG.out _ (by omega) (by omega)).mono ?_; rintro e w1 ⟨A1, cc, rfl, hb1, ho1⟩)
  have c0 := bcell hb1 C0
  have c1 := bcell hb1 C1
  have hz1 := hb1.size
  refine wp_loop_rounds 3 ?_
  rw [rounds_succ]
  have HO1 := Lib.hid ho1
  clear ho1
  go_wp2_with (at_builtin; go_must (refine wpList_appAll rfl _ _ _ rfl elemNd w.heap.size _ 0 _ rfl HO1.out p.A p.n p.c (ndCells xs) rfl op ?d0 ?d1 ?d2 ?d3 ?d4 ?d5 ?_))
  case d0 => rw [ndCells_length]; omega
  case d1 => exact ndCells_src (hp.below hb1)
  case d2 => exact ndCells_one xs
  case d3 => omega
  case d4 => omega
  case d5 => exact hz1
  intro A2 c2 w2 ho2 hg2 hb2
  have hb2' := hb1.trans hb2
  have hz2 := hb2'.size
  have c1 := bcell hb2' C1
  have HO2 : Hid (w2.ownsRow w.heap.size 93 2 (.slice A2 p.n c2) p.n (ndCells xs)) := by simpa [Hid] using ho2
  clear ho2 hg2 hb2
  go_wp2_with fail
  rw [rounds_succ]
  go_wp2_with (at_builtin; go_must (refine wpList_appAll rfl _ _ _ rfl elemNd w.heap.size _ p.n _ rfl HO2.out q.A q.n q.c (ndCells ys) rfl oq ?d0 ?d1 ?d2 ?d3 ?d4 ?d5 ?_))
  case d0 => rw [ndCells_length]; omega
  case d1 => exact ndCells_src (hq.below hb2')
  case d2 => exact ndCells_one ys
  case d3 => omega
  case d4 => omega
  case d5 => exact hz2
  intro A3 c3 w3 ho3 hg3 hb3
  have hb3' := hb2'.trans hb3
  have HO3 := Lib.hid ho3
  clear ho3 hg3 hb3
  go_wp2_with fail
  rw [rounds_succ]
  go_wp2
  go_ret
  have h := HO3.out
  rw [← ndCells_append] at h
  obtain ⟨A', c', he, hle, hr⟩ := nds_of_own h (by omega)
  cases he
  exact ⟨_, _, _, rfl, hle, hb3', hr⟩
end Go.Proofs.Ytmoccpbiogdbgaa
