/-
  The walks of slices.Backward at needs, and of conflict's sides: a map of the points that a route needs.
-/
import Derived.Test.YtmoccpbiogdbgaaMapI
import Derived.RangeFuncNested
import Derived.RangeFuncBound
import Derived.RangeFuncCalls
import Derived.RangeFuncLeaves
import Derived.Shelf.Abstract
import Derived.Shelf.RegionOpen
import Derived.WalkKit
import Derived.OwnWalkIn
import Derived.TacticsInMore
import Derived.LoopNIn
import Derived.LoopIn
import Derived.Handy
namespace Go.Proofs.Ytmoccpbiogdbgaa
open Go.RowKit Go.Shelf
attribute [local go_sem] Oper.semAt_some

/-! ### What a round keeps: the cells below n₀ -/
structure KeepsCells (n₀ : Nat) (W W' : World) : Prop where
  size : W.heap.size ≤ W'.heap.size
  same : ∀ (k : Nat) (o : Obj), k < n₀ → W.heap[k]? = some o → o.isCells = true → W'.heap[k]? = some o
theorem KeepsCells.refl (n₀ : Nat) (W : World) : KeepsCells n₀ W W := ⟨Nat.le_refl _, fun _ _ _ h _ => h⟩
theorem KeepsCells.trans {n₀ : Nat} {A B C : World} (h : KeepsCells n₀ A B) (k : KeepsCells n₀ B C) : KeepsCells n₀ A C := ⟨Nat.le_trans h.size k.size, fun i o hB hi ho => k.same i o hB (h.same i o hB hi ho) ho⟩
theorem KeepsCells.putObj {n₀ : Nat} (W : World) (l : Nat) (o o' : Obj) (h : W.heap[l]? = some o) (ho : o.isCells = false) : KeepsCells n₀ W (W.putObj l o') :=
  ⟨by simp, fun k o2 hk h2 hc => by
    by_cases e : k = l
    · subst e; rw [h] at h2; cases h2; rw [ho] at hc; cases hc
    · exact (World.putObj_heap_other e).trans h2⟩
theorem KeepsCells.of_below {n₀ B : Nat} {W W' : World} (h : Below B W W') (hB : n₀ ≤ B) : KeepsCells n₀ W W' := ⟨h.size, fun k o hk ho _ => (h.block k (by omega)).trans ho⟩
theorem KeepsCells.of_map {n₀ r : Nat} {W W' : World} {o : Obj} (h : W.heap[r]? = some o) (ho : o.isCells = false) (hg : W.grownBy W' (some r)) : KeepsCells n₀ W W' :=
  ⟨hg.size, fun k o2 hk h2 hc => by
    refine (hg.block k (Array.getElem?_eq_some_iff.1 h2).1 (fun e => ?_)).trans h2
    cases e; rw [h] at h2; cases h2; rw [ho] at hc; cases hc⟩
theorem isCells_of_cell {W : World} {b o : Nat} {v : Value} (h : W.cell? ⟨b, o, none⟩ = some v) : ∃ x, W.heap[b]? = some x ∧ x.isCells = true := by
  unfold World.cell? at h
  cases hb : W.heap[b]? with
  | none => simp [hb] at h
  | some x => cases x <;> simp [hb] at h <;> exact ⟨_, rfl, rfl⟩
theorem KeepsCells.cell {n₀ : Nat} {W W' : World} (h : KeepsCells n₀ W W') {b o : Nat} {v : Value} (hb : b < n₀) (hc : W.cell? ⟨b, o, none⟩ = some v) : W'.cell? ⟨b, o, none⟩ = some v := by
  obtain ⟨x, hx, hi⟩ := isCells_of_cell hc
  have := h.same b x hb hx hi
  unfold World.cell? at *
  simp only [this, hx] at *
  exact hc
theorem RNds.keptC {n₀ : Nat} {W W' : World} {A : Option Addr} {n : Nat} {xs : List Nd} (h : RNds W A n xs) (hk : KeepsCells n₀ W W') (hn : W.heap.size ≤ n₀) : RNds W' A n xs := by
  obtain ⟨h1, h2, b, off, hA, hc⟩ := h
  exact ⟨h1, h2, b, off, hA, fun i hi => ⟨hk.cell (Nat.lt_of_lt_of_le (World.block_lt_of_cell? _ _ (hc i hi).1) hn) (hc i hi).1, hk.cell (Nat.lt_of_lt_of_le (World.block_lt_of_cell? _ _ (hc i hi).2) hn) (hc i hi).2⟩⟩

/-! ### The plain words -/
abbrev IN := Int × Nd
def fwd : List Nd → Nat → List IN
  | [], _ => []
  | x :: xs, k => ((k : Int), x) :: fwd xs (k + 1)
theorem fwd_len (xs : List Nd) : ∀ k, (fwd xs k).length = xs.length := by
  induction xs with
  | nil => intro k; rfl
  | cons x xs ih => intro k; simp [fwd, ih]
theorem fwd_snd (xs : List Nd) : ∀ k, (fwd xs k).map Prod.snd = xs := by
  induction xs with
  | nil => intro k; rfl
  | cons x xs ih => intro k; simp [fwd, ih]
/-- What has come when the places from k on have been met, the last first. -/
def backTo (xs : List Nd) (k : Nat) : List IN := (fwd (xs.drop k) k).reverse
theorem backTo_step (xs : List Nd) (k : Nat) (h : k < xs.length) : backTo xs k = backTo xs (k + 1) ++ [((k : Int), xs[k])] := by
  unfold backTo; rw [dropStep h, show fwd (xs[k] :: xs.drop (k + 1)) k = ((k : Int), xs[k]) :: fwd (xs.drop (k + 1)) (k + 1) from rfl, List.reverse_cons]
theorem backTo_end (xs : List Nd) : backTo xs xs.length = [] := by unfold backTo; simp [fwd]
theorem backTo_len (xs : List Nd) (k : Nat) : (backTo xs k).length = xs.length - k := by unfold backTo; simp [fwd_len]
theorem backTo_all (xs : List Nd) : (backTo xs 0).map Prod.snd = xs.reverse := by
  unfold backTo; rw [List.map_reverse, fwd_snd]; rfl
def upd (f : Int → Option Bool) (x : IN) : Int → Option Bool := fun j => if j = x.2.pt then some x.2.rev else f j
def sideOf (pre : List IN) : Int → Option Bool := pre.foldl upd (fun _ => none)
theorem sideOf_snoc (pre : List IN) (x : IN) : sideOf (pre ++ [x]) = upd (sideOf pre) x := by simp [sideOf]
/-- What the map tells of a point. -/
def sideFn (xs : List Nd) : Int → Option Bool := fun j => if needOf j xs = 0 then none else some (decide (needOf j xs = 2))
theorem sideOf_all (ys : List IN) (xs : List Nd) (h : ys.map Prod.snd = xs.reverse) : sideOf ys = sideFn xs := by
  induction xs generalizing ys with
  | nil =>
    have : ys = [] := by simpa using h
    subst this; rfl
  | cons x xs ih =>
    have hl : ys ≠ [] := by rintro rfl; simp at h
    rw [← List.dropLast_concat_getLast hl] at h ⊢
    simp only [List.map_append, List.map_cons, List.map_nil, List.reverse_cons] at h
    obtain ⟨h1, h2⟩ := List.append_inj' h rfl
    rw [sideOf_snoc, ih _ h1]
    have h3 : (ys.getLast hl).2 = x := by simpa using h2
    funext j
    unfold upd sideFn
    rw [h3, needOf_cons]
    by_cases hj : j = x.pt
    · subst hj
      rw [if_pos rfl, if_pos rfl]
      cases x.rev <;> simp
    · have : ¬ x.pt = j := fun e => hj e.symm
      rw [if_neg hj, if_neg this]

abbrev encIN (x : IN) : Array Value := #[.int .i64 x.1, .agg #[.int .i64 x.2.pt, .bool x.2.rev]]
set_option maxRecDepth 10000 in
set_option maxHeartbeats 1000000 in
/-- Backward's closure: every need comes, the last first, whatever body keeps the cells. -/
theorem backward_stops (n : Nat) (hn : 1 ≤ n) (Bs : Nat) (A : Option Addr) (m c : Nat) (xs : List Nd) (w : World) (hB : w.cell? ⟨Bs, 0, none⟩ = some (.slice A m c)) (hx : RNds w A m xs) :
    SeqStopsK Fence.wide n Try.prog 180 #[.pointer (some ⟨Bs, 0, none⟩)] encIN (KeepsCells w.heap.size) (fun ys => ys.map Prod.snd = xs.reverse) (fun _ => True) xs.length w := fun l J Jx W0 hW hJa hJxa hY h0 => by
  have hBl := World.block_lt_of_cell? w _ hB
  simp only at hBl
  have hB0 := bcell hW hB
  clear hB
  refine callsIn_of_wp Try.func180 rfl trivial ?_ rfl
  simp only [Try.ntmps180, List.size_toArray, List.length_cons, List.length_nil, Nat.reduceAdd, Nat.reduceSub, Array.replicate_succ, Array.replicate_zero, List.push_toArray, List.append_toArray, List.nil_append, List.cons_append]
  have hm := hx.2.1
  have hl := hx.1
  gi_wp2
  gi_loopw [3] (fun i wr => ∃ z : Int, i = .int .i64 z ∧ -1 ≤ z ∧ z < m ∧ J (backTo xs (z + 1).toNat) wr ∧ KeepsCells w.heap.size W0 wr) (fun i _ => (intOf i + 1).toNat)
  case atStart =>
    refine ⟨(m : Int) - 1, by go_num, by omega, by omega, ?_, KeepsCells.refl _ _⟩
    rw [show ((m : Int) - 1 + 1).toNat = xs.length by omega, backTo_end]; exact h0
  case round =>
    obtain ⟨z, rfl, hz1, hz2, hJ, hk⟩ := hrel
    by_cases hz : 0 ≤ z
    · obtain ⟨j, rfl⟩ := Int.eq_ofNat_of_zero_le hz
      have hjl : j < xs.length := by omega
      obtain ⟨_, _, b, off, hA, hc⟩ := hx
      obtain rfl := hA (by omega)
      have l0 := World.block_lt_of_cell? _ _ (hc j hjl).1
      simp only at l0
      have c0 := hk.cell l0 (bcell hW (hc j hjl).1)
      have c1 := hk.cell l0 (bcell hW (hc j hjl).2)
      have cB := hk.cell hBl hB0
      have hst := backTo_step xs j hjl
      rw [show ((j : Int) + 1).toNat = j + 1 by omega] at hJ
      have hlen : (backTo xs (j + 1)).length < xs.length := by rw [backTo_len]; omega
      obtain ⟨fn, tmps, assign, body, hy, hR⟩ := hY _ ((j : Int), xs[j]) wr hJ hlen
      unfold encIN at hy
      dsimp only at hy hR
      rw [← hst] at hR
      have HR := Lib.hid hR
      clear hR hst hlen hc hA hY hB0 hz hz1 l0
      generalize xs[j] = x at *
      gi_wp2
      refine HR.out.mono ?_
      rintro e W3 (⟨rfl, hJ3, hk3⟩ | ⟨rfl, hJx3⟩)
      · gi_wp2
        go_roundw
        case rel => exact ⟨(j : Int) - 1, by go_num, by omega, by omega, by rw [show ((j : Int) - 1 + 1).toNat = j by omega]; exact hJ3, hk.trans hk3⟩
        case measure => simp [intOf]
      · gi_wp2
        refine bodyPost_ret (results_none rfl _ _ _) rfl ?_
        exact ⟨⟨_, rfl⟩, .inr ⟨_, trivial, hJx3⟩⟩
    · obtain rfl : z = -1 := by omega
      clear hz hz1
      gi_wp2
      go_end0
      exact ⟨⟨_, rfl⟩, .inl ⟨_, backTo_all xs, hJ⟩⟩

/-- slices.Backward: a function that holds the slice's box. -/
def FnPost (g : FuncId) (v : Value) (w : World) : Ending → World → Prop := fun e w' => ∃ b, e = .returned (.func (.func g) #[] #[.pointer (some ⟨b, 0, none⟩)]) ∧ Below w.heap.size w w' ∧ w'.cell? ⟨b, 0, none⟩ = some v
set_option maxHeartbeats 400000 in
theorem backward_any (A : Option Addr) (m c : Nat) (w : World) : Calls Try.prog 179 #[.slice A m c] w (FnPost 180 (.slice A m c) w) := by
  go_enter Try.func179, Try.ntmps179
  go_wp2
  go_ret
  exact ⟨w.heap.size, rfl, (Below.refl _ _).alloc (Nat.le_refl _) _, by go_simp⟩
def SidesPost (f : Int → Option Bool) (w : World) : Ending → World → Prop := fun e w' => ∃ b, e = .returned (.map (some b)) ∧ Below w.heap.size w w' ∧ MapIs w' b f
/-- Behind the loop's words: what lay stays. -/
theorem same_of_grown {B k : Nat} {X Y : World} {row : Option Nat} (hg : X.grownBy Y row) (hr : ∀ r, row = some r → B ≤ r) (hk : k < B) (hkX : k < X.heap.size) : Y.heap[k]? = X.heap[k]? :=
  hg.block k hkX (fun e => by have := hr k e.symm; omega)
theorem cell_of_same {X Y : World} {b o : Nat} {v : Value} (h : Y.heap[b]? = X.heap[b]?) (hc : X.cell? ⟨b, o, none⟩ = some v) : Y.cell? ⟨b, o, none⟩ = some v := by
  unfold World.cell? at *; simp only [h]; exact hc
set_option maxRecDepth 10000 in
set_option maxHeartbeats 1000000 in
theorem sides06_any (r : Rt) (p q o f : Hd) (w : World) (hr : RRt w p q o f r) (hs : r.small) :
    Calls Try.prog 178 #[rtv r p q o f] w (SidesPost (sideFn r.needs) w) := by
  have HN := Lib.hid (fun W (hb : Below w.heap.size w W) => needs_any r p q o f W (hr.below hb) hs)
  have hmm := @run_makeMap Try.prog
  clear hr hs
  unfold rtv Hd.v at *
  obtain ⟨pA, pn, pc⟩ := p
  obtain ⟨qA, qn, qc⟩ := q
  obtain ⟨oA, on, oc⟩ := o
  obtain ⟨fA, fn, fc⟩ := f
  dsimp only at *
  refine (callsIn_wide (n := 4)).1 ?_
  refine callsIn_of_wp_marks Try.func178 rfl trivial ?_ rfl
  simp only [Try.ntmps178, List.size_toArray, List.length_cons, List.length_nil, Nat.reduceAdd, Nat.reduceSub, Array.replicate_succ, Array.replicate_zero, List.push_toArray, List.append_toArray, List.nil_append, List.cons_append]
  gi_wp2
  refine ⟨trivial, (callsIn_wide.2 (HN.out _ ?hb)).mono ?_⟩
  case hb => exact (((Below.refl _ _).alloc (Nat.le_refl _) _).alloc (by simp) _).alloc (by simp; omega) _
  rintro e w1 ⟨A, m, c, rfl, hle, hb1, hx⟩
  have hM1 : MapIs w1 (w.heap.size + 1) (fun _ => none) := by
    refine MapIs.below ?_ hb1 (by simp)
    have h := MapIs.made (w.alloc (.cells #[.string r.name, .int .i64 r.sig, .slice pA pn pc, .slice qA qn qc, .slice oA on oc, .slice fA fn fc] 64))
    rw [World.size_alloc] at h
    exact h.below (B := w.heap.size + 2) ((Below.refl _ _).alloc (by simp) _) (by omega)
  have hC1 : w1.cell? ⟨w.heap.size + 1 + 1, 0, none⟩ = some (.map (some (w.heap.size + 1))) := bcell hb1 (by go_simp)
  have hz1 : w.heap.size + 1 + 1 < w1.heap.size := Nat.lt_of_lt_of_le (by simp) hb1.size
  have hb01 : Below w.heap.size w w1 := bnext ((((Below.refl w.heap.size w).alloc (Nat.le_refl _) _).alloc (by simp) _).alloc (by simp; omega) _) hb1
  clear hb1 HN hmm
  gi_wp2
  refine ⟨trivial, (callsIn_wide.2 (backward_any A m c w1)).mono ?_⟩
  rintro e w2 ⟨b, rfl, hb12, hcb⟩
  have hM2 : MapIs w2 (w.heap.size + 1) (fun _ => none) := hM1.below hb12 (by omega)
  have hC2 := bcell hb12 hC1
  have hz2 := Nat.lt_of_lt_of_le hz1 hb12.size
  have hb02 := bnext hb01 hb12
  have hx2 := hx.below hb12
  clear hM1 hC1 hz1 hb01 hx hb12
  gi_wp2
  refine wpIn_rangeFunc_ownH rfl (by omega) (gf := 180) (lb := #[.pointer (some ⟨b, 0, none⟩)]) rfl trivial (enters_of Try.func180 (by kernel_rfl) rfl)
    (backward_stops _ (by omega) b A m c r.needs w2 hcb hx2) KeepsCells.trans (fun W l o o' _ h1 h2 _ => KeepsCells.putObj W l o o' h1 h2) (Below.refl _ _) (fun _ => rfl)
    (fun pre W => (MapIs W (w.heap.size + 1) (sideOf pre) ∧ W.cell? ⟨w.heap.size + 1 + 1, 0, none⟩ = some (.map (some (w.heap.size + 1)))) ∧ Below w.heap.size w W ∧ w2.heap.size ≤ W.heap.size) (fun _ _ _ => False)
    ?hI (fun _ _ _ _ _ hs _ _ => hs) ⟨⟨hM2, hC2⟩, hb02, Nat.le_refl _⟩
    (fun x a' W => ∃ B, (W.cell? ⟨B, 0, none⟩ = some (.int .i64 x.2.pt) ∧ W.cell? ⟨B, 1, none⟩ = some (.bool x.2.rev)) ∧ a' = { tmps := #[.agg #[.string r.name, .int .i64 r.sig, .slice pA pn pc, .slice qA qn qc, .slice oA on oc, .slice fA fn fc], .pointer (some ⟨w.heap.size, 0, none⟩), .map none, .pointer (some ⟨w.heap.size + 1 + 1, 0, none⟩), undef, .pointer (some ⟨B, 0, none⟩), .map (some (w.heap.size + 1)), .agg #[.string r.name, .int .i64 r.sig, .slice pA pn pc, .slice qA qn qc, .slice oA on oc, .slice fA fn fc], .slice A m c, .func (.func 180) #[] #[.pointer (some ⟨b, 0, none⟩)], .int .i64 x.1, .agg #[.int .i64 x.2.pt, .bool x.2.rev], undef, undef, undef, undef, undef, undef], defers := [] }) ?hAx ?assign ?body ?done ?stop
  case hI =>
    rintro pre X Y row ⟨⟨h1, h2⟩, h3, h4⟩ hg hr
    have hs := fun k hk hkX => same_of_grown (k := k) hg (fun r e => (hr r e).1) hk hkX
    exact ⟨⟨h1.same (hs _ (by omega) h1.lt), cell_of_same (hs _ (by omega) (by omega)) h2⟩, h3.grown hg h3.size (fun k e => Nat.le_trans hb02.size (hr k e).1), Nat.le_trans h4 hg.size⟩
  case hAx =>
    rintro x a' _ X Y row ⟨B, ⟨h1, h2⟩, h3⟩ hg hr
    refine ⟨B, ⟨hg.cell h1 (fun e => ?_), hg.cell h2 (fun e => ?_)⟩, h3⟩
    all_goals (cases e; obtain ⟨_, o, ho, hc⟩ := hr B rfl; obtain ⟨y, hy, hyc⟩ := isCells_of_cell h1; rw [ho] at hy; cases hy; rw [hc] at hyc; cases hyc)
  case assign =>
    rintro l pre x W K ⟨⟨h1, h2⟩, h3, h4⟩ hK
    gi_wp2
    have hbA : Below W.heap.size W (W.alloc (.cells #[.int .i64 x.2.pt, .bool x.2.rev] 93)) := (Below.refl _ _).alloc (Nat.le_refl _) _
    refine hK _ _ ((KeepsOthers.alloc _ _).from _) (KeepsCells.of_below hbA h4) ⟨⟨h1.below hbA h1.lt, bcell hbA h2⟩, bnext h3 hbA, Nat.le_trans h4 hbA.size⟩ ⟨W.heap.size, ⟨?_, ?_⟩, rfl⟩
    · go_simp
    · go_simp
  case body =>
    rintro l pre x a' W hl ⟨rec, hrec⟩ ⟨⟨h1, h2⟩, h3, h4⟩ ⟨B, ⟨hB0, hB1⟩, rfl⟩ hlt
    obtain ⟨w3, hup, hm3, hg3, hs3⟩ := run_update_mapI (P := Try.prog) (T := 214) Try.underlying214 Try.underlying3 h1 x.2.pt x.2.rev
    obtain ⟨es, clock, hmap, _⟩ := h1
    have HM3 := Lib.hid hm3
    have HG3 := Lib.hid hg3
    have HMAP := Lib.hid hmap
    clear hm3 hg3 hs3 hmap
    gi_wp2
    refine ⟨KeepsFrom.of_grownBy HG3.out (fun j e => by cases e; omega), KeepsCells.of_map HMAP.out rfl HG3.out, ⟨⟨?_, ?_⟩, ?_, ?_⟩⟩
    · rw [sideOf_snoc]; exact HM3.out
    · exact HG3.out.cell h2 (fun e => by simp at e)
    · exact h3.grown HG3.out h3.size (fun k e => by cases e; omega)
    · exact Nat.le_trans h4 HG3.out.size
  case done =>
    rintro D ys W hD hys ⟨⟨h1, h2⟩, h3, h4⟩ hK
    rw [sideOf_all ys r.needs hys] at h1
    gi_wp2
    refine ⟨by simp, .inl ⟨_, _, rfl, run_takeDeferred hK, ?_⟩⟩
    have hg := grownBy_putObj' W D (.deferred none)
    refine ⟨_, results_tmp rfl _ _ _, w.heap.size + 1, rfl, h3.grown hg h3.size (fun k e => by cases e; have := hb02.size; omega), h1.same (same_of_grown hg (B := D) (fun r e => by cases e; exact Nat.le_refl _) (by omega) h1.lt)⟩
  case stop =>
    rintro D c pre W _ _ h _
    exact h.elim
end Go.Proofs.Ytmoccpbiogdbgaa
