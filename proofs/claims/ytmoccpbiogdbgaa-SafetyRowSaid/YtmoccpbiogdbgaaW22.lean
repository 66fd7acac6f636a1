/-
  The walks of conflict.reasons, conflict.conflict, conflict.Pair.
-/
import Derived.Test.YtmoccpbiogdbgaaW21
import Derived.Test.YtmoccpbiogdbgaaW17
namespace Go.Proofs.Ytmoccpbiogdbgaa
open Go.RowKit Go.Shelf
attribute [local go_sem] Oper.semAt_some
theorem frozen_of_same {X Y : World} {b o : Nat} {v : Bool} (h : Y.heap[b]? = X.heap[b]?) (hc : X.frozen? ⟨b, o, none⟩ = v) : Y.frozen? ⟨b, o, none⟩ = v := by
  unfold World.frozen? at *; simp only [h]; exact hc
def ReasonsPost (s p g rr : Hd) (x y : Rt) (a1 a2 a3 a4 b1 b2 b3 b4 : Hd) (w : World) : Ending → World → Prop := fun e w' =>
  ∃ bl bx by1, e = .returned (.func (.func 177) #[] #[.pointer (some ⟨bx, 0, none⟩), .pointer (some ⟨by1, 0, none⟩), .pointer (some ⟨bl, 0, none⟩)]) ∧ Below w.heap.size w w' ∧ LyBox w' bl s p g rr ∧ RtBox w' bx x a1 a2 a3 a4 ∧ RtBox w' by1 y b1 b2 b3 b4
set_option maxRecDepth 10000 in
set_option maxHeartbeats 400000 in
theorem reasons_any (s p g rr : Hd) (x y : Rt) (a1 a2 a3 a4 b1 b2 b3 b4 : Hd) (w : World) :
    Calls Try.prog 166 #[lyv s p g rr, rtv x a1 a2 a3 a4, rtv y b1 b2 b3 b4] w (ReasonsPost s p g rr x y a1 a2 a3 a4 b1 b2 b3 b4 w) := by
  unfold lyv rtv Hd.v
  go_enter Try.func166, Try.ntmps166
  go_upto_region 1 with (fail)
  refine name_box3 (fun W hbW hlt hbox1 hbox2 hbox3 => ?_)
  have HB : Hid (LyBox W w.heap.size s p g rr ∧ RtBox W (w.heap.size + 1) x a1 a2 a3 a4 ∧ RtBox W (w.heap.size + 1 + 1) y b1 b2 b3 b4) :=
    ⟨⟨hbox1 0 _ rfl, hbox1 1 _ rfl, hbox1 2 _ rfl, hbox1 3 _ rfl⟩, ⟨hbox2 0 _ rfl, hbox2 1 _ rfl, hbox2 2 _ rfl, hbox2 3 _ rfl, hbox2 4 _ rfl, hbox2 5 _ rfl⟩, hbox3 0 _ rfl, hbox3 1 _ rfl, hbox3 2 _ rfl, hbox3 3 _ rfl, hbox3 4 _ rfl, hbox3 5 _ rfl⟩
  clear hbox1 hbox2 hbox3
  go_wp2
  go_ret
  exact ⟨_, _, _, rfl, hbW, HB.out⟩
set_option maxRecDepth 10000 in
set_option maxHeartbeats 1000000 in
theorem conflict_any (s p g rr : Hd) (l : Ly) (x y : Rt) (a1 a2 a3 a4 b1 b2 b3 b4 : Hd) (w : World) (hl : RLy w s p g rr l) (hx : RRt w a1 a2 a3 a4 x) (hy : RRt w b1 b2 b3 b4 y) (hsx : x.small) (hsy : y.small) :
    Calls Try.prog 119 #[lyv s p g rr, rtv x a1 a2 a3 a4, rtv y b1 b2 b3 b4] w (RetB (conflictB l x y) w) := by
  have HR := Lib.hid (fun W => reasons_any s p g rr x y a1 a2 a3 a4 b1 b2 b3 b4 W)
  have HS := Lib.hid (fun n (hn : 1 ≤ n) bl bx by1 W (hb : Below w.heap.size w W) hbl hbx hby => reasons_stops n hn s p g rr l x y a1 a2 a3 a4 b1 b2 b3 b4 bl bx by1 W (hl.below hb) (hx.below hb) (hy.below hb) hsx hsy hbl hbx hby)
  clear hl hx hy hsx hsy
  unfold lyv rtv Hd.v at *
  refine (callsIn_wide (n := 4)).1 ?_
  refine callsIn_of_wp_marks Try.func119 rfl trivial ?_ rfl
  simp only [Try.ntmps119, List.size_toArray, List.length_cons, List.length_nil, Nat.reduceAdd, Nat.reduceSub, Array.replicate_succ, Array.replicate_zero, List.push_toArray, List.append_toArray, List.nil_append, List.cons_append]
  gi_wp2
  have hA : Below w.heap.size w (((w.alloc (.cells #[.slice s.A s.n s.c, .slice p.A p.n p.c, .slice g.A g.n g.c, .slice rr.A rr.n rr.c] 27)).alloc (.cells #[.string x.name, .int .i64 x.sig, .slice a1.A a1.n a1.c, .slice a2.A a2.n a2.c, .slice a3.A a3.n a3.c, .slice a4.A a4.n a4.c] 64)).alloc (.cells #[.string y.name, .int .i64 y.sig, .slice b1.A b1.n b1.c, .slice b2.A b2.n b2.c, .slice b3.A b3.n b3.c, .slice b4.A b4.n b4.c] 64)) := (((Below.refl _ _).alloc (Nat.le_refl _) _).alloc (by simp) _).alloc (by simp; omega) _
  refine ⟨trivial, (callsIn_wide.2 (HR.out _)).mono ?_⟩
  rintro e w1 ⟨bl, bx, by1, rfl, hb1, h1, h2, h3⟩
  have hC1 : w1.cell? ⟨w.heap.size + 1 + 1 + 1, 0, none⟩ = some (.bool false) := bcell hb1 (by go_simp)
  have hF1 : w1.frozen? ⟨w.heap.size + 1 + 1 + 1, 0, none⟩ = false := (hb1.frozen (p := ⟨w.heap.size + 1 + 1 + 1, 0, none⟩) (by simp)).trans (by go_simp)
  have hz1 : w.heap.size + 1 + 1 + 1 < w1.heap.size := Nat.lt_of_lt_of_le (by simp) hb1.size
  have hb01 : Below w.heap.size w w1 := bthen (hA.alloc (by simp; omega) _) (by simp; omega) hb1
  clear hb1 hA HR
  gi_wp2
  refine wpIn_rangeFunc_ownG rfl (by omega) (gf := 177) (lb := #[.pointer (some ⟨bx, 0, none⟩), .pointer (some ⟨by1, 0, none⟩), .pointer (some ⟨bl, 0, none⟩)]) rfl trivial (enters_of Try.func177 (by kernel_rfl) rfl)
    (HS.out _ (by omega) bl bx by1 w1 hb01 h1 h2 h3) KeepsData.trans (fun W l o o' _ h1 h2 h3 => KeepsData.putObj W l o o' h1 h2 h3) (Below.refl _ _) (fun _ => rfl)
    (fun pre W => (anyId pre = false ∧ W.cell? ⟨w.heap.size + 1 + 1 + 1, 0, none⟩ = some (.bool false) ∧ W.frozen? ⟨w.heap.size + 1 + 1 + 1, 0, none⟩ = false) ∧ Below w.heap.size w W ∧ w1.heap.size ≤ W.heap.size)
    (fun c pre W => (c = .ret ∧ anyId pre = true ∧ W.cell? ⟨w.heap.size + 1 + 1 + 1, 0, none⟩ = some (.bool true)) ∧ Below w.heap.size w W ∧ w1.heap.size ≤ W.heap.size)
    ?hI ?hIx ⟨⟨rfl, hC1, hF1⟩, hb01, Nat.le_refl _⟩
    (fun hb => { tmps := #[.agg #[.slice s.A s.n s.c, .slice p.A p.n p.c, .slice g.A g.n g.c, .slice rr.A rr.n rr.c], .agg #[.string x.name, .int .i64 x.sig, .slice a1.A a1.n a1.c, .slice a2.A a2.n a2.c, .slice a3.A a3.n a3.c, .slice a4.A a4.n a4.c], .agg #[.string y.name, .int .i64 y.sig, .slice b1.A b1.n b1.c, .slice b2.A b2.n b2.c, .slice b3.A b3.n b3.c, .slice b4.A b4.n b4.c], .pointer (some ⟨w.heap.size, 0, none⟩), .pointer (some ⟨w.heap.size + 1, 0, none⟩), .pointer (some ⟨w.heap.size + 1 + 1, 0, none⟩), .pointer (some ⟨w.heap.size + 1 + 1 + 1, 0, none⟩), .bool hb, .agg #[.slice s.A s.n s.c, .slice p.A p.n p.c, .slice g.A g.n g.c, .slice rr.A rr.n rr.c], .agg #[.string x.name, .int .i64 x.sig, .slice a1.A a1.n a1.c, .slice a2.A a2.n a2.c, .slice a3.A a3.n a3.c, .slice a4.A a4.n a4.c], .agg #[.string y.name, .int .i64 y.sig, .slice b1.A b1.n b1.c, .slice b2.A b2.n b2.c, .slice b3.A b3.n b3.c, .slice b4.A b4.n b4.c], .func (.func 177) #[] #[.pointer (some ⟨bx, 0, none⟩), .pointer (some ⟨by1, 0, none⟩), .pointer (some ⟨bl, 0, none⟩)], .bool hb, undef], defers := [] }) ?assign ?body ?done ?stop
  case hI =>
    rintro pre X Y row ⟨⟨g1, g2, g3⟩, g4, g5⟩ hg hr
    have hs := same_of_grown (k := w.heap.size + 1 + 1 + 1) hg (fun r e => (hr r e).1) hz1 (by omega)
    exact ⟨⟨g1, cell_of_same hs g2, frozen_of_same hs g3⟩, g4.grown hg g4.size (fun k e => Nat.le_trans hb01.size (hr k e).1), Nat.le_trans g5 hg.size⟩
  case hIx =>
    rintro c pre X Y row ⟨⟨g1, g2, g3⟩, g4, g5⟩ hg hr
    have hs := same_of_grown (k := w.heap.size + 1 + 1 + 1) hg (fun r e => (hr r e).1) hz1 (by omega)
    exact ⟨⟨g1, g2, cell_of_same hs g3⟩, g4.grown hg g4.size (fun k e => Nat.le_trans hb01.size (hr k e).1), Nat.le_trans g5 hg.size⟩
  case assign =>
    intro l x W K hK
    gi_wp2
    exact hK
  case body =>
    rintro l0 pre b W ⟨⟨g1, g2, g3⟩, g4, g5⟩ _
    cases b
    · gi_wp2
      exact ⟨(KeepsOthers.refl _).from _, KeepsData.refl _, ⟨by rw [anyId_snoc, g1]; rfl, g2, g3⟩, g4, g5⟩
    · gi_wp2
      exact ⟨(KeepsOthers.setCell _ _ _).from _, ⟨rfl, by rw [anyId_snoc]; simp, World.cell?_setCell_same' _ _ _ (by rw [g2]; rfl)⟩, g4.setCell (p := ⟨w.heap.size + 1 + 1 + 1, 0, none⟩) (by simp; omega) _, by simpa using g5⟩
  case done =>
    rintro D ys W hD hys ⟨⟨g1, g2, g3⟩, g4, g5⟩ hK
    gi_wp2
    have hK' := (KeepsOthers.setCell W ⟨w.heap.size + 1 + 1 + 1, 0, none⟩ (.bool false)).same D _ hK rfl
    refine ⟨by simp, .inl ⟨_, _, rfl, run_takeDeferred hK', ?_⟩⟩
    have hc5 := cell_kept (World.cell?_setCell_same' W ⟨w.heap.size + 1 + 1 + 1, 0, none⟩ (.bool false) (by rw [g2]; rfl)) (grownBy_putObj' _ D (.deferred none)) (fun r e => by cases e; exact ⟨_, hK', rfl⟩)
    have hB5 : Below w.heap.size w ((W.setCell ⟨w.heap.size + 1 + 1 + 1, 0, none⟩ (.bool false)).putObj D (.deferred none)) :=
      (g4.setCell (p := ⟨w.heap.size + 1 + 1 + 1, 0, none⟩) (by simp; omega) _).grown (grownBy_putObj' _ D _) (by have := g4.size; simp; omega) (fun k e => by cases e; have := hb01.size; omega)
    refine ⟨.bool false, ?_, by rw [← hys, g1], hB5⟩
    simp [results, Try.f119, go_sem, hc5]
  case stop =>
    rintro D c pre W hD hpre ⟨⟨rfl, g2, g3⟩, g4, g5⟩ hK
    gi_wp2
    refine ⟨by simp, .inl ⟨_, _, rfl, run_takeDeferred hK, ?_⟩⟩
    have hc5 := cell_kept g3 (grownBy_putObj' _ D (.deferred none)) (fun r e => by cases e; exact ⟨_, hK, rfl⟩)
    refine ⟨.bool true, ?_, by rw [hpre g2], g4.grown (grownBy_putObj' _ D _) g4.size (fun k e => by cases e; have := hb01.size; omega)⟩
    simp [results, Try.f119, go_sem, hc5]
end Go.Proofs.Ytmoccpbiogdbgaa
