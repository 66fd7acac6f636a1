/-
  The walk of topo.Check.
-/
import Derived.Test.YtmoccpbiogdbgaaW10
import Derived.Test.YtmoccpbiogdbgaaP1
import Derived.Handy
namespace Go.Proofs.Ytmoccpbiogdbgaa
open Go.RowKit Go.Shelf

/-- The box of a layout. -/
def LyBox (w : World) (b : Nat) (s p g r : Hd) : Prop :=
  w.cell? ⟨b, 0, none⟩ = some s.v ∧ w.cell? ⟨b, 1, none⟩ = some p.v ∧ w.cell? ⟨b, 2, none⟩ = some g.v ∧ w.cell? ⟨b, 3, none⟩ = some r.v
theorem LyBox.below {w W : World} {b : Nat} {s p g r : Hd} (h : LyBox w b s p g r) (hb : Below w.heap.size w W) : LyBox W b s p g r :=
  ⟨bcell hb h.1, bcell hb h.2.1, bcell hb h.2.2.1, bcell hb h.2.2.2⟩
theorem eCheck1 : Enters Try.prog 116 := enters_of' Try.func116 (by kernel_rfl) rfl
set_option maxRecDepth 10000 in
set_option maxHeartbeats 1000000 in
theorem check1_any (s p g rr : Hd) (l : Ly) (r : Rt) (a b c d : Hd) (blk : Nat) (w : World) (hx : RLy w s p g rr l) (hr : RRt w a b c d r) (hB : LyBox w blk s p g rr) (hs : r.small) (hp0 : l.points.length ≤ 1000) (h0 : 0 ≤ r.sig) (h1 : r.sig < l.signals.length) :
    Calls Try.prog 116 #[rtv r a b c d, .pointer (some ⟨blk, 0, none⟩)] w (RetB (!formedB l r) w) := by
  have HC := Lib.hid (fun W (hb : Below w.heap.size w W) => formed_any s p g rr l r a b c d W (hx.below hb) (hr.below hb) hs hp0 h0 h1)
  obtain ⟨B0, B1, B2, B3⟩ := hB
  have l0 := World.block_lt_of_cell? w _ B0
  simp only at l0
  unfold rtv lyv Hd.v at *
  obtain ⟨sA, sn, sc⟩ := s
  obtain ⟨pA, pn, pc⟩ := p
  obtain ⟨gA, gn, gc⟩ := g
  obtain ⟨rA, rn, rc⟩ := rr
  obtain ⟨aA, an, ac⟩ := a
  obtain ⟨bA, bn, bc⟩ := b
  obtain ⟨cA, cn, cc⟩ := c
  obtain ⟨dA, dn, dc⟩ := d
  dsimp only at *
  clear hx hr
  generalize formedB l r = q at *
  go_enter Try.func116, Try.ntmps116
  go_wp2_with (go_at_call 117; with_reducible refine Calls.mono (HC.out _ ?h0) ?_)
  case h0 => exact (Below.refl _ _).alloc (Nat.le_refl _) _
  rintro e w1 ⟨rfl, hb1⟩
  have hb2 := bnext ((Below.refl w.heap.size w).alloc (Nat.le_refl _) _) hb1
  clear hb1
  go_wp2
  go_ret
  exact ⟨rfl, hb2⟩
/-- What Check answers. -/
def checkB (l : Ly) : Int × Int := if mayB l = true then (if 0 ≤ idxFrom (fun r => !formedB l r) l.routes 0 then (50, idxFrom (fun r => !formedB l r) l.routes 0) else (0, 0)) else (2, 0)
def Ret2 (q : Int × Int) (w : World) : Ending → World → Prop := fun e w' => e = .returned (.tuple #[.int .i64 q.1, .int .i64 q.2]) ∧ Below w.heap.size w w'
set_option maxRecDepth 10000 in
set_option maxHeartbeats 1000000 in
theorem check_any (s p g r : Hd) (l : Ly) (w : World) (hx : RLy w s p g r l) :
    Calls Try.prog 56 #[lyv s p g r] w (Ret2 (checkB l) w) := by
  have HM := Lib.hid (fun W (hb : Below w.heap.size w W) => may_any s p g r l W (hx.below hb))
  have HI := Lib.hid (fun W (hb : Below w.heap.size w W) (hbox : LyBox W w.heap.size s p g r) (hm : mayB l = true) => indexFuncR r.A r.n r.c l.routes 116 #[.pointer (some ⟨w.heap.size, 0, none⟩)] (fun r => !formedB l r) W (hx.below hb).2.2.2.2
    ⟨eCheck1, fun x hmem W' a b c d hb' hr' => by
      obtain ⟨⟨_, hp, _, _⟩, _, _, hrt⟩ := may_facts l hm
      obtain ⟨h1, h2, h3⟩ := rtIn_facts (hrt x hmem)
      exact check1_any s p g r l x a b c d w.heap.size W' (hx.below (bnext hb hb')) hr' (hbox.below hb') h1 (by omega) h2 h3⟩)
  have hCB : Hid (checkB l = if mayB l = true then (if 0 ≤ idxFrom (fun r => !formedB l r) l.routes 0 then (50, idxFrom (fun r => !formedB l r) l.routes 0) else (0, 0)) else (2, 0)) := rfl
  unfold lyv Hd.v at *
  unfold LyBox at HI
  obtain ⟨sA, sn, sc⟩ := s
  obtain ⟨pA, pn, pc⟩ := p
  obtain ⟨gA, gn, gc⟩ := g
  obtain ⟨rA, rn, rc⟩ := r
  dsimp only [Hd.v] at *
  clear hx
  generalize idxFrom (fun r => !formedB l r) l.routes 0 = ix at *
  go_enter Try.func56, Try.ntmps56
  go_upto_region 1 with (fail)
  refine name_box (fun W hbW hlt0 hbox => ?_)
  have B0 : W.cell? ⟨w.heap.size, 0, none⟩ = some (.slice sA sn sc) := hbox 0 _ rfl
  have B1 : W.cell? ⟨w.heap.size, 1, none⟩ = some (.slice pA pn pc) := hbox 1 _ rfl
  have B2 : W.cell? ⟨w.heap.size, 2, none⟩ = some (.slice gA gn gc) := hbox 2 _ rfl
  have B3 : W.cell? ⟨w.heap.size, 3, none⟩ = some (.slice rA rn rc) := hbox 3 _ rfl
  clear hbox
  have hM := HM.out W hbW
  cases hm : mayB l
  all_goals rw [hm] at hM hCB
  all_goals have HM2 := Lib.hid hM
  all_goals clear hM HM
  · have hfin : Hid (checkB l = (2, 0)) := by rw [hCB.out]; rfl
    clear hCB HI hm
    go_wp2_with (go_at_call 114; with_reducible refine Calls.mono HM2.out ?_)
    rintro e w1 ⟨rfl, hb1⟩
    go_wp2
    go_ret2
    rw [hfin.out]; exact ⟨rfl, bnext hbW hb1⟩
  · go_wp2_with (go_at_call 114; with_reducible refine Calls.mono HM2.out ?_)
    rintro e w1 ⟨rfl, hb1⟩
    have c3 := bcell hb1 B3
    have hlt1 := hb1.size
    have HI2 := Lib.hid (HI.out w1 (bnext hbW hb1) ⟨bcell hb1 B0, bcell hb1 B1, bcell hb1 B2, bcell hb1 B3⟩ hm)
    clear HI hm HM2
    by_cases hix : 0 ≤ ix
    · have hfin : Hid (checkB l = (50, ix)) := by rw [hCB.out]; simp [hix]; trivial
      clear hCB
      go_wp2_with (go_at_call 115; with_reducible refine Calls.mono HI2.out ?_)
      rintro e w2 ⟨rfl, hb2⟩
      go_wp2
      go_ret2
      rw [hfin.out]; exact ⟨rfl, bnext hbW (bnext hb1 hb2)⟩
    · have hfin : Hid (checkB l = (0, 0)) := by rw [hCB.out]; simp [hix]; trivial
      clear hCB
      go_wp2_with (go_at_call 115; with_reducible refine Calls.mono HI2.out ?_)
      rintro e w2 ⟨rfl, hb2⟩
      go_wp2
      go_ret2
      rw [hfin.out]; exact ⟨rfl, bnext hbW (bnext hb1 hb2)⟩
end Go.Proofs.Ytmoccpbiogdbgaa
