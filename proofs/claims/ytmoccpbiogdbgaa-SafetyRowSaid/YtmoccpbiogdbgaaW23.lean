/-
  The walk of conflict.Pair, of two routes that are there.
-/
import Derived.Test.YtmoccpbiogdbgaaW22
namespace Go.Proofs.Ytmoccpbiogdbgaa
open Go.RowKit Go.Shelf
set_option maxRecDepth 10000 in
set_option maxHeartbeats 1000000 in
theorem pair_any (s p g rr : Hd) (l : Ly) (a b : Nat) (w : World) (hl : RLy w s p g rr l) (hm : mayB l = true) (ha : a < l.routes.length) (hb : b < l.routes.length) :
    Calls Try.prog 63 #[lyv s p g rr, .int .i64 a, .int .i64 b] w (RetB (pairB l a b) w) := by
  have HM := Lib.hid (fun W (hb : Below w.heap.size w W) => may_any s p g rr l W (hl.below hb))
  rw [hm] at HM
  have hP := pairB_of l hm a b ha hb
  obtain ⟨_, _, _, hrt⟩ := may_facts l hm
  have s1 := (rtIn_facts (hrt _ (List.getElem_mem ha))).1
  have s2 := (rtIn_facts (hrt _ (List.getElem_mem hb))).1
  obtain ⟨hrl, hrm, rb, ro, hrA, hrc⟩ := hl.2.2.2.2
  obtain ⟨p1, p2, p3, p4, hRt, e0, e1, e2, e3, e4, e5⟩ := hrc a ha
  obtain ⟨q1, q2, q3, q4, hRu, d0, d1, d2, d3, d4, d5⟩ := hrc b hb
  have ex : l.routes.getD a rt0 = l.routes[a] := by simp [ha]
  have ey : l.routes.getD b rt0 = l.routes[b] := by simp [hb]
  rw [ex, ey] at hP
  clear ex ey hrc hrt hm
  generalize l.routes[a] = x at *
  generalize l.routes[b] = y at *
  have HC := Lib.hid (fun W (hb : Below w.heap.size w W) => conflict_any s p g rr l x y p1 p2 p3 p4 q1 q2 q3 q4 W (hl.below hb) (hRt.below hb) (hRu.below hb) s1 s2)
  have han : a < rr.n := by omega
  have hbn : b < rr.n := by omega
  clear hl hRt hRu s1 s2 ha hb
  unfold lyv rtv Hd.v at *
  obtain ⟨rA, rn, rc⟩ := rr
  dsimp only at *
  obtain rfl := hrA (by omega)
  have l9 := World.block_lt_of_cell? _ _ e0
  simp only at l9
  clear hrA hrl
  go_enter Try.func63, Try.ntmps63
  go_upto_region 1 with (fail)
  refine name_box (fun W hbW hlt0 hbox => ?_)
  have B0 : W.cell? ⟨w.heap.size, 0, none⟩ = some (.slice s.A s.n s.c) := hbox 0 _ rfl
  have B1 : W.cell? ⟨w.heap.size, 1, none⟩ = some (.slice p.A p.n p.c) := hbox 1 _ rfl
  have B2 : W.cell? ⟨w.heap.size, 2, none⟩ = some (.slice g.A g.n g.c) := hbox 2 _ rfl
  have B3 : W.cell? ⟨w.heap.size, 3, none⟩ = some (.slice (some ⟨rb, ro, none⟩) rn rc) := hbox 3 _ rfl
  clear hbox
  have e0 := bcell hbW e0
  have e1 := bcell hbW e1
  have e2 := bcell hbW e2
  have e3 := bcell hbW e3
  have e4 := bcell hbW e4
  have e5 := bcell hbW e5
  have d0 := bcell hbW d0
  have d1 := bcell hbW d1
  have d2 := bcell hbW d2
  have d3 := bcell hbW d3
  have d4 := bcell hbW d4
  have d5 := bcell hbW d5
  have l9 := Nat.lt_of_lt_of_le l9 hbW.size
  rcases Nat.lt_trichotomy a b with hab | hab | hab
  · have hnab : ¬ b < a := by omega
    have hneq : ¬ a = b := by omega
    have hnb : decide (b < a) = false := by simpa using hnab
    have hfin : Hid (pairB l (a : Int) (b : Int) = conflictB l x y) := by have h := hP; simp [hneq] at h; simpa [Hid] using h
    have hne : ((a : Int) != (b : Int)) = true := by simp; omega
    clear hP hneq
    have HM2 := Lib.hid (fun W1 (h1 : Below W.heap.size W W1) => HM.out W1 (bnext hbW h1))
    have HC2 := Lib.hid (fun W1 (h1 : Below W.heap.size W W1) => HC.out W1 (bnext hbW h1))
    clear HM HC
    go_upto_region 2 with (fail)
    refine wp_region_calm (by kernel_rfl) (by kernel_rfl) ?_
    repeat (first | go_big_quiet_skip | (go_big_quiet_want; go_big_quiet_op; first | go_big_quiet_on | (apply Exists.intro; refine ⟨fun W1 hW1 => ?_, ?_⟩; (first | exact rfl | (go_at_call 114; (with_reducible refine Calls.mono (HM2.out _ hW1) ?_); exact fun e w5 hr => ⟨hr.1, bnext hW1 hr.2⟩) | (go_at_call 119; (with_reducible refine Calls.mono (HC2.out _ hW1) ?_); exact fun e w5 hr => ⟨hr.1, bnext hW1 hr.2⟩) | (have hcc := bcells hW1; go_simp; rfl)); go_big_quiet_on)))
    refine wpQuiet_nil ?_
    intro W5 hW5
    go_wp2
    go_ret
    rw [hfin.out]; exact ⟨rfl, bnext hbW hW5⟩
  · subst hab
    have hfin : Hid (pairB l (a : Int) (a : Int) = false) := by have h := hP; simp at h; simpa [Hid] using h
    have hnab : ¬ a < a := by omega
    clear hP HC HM
    go_upto_region 2 with (fail)
    refine wp_region_calm (by kernel_rfl) (by kernel_rfl) ?_
    repeat (first | go_big_quiet_skip | (go_big_quiet_want; go_big_quiet_op; first | go_big_quiet_on | (apply Exists.intro; refine ⟨fun W1 hW1 => ?_, ?_⟩; (first | exact rfl | (have hcc := bcells hW1; go_simp; rfl)); go_big_quiet_on)))
    refine wpQuiet_nil ?_
    intro W5 hW5
    go_wp2
    go_ret
    rw [hfin.out]; exact ⟨rfl, bnext hbW hW5⟩
  · have hnab : ¬ a < b := by omega
    have hneq : ¬ a = b := by omega
    have hnb : decide (a < b) = false := by simpa using hnab
    have hfin : Hid (pairB l (a : Int) (b : Int) = conflictB l x y) := by have h := hP; simp [hneq] at h; simpa [Hid] using h
    have hne : ((a : Int) != (b : Int)) = true := by simp; omega
    clear hP hneq
    have HM2 := Lib.hid (fun W1 (h1 : Below W.heap.size W W1) => HM.out W1 (bnext hbW h1))
    have HC2 := Lib.hid (fun W1 (h1 : Below W.heap.size W W1) => HC.out W1 (bnext hbW h1))
    clear HM HC
    go_upto_region 2 with (fail)
    refine wp_region_calm (by kernel_rfl) (by kernel_rfl) ?_
    repeat (first | go_big_quiet_skip | (go_big_quiet_want; go_big_quiet_op; first | go_big_quiet_on | (apply Exists.intro; refine ⟨fun W1 hW1 => ?_, ?_⟩; (first | exact rfl | (go_at_call 114; (with_reducible refine Calls.mono (HM2.out _ hW1) ?_); exact fun e w5 hr => ⟨hr.1, bnext hW1 hr.2⟩) | (go_at_call 119; (with_reducible refine Calls.mono (HC2.out _ hW1) ?_); exact fun e w5 hr => ⟨hr.1, bnext hW1 hr.2⟩) | (have hcc := bcells hW1; go_simp; rfl)); go_big_quiet_on)))
    refine wpQuiet_nil ?_
    intro W5 hW5
    go_wp2
    go_ret
    rw [hfin.out]; exact ⟨rfl, bnext hbW hW5⟩
end Go.Proofs.Ytmoccpbiogdbgaa
