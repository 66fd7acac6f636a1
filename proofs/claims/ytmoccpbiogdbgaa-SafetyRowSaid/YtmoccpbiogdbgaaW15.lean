/-
  The walk of the reference's Check.
-/
import Derived.Test.YtmoccpbiogdbgaaW12
import Derived.Test.YtmoccpbiogdbgaaW13
import Derived.Test.YtmoccpbiogdbgaaW14
import Derived.Handy
namespace Go.Proofs.Ytmoccpbiogdbgaa
open Go.RowKit Go.Shelf
set_option maxRecDepth 10000 in
set_option maxHeartbeats 2000000 in
theorem refcheck_any (s p g r : Hd) (l : Ly) (w : World) (hx : RLy w s p g r l) :
    Calls Try.prog 25 #[lyv s p g r] w (Ret2 (checkB l) w) := by
  have HM := Lib.hid (fun W (hb : Below w.heap.size w W) => refmay_any s p g r l W (hx.below hb))
  rw [← mayB_eq] at HM
  have HFO := Lib.hid (fun W (hb : Below w.heap.size w W) x a b c d (hr : RRt W a b c d x) (hm : rtIn l x = true) => refformed_any s p g r l x a b c d W (hx.below hb) hr (rtIn_facts hm).1 (rtIn_facts hm).2.1 (rtIn_facts hm).2.2)
  have hCB : Hid (checkB l = if mayB l = true then (if 0 ≤ idxFrom (fun r => !formedB l r) l.routes 0 then (50, idxFrom (fun r => !formedB l r) l.routes 0) else (0, 0)) else (2, 0)) := rfl
  have hR4 := hx.2.2.2.2
  unfold lyv Hd.v at *
  obtain ⟨sA, sn, sc⟩ := s
  obtain ⟨pA, pn, pc⟩ := p
  obtain ⟨gA, gn, gc⟩ := g
  obtain ⟨rA, rn, rc⟩ := r
  dsimp only [Hd.v] at *
  clear hx
  go_enter Try.func25, Try.ntmps25
  go_upto_region 1 with (fail)
  refine name_box (fun W hbW hlt0 hbox => ?_)
  have B0 : W.cell? ⟨w.heap.size, 0, none⟩ = some (.slice sA sn sc) := hbox 0 _ rfl
  have B1 : W.cell? ⟨w.heap.size, 1, none⟩ = some (.slice pA pn pc) := hbox 1 _ rfl
  have B2 : W.cell? ⟨w.heap.size, 2, none⟩ = some (.slice gA gn gc) := hbox 2 _ rfl
  have B3 : W.cell? ⟨w.heap.size, 3, none⟩ = some (.slice rA rn rc) := hbox 3 _ rfl
  clear hbox
  have hM := HM.out W hbW
  cases hm : mayB l
  all_goals rw [hm] at hM hCB
  all_goals have HM2 := Lib.hid hM
  all_goals clear hM HM
  · have hfin : Hid (checkB l = (2, 0)) := by rw [hCB.out]; rfl
    clear hCB HFO hm
    go_wp2_with (go_at_call 74; with_reducible refine Calls.mono HM2.out ?_)
    rintro e w1 ⟨rfl, hb1⟩
    go_wp2
    go_ret2
    rw [hfin.out]; exact ⟨rfl, bnext hbW hb1⟩
  · have hCB2 : Hid (checkB l = (if 0 ≤ idxFrom (fun r => !formedB l r) l.routes 0 then (50, idxFrom (fun r => !formedB l r) l.routes 0) else (0, 0))) := by rw [hCB.out]; simp; trivial
    clear hCB
    have hrts := Lib.hid (may_facts l hm).2.2.2
    clear hm
    go_wp2_with (go_at_call 74; with_reducible refine Calls.mono HM2.out ?_)
    rintro e w1 ⟨rfl, hb1⟩
    clear HM2
    have hmx := hR4.2.1
    have hln := hR4.1
    go_wp2_with fail
    go_loopw [4] (fun i wr => ∃ k : Nat, k ≤ rn ∧ i = .int .i64 k ∧ Hid (idxFrom (fun r => !formedB l r) (l.routes.drop k) k = idxFrom (fun r => !formedB l r) l.routes 0) ∧ Below w1.heap.size w1 wr) (fun i _ => rn - (intOf i).toNat)
    case atStart => exact ⟨0, Nat.zero_le _, rfl, rfl, Below.refl _ _⟩
    case round =>
      obtain ⟨k, hk, rfl, hi, hb⟩ := hrel
      have hbr := bnext hb1 hb
      have c0 := bcell hbr B0
      have c1 := bcell hbr B1
      have c2 := bcell hbr B2
      have c3 := bcell hbr B3
      have hq0 := Nat.lt_of_lt_of_le hlt0 hbr.size
      by_cases hlt : k < rn
      · have hkl : k < l.routes.length := by omega
        obtain ⟨_, _, b, off, hA, hc⟩ := hR4.below (bnext hbW hbr)
        obtain rfl := hA (by omega)
        obtain ⟨p1, p2, p3, p4, hRt, e0, e1, e2, e3, e4, e5⟩ := hc k hkl
        have hi' := hi.out
        rw [dropStep hkl] at hi'
        have hin := hrts.out l.routes[k] (List.getElem_mem _)
        clear hc hA hi hR4 hrts
        generalize l.routes[k] = x at *
        have HFO2 := Lib.hid (fun W2 (hb2 : Below wr.heap.size wr W2) => HFO.out W2 (bnext (bnext hbW hbr) hb2) x p1 p2 p3 p4 (hRt.below hb2) hin)
        rw [← formed_eq] at HFO2
        clear HFO hRt hin
        unfold rtv Hd.v at HFO2
        unfold Hd.v at e2 e3 e4 e5
        obtain ⟨q1, q2, q3⟩ := p1
        obtain ⟨y1, y2, y3⟩ := p2
        obtain ⟨z1, z2, z3⟩ := p3
        obtain ⟨v1, v2, v3⟩ := p4
        dsimp only at *
        have l9 := World.block_lt_of_cell? _ _ e0
        simp only at l9
        cases hf : formedB l x
        all_goals rw [hf] at HFO2
        · have hfin : Hid (checkB l = (50, (k : Int))) := by rw [hCB2.out, ← hi']; simp [idxFrom, hf]; trivial
          clear hi' hf hCB2
          go_upto_region 6 with (fail)
          refine wp_region_calm (by kernel_rfl) (by kernel_rfl) ?_
          repeat (first | go_big_quiet_skip | (go_big_quiet_want; go_big_quiet_op; first | go_big_quiet_on | (apply Exists.intro; refine ⟨fun W1 hW1 => ?_, ?_⟩; (first | exact rfl | (go_at_call 75; exact calm_call (HFO2.out _ hW1) hW1 (fun _ _ h => h)) | (have hcc := bcells hW1; go_simp; rfl)); go_big_quiet_on)))
          refine wpQuiet_nil ?_
          intro W3 hW3
          go_wp2
          go_ret2
          rw [hfin.out]; exact ⟨rfl, bnext hbW (bnext hbr hW3)⟩
        · have hfin : Hid (idxFrom (fun r => !formedB l r) (l.routes.drop (k + 1)) (k + 1) = idxFrom (fun r => !formedB l r) l.routes 0) := by rw [← hi']; simp [idxFrom, hf]; trivial
          clear hi' hf hCB2
          go_upto_region 6 with (fail)
          refine wp_region_calm (by kernel_rfl) (by kernel_rfl) ?_
          repeat (first | go_big_quiet_skip | (go_big_quiet_want; go_big_quiet_op; first | go_big_quiet_on | (apply Exists.intro; refine ⟨fun W1 hW1 => ?_, ?_⟩; (first | exact rfl | (go_at_call 75; exact calm_call (HFO2.out _ hW1) hW1 (fun _ _ h => h)) | (have hcc := bcells hW1; go_simp; rfl)); go_big_quiet_on)))
          refine wpQuiet_nil ?_
          intro W3 hW3
          go_wp2
          go_roundw
          case rel => exact ⟨k + 1, by omega, by go_num, hfin, bnext hb hW3⟩
          case measure => simp [intOf]; omega
      · have hN : Hid (checkB l = (0, 0)) := by rw [hCB2.out, ← hi.out, dropEnd (by omega)]; rfl
        clear hi HFO hCB2 hrts
        go_wp2
        go_ret2
        rw [hN.out]; exact ⟨rfl, bnext hbW hbr⟩
end Go.Proofs.Ytmoccpbiogdbgaa
