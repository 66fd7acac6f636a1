/-
  The walk of the reference's May.
-/
import Derived.Test.YtmoccpbiogdbgaaW11
import Derived.Test.YtmoccpbiogdbgaaLoose
import Derived.Deep.RegionHeld3
import Derived.Handy
namespace Go.Proofs.Ytmoccpbiogdbgaa
open Go.RowKit Go.Shelf

theorem RStrs_take {w W : World} {A : Option Addr} {n : Nat} {xs : List ByteArray} (h : RStrs w A n xs) (hb : Below w.heap.size w W) (k : Nat) (hk : k ≤ n) : RStrs W A k (xs.take k) := by
  obtain ⟨h1, h2, h3, b, off, hA, hc⟩ := h.below hb
  exact ⟨by simp; omega, by omega, fun s hs => h3 s (List.mem_of_mem_take hs), b, off, fun h => hA (by omega), fun i hi => by simp at hi; simpa using hc i (by omega)⟩
theorem below_drew' {w W : World} (h : Below w.drew.heap.size w.drew W) : Below w.heap.size w W := ⟨h.os, h.tape, h.output, h.size, h.block⟩

set_option maxRecDepth 10000 in
set_option maxHeartbeats 4000000 in
theorem refmay_any (s p g r : Hd) (l : Ly) (w : World) (hx : RLy w s p g r l) :
    Calls Try.prog 74 #[lyv s p g r] w (RetB (refMayB l) w) := by
  have hx0 := hx
  obtain ⟨hok, hR1, hR2, hR3, hR4⟩ := hx
  have hs1 := hR1.1
  have hs2 := hR2.1
  have hs3 := hR3.1
  have hs4 := hR4.1
  have HFU := Lib.hid (fun W (hb : Below w.heap.size w W) => full_any s p g r l W (hx0.below hb))
  have HNA := Lib.hid (fun W (hb : Below w.heap.size w W) => names04_any s p g r l W (hx0.below hb))
  have hMAY : Hid (refMayB l = (!fullB l && (okNames [] (namesOf l) && (l.points.all (secIn l.sections.length) && (l.signals.all (secIn l.sections.length) && l.routes.all (rtIn l)))))) := rfl
  unfold lyv Hd.v at *
  obtain ⟨sA, sn, sc⟩ := s
  obtain ⟨pA, pn, pc⟩ := p
  obtain ⟨gA, gn, gc⟩ := g
  obtain ⟨rA, rn, rc⟩ := r
  dsimp only at *
  clear hx0
  go_enter Try.func74, Try.ntmps74
  go_upto_region 1 with (fail)
  refine name_box (fun W hbW hlt0 hbox => ?_)
  have B0 : W.cell? ⟨w.heap.size, 0, none⟩ = some (.slice sA sn sc) := hbox 0 _ rfl
  have B1 : W.cell? ⟨w.heap.size, 1, none⟩ = some (.slice pA pn pc) := hbox 1 _ rfl
  have B2 : W.cell? ⟨w.heap.size, 2, none⟩ = some (.slice gA gn gc) := hbox 2 _ rfl
  have B3 : W.cell? ⟨w.heap.size, 3, none⟩ = some (.slice rA rn rc) := hbox 3 _ rfl
  clear hbox
  have hF := HFU.out W hbW
  cases hfull : fullB l
  all_goals rw [hfull] at hF hMAY
  all_goals have HF := Lib.hid hF
  all_goals clear hF HFU
  rotate_left
  · have hfin : Hid (refMayB l = false) := by rw [hMAY.out]; rfl
    clear hMAY hfull
    go_wp2_with (go_at_call 122; with_reducible refine Calls.mono HF.out ?_)
    rintro e w1 ⟨rfl, hb1⟩
    go_wp2
    go_ret
    rw [hfin.out]; exact ⟨rfl, bnext hbW hb1⟩
  have hsm : l.sections.length ≤ 64 ∧ l.points.length ≤ 32 ∧ l.signals.length ≤ 32 ∧ l.routes.length ≤ 64 := by
    simp [fullB] at hfull; omega
  clear hfull
  go_wp2_with (go_at_call 122; with_reducible refine Calls.mono HF.out ?_)
  rintro e w1 ⟨rfl, hb1⟩
  have hcc := bcells hb1
  have HN := Lib.hid (HNA.out w1 (bnext hbW hb1) ⟨by omega, by omega, by omega, by omega⟩)
  have hf1 : sn ≤ 64 := by omega
  have hf2 : pn ≤ 32 := by omega
  have hf3 : gn ≤ 32 := by omega
  have hf4 : rn ≤ 64 := by omega
  clear HNA HF
  go_wp2_with (go_at_call 123; with_reducible refine Calls.mono HN.out ?_)
  rintro e w2 ⟨nA, nn, nc, rfl, hle, hb2, hNR⟩
  clear HN hcc
  have hb2 := bnext hb1 hb2
  have c1 := bcell hb2 B1
  have hNl := hNR.1
  go_wp2_with fail
  go_loopw [4] (fun i wr => ∃ k : Nat, k ≤ nn ∧ i = .int .i64 k ∧ Hid (okNames ((namesOf l).take k) ((namesOf l).drop k) = okNames [] (namesOf l)) ∧ Below w2.heap.size w2 wr) (fun i _ => nn - (intOf i).toNat)
  case atStart => exact ⟨0, Nat.zero_le _, rfl, rfl, Below.refl _ _⟩
  case round =>
    obtain ⟨k, hk, rfl, hi, hb⟩ := hrel
    have hbr := bnext hb2 hb
    have hmx := hNR.2.1
    by_cases hlt : k < nn
    · have hkl : k < (namesOf l).length := by omega
      have hT := RStrs_take hNR hb k (by omega)
      obtain ⟨_, _, hsz, b, off, hA, hc⟩ := hNR.below hb
      obtain rfl := hA (by omega)
      have e0 := hc k hkl
      have hl0 := World.block_lt_of_cell? wr _ e0
      simp only at hl0
      have hszx := hsz _ (List.getElem_mem hkl)
      have hi' := hi.out
      rw [okNames_step _ k hkl] at hi'
      have hck : k ≤ nc := by omega
      have hhs := findFrom_hasS (namesOf l)[k] ((namesOf l).take k)
      clear hc hA hsz hi hNR hR1 hR2 hR3 hR4 c1
      generalize (namesOf l)[k] = x at *
      have HR := Lib.hid (fun V => refright_any x V hszx)
      have HFI := Lib.hid (fun V (hv : Below wr.heap.size wr V) => find_any (some ⟨b, off, none⟩) k nc ((namesOf l).take k) x V (hT.below hv))
      cases hr : rightB x
      all_goals rw [hr] at HR
      · have hfin : Hid (refMayB l = false) := by rw [hMAY.out, ← hi', hr]; rfl
        clear hi' hMAY hhs HFI hr
        go_upto_region 7 with (fail)
        refine wp_region_calm (by kernel_rfl) (by kernel_rfl) ?_
        repeat (first | go_big_quiet_skip | (go_big_quiet_want; go_big_quiet_op; first | go_big_quiet_on | (apply Exists.intro; refine ⟨fun W1 hW1 => ?_, ?_⟩; (first | exact rfl | (go_at_call 124; exact calm_call (HR.out _) hW1 (fun _ _ h => h)) | (have hcc := bcells hW1; go_simp; rfl)); go_big_quiet_on)))
        refine wpQuiet_nil ?_
        intro W3 hW3
        go_wp2
        go_ret
        rw [hfin.out]; exact ⟨rfl, bnext hbW (bnext hbr hW3)⟩
      · generalize findFrom x ((namesOf l).take k) 0 = fr at *
        cases hh : hasS x ((namesOf l).take k)
        all_goals rw [hh] at hhs
        · have hfin : Hid (okNames ((namesOf l).take (k + 1)) ((namesOf l).drop (k + 1)) = okNames [] (namesOf l)) := by rw [← hi', hr]; simp [hh]; trivial
          clear hi' hr hh
          go_upto_region 7 with (fail)
          refine wp_region_calm (by kernel_rfl) (by kernel_rfl) ?_
          repeat (first | go_big_quiet_skip | (go_big_quiet_want; go_big_quiet_op; first | go_big_quiet_on | (apply Exists.intro; refine ⟨fun W1 hW1 => ?_, ?_⟩; (first | exact rfl | (go_at_call 124; exact calm_call (HR.out _) hW1 (fun _ _ h => h)) | (go_at_call 125; exact calm_call (HFI.out _ hW1) hW1 (fun _ _ h => ⟨h.1, h.2 ▸ Below.refl _ _⟩)) | (have hcc := bcells hW1; go_simp; rfl)); go_big_quiet_on)))
          refine wpQuiet_nil ?_
          intro W3 hW3
          go_wp2
          go_roundw
          case rel => exact ⟨k + 1, by omega, by go_num, hfin, bnext hb hW3⟩
          case measure => simp [intOf]; omega
        · have hfin : Hid (refMayB l = false) := by rw [hMAY.out, ← hi', hr]; simp [hh]; trivial
          clear hi' hMAY hr hh
          go_upto_region 7 with (fail)
          refine wp_region_calm (by kernel_rfl) (by kernel_rfl) ?_
          repeat (first | go_big_quiet_skip | (go_big_quiet_want; go_big_quiet_op; first | go_big_quiet_on | (apply Exists.intro; refine ⟨fun W1 hW1 => ?_, ?_⟩; (first | exact rfl | (go_at_call 124; exact calm_call (HR.out _) hW1 (fun _ _ h => h)) | (go_at_call 125; exact calm_call (HFI.out _ hW1) hW1 (fun _ _ h => ⟨h.1, h.2 ▸ Below.refl _ _⟩)) | (have hcc := bcells hW1; go_simp; rfl)); go_big_quiet_on)))
          refine wpQuiet_nil ?_
          intro W3 hW3
          go_wp2
          go_ret
          rw [hfin.out]; exact ⟨rfl, bnext hbW (bnext hbr hW3)⟩
    · have hNok : Hid (okNames [] (namesOf l) = true) := by rw [← hi.out, dropEnd (by omega)]; rfl
      clear hi hNR hmx
      have hN := hMAY.out
      rw [hNok.out] at hN
      have hMAY2 : Hid (refMayB l = (l.points.all (secIn l.sections.length) && (l.signals.all (secIn l.sections.length) && l.routes.all (rtIn l)))) := by rw [hN]; simp; trivial
      clear hN hMAY hNok
      have c1 := bcell hbr B1
      go_wp2_with fail
      go_loopw [5] (fun i wq => ∃ k : Nat, k ≤ pn ∧ i = .int .i64 k ∧ Hid ((l.points.drop k).all (secIn l.sections.length) = l.points.all (secIn l.sections.length)) ∧ Below w2.heap.size w2 wq) (fun i _ => pn - (intOf i).toNat)
      case atStart => exact ⟨0, Nat.zero_le _, rfl, rfl, hb⟩
      case round =>
        clear c1 hbr hb
        obtain ⟨k, hk, rfl, hi, hb⟩ := hrel
        have hbr := bnext hb2 hb
        have c1 := bcell hbr B1
        have c0 := bcell hbr B0
        by_cases hlt : k < pn
        · have hkl : k < l.points.length := by omega
          obtain ⟨_, _, _, b, off, hA, hc⟩ := hR2.below (bnext hbW hbr)
          obtain rfl := hA (by omega)
          have e1 := (hc k hkl).2
          have hi' := hi.out
          rw [dropStep hkl, List.all_cons] at hi'
          clear hc hA hi hR1 hR2 hR3 hR4
          generalize l.points[k] = x at *
          have hl0 := World.block_lt_of_cell? _ _ e1
          have hl1 := World.block_lt_of_cell? _ _ c0
          simp only at hl0 hl1
          have HB := Lib.hid (fun (V : World) (blk : Nat) (h : V.cell? ⟨blk, 0, none⟩ = some (.int .i64 x.sec)) => in04_any sn (some ⟨blk, 0, none⟩) 1 1 [x.sec] V ⟨rfl, by omega, blk, 0, fun _ => rfl, fun i hi => by simp at hi; subst hi; exact h⟩)
          have hin1 : inB sn [x.sec] = secIn l.sections.length x := by rw [hs1]; simp [inB, secIn]
          rw [hin1] at HB
          clear hin1
          cases hin : secIn l.sections.length x
          all_goals rw [hin] at HB
          · have hfin : Hid (refMayB l = false) := by rw [hMAY2.out, ← hi', hin]; rfl
            clear hi' hin hMAY2
            go_upto_region 12 with (fail)
            go_region_held3 (fun V => V.cell? ⟨w.heap.size, 0, none⟩ = some (.slice sA sn sc) ∧ V.cell? ⟨w.heap.size, 1, none⟩ = some (.slice (some ⟨b, off, none⟩) pn pc) ∧ V.cell? ⟨b, off + k * 2 + 1, none⟩ = some (.int .i64 x.sec)) (go_keep)
              (first | (go_at_call 126; refine Calls.mono (HB.out _ _ ?_) ?_; (go_simp); rintro e w1 ⟨rfl, rfl⟩))

            all_goals go_wp2
            all_goals go_ret
            all_goals (rw [hfin.out]; exact ⟨rfl, bnext hbW (bnext hbr ((Below.refl _ _).alloc (Nat.le_refl _) _).drew)⟩)
          · have hfin : Hid ((l.points.drop (k + 1)).all (secIn l.sections.length) = l.points.all (secIn l.sections.length)) := by rw [← hi', hin]; simp; trivial
            clear hi' hin
            go_upto_region 12 with (fail)
            go_region_held3 (fun V => V.cell? ⟨w.heap.size, 0, none⟩ = some (.slice sA sn sc) ∧ V.cell? ⟨w.heap.size, 1, none⟩ = some (.slice (some ⟨b, off, none⟩) pn pc) ∧ V.cell? ⟨b, off + k * 2 + 1, none⟩ = some (.int .i64 x.sec)) (go_keep)
              (first | (go_at_call 126; refine Calls.mono (HB.out _ _ ?_) ?_; (go_simp); rintro e w1 ⟨rfl, rfl⟩))

            all_goals go_wp2
            all_goals go_roundw
            case rel => exact ⟨k + 1, by omega, by go_num, hfin, bnext hb ((Below.refl _ _).alloc (Nat.le_refl _) _).drew⟩
            case measure => simp [intOf]; omega
        · have hNok : Hid (l.points.all (secIn l.sections.length) = true) := by rw [← hi.out, dropEnd (by omega)]; rfl
          have hN := hMAY2.out
          rw [hNok.out] at hN
          have hMAY3 : Hid (refMayB l = (l.signals.all (secIn l.sections.length) && l.routes.all (rtIn l))) := by rw [hN]; simp; trivial
          clear hN hMAY2 hNok hi
          have c2 := bcell hbr B2
          go_wp2_with fail
          go_loopw [6] (fun i wq => ∃ k : Nat, k ≤ gn ∧ i = .int .i64 k ∧ Hid ((l.signals.drop k).all (secIn l.sections.length) = l.signals.all (secIn l.sections.length)) ∧ Below w2.heap.size w2 wq) (fun i _ => gn - (intOf i).toNat)
          case atStart => exact ⟨0, Nat.zero_le _, rfl, rfl, hb⟩
          case round =>
            clear c2 hbr hb
            obtain ⟨k, hk, rfl, hi, hb⟩ := hrel
            have hbr := bnext hb2 hb
            have c2 := bcell hbr B2
            have c0 := bcell hbr B0
            by_cases hlt : k < gn
            · have hkl : k < l.signals.length := by omega
              obtain ⟨_, _, _, b, off, hA, hc⟩ := hR3.below (bnext hbW hbr)
              obtain rfl := hA (by omega)
              have e1 := (hc k hkl).2
              have hi' := hi.out
              rw [dropStep hkl, List.all_cons] at hi'
              clear hc hA hi hR1 hR2 hR3 hR4
              generalize l.signals[k] = x at *
              have hl0 := World.block_lt_of_cell? _ _ e1
              have hl1 := World.block_lt_of_cell? _ _ c0
              simp only at hl0 hl1
              have HB := Lib.hid (fun (V : World) (blk : Nat) (h : V.cell? ⟨blk, 0, none⟩ = some (.int .i64 x.sec)) => in04_any sn (some ⟨blk, 0, none⟩) 1 1 [x.sec] V ⟨rfl, by omega, blk, 0, fun _ => rfl, fun i hi => by simp at hi; subst hi; exact h⟩)
              have hin1 : inB sn [x.sec] = secIn l.sections.length x := by rw [hs1]; simp [inB, secIn]
              rw [hin1] at HB
              clear hin1
              cases hin : secIn l.sections.length x
              all_goals rw [hin] at HB
              · have hfin : Hid (refMayB l = false) := by rw [hMAY3.out, ← hi', hin]; rfl
                clear hi' hin hMAY3
                go_upto_region 17 with (fail)
                go_region_held3 (fun V => V.cell? ⟨w.heap.size, 0, none⟩ = some (.slice sA sn sc) ∧ V.cell? ⟨w.heap.size, 2, none⟩ = some (.slice (some ⟨b, off, none⟩) gn gc) ∧ V.cell? ⟨b, off + k * 2 + 1, none⟩ = some (.int .i64 x.sec)) (go_keep)
                  (first | (go_at_call 126; refine Calls.mono (HB.out _ _ ?_) ?_; (go_simp); rintro e w1 ⟨rfl, rfl⟩))

                all_goals go_wp2
                all_goals go_ret
                all_goals (rw [hfin.out]; exact ⟨rfl, bnext hbW (bnext hbr ((Below.refl _ _).alloc (Nat.le_refl _) _).drew)⟩)
              · have hfin : Hid ((l.signals.drop (k + 1)).all (secIn l.sections.length) = l.signals.all (secIn l.sections.length)) := by rw [← hi', hin]; simp; trivial
                clear hi' hin
                go_upto_region 17 with (fail)
                go_region_held3 (fun V => V.cell? ⟨w.heap.size, 0, none⟩ = some (.slice sA sn sc) ∧ V.cell? ⟨w.heap.size, 2, none⟩ = some (.slice (some ⟨b, off, none⟩) gn gc) ∧ V.cell? ⟨b, off + k * 2 + 1, none⟩ = some (.int .i64 x.sec)) (go_keep)
                  (first | (go_at_call 126; refine Calls.mono (HB.out _ _ ?_) ?_; (go_simp); rintro e w1 ⟨rfl, rfl⟩))

                all_goals go_wp2
                all_goals go_roundw
                case rel => exact ⟨k + 1, by omega, by go_num, hfin, bnext hb ((Below.refl _ _).alloc (Nat.le_refl _) _).drew⟩
                case measure => simp [intOf]; omega
            · have hNok : Hid (l.signals.all (secIn l.sections.length) = true) := by rw [← hi.out, dropEnd (by omega)]; rfl
              have hN := hMAY3.out
              rw [hNok.out] at hN
              have hMAY4 : Hid (refMayB l = l.routes.all (rtIn l)) := by rw [hN]; simp; trivial
              clear hN hMAY3 hNok hi
              have c3 := bcell hbr B3
              go_wp2_with fail
              go_loopw [7] (fun i wq => ∃ k : Nat, k ≤ rn ∧ i = .int .i64 k ∧ Hid ((l.routes.drop k).all (rtIn l) = l.routes.all (rtIn l)) ∧ Below w2.heap.size w2 wq) (fun i _ => rn - (intOf i).toNat)
              case atStart => exact ⟨0, Nat.zero_le _, rfl, rfl, hb⟩
              case round =>
                clear c3 hbr hb
                obtain ⟨k, hk, rfl, hi, hb⟩ := hrel
                have hbr := bnext hb2 hb
                have c3 := bcell hbr B3
                have c0 := bcell hbr B0
                have c1 := bcell hbr B1
                have c2 := bcell hbr B2
                by_cases hlt : k < rn
                · have hkl : k < l.routes.length := by omega
                  obtain ⟨_, _, b, off, hA, hc⟩ := hR4.below (bnext hbW hbr)
                  obtain rfl := hA (by omega)
                  obtain ⟨p1, p2, p3, p4, hRt, e0, e1, e2, e3, e4, e5⟩ := hc k hkl
                  have hi' := hi.out
                  rw [dropStep hkl, List.all_cons] at hi'
                  clear hc hA hi hR1 hR2 hR3 hR4
                  generalize l.routes[k] = x at *
                  unfold Hd.v at e2 e3 e4 e5
                  go_upto_region 23 with (fail)
                  refine name_box (fun W1 hb1 hlt1 hbox => ?_)
                  have d1 : W1.cell? ⟨wr.heap.size, 1, none⟩ = some (.int .i64 x.sig) := hbox 1 _ rfl
                  have d2 : W1.cell? ⟨wr.heap.size, 2, none⟩ = some (.slice p1.A p1.n p1.c) := hbox 2 _ rfl
                  have d3 : W1.cell? ⟨wr.heap.size, 3, none⟩ = some (.slice p2.A p2.n p2.c) := hbox 3 _ rfl
                  have d4 : W1.cell? ⟨wr.heap.size, 4, none⟩ = some (.slice p3.A p3.n p3.c) := hbox 4 _ rfl
                  have d5 : W1.cell? ⟨wr.heap.size, 5, none⟩ = some (.slice p4.A p4.n p4.c) := hbox 5 _ rfl
                  have f0 := bcell hb1 c0
                  have f1 := bcell hb1 c1
                  have f2 := bcell hb1 c2
                  have hRt1 := hRt.below hb1
                  have hq0 := World.block_lt_of_cell? W1 _ f0
                  simp only at hq0
                  have hq3 : wr.heap.size < W1.heap.size := hlt1
                  have hq1 : w.heap.size < W1.heap.size + 1 := by omega
                  have hq2 : wr.heap.size < W1.heap.size + 1 := by omega
                  clear hbox c0 c1 c2 c3 e0 e1 e2 e3 e4 e5 hRt
                  have H0 := Lib.hid (fun (V : World) (blk : Nat) (h : V.cell? ⟨blk, 0, none⟩ = some (.int .i64 x.sig)) => in04_any gn (some ⟨blk, 0, none⟩) 1 1 [x.sig] V ⟨rfl, by omega, blk, 0, fun _ => rfl, fun i hi => by simp at hi; subst hi; exact h⟩)
                  have hin1 : inB gn [x.sig] = inR gn [x.sig] := by simp [inB]
                  rw [hin1] at H0
                  clear hin1
                  have H1 := Lib.hid (fun (V : World) (hv : Below W1.heap.size W1 V) => in04_any sn p1.A p1.n p1.c x.path V (hRt1.2.2.1.below hv))
                  have H2 := Lib.hid (fun (V : World) (hv : Below W1.heap.size W1 V) => in04_any sn p3.A p3.n p3.c x.overlap V (hRt1.2.2.2.2.1.below hv))
                  have P2 := Lib.hid (fun (V : World) (hv : Below W1.heap.size W1 V) => points04_any p2.A p2.n p2.c x.points V (hRt1.2.2.2.1.below hv))
                  have P4 := Lib.hid (fun (V : World) (hv : Below W1.heap.size W1 V) => points04_any p4.A p4.n p4.c x.flank V (hRt1.2.2.2.2.2.below hv))
                  have H3 := Lib.hid (fun (V : World) A n c (hv : RInts V A n (ptsOf (x.points.take 17))) => in04_any pn A n c _ V hv)
                  have H4 := Lib.hid (fun (V : World) A n c (hv : RInts V A n (ptsOf (x.flank.take 17))) => in04_any pn A n c _ V hv)
                  rw [inB_take17] at H3 H4
                  have hrt : Hid (rtIn l x = (inR gn [x.sig] && (inB sn x.path && (inB sn x.overlap && (inB pn (ptsOf x.points) && inB pn (ptsOf x.flank)))))) := by rw [← hs1, ← hs2, ← hs3]; rfl
                  cases q0 : inR gn [x.sig]
                  · rw [q0] at H0
                    have hfin : Hid (refMayB l = false) := by rw [hMAY4.out, ← hi', hrt.out, q0]; rfl
                    clear hi' hMAY4 q0
                    clear hrt
                    refine wp_region_loose (lk [ex (.pointer (some ⟨wr.heap.size, 1, none⟩)), ex (.int .i64 x.sig), oneI (x.sig), ex (.pointer (some ⟨w.heap.size, 2, none⟩)), ex (.slice gA gn gc), ex (.int .i64 gn), ex (.bool false), ex (.bool true), ex (.bool true), nof, nof, nof, nof, nof, nof, nof, ex (.bool true), ex (.bool true), nof, nof, nof, nof, nof, nof, nof, ex (.bool true), ex (.bool true), nof, nof, nof, nof, nof, nof, nof, nof, ex (.bool true), ex (.bool true), nof, nof, nof, nof, nof, nof, nof, nof, ex (.bool true)] 86) (by kernel_rfl) (by kernel_rfl) (lk_stab ⟨stab_ex, stab_ex, stab_oneI, stab_ex, stab_ex, stab_ex, stab_ex, stab_ex, stab_ex, stab_no, stab_no, stab_no, stab_no, stab_no, stab_no, stab_no, stab_ex, stab_ex, stab_no, stab_no, stab_no, stab_no, stab_no, stab_no, stab_no, stab_ex, stab_ex, stab_no, stab_no, stab_no, stab_no, stab_no, stab_no, stab_no, stab_no, stab_ex, stab_ex, stab_no, stab_no, stab_no, stab_no, stab_no, stab_no, stab_no, stab_no, stab_ex, trivial⟩) (loose_start ?_)
                    apply loose_q 86
                    · intro W2 hk; have hcc := bcells hk.1; go_big_quiet_op; first | exact rfl | (apply Exists.intro; refine ⟨fun W3 hW3 => ?_, ?_⟩; (first | exact rfl | (have hcc3 := bcells (bnext hk.1 hW3); go_simp; rfl)); exact rfl)
                    · exact rfl
                    · exact rfl
                    · kernel_rfl
                    · kernel_rfl
                    · exact fun v W => Iff.rfl
                    · rfl
                    apply loose_q 87
                    · intro W2 hk; have hcc := bcells hk.1; go_big_quiet_op; first | exact rfl | (apply Exists.intro; refine ⟨fun W3 hW3 => ?_, ?_⟩; (first | exact rfl | (have hcc3 := bcells (bnext hk.1 hW3); go_simp; rfl)); exact rfl)
                    · exact rfl
                    · exact rfl
                    · kernel_rfl
                    · kernel_rfl
                    · exact fun v W => Iff.rfl
                    · rfl
                    refine loose_f 88 rfl rfl (by kernel_rfl) (by kernel_rfl) (fun W2 hk => ?_) ?_
                    · refine loose_run1 (oneI (x.sig)) (.tmp 87) (.int .i64 (x.sig)) rfl (fun _ _ h => h) fun ev hev hx => ?_; simp [go_sem, hx]; exact ⟨(Below.refl _ _).alloc (Nat.le_refl _) _, _, rfl, by go_simp⟩
                    rintro v88 W2 hv88 a1 ha1
                    simp [go_sem] at ha1
                    subst ha1
                    apply loose_q 89
                    · intro W2 hk; have hcc := bcells hk.1; go_big_quiet_op; first | exact rfl | (apply Exists.intro; refine ⟨fun W3 hW3 => ?_, ?_⟩; (first | exact rfl | (have hcc3 := bcells (bnext hk.1 hW3); go_simp; rfl)); exact rfl)
                    · exact rfl
                    · exact rfl
                    · kernel_rfl
                    · kernel_rfl
                    · exact fun v W => Iff.rfl
                    · rfl
                    apply loose_q 90
                    · intro W2 hk; have hcc := bcells hk.1; go_big_quiet_op; first | exact rfl | (apply Exists.intro; refine ⟨fun W3 hW3 => ?_, ?_⟩; (first | exact rfl | (have hcc3 := bcells (bnext hk.1 hW3); go_simp; rfl)); exact rfl)
                    · exact rfl
                    · exact rfl
                    · kernel_rfl
                    · kernel_rfl
                    · exact fun v W => Iff.rfl
                    · rfl
                    apply loose_q 91
                    · intro W2 hk; have hcc := bcells hk.1; go_big_quiet_op; first | exact rfl | (apply Exists.intro; refine ⟨fun W3 hW3 => ?_, ?_⟩; (first | exact rfl | (have hcc3 := bcells (bnext hk.1 hW3); go_simp; rfl)); exact rfl)
                    · exact rfl
                    · exact rfl
                    · kernel_rfl
                    · kernel_rfl
                    · exact fun v W => Iff.rfl
                    · rfl
                    apply loose_q 92
                    · intro W2 hk; have hcc := bcells hk.1; go_big_quiet_op; first | exact rfl | (apply Exists.intro; refine ⟨fun W3 hW3 => ?_, ?_⟩; (first | (obtain ⟨b8, e8, hc8⟩ : oneI x.sig v88 W2 := hk.2 88 (by unfold inL; decide) (by decide); rw [e8]; go_at_call 126; exact calm_call (H0.out W3 b8 (bcell hW3 hc8)) hW3 (fun _ _ h => ⟨h.1, h.2 ▸ Below.refl _ _⟩)) | (have hcc3 := bcells (bnext hk.1 hW3); go_simp; rfl)); exact rfl)
                    · exact rfl
                    · exact rfl
                    · kernel_rfl
                    · kernel_rfl
                    · exact fun v W => Iff.rfl
                    · rfl
                    apply loose_q 93
                    · intro W2 hk; have hcc := bcells hk.1; go_big_quiet_op; first | exact rfl | (apply Exists.intro; refine ⟨fun W3 hW3 => ?_, ?_⟩; (first | exact rfl | (have hcc3 := bcells (bnext hk.1 hW3); go_simp; rfl)); exact rfl)
                    · exact rfl
                    · exact rfl
                    · kernel_rfl
                    · kernel_rfl
                    · exact fun v W => Iff.rfl
                    · rfl
                    apply loose_q 94
                    · intro W2 hk; have hcc := bcells hk.1; go_big_quiet_op; first | exact rfl | (apply Exists.intro; refine ⟨fun W3 hW3 => ?_, ?_⟩; (first | exact rfl | (have hcc3 := bcells (bnext hk.1 hW3); go_simp; rfl)); exact rfl)
                    · exact rfl
                    · exact rfl
                    · kernel_rfl
                    · kernel_rfl
                    · exact fun v W => Iff.rfl
                    · rfl
                    refine loose_no 95 rfl rfl (by kernel_rfl) ?_
                    intro a1 ha1
                    simp [go_sem] at ha1
                    subst ha1
                    refine loose_no 96 rfl rfl (by kernel_rfl) ?_
                    intro a1 ha1
                    simp [go_sem] at ha1
                    subst ha1
                    refine loose_no 97 rfl rfl (by kernel_rfl) ?_
                    intro a1 ha1
                    simp [go_sem] at ha1
                    subst ha1
                    refine loose_no 98 rfl rfl (by kernel_rfl) ?_
                    intro a1 ha1
                    simp [go_sem] at ha1
                    subst ha1
                    refine loose_no 99 rfl rfl (by kernel_rfl) ?_
                    intro a1 ha1
                    simp [go_sem] at ha1
                    subst ha1
                    refine loose_no 100 rfl rfl (by kernel_rfl) ?_
                    intro a1 ha1
                    simp [go_sem] at ha1
                    subst ha1
                    refine loose_no 101 rfl rfl (by kernel_rfl) ?_
                    intro a1 ha1
                    simp [go_sem] at ha1
                    subst ha1
                    apply loose_q 102
                    · intro W2 hk; have hcc := bcells hk.1; go_big_quiet_op; first | exact rfl | (apply Exists.intro; refine ⟨fun W3 hW3 => ?_, ?_⟩; (first | exact rfl | (have hcc3 := bcells (bnext hk.1 hW3); go_simp; rfl)); exact rfl)
                    · exact rfl
                    · exact rfl
                    · kernel_rfl
                    · kernel_rfl
                    · exact fun v W => Iff.rfl
                    · rfl
                    apply loose_q 103
                    · intro W2 hk; have hcc := bcells hk.1; go_big_quiet_op; first | exact rfl | (apply Exists.intro; refine ⟨fun W3 hW3 => ?_, ?_⟩; (first | exact rfl | (have hcc3 := bcells (bnext hk.1 hW3); go_simp; rfl)); exact rfl)
                    · exact rfl
                    · exact rfl
                    · kernel_rfl
                    · kernel_rfl
                    · exact fun v W => Iff.rfl
                    · rfl
                    refine loose_no 104 rfl rfl (by kernel_rfl) ?_
                    intro a1 ha1
                    simp [go_sem] at ha1
                    subst ha1
                    refine loose_no 105 rfl rfl (by kernel_rfl) ?_
                    intro a1 ha1
                    simp [go_sem] at ha1
                    subst ha1
                    refine loose_no 106 rfl rfl (by kernel_rfl) ?_
                    intro a1 ha1
                    simp [go_sem] at ha1
                    subst ha1
                    refine loose_no 107 rfl rfl (by kernel_rfl) ?_
                    intro a1 ha1
                    simp [go_sem] at ha1
                    subst ha1
                    refine loose_no 108 rfl rfl (by kernel_rfl) ?_
                    intro a1 ha1
                    simp [go_sem] at ha1
                    subst ha1
                    refine loose_no 109 rfl rfl (by kernel_rfl) ?_
                    intro a1 ha1
                    simp [go_sem] at ha1
                    subst ha1
                    refine loose_no 110 rfl rfl (by kernel_rfl) ?_
                    intro a1 ha1
                    simp [go_sem] at ha1
                    subst ha1
                    apply loose_q 111
                    · intro W2 hk; have hcc := bcells hk.1; go_big_quiet_op; first | exact rfl | (apply Exists.intro; refine ⟨fun W3 hW3 => ?_, ?_⟩; (first | exact rfl | (have hcc3 := bcells (bnext hk.1 hW3); go_simp; rfl)); exact rfl)
                    · exact rfl
                    · exact rfl
                    · kernel_rfl
                    · kernel_rfl
                    · exact fun v W => Iff.rfl
                    · rfl
                    apply loose_q 112
                    · intro W2 hk; have hcc := bcells hk.1; go_big_quiet_op; first | exact rfl | (apply Exists.intro; refine ⟨fun W3 hW3 => ?_, ?_⟩; (first | exact rfl | (have hcc3 := bcells (bnext hk.1 hW3); go_simp; rfl)); exact rfl)
                    · exact rfl
                    · exact rfl
                    · kernel_rfl
                    · kernel_rfl
                    · exact fun v W => Iff.rfl
                    · rfl
                    refine loose_no 113 rfl rfl (by kernel_rfl) ?_
                    intro a1 ha1
                    simp [go_sem] at ha1
                    subst ha1
                    refine loose_no 114 rfl rfl (by kernel_rfl) ?_
                    intro a1 ha1
                    simp [go_sem] at ha1
                    subst ha1
                    refine loose_no 115 rfl rfl (by kernel_rfl) ?_
                    intro a1 ha1
                    simp [go_sem] at ha1
                    subst ha1
                    refine loose_no 116 rfl rfl (by kernel_rfl) ?_
                    intro a1 ha1
                    simp [go_sem] at ha1
                    subst ha1
                    refine loose_no 117 rfl rfl (by kernel_rfl) ?_
                    intro a1 ha1
                    simp [go_sem] at ha1
                    subst ha1
                    refine loose_no 118 rfl rfl (by kernel_rfl) ?_
                    intro a1 ha1
                    simp [go_sem] at ha1
                    subst ha1
                    refine loose_no 119 rfl rfl (by kernel_rfl) ?_
                    intro a1 ha1
                    simp [go_sem] at ha1
                    subst ha1
                    refine loose_no 120 rfl rfl (by kernel_rfl) ?_
                    intro a1 ha1
                    simp [go_sem] at ha1
                    subst ha1
                    apply loose_q 121
                    · intro W2 hk; have hcc := bcells hk.1; go_big_quiet_op; first | exact rfl | (apply Exists.intro; refine ⟨fun W3 hW3 => ?_, ?_⟩; (first | exact rfl | (have hcc3 := bcells (bnext hk.1 hW3); go_simp; rfl)); exact rfl)
                    · exact rfl
                    · exact rfl
                    · kernel_rfl
                    · kernel_rfl
                    · exact fun v W => Iff.rfl
                    · rfl
                    apply loose_q 122
                    · intro W2 hk; have hcc := bcells hk.1; go_big_quiet_op; first | exact rfl | (apply Exists.intro; refine ⟨fun W3 hW3 => ?_, ?_⟩; (first | exact rfl | (have hcc3 := bcells (bnext hk.1 hW3); go_simp; rfl)); exact rfl)
                    · exact rfl
                    · exact rfl
                    · kernel_rfl
                    · kernel_rfl
                    · exact fun v W => Iff.rfl
                    · rfl
                    refine loose_no 123 rfl rfl (by kernel_rfl) ?_
                    intro a1 ha1
                    simp [go_sem] at ha1
                    subst ha1
                    refine loose_no 124 rfl rfl (by kernel_rfl) ?_
                    intro a1 ha1
                    simp [go_sem] at ha1
                    subst ha1
                    refine loose_no 125 rfl rfl (by kernel_rfl) ?_
                    intro a1 ha1
                    simp [go_sem] at ha1
                    subst ha1
                    refine loose_no 126 rfl rfl (by kernel_rfl) ?_
                    intro a1 ha1
                    simp [go_sem] at ha1
                    subst ha1
                    refine loose_no 127 rfl rfl (by kernel_rfl) ?_
                    intro a1 ha1
                    simp [go_sem] at ha1
                    subst ha1
                    refine loose_no 128 rfl rfl (by kernel_rfl) ?_
                    intro a1 ha1
                    simp [go_sem] at ha1
                    subst ha1
                    refine loose_no 129 rfl rfl (by kernel_rfl) ?_
                    intro a1 ha1
                    simp [go_sem] at ha1
                    subst ha1
                    refine loose_no 130 rfl rfl (by kernel_rfl) ?_
                    intro a1 ha1
                    simp [go_sem] at ha1
                    subst ha1
                    apply loose_q 131
                    · intro W2 hk; have hcc := bcells hk.1; go_big_quiet_op; first | exact rfl | (apply Exists.intro; refine ⟨fun W3 hW3 => ?_, ?_⟩; (first | exact rfl | (have hcc3 := bcells (bnext hk.1 hW3); go_simp; rfl)); exact rfl)
                    · exact rfl
                    · exact rfl
                    · kernel_rfl
                    · kernel_rfl
                    · exact fun v W => Iff.rfl
                    · rfl
                    refine loose_done fun W3 hW3 _ => ?_
                    go_wp2
                    go_ret
                    rw [hfin.out]; exact ⟨rfl, bnext hbW (bnext hbr (bnext hb1 hW3))⟩
                  · skip
                    cases q1 : inB sn x.path
                    · rw [q0] at H0
                      rw [q1] at H1
                      have hfin : Hid (refMayB l = false) := by rw [hMAY4.out, ← hi', hrt.out, q0, q1]; rfl
                      clear hi' hMAY4 q0 q1
                      clear hrt
                      refine wp_region_loose (lk [ex (.pointer (some ⟨wr.heap.size, 1, none⟩)), ex (.int .i64 x.sig), oneI (x.sig), ex (.pointer (some ⟨w.heap.size, 2, none⟩)), ex (.slice gA gn gc), ex (.int .i64 gn), ex (.bool true), ex (.bool false), ex (.bool false), ex (.pointer (some ⟨wr.heap.size, 2, none⟩)), ex (.slice p1.A p1.n p1.c), ex (.pointer (some ⟨w.heap.size, 0, none⟩)), ex (.slice sA sn sc), ex (.int .i64 sn), ex (.bool false), ex (.bool true), ex (.bool true), ex (.bool true), nof, nof, nof, nof, nof, nof, nof, ex (.bool true), ex (.bool true), nof, nof, nof, nof, nof, nof, nof, nof, ex (.bool true), ex (.bool true), nof, nof, nof, nof, nof, nof, nof, nof, ex (.bool true)] 86) (by kernel_rfl) (by kernel_rfl) (lk_stab ⟨stab_ex, stab_ex, stab_oneI, stab_ex, stab_ex, stab_ex, stab_ex, stab_ex, stab_ex, stab_ex, stab_ex, stab_ex, stab_ex, stab_ex, stab_ex, stab_ex, stab_ex, stab_ex, stab_no, stab_no, stab_no, stab_no, stab_no, stab_no, stab_no, stab_ex, stab_ex, stab_no, stab_no, stab_no, stab_no, stab_no, stab_no, stab_no, stab_no, stab_ex, stab_ex, stab_no, stab_no, stab_no, stab_no, stab_no, stab_no, stab_no, stab_no, stab_ex, trivial⟩) (loose_start ?_)
                      apply loose_q 86
                      · intro W2 hk; have hcc := bcells hk.1; go_big_quiet_op; first | exact rfl | (apply Exists.intro; refine ⟨fun W3 hW3 => ?_, ?_⟩; (first | exact rfl | (have hcc3 := bcells (bnext hk.1 hW3); go_simp; rfl)); exact rfl)
                      · exact rfl
                      · exact rfl
                      · kernel_rfl
                      · kernel_rfl
                      · exact fun v W => Iff.rfl
                      · rfl
                      apply loose_q 87
                      · intro W2 hk; have hcc := bcells hk.1; go_big_quiet_op; first | exact rfl | (apply Exists.intro; refine ⟨fun W3 hW3 => ?_, ?_⟩; (first | exact rfl | (have hcc3 := bcells (bnext hk.1 hW3); go_simp; rfl)); exact rfl)
                      · exact rfl
                      · exact rfl
                      · kernel_rfl
                      · kernel_rfl
                      · exact fun v W => Iff.rfl
                      · rfl
                      refine loose_f 88 rfl rfl (by kernel_rfl) (by kernel_rfl) (fun W2 hk => ?_) ?_
                      · refine loose_run1 (oneI (x.sig)) (.tmp 87) (.int .i64 (x.sig)) rfl (fun _ _ h => h) fun ev hev hx => ?_; simp [go_sem, hx]; exact ⟨(Below.refl _ _).alloc (Nat.le_refl _) _, _, rfl, by go_simp⟩
                      rintro v88 W2 hv88 a1 ha1
                      simp [go_sem] at ha1
                      subst ha1
                      apply loose_q 89
                      · intro W2 hk; have hcc := bcells hk.1; go_big_quiet_op; first | exact rfl | (apply Exists.intro; refine ⟨fun W3 hW3 => ?_, ?_⟩; (first | exact rfl | (have hcc3 := bcells (bnext hk.1 hW3); go_simp; rfl)); exact rfl)
                      · exact rfl
                      · exact rfl
                      · kernel_rfl
                      · kernel_rfl
                      · exact fun v W => Iff.rfl
                      · rfl
                      apply loose_q 90
                      · intro W2 hk; have hcc := bcells hk.1; go_big_quiet_op; first | exact rfl | (apply Exists.intro; refine ⟨fun W3 hW3 => ?_, ?_⟩; (first | exact rfl | (have hcc3 := bcells (bnext hk.1 hW3); go_simp; rfl)); exact rfl)
                      · exact rfl
                      · exact rfl
                      · kernel_rfl
                      · kernel_rfl
                      · exact fun v W => Iff.rfl
                      · rfl
                      apply loose_q 91
                      · intro W2 hk; have hcc := bcells hk.1; go_big_quiet_op; first | exact rfl | (apply Exists.intro; refine ⟨fun W3 hW3 => ?_, ?_⟩; (first | exact rfl | (have hcc3 := bcells (bnext hk.1 hW3); go_simp; rfl)); exact rfl)
                      · exact rfl
                      · exact rfl
                      · kernel_rfl
                      · kernel_rfl
                      · exact fun v W => Iff.rfl
                      · rfl
                      apply loose_q 92
                      · intro W2 hk; have hcc := bcells hk.1; go_big_quiet_op; first | exact rfl | (apply Exists.intro; refine ⟨fun W3 hW3 => ?_, ?_⟩; (first | (obtain ⟨b8, e8, hc8⟩ : oneI x.sig v88 W2 := hk.2 88 (by unfold inL; decide) (by decide); rw [e8]; go_at_call 126; exact calm_call (H0.out W3 b8 (bcell hW3 hc8)) hW3 (fun _ _ h => ⟨h.1, h.2 ▸ Below.refl _ _⟩)) | (have hcc3 := bcells (bnext hk.1 hW3); go_simp; rfl)); exact rfl)
                      · exact rfl
                      · exact rfl
                      · kernel_rfl
                      · kernel_rfl
                      · exact fun v W => Iff.rfl
                      · rfl
                      apply loose_q 93
                      · intro W2 hk; have hcc := bcells hk.1; go_big_quiet_op; first | exact rfl | (apply Exists.intro; refine ⟨fun W3 hW3 => ?_, ?_⟩; (first | exact rfl | (have hcc3 := bcells (bnext hk.1 hW3); go_simp; rfl)); exact rfl)
                      · exact rfl
                      · exact rfl
                      · kernel_rfl
                      · kernel_rfl
                      · exact fun v W => Iff.rfl
                      · rfl
                      apply loose_q 94
                      · intro W2 hk; have hcc := bcells hk.1; go_big_quiet_op; first | exact rfl | (apply Exists.intro; refine ⟨fun W3 hW3 => ?_, ?_⟩; (first | exact rfl | (have hcc3 := bcells (bnext hk.1 hW3); go_simp; rfl)); exact rfl)
                      · exact rfl
                      · exact rfl
                      · kernel_rfl
                      · kernel_rfl
                      · exact fun v W => Iff.rfl
                      · rfl
                      apply loose_q 95
                      · intro W2 hk; have hcc := bcells hk.1; go_big_quiet_op; first | exact rfl | (apply Exists.intro; refine ⟨fun W3 hW3 => ?_, ?_⟩; (first | exact rfl | (have hcc3 := bcells (bnext hk.1 hW3); go_simp; rfl)); exact rfl)
                      · exact rfl
                      · exact rfl
                      · kernel_rfl
                      · kernel_rfl
                      · exact fun v W => Iff.rfl
                      · rfl
                      apply loose_q 96
                      · intro W2 hk; have hcc := bcells hk.1; go_big_quiet_op; first | exact rfl | (apply Exists.intro; refine ⟨fun W3 hW3 => ?_, ?_⟩; (first | exact rfl | (have hcc3 := bcells (bnext hk.1 hW3); go_simp; rfl)); exact rfl)
                      · exact rfl
                      · exact rfl
                      · kernel_rfl
                      · kernel_rfl
                      · exact fun v W => Iff.rfl
                      · rfl
                      apply loose_q 97
                      · intro W2 hk; have hcc := bcells hk.1; go_big_quiet_op; first | exact rfl | (apply Exists.intro; refine ⟨fun W3 hW3 => ?_, ?_⟩; (first | exact rfl | (have hcc3 := bcells (bnext hk.1 hW3); go_simp; rfl)); exact rfl)
                      · exact rfl
                      · exact rfl
                      · kernel_rfl
                      · kernel_rfl
                      · exact fun v W => Iff.rfl
                      · rfl
                      apply loose_q 98
                      · intro W2 hk; have hcc := bcells hk.1; go_big_quiet_op; first | exact rfl | (apply Exists.intro; refine ⟨fun W3 hW3 => ?_, ?_⟩; (first | exact rfl | (have hcc3 := bcells (bnext hk.1 hW3); go_simp; rfl)); exact rfl)
                      · exact rfl
                      · exact rfl
                      · kernel_rfl
                      · kernel_rfl
                      · exact fun v W => Iff.rfl
                      · rfl
                      apply loose_q 99
                      · intro W2 hk; have hcc := bcells hk.1; go_big_quiet_op; first | exact rfl | (apply Exists.intro; refine ⟨fun W3 hW3 => ?_, ?_⟩; (first | exact rfl | (have hcc3 := bcells (bnext hk.1 hW3); go_simp; rfl)); exact rfl)
                      · exact rfl
                      · exact rfl
                      · kernel_rfl
                      · kernel_rfl
                      · exact fun v W => Iff.rfl
                      · rfl
                      apply loose_q 100
                      · intro W2 hk; have hcc := bcells hk.1; go_big_quiet_op; first | exact rfl | (apply Exists.intro; refine ⟨fun W3 hW3 => ?_, ?_⟩; (first | (go_at_call 126; exact calm_call (H1.out W3 (bnext hk.1 hW3)) hW3 (fun _ _ h => ⟨h.1, h.2 ▸ Below.refl _ _⟩)) | (have hcc3 := bcells (bnext hk.1 hW3); go_simp; rfl)); exact rfl)
                      · exact rfl
                      · exact rfl
                      · kernel_rfl
                      · kernel_rfl
                      · exact fun v W => Iff.rfl
                      · rfl
                      apply loose_q 101
                      · intro W2 hk; have hcc := bcells hk.1; go_big_quiet_op; first | exact rfl | (apply Exists.intro; refine ⟨fun W3 hW3 => ?_, ?_⟩; (first | exact rfl | (have hcc3 := bcells (bnext hk.1 hW3); go_simp; rfl)); exact rfl)
                      · exact rfl
                      · exact rfl
                      · kernel_rfl
                      · kernel_rfl
                      · exact fun v W => Iff.rfl
                      · rfl
                      apply loose_q 102
                      · intro W2 hk; have hcc := bcells hk.1; go_big_quiet_op; first | exact rfl | (apply Exists.intro; refine ⟨fun W3 hW3 => ?_, ?_⟩; (first | exact rfl | (have hcc3 := bcells (bnext hk.1 hW3); go_simp; rfl)); exact rfl)
                      · exact rfl
                      · exact rfl
                      · kernel_rfl
                      · kernel_rfl
                      · exact fun v W => Iff.rfl
                      · rfl
                      apply loose_q 103
                      · intro W2 hk; have hcc := bcells hk.1; go_big_quiet_op; first | exact rfl | (apply Exists.intro; refine ⟨fun W3 hW3 => ?_, ?_⟩; (first | exact rfl | (have hcc3 := bcells (bnext hk.1 hW3); go_simp; rfl)); exact rfl)
                      · exact rfl
                      · exact rfl
                      · kernel_rfl
                      · kernel_rfl
                      · exact fun v W => Iff.rfl
                      · rfl
                      refine loose_no 104 rfl rfl (by kernel_rfl) ?_
                      intro a1 ha1
                      simp [go_sem] at ha1
                      subst ha1
                      refine loose_no 105 rfl rfl (by kernel_rfl) ?_
                      intro a1 ha1
                      simp [go_sem] at ha1
                      subst ha1
                      refine loose_no 106 rfl rfl (by kernel_rfl) ?_
                      intro a1 ha1
                      simp [go_sem] at ha1
                      subst ha1
                      refine loose_no 107 rfl rfl (by kernel_rfl) ?_
                      intro a1 ha1
                      simp [go_sem] at ha1
                      subst ha1
                      refine loose_no 108 rfl rfl (by kernel_rfl) ?_
                      intro a1 ha1
                      simp [go_sem] at ha1
                      subst ha1
                      refine loose_no 109 rfl rfl (by kernel_rfl) ?_
                      intro a1 ha1
                      simp [go_sem] at ha1
                      subst ha1
                      refine loose_no 110 rfl rfl (by kernel_rfl) ?_
                      intro a1 ha1
                      simp [go_sem] at ha1
                      subst ha1
                      apply loose_q 111
                      · intro W2 hk; have hcc := bcells hk.1; go_big_quiet_op; first | exact rfl | (apply Exists.intro; refine ⟨fun W3 hW3 => ?_, ?_⟩; (first | exact rfl | (have hcc3 := bcells (bnext hk.1 hW3); go_simp; rfl)); exact rfl)
                      · exact rfl
                      · exact rfl
                      · kernel_rfl
                      · kernel_rfl
                      · exact fun v W => Iff.rfl
                      · rfl
                      apply loose_q 112
                      · intro W2 hk; have hcc := bcells hk.1; go_big_quiet_op; first | exact rfl | (apply Exists.intro; refine ⟨fun W3 hW3 => ?_, ?_⟩; (first | exact rfl | (have hcc3 := bcells (bnext hk.1 hW3); go_simp; rfl)); exact rfl)
                      · exact rfl
                      · exact rfl
                      · kernel_rfl
                      · kernel_rfl
                      · exact fun v W => Iff.rfl
                      · rfl
                      refine loose_no 113 rfl rfl (by kernel_rfl) ?_
                      intro a1 ha1
                      simp [go_sem] at ha1
                      subst ha1
                      refine loose_no 114 rfl rfl (by kernel_rfl) ?_
                      intro a1 ha1
                      simp [go_sem] at ha1
                      subst ha1
                      refine loose_no 115 rfl rfl (by kernel_rfl) ?_
                      intro a1 ha1
                      simp [go_sem] at ha1
                      subst ha1
                      refine loose_no 116 rfl rfl (by kernel_rfl) ?_
                      intro a1 ha1
                      simp [go_sem] at ha1
                      subst ha1
                      refine loose_no 117 rfl rfl (by kernel_rfl) ?_
                      intro a1 ha1
                      simp [go_sem] at ha1
                      subst ha1
                      refine loose_no 118 rfl rfl (by kernel_rfl) ?_
                      intro a1 ha1
                      simp [go_sem] at ha1
                      subst ha1
                      refine loose_no 119 rfl rfl (by kernel_rfl) ?_
                      intro a1 ha1
                      simp [go_sem] at ha1
                      subst ha1
                      refine loose_no 120 rfl rfl (by kernel_rfl) ?_
                      intro a1 ha1
                      simp [go_sem] at ha1
                      subst ha1
                      apply loose_q 121
                      · intro W2 hk; have hcc := bcells hk.1; go_big_quiet_op; first | exact rfl | (apply Exists.intro; refine ⟨fun W3 hW3 => ?_, ?_⟩; (first | exact rfl | (have hcc3 := bcells (bnext hk.1 hW3); go_simp; rfl)); exact rfl)
                      · exact rfl
                      · exact rfl
                      · kernel_rfl
                      · kernel_rfl
                      · exact fun v W => Iff.rfl
                      · rfl
                      apply loose_q 122
                      · intro W2 hk; have hcc := bcells hk.1; go_big_quiet_op; first | exact rfl | (apply Exists.intro; refine ⟨fun W3 hW3 => ?_, ?_⟩; (first | exact rfl | (have hcc3 := bcells (bnext hk.1 hW3); go_simp; rfl)); exact rfl)
                      · exact rfl
                      · exact rfl
                      · kernel_rfl
                      · kernel_rfl
                      · exact fun v W => Iff.rfl
                      · rfl
                      refine loose_no 123 rfl rfl (by kernel_rfl) ?_
                      intro a1 ha1
                      simp [go_sem] at ha1
                      subst ha1
                      refine loose_no 124 rfl rfl (by kernel_rfl) ?_
                      intro a1 ha1
                      simp [go_sem] at ha1
                      subst ha1
                      refine loose_no 125 rfl rfl (by kernel_rfl) ?_
                      intro a1 ha1
                      simp [go_sem] at ha1
                      subst ha1
                      refine loose_no 126 rfl rfl (by kernel_rfl) ?_
                      intro a1 ha1
                      simp [go_sem] at ha1
                      subst ha1
                      refine loose_no 127 rfl rfl (by kernel_rfl) ?_
                      intro a1 ha1
                      simp [go_sem] at ha1
                      subst ha1
                      refine loose_no 128 rfl rfl (by kernel_rfl) ?_
                      intro a1 ha1
                      simp [go_sem] at ha1
                      subst ha1
                      refine loose_no 129 rfl rfl (by kernel_rfl) ?_
                      intro a1 ha1
                      simp [go_sem] at ha1
                      subst ha1
                      refine loose_no 130 rfl rfl (by kernel_rfl) ?_
                      intro a1 ha1
                      simp [go_sem] at ha1
                      subst ha1
                      apply loose_q 131
                      · intro W2 hk; have hcc := bcells hk.1; go_big_quiet_op; first | exact rfl | (apply Exists.intro; refine ⟨fun W3 hW3 => ?_, ?_⟩; (first | exact rfl | (have hcc3 := bcells (bnext hk.1 hW3); go_simp; rfl)); exact rfl)
                      · exact rfl
                      · exact rfl
                      · kernel_rfl
                      · kernel_rfl
                      · exact fun v W => Iff.rfl
                      · rfl
                      refine loose_done fun W3 hW3 _ => ?_
                      go_wp2
                      go_ret
                      rw [hfin.out]; exact ⟨rfl, bnext hbW (bnext hbr (bnext hb1 hW3))⟩
                    · skip
                      cases q2 : inB sn x.overlap
                      · rw [q0] at H0
                        rw [q1] at H1
                        rw [q2] at H2
                        have hfin : Hid (refMayB l = false) := by rw [hMAY4.out, ← hi', hrt.out, q0, q1, q2]; rfl
                        clear hi' hMAY4 q0 q1 q2
                        clear hrt
                        refine wp_region_loose (lk [ex (.pointer (some ⟨wr.heap.size, 1, none⟩)), ex (.int .i64 x.sig), oneI (x.sig), ex (.pointer (some ⟨w.heap.size, 2, none⟩)), ex (.slice gA gn gc), ex (.int .i64 gn), ex (.bool true), ex (.bool false), ex (.bool false), ex (.pointer (some ⟨wr.heap.size, 2, none⟩)), ex (.slice p1.A p1.n p1.c), ex (.pointer (some ⟨w.heap.size, 0, none⟩)), ex (.slice sA sn sc), ex (.int .i64 sn), ex (.bool true), ex (.bool false), ex (.bool false), ex (.bool false), ex (.pointer (some ⟨wr.heap.size, 4, none⟩)), ex (.slice p3.A p3.n p3.c), ex (.pointer (some ⟨w.heap.size, 0, none⟩)), ex (.slice sA sn sc), ex (.int .i64 sn), ex (.bool false), ex (.bool true), ex (.bool true), ex (.bool true), nof, nof, nof, nof, nof, nof, nof, nof, ex (.bool true), ex (.bool true), nof, nof, nof, nof, nof, nof, nof, nof, ex (.bool true)] 86) (by kernel_rfl) (by kernel_rfl) (lk_stab ⟨stab_ex, stab_ex, stab_oneI, stab_ex, stab_ex, stab_ex, stab_ex, stab_ex, stab_ex, stab_ex, stab_ex, stab_ex, stab_ex, stab_ex, stab_ex, stab_ex, stab_ex, stab_ex, stab_ex, stab_ex, stab_ex, stab_ex, stab_ex, stab_ex, stab_ex, stab_ex, stab_ex, stab_no, stab_no, stab_no, stab_no, stab_no, stab_no, stab_no, stab_no, stab_ex, stab_ex, stab_no, stab_no, stab_no, stab_no, stab_no, stab_no, stab_no, stab_no, stab_ex, trivial⟩) (loose_start ?_)
                        apply loose_q 86
                        · intro W2 hk; have hcc := bcells hk.1; go_big_quiet_op; first | exact rfl | (apply Exists.intro; refine ⟨fun W3 hW3 => ?_, ?_⟩; (first | exact rfl | (have hcc3 := bcells (bnext hk.1 hW3); go_simp; rfl)); exact rfl)
                        · exact rfl
                        · exact rfl
                        · kernel_rfl
                        · kernel_rfl
                        · exact fun v W => Iff.rfl
                        · rfl
                        apply loose_q 87
                        · intro W2 hk; have hcc := bcells hk.1; go_big_quiet_op; first | exact rfl | (apply Exists.intro; refine ⟨fun W3 hW3 => ?_, ?_⟩; (first | exact rfl | (have hcc3 := bcells (bnext hk.1 hW3); go_simp; rfl)); exact rfl)
                        · exact rfl
                        · exact rfl
                        · kernel_rfl
                        · kernel_rfl
                        · exact fun v W => Iff.rfl
                        · rfl
                        refine loose_f 88 rfl rfl (by kernel_rfl) (by kernel_rfl) (fun W2 hk => ?_) ?_
                        · refine loose_run1 (oneI (x.sig)) (.tmp 87) (.int .i64 (x.sig)) rfl (fun _ _ h => h) fun ev hev hx => ?_; simp [go_sem, hx]; exact ⟨(Below.refl _ _).alloc (Nat.le_refl _) _, _, rfl, by go_simp⟩
                        rintro v88 W2 hv88 a1 ha1
                        simp [go_sem] at ha1
                        subst ha1
                        apply loose_q 89
                        · intro W2 hk; have hcc := bcells hk.1; go_big_quiet_op; first | exact rfl | (apply Exists.intro; refine ⟨fun W3 hW3 => ?_, ?_⟩; (first | exact rfl | (have hcc3 := bcells (bnext hk.1 hW3); go_simp; rfl)); exact rfl)
                        · exact rfl
                        · exact rfl
                        · kernel_rfl
                        · kernel_rfl
                        · exact fun v W => Iff.rfl
                        · rfl
                        apply loose_q 90
                        · intro W2 hk; have hcc := bcells hk.1; go_big_quiet_op; first | exact rfl | (apply Exists.intro; refine ⟨fun W3 hW3 => ?_, ?_⟩; (first | exact rfl | (have hcc3 := bcells (bnext hk.1 hW3); go_simp; rfl)); exact rfl)
                        · exact rfl
                        · exact rfl
                        · kernel_rfl
                        · kernel_rfl
                        · exact fun v W => Iff.rfl
                        · rfl
                        apply loose_q 91
                        · intro W2 hk; have hcc := bcells hk.1; go_big_quiet_op; first | exact rfl | (apply Exists.intro; refine ⟨fun W3 hW3 => ?_, ?_⟩; (first | exact rfl | (have hcc3 := bcells (bnext hk.1 hW3); go_simp; rfl)); exact rfl)
                        · exact rfl
                        · exact rfl
                        · kernel_rfl
                        · kernel_rfl
                        · exact fun v W => Iff.rfl
                        · rfl
                        apply loose_q 92
                        · intro W2 hk; have hcc := bcells hk.1; go_big_quiet_op; first | exact rfl | (apply Exists.intro; refine ⟨fun W3 hW3 => ?_, ?_⟩; (first | (obtain ⟨b8, e8, hc8⟩ : oneI x.sig v88 W2 := hk.2 88 (by unfold inL; decide) (by decide); rw [e8]; go_at_call 126; exact calm_call (H0.out W3 b8 (bcell hW3 hc8)) hW3 (fun _ _ h => ⟨h.1, h.2 ▸ Below.refl _ _⟩)) | (have hcc3 := bcells (bnext hk.1 hW3); go_simp; rfl)); exact rfl)
                        · exact rfl
                        · exact rfl
                        · kernel_rfl
                        · kernel_rfl
                        · exact fun v W => Iff.rfl
                        · rfl
                        apply loose_q 93
                        · intro W2 hk; have hcc := bcells hk.1; go_big_quiet_op; first | exact rfl | (apply Exists.intro; refine ⟨fun W3 hW3 => ?_, ?_⟩; (first | exact rfl | (have hcc3 := bcells (bnext hk.1 hW3); go_simp; rfl)); exact rfl)
                        · exact rfl
                        · exact rfl
                        · kernel_rfl
                        · kernel_rfl
                        · exact fun v W => Iff.rfl
                        · rfl
                        apply loose_q 94
                        · intro W2 hk; have hcc := bcells hk.1; go_big_quiet_op; first | exact rfl | (apply Exists.intro; refine ⟨fun W3 hW3 => ?_, ?_⟩; (first | exact rfl | (have hcc3 := bcells (bnext hk.1 hW3); go_simp; rfl)); exact rfl)
                        · exact rfl
                        · exact rfl
                        · kernel_rfl
                        · kernel_rfl
                        · exact fun v W => Iff.rfl
                        · rfl
                        apply loose_q 95
                        · intro W2 hk; have hcc := bcells hk.1; go_big_quiet_op; first | exact rfl | (apply Exists.intro; refine ⟨fun W3 hW3 => ?_, ?_⟩; (first | exact rfl | (have hcc3 := bcells (bnext hk.1 hW3); go_simp; rfl)); exact rfl)
                        · exact rfl
                        · exact rfl
                        · kernel_rfl
                        · kernel_rfl
                        · exact fun v W => Iff.rfl
                        · rfl
                        apply loose_q 96
                        · intro W2 hk; have hcc := bcells hk.1; go_big_quiet_op; first | exact rfl | (apply Exists.intro; refine ⟨fun W3 hW3 => ?_, ?_⟩; (first | exact rfl | (have hcc3 := bcells (bnext hk.1 hW3); go_simp; rfl)); exact rfl)
                        · exact rfl
                        · exact rfl
                        · kernel_rfl
                        · kernel_rfl
                        · exact fun v W => Iff.rfl
                        · rfl
                        apply loose_q 97
                        · intro W2 hk; have hcc := bcells hk.1; go_big_quiet_op; first | exact rfl | (apply Exists.intro; refine ⟨fun W3 hW3 => ?_, ?_⟩; (first | exact rfl | (have hcc3 := bcells (bnext hk.1 hW3); go_simp; rfl)); exact rfl)
                        · exact rfl
                        · exact rfl
                        · kernel_rfl
                        · kernel_rfl
                        · exact fun v W => Iff.rfl
                        · rfl
                        apply loose_q 98
                        · intro W2 hk; have hcc := bcells hk.1; go_big_quiet_op; first | exact rfl | (apply Exists.intro; refine ⟨fun W3 hW3 => ?_, ?_⟩; (first | exact rfl | (have hcc3 := bcells (bnext hk.1 hW3); go_simp; rfl)); exact rfl)
                        · exact rfl
                        · exact rfl
                        · kernel_rfl
                        · kernel_rfl
                        · exact fun v W => Iff.rfl
                        · rfl
                        apply loose_q 99
                        · intro W2 hk; have hcc := bcells hk.1; go_big_quiet_op; first | exact rfl | (apply Exists.intro; refine ⟨fun W3 hW3 => ?_, ?_⟩; (first | exact rfl | (have hcc3 := bcells (bnext hk.1 hW3); go_simp; rfl)); exact rfl)
                        · exact rfl
                        · exact rfl
                        · kernel_rfl
                        · kernel_rfl
                        · exact fun v W => Iff.rfl
                        · rfl
                        apply loose_q 100
                        · intro W2 hk; have hcc := bcells hk.1; go_big_quiet_op; first | exact rfl | (apply Exists.intro; refine ⟨fun W3 hW3 => ?_, ?_⟩; (first | (go_at_call 126; exact calm_call (H1.out W3 (bnext hk.1 hW3)) hW3 (fun _ _ h => ⟨h.1, h.2 ▸ Below.refl _ _⟩)) | (have hcc3 := bcells (bnext hk.1 hW3); go_simp; rfl)); exact rfl)
                        · exact rfl
                        · exact rfl
                        · kernel_rfl
                        · kernel_rfl
                        · exact fun v W => Iff.rfl
                        · rfl
                        apply loose_q 101
                        · intro W2 hk; have hcc := bcells hk.1; go_big_quiet_op; first | exact rfl | (apply Exists.intro; refine ⟨fun W3 hW3 => ?_, ?_⟩; (first | exact rfl | (have hcc3 := bcells (bnext hk.1 hW3); go_simp; rfl)); exact rfl)
                        · exact rfl
                        · exact rfl
                        · kernel_rfl
                        · kernel_rfl
                        · exact fun v W => Iff.rfl
                        · rfl
                        apply loose_q 102
                        · intro W2 hk; have hcc := bcells hk.1; go_big_quiet_op; first | exact rfl | (apply Exists.intro; refine ⟨fun W3 hW3 => ?_, ?_⟩; (first | exact rfl | (have hcc3 := bcells (bnext hk.1 hW3); go_simp; rfl)); exact rfl)
                        · exact rfl
                        · exact rfl
                        · kernel_rfl
                        · kernel_rfl
                        · exact fun v W => Iff.rfl
                        · rfl
                        apply loose_q 103
                        · intro W2 hk; have hcc := bcells hk.1; go_big_quiet_op; first | exact rfl | (apply Exists.intro; refine ⟨fun W3 hW3 => ?_, ?_⟩; (first | exact rfl | (have hcc3 := bcells (bnext hk.1 hW3); go_simp; rfl)); exact rfl)
                        · exact rfl
                        · exact rfl
                        · kernel_rfl
                        · kernel_rfl
                        · exact fun v W => Iff.rfl
                        · rfl
                        apply loose_q 104
                        · intro W2 hk; have hcc := bcells hk.1; go_big_quiet_op; first | exact rfl | (apply Exists.intro; refine ⟨fun W3 hW3 => ?_, ?_⟩; (first | exact rfl | (have hcc3 := bcells (bnext hk.1 hW3); go_simp; rfl)); exact rfl)
                        · exact rfl
                        · exact rfl
                        · kernel_rfl
                        · kernel_rfl
                        · exact fun v W => Iff.rfl
                        · rfl
                        apply loose_q 105
                        · intro W2 hk; have hcc := bcells hk.1; go_big_quiet_op; first | exact rfl | (apply Exists.intro; refine ⟨fun W3 hW3 => ?_, ?_⟩; (first | exact rfl | (have hcc3 := bcells (bnext hk.1 hW3); go_simp; rfl)); exact rfl)
                        · exact rfl
                        · exact rfl
                        · kernel_rfl
                        · kernel_rfl
                        · exact fun v W => Iff.rfl
                        · rfl
                        apply loose_q 106
                        · intro W2 hk; have hcc := bcells hk.1; go_big_quiet_op; first | exact rfl | (apply Exists.intro; refine ⟨fun W3 hW3 => ?_, ?_⟩; (first | exact rfl | (have hcc3 := bcells (bnext hk.1 hW3); go_simp; rfl)); exact rfl)
                        · exact rfl
                        · exact rfl
                        · kernel_rfl
                        · kernel_rfl
                        · exact fun v W => Iff.rfl
                        · rfl
                        apply loose_q 107
                        · intro W2 hk; have hcc := bcells hk.1; go_big_quiet_op; first | exact rfl | (apply Exists.intro; refine ⟨fun W3 hW3 => ?_, ?_⟩; (first | exact rfl | (have hcc3 := bcells (bnext hk.1 hW3); go_simp; rfl)); exact rfl)
                        · exact rfl
                        · exact rfl
                        · kernel_rfl
                        · kernel_rfl
                        · exact fun v W => Iff.rfl
                        · rfl
                        apply loose_q 108
                        · intro W2 hk; have hcc := bcells hk.1; go_big_quiet_op; first | exact rfl | (apply Exists.intro; refine ⟨fun W3 hW3 => ?_, ?_⟩; (first | exact rfl | (have hcc3 := bcells (bnext hk.1 hW3); go_simp; rfl)); exact rfl)
                        · exact rfl
                        · exact rfl
                        · kernel_rfl
                        · kernel_rfl
                        · exact fun v W => Iff.rfl
                        · rfl
                        apply loose_q 109
                        · intro W2 hk; have hcc := bcells hk.1; go_big_quiet_op; first | exact rfl | (apply Exists.intro; refine ⟨fun W3 hW3 => ?_, ?_⟩; (first | (go_at_call 126; exact calm_call (H2.out W3 (bnext hk.1 hW3)) hW3 (fun _ _ h => ⟨h.1, h.2 ▸ Below.refl _ _⟩)) | (have hcc3 := bcells (bnext hk.1 hW3); go_simp; rfl)); exact rfl)
                        · exact rfl
                        · exact rfl
                        · kernel_rfl
                        · kernel_rfl
                        · exact fun v W => Iff.rfl
                        · rfl
                        apply loose_q 110
                        · intro W2 hk; have hcc := bcells hk.1; go_big_quiet_op; first | exact rfl | (apply Exists.intro; refine ⟨fun W3 hW3 => ?_, ?_⟩; (first | exact rfl | (have hcc3 := bcells (bnext hk.1 hW3); go_simp; rfl)); exact rfl)
                        · exact rfl
                        · exact rfl
                        · kernel_rfl
                        · kernel_rfl
                        · exact fun v W => Iff.rfl
                        · rfl
                        apply loose_q 111
                        · intro W2 hk; have hcc := bcells hk.1; go_big_quiet_op; first | exact rfl | (apply Exists.intro; refine ⟨fun W3 hW3 => ?_, ?_⟩; (first | exact rfl | (have hcc3 := bcells (bnext hk.1 hW3); go_simp; rfl)); exact rfl)
                        · exact rfl
                        · exact rfl
                        · kernel_rfl
                        · kernel_rfl
                        · exact fun v W => Iff.rfl
                        · rfl
                        apply loose_q 112
                        · intro W2 hk; have hcc := bcells hk.1; go_big_quiet_op; first | exact rfl | (apply Exists.intro; refine ⟨fun W3 hW3 => ?_, ?_⟩; (first | exact rfl | (have hcc3 := bcells (bnext hk.1 hW3); go_simp; rfl)); exact rfl)
                        · exact rfl
                        · exact rfl
                        · kernel_rfl
                        · kernel_rfl
                        · exact fun v W => Iff.rfl
                        · rfl
                        refine loose_no 113 rfl rfl (by kernel_rfl) ?_
                        intro a1 ha1
                        simp [go_sem] at ha1
                        subst ha1
                        refine loose_no 114 rfl rfl (by kernel_rfl) ?_
                        intro a1 ha1
                        simp [go_sem] at ha1
                        subst ha1
                        refine loose_no 115 rfl rfl (by kernel_rfl) ?_
                        intro a1 ha1
                        simp [go_sem] at ha1
                        subst ha1
                        refine loose_no 116 rfl rfl (by kernel_rfl) ?_
                        intro a1 ha1
                        simp [go_sem] at ha1
                        subst ha1
                        refine loose_no 117 rfl rfl (by kernel_rfl) ?_
                        intro a1 ha1
                        simp [go_sem] at ha1
                        subst ha1
                        refine loose_no 118 rfl rfl (by kernel_rfl) ?_
                        intro a1 ha1
                        simp [go_sem] at ha1
                        subst ha1
                        refine loose_no 119 rfl rfl (by kernel_rfl) ?_
                        intro a1 ha1
                        simp [go_sem] at ha1
                        subst ha1
                        refine loose_no 120 rfl rfl (by kernel_rfl) ?_
                        intro a1 ha1
                        simp [go_sem] at ha1
                        subst ha1
                        apply loose_q 121
                        · intro W2 hk; have hcc := bcells hk.1; go_big_quiet_op; first | exact rfl | (apply Exists.intro; refine ⟨fun W3 hW3 => ?_, ?_⟩; (first | exact rfl | (have hcc3 := bcells (bnext hk.1 hW3); go_simp; rfl)); exact rfl)
                        · exact rfl
                        · exact rfl
                        · kernel_rfl
                        · kernel_rfl
                        · exact fun v W => Iff.rfl
                        · rfl
                        apply loose_q 122
                        · intro W2 hk; have hcc := bcells hk.1; go_big_quiet_op; first | exact rfl | (apply Exists.intro; refine ⟨fun W3 hW3 => ?_, ?_⟩; (first | exact rfl | (have hcc3 := bcells (bnext hk.1 hW3); go_simp; rfl)); exact rfl)
                        · exact rfl
                        · exact rfl
                        · kernel_rfl
                        · kernel_rfl
                        · exact fun v W => Iff.rfl
                        · rfl
                        refine loose_no 123 rfl rfl (by kernel_rfl) ?_
                        intro a1 ha1
                        simp [go_sem] at ha1
                        subst ha1
                        refine loose_no 124 rfl rfl (by kernel_rfl) ?_
                        intro a1 ha1
                        simp [go_sem] at ha1
                        subst ha1
                        refine loose_no 125 rfl rfl (by kernel_rfl) ?_
                        intro a1 ha1
                        simp [go_sem] at ha1
                        subst ha1
                        refine loose_no 126 rfl rfl (by kernel_rfl) ?_
                        intro a1 ha1
                        simp [go_sem] at ha1
                        subst ha1
                        refine loose_no 127 rfl rfl (by kernel_rfl) ?_
                        intro a1 ha1
                        simp [go_sem] at ha1
                        subst ha1
                        refine loose_no 128 rfl rfl (by kernel_rfl) ?_
                        intro a1 ha1
                        simp [go_sem] at ha1
                        subst ha1
                        refine loose_no 129 rfl rfl (by kernel_rfl) ?_
                        intro a1 ha1
                        simp [go_sem] at ha1
                        subst ha1
                        refine loose_no 130 rfl rfl (by kernel_rfl) ?_
                        intro a1 ha1
                        simp [go_sem] at ha1
                        subst ha1
                        apply loose_q 131
                        · intro W2 hk; have hcc := bcells hk.1; go_big_quiet_op; first | exact rfl | (apply Exists.intro; refine ⟨fun W3 hW3 => ?_, ?_⟩; (first | exact rfl | (have hcc3 := bcells (bnext hk.1 hW3); go_simp; rfl)); exact rfl)
                        · exact rfl
                        · exact rfl
                        · kernel_rfl
                        · kernel_rfl
                        · exact fun v W => Iff.rfl
                        · rfl
                        refine loose_done fun W3 hW3 _ => ?_
                        go_wp2
                        go_ret
                        rw [hfin.out]; exact ⟨rfl, bnext hbW (bnext hbr (bnext hb1 hW3))⟩
                      · skip
                        cases q3 : inB pn (ptsOf x.points)
                        · rw [q0] at H0
                          rw [q1] at H1
                          rw [q2] at H2
                          rw [q3] at H3
                          have hfin : Hid (refMayB l = false) := by rw [hMAY4.out, ← hi', hrt.out, q0, q1, q2, q3]; rfl
                          clear hi' hMAY4 q0 q1 q2 q3
                          clear hrt
                          refine wp_region_loose (lk [ex (.pointer (some ⟨wr.heap.size, 1, none⟩)), ex (.int .i64 x.sig), oneI (x.sig), ex (.pointer (some ⟨w.heap.size, 2, none⟩)), ex (.slice gA gn gc), ex (.int .i64 gn), ex (.bool true), ex (.bool false), ex (.bool false), ex (.pointer (some ⟨wr.heap.size, 2, none⟩)), ex (.slice p1.A p1.n p1.c), ex (.pointer (some ⟨w.heap.size, 0, none⟩)), ex (.slice sA sn sc), ex (.int .i64 sn), ex (.bool true), ex (.bool false), ex (.bool false), ex (.bool false), ex (.pointer (some ⟨wr.heap.size, 4, none⟩)), ex (.slice p3.A p3.n p3.c), ex (.pointer (some ⟨w.heap.size, 0, none⟩)), ex (.slice sA sn sc), ex (.int .i64 sn), ex (.bool true), ex (.bool false), ex (.bool false), ex (.bool false), ex (.pointer (some ⟨wr.heap.size, 3, none⟩)), ex (.slice p2.A p2.n p2.c), someI (ptsOf (x.points.take 17)), ex (.pointer (some ⟨w.heap.size, 1, none⟩)), ex (.slice pA pn pc), ex (.int .i64 pn), ex (.bool false), ex (.bool true), ex (.bool true), ex (.bool true), nof, nof, nof, nof, nof, nof, nof, nof, ex (.bool true)] 86) (by kernel_rfl) (by kernel_rfl) (lk_stab ⟨stab_ex, stab_ex, stab_oneI, stab_ex, stab_ex, stab_ex, stab_ex, stab_ex, stab_ex, stab_ex, stab_ex, stab_ex, stab_ex, stab_ex, stab_ex, stab_ex, stab_ex, stab_ex, stab_ex, stab_ex, stab_ex, stab_ex, stab_ex, stab_ex, stab_ex, stab_ex, stab_ex, stab_ex, stab_ex, stab_someI, stab_ex, stab_ex, stab_ex, stab_ex, stab_ex, stab_ex, stab_ex, stab_no, stab_no, stab_no, stab_no, stab_no, stab_no, stab_no, stab_no, stab_ex, trivial⟩) (loose_start ?_)
                          apply loose_q 86
                          · intro W2 hk; have hcc := bcells hk.1; go_big_quiet_op; first | exact rfl | (apply Exists.intro; refine ⟨fun W3 hW3 => ?_, ?_⟩; (first | exact rfl | (have hcc3 := bcells (bnext hk.1 hW3); go_simp; rfl)); exact rfl)
                          · exact rfl
                          · exact rfl
                          · kernel_rfl
                          · kernel_rfl
                          · exact fun v W => Iff.rfl
                          · rfl
                          apply loose_q 87
                          · intro W2 hk; have hcc := bcells hk.1; go_big_quiet_op; first | exact rfl | (apply Exists.intro; refine ⟨fun W3 hW3 => ?_, ?_⟩; (first | exact rfl | (have hcc3 := bcells (bnext hk.1 hW3); go_simp; rfl)); exact rfl)
                          · exact rfl
                          · exact rfl
                          · kernel_rfl
                          · kernel_rfl
                          · exact fun v W => Iff.rfl
                          · rfl
                          refine loose_f 88 rfl rfl (by kernel_rfl) (by kernel_rfl) (fun W2 hk => ?_) ?_
                          · refine loose_run1 (oneI (x.sig)) (.tmp 87) (.int .i64 (x.sig)) rfl (fun _ _ h => h) fun ev hev hx => ?_; simp [go_sem, hx]; exact ⟨(Below.refl _ _).alloc (Nat.le_refl _) _, _, rfl, by go_simp⟩
                          rintro v88 W2 hv88 a1 ha1
                          simp [go_sem] at ha1
                          subst ha1
                          apply loose_q 89
                          · intro W2 hk; have hcc := bcells hk.1; go_big_quiet_op; first | exact rfl | (apply Exists.intro; refine ⟨fun W3 hW3 => ?_, ?_⟩; (first | exact rfl | (have hcc3 := bcells (bnext hk.1 hW3); go_simp; rfl)); exact rfl)
                          · exact rfl
                          · exact rfl
                          · kernel_rfl
                          · kernel_rfl
                          · exact fun v W => Iff.rfl
                          · rfl
                          apply loose_q 90
                          · intro W2 hk; have hcc := bcells hk.1; go_big_quiet_op; first | exact rfl | (apply Exists.intro; refine ⟨fun W3 hW3 => ?_, ?_⟩; (first | exact rfl | (have hcc3 := bcells (bnext hk.1 hW3); go_simp; rfl)); exact rfl)
                          · exact rfl
                          · exact rfl
                          · kernel_rfl
                          · kernel_rfl
                          · exact fun v W => Iff.rfl
                          · rfl
                          apply loose_q 91
                          · intro W2 hk; have hcc := bcells hk.1; go_big_quiet_op; first | exact rfl | (apply Exists.intro; refine ⟨fun W3 hW3 => ?_, ?_⟩; (first | exact rfl | (have hcc3 := bcells (bnext hk.1 hW3); go_simp; rfl)); exact rfl)
                          · exact rfl
                          · exact rfl
                          · kernel_rfl
                          · kernel_rfl
                          · exact fun v W => Iff.rfl
                          · rfl
                          apply loose_q 92
                          · intro W2 hk; have hcc := bcells hk.1; go_big_quiet_op; first | exact rfl | (apply Exists.intro; refine ⟨fun W3 hW3 => ?_, ?_⟩; (first | (obtain ⟨b8, e8, hc8⟩ : oneI x.sig v88 W2 := hk.2 88 (by unfold inL; decide) (by decide); rw [e8]; go_at_call 126; exact calm_call (H0.out W3 b8 (bcell hW3 hc8)) hW3 (fun _ _ h => ⟨h.1, h.2 ▸ Below.refl _ _⟩)) | (have hcc3 := bcells (bnext hk.1 hW3); go_simp; rfl)); exact rfl)
                          · exact rfl
                          · exact rfl
                          · kernel_rfl
                          · kernel_rfl
                          · exact fun v W => Iff.rfl
                          · rfl
                          apply loose_q 93
                          · intro W2 hk; have hcc := bcells hk.1; go_big_quiet_op; first | exact rfl | (apply Exists.intro; refine ⟨fun W3 hW3 => ?_, ?_⟩; (first | exact rfl | (have hcc3 := bcells (bnext hk.1 hW3); go_simp; rfl)); exact rfl)
                          · exact rfl
                          · exact rfl
                          · kernel_rfl
                          · kernel_rfl
                          · exact fun v W => Iff.rfl
                          · rfl
                          apply loose_q 94
                          · intro W2 hk; have hcc := bcells hk.1; go_big_quiet_op; first | exact rfl | (apply Exists.intro; refine ⟨fun W3 hW3 => ?_, ?_⟩; (first | exact rfl | (have hcc3 := bcells (bnext hk.1 hW3); go_simp; rfl)); exact rfl)
                          · exact rfl
                          · exact rfl
                          · kernel_rfl
                          · kernel_rfl
                          · exact fun v W => Iff.rfl
                          · rfl
                          apply loose_q 95
                          · intro W2 hk; have hcc := bcells hk.1; go_big_quiet_op; first | exact rfl | (apply Exists.intro; refine ⟨fun W3 hW3 => ?_, ?_⟩; (first | exact rfl | (have hcc3 := bcells (bnext hk.1 hW3); go_simp; rfl)); exact rfl)
                          · exact rfl
                          · exact rfl
                          · kernel_rfl
                          · kernel_rfl
                          · exact fun v W => Iff.rfl
                          · rfl
                          apply loose_q 96
                          · intro W2 hk; have hcc := bcells hk.1; go_big_quiet_op; first | exact rfl | (apply Exists.intro; refine ⟨fun W3 hW3 => ?_, ?_⟩; (first | exact rfl | (have hcc3 := bcells (bnext hk.1 hW3); go_simp; rfl)); exact rfl)
                          · exact rfl
                          · exact rfl
                          · kernel_rfl
                          · kernel_rfl
                          · exact fun v W => Iff.rfl
                          · rfl
                          apply loose_q 97
                          · intro W2 hk; have hcc := bcells hk.1; go_big_quiet_op; first | exact rfl | (apply Exists.intro; refine ⟨fun W3 hW3 => ?_, ?_⟩; (first | exact rfl | (have hcc3 := bcells (bnext hk.1 hW3); go_simp; rfl)); exact rfl)
                          · exact rfl
                          · exact rfl
                          · kernel_rfl
                          · kernel_rfl
                          · exact fun v W => Iff.rfl
                          · rfl
                          apply loose_q 98
                          · intro W2 hk; have hcc := bcells hk.1; go_big_quiet_op; first | exact rfl | (apply Exists.intro; refine ⟨fun W3 hW3 => ?_, ?_⟩; (first | exact rfl | (have hcc3 := bcells (bnext hk.1 hW3); go_simp; rfl)); exact rfl)
                          · exact rfl
                          · exact rfl
                          · kernel_rfl
                          · kernel_rfl
                          · exact fun v W => Iff.rfl
                          · rfl
                          apply loose_q 99
                          · intro W2 hk; have hcc := bcells hk.1; go_big_quiet_op; first | exact rfl | (apply Exists.intro; refine ⟨fun W3 hW3 => ?_, ?_⟩; (first | exact rfl | (have hcc3 := bcells (bnext hk.1 hW3); go_simp; rfl)); exact rfl)
                          · exact rfl
                          · exact rfl
                          · kernel_rfl
                          · kernel_rfl
                          · exact fun v W => Iff.rfl
                          · rfl
                          apply loose_q 100
                          · intro W2 hk; have hcc := bcells hk.1; go_big_quiet_op; first | exact rfl | (apply Exists.intro; refine ⟨fun W3 hW3 => ?_, ?_⟩; (first | (go_at_call 126; exact calm_call (H1.out W3 (bnext hk.1 hW3)) hW3 (fun _ _ h => ⟨h.1, h.2 ▸ Below.refl _ _⟩)) | (have hcc3 := bcells (bnext hk.1 hW3); go_simp; rfl)); exact rfl)
                          · exact rfl
                          · exact rfl
                          · kernel_rfl
                          · kernel_rfl
                          · exact fun v W => Iff.rfl
                          · rfl
                          apply loose_q 101
                          · intro W2 hk; have hcc := bcells hk.1; go_big_quiet_op; first | exact rfl | (apply Exists.intro; refine ⟨fun W3 hW3 => ?_, ?_⟩; (first | exact rfl | (have hcc3 := bcells (bnext hk.1 hW3); go_simp; rfl)); exact rfl)
                          · exact rfl
                          · exact rfl
                          · kernel_rfl
                          · kernel_rfl
                          · exact fun v W => Iff.rfl
                          · rfl
                          apply loose_q 102
                          · intro W2 hk; have hcc := bcells hk.1; go_big_quiet_op; first | exact rfl | (apply Exists.intro; refine ⟨fun W3 hW3 => ?_, ?_⟩; (first | exact rfl | (have hcc3 := bcells (bnext hk.1 hW3); go_simp; rfl)); exact rfl)
                          · exact rfl
                          · exact rfl
                          · kernel_rfl
                          · kernel_rfl
                          · exact fun v W => Iff.rfl
                          · rfl
                          apply loose_q 103
                          · intro W2 hk; have hcc := bcells hk.1; go_big_quiet_op; first | exact rfl | (apply Exists.intro; refine ⟨fun W3 hW3 => ?_, ?_⟩; (first | exact rfl | (have hcc3 := bcells (bnext hk.1 hW3); go_simp; rfl)); exact rfl)
                          · exact rfl
                          · exact rfl
                          · kernel_rfl
                          · kernel_rfl
                          · exact fun v W => Iff.rfl
                          · rfl
                          apply loose_q 104
                          · intro W2 hk; have hcc := bcells hk.1; go_big_quiet_op; first | exact rfl | (apply Exists.intro; refine ⟨fun W3 hW3 => ?_, ?_⟩; (first | exact rfl | (have hcc3 := bcells (bnext hk.1 hW3); go_simp; rfl)); exact rfl)
                          · exact rfl
                          · exact rfl
                          · kernel_rfl
                          · kernel_rfl
                          · exact fun v W => Iff.rfl
                          · rfl
                          apply loose_q 105
                          · intro W2 hk; have hcc := bcells hk.1; go_big_quiet_op; first | exact rfl | (apply Exists.intro; refine ⟨fun W3 hW3 => ?_, ?_⟩; (first | exact rfl | (have hcc3 := bcells (bnext hk.1 hW3); go_simp; rfl)); exact rfl)
                          · exact rfl
                          · exact rfl
                          · kernel_rfl
                          · kernel_rfl
                          · exact fun v W => Iff.rfl
                          · rfl
                          apply loose_q 106
                          · intro W2 hk; have hcc := bcells hk.1; go_big_quiet_op; first | exact rfl | (apply Exists.intro; refine ⟨fun W3 hW3 => ?_, ?_⟩; (first | exact rfl | (have hcc3 := bcells (bnext hk.1 hW3); go_simp; rfl)); exact rfl)
                          · exact rfl
                          · exact rfl
                          · kernel_rfl
                          · kernel_rfl
                          · exact fun v W => Iff.rfl
                          · rfl
                          apply loose_q 107
                          · intro W2 hk; have hcc := bcells hk.1; go_big_quiet_op; first | exact rfl | (apply Exists.intro; refine ⟨fun W3 hW3 => ?_, ?_⟩; (first | exact rfl | (have hcc3 := bcells (bnext hk.1 hW3); go_simp; rfl)); exact rfl)
                          · exact rfl
                          · exact rfl
                          · kernel_rfl
                          · kernel_rfl
                          · exact fun v W => Iff.rfl
                          · rfl
                          apply loose_q 108
                          · intro W2 hk; have hcc := bcells hk.1; go_big_quiet_op; first | exact rfl | (apply Exists.intro; refine ⟨fun W3 hW3 => ?_, ?_⟩; (first | exact rfl | (have hcc3 := bcells (bnext hk.1 hW3); go_simp; rfl)); exact rfl)
                          · exact rfl
                          · exact rfl
                          · kernel_rfl
                          · kernel_rfl
                          · exact fun v W => Iff.rfl
                          · rfl
                          apply loose_q 109
                          · intro W2 hk; have hcc := bcells hk.1; go_big_quiet_op; first | exact rfl | (apply Exists.intro; refine ⟨fun W3 hW3 => ?_, ?_⟩; (first | (go_at_call 126; exact calm_call (H2.out W3 (bnext hk.1 hW3)) hW3 (fun _ _ h => ⟨h.1, h.2 ▸ Below.refl _ _⟩)) | (have hcc3 := bcells (bnext hk.1 hW3); go_simp; rfl)); exact rfl)
                          · exact rfl
                          · exact rfl
                          · kernel_rfl
                          · kernel_rfl
                          · exact fun v W => Iff.rfl
                          · rfl
                          apply loose_q 110
                          · intro W2 hk; have hcc := bcells hk.1; go_big_quiet_op; first | exact rfl | (apply Exists.intro; refine ⟨fun W3 hW3 => ?_, ?_⟩; (first | exact rfl | (have hcc3 := bcells (bnext hk.1 hW3); go_simp; rfl)); exact rfl)
                          · exact rfl
                          · exact rfl
                          · kernel_rfl
                          · kernel_rfl
                          · exact fun v W => Iff.rfl
                          · rfl
                          apply loose_q 111
                          · intro W2 hk; have hcc := bcells hk.1; go_big_quiet_op; first | exact rfl | (apply Exists.intro; refine ⟨fun W3 hW3 => ?_, ?_⟩; (first | exact rfl | (have hcc3 := bcells (bnext hk.1 hW3); go_simp; rfl)); exact rfl)
                          · exact rfl
                          · exact rfl
                          · kernel_rfl
                          · kernel_rfl
                          · exact fun v W => Iff.rfl
                          · rfl
                          apply loose_q 112
                          · intro W2 hk; have hcc := bcells hk.1; go_big_quiet_op; first | exact rfl | (apply Exists.intro; refine ⟨fun W3 hW3 => ?_, ?_⟩; (first | exact rfl | (have hcc3 := bcells (bnext hk.1 hW3); go_simp; rfl)); exact rfl)
                          · exact rfl
                          · exact rfl
                          · kernel_rfl
                          · kernel_rfl
                          · exact fun v W => Iff.rfl
                          · rfl
                          apply loose_q 113
                          · intro W2 hk; have hcc := bcells hk.1; go_big_quiet_op; first | exact rfl | (apply Exists.intro; refine ⟨fun W3 hW3 => ?_, ?_⟩; (first | exact rfl | (have hcc3 := bcells (bnext hk.1 hW3); go_simp; rfl)); exact rfl)
                          · exact rfl
                          · exact rfl
                          · kernel_rfl
                          · kernel_rfl
                          · exact fun v W => Iff.rfl
                          · rfl
                          apply loose_q 114
                          · intro W2 hk; have hcc := bcells hk.1; go_big_quiet_op; first | exact rfl | (apply Exists.intro; refine ⟨fun W3 hW3 => ?_, ?_⟩; (first | exact rfl | (have hcc3 := bcells (bnext hk.1 hW3); go_simp; rfl)); exact rfl)
                          · exact rfl
                          · exact rfl
                          · kernel_rfl
                          · kernel_rfl
                          · exact fun v W => Iff.rfl
                          · rfl
                          refine loose_f 115 rfl rfl (by kernel_rfl) (by kernel_rfl) (fun W2 hk => ?_) ?_
                          · refine loose_run1 (someI (ptsOf (x.points.take 17))) (.tmp 114) (.slice p2.A p2.n p2.c) rfl (fun _ _ h => h) fun ev hev hx => ?_; simp [go_sem, hx, hev]; refine (P2.out _ hk.1).mono ?_; rintro e w5 ⟨A5, n5, c5, rfl, hle5, hb5, hr5⟩; exact ⟨_, rfl, hb5, A5, n5, c5, rfl, hr5⟩
                          rintro v115 W2 hv115 a1 ha1
                          simp [go_sem] at ha1
                          subst ha1
                          apply loose_q 116
                          · intro W2 hk; have hcc := bcells hk.1; go_big_quiet_op; first | exact rfl | (apply Exists.intro; refine ⟨fun W3 hW3 => ?_, ?_⟩; (first | exact rfl | (have hcc3 := bcells (bnext hk.1 hW3); go_simp; rfl)); exact rfl)
                          · exact rfl
                          · exact rfl
                          · kernel_rfl
                          · kernel_rfl
                          · exact fun v W => Iff.rfl
                          · rfl
                          apply loose_q 117
                          · intro W2 hk; have hcc := bcells hk.1; go_big_quiet_op; first | exact rfl | (apply Exists.intro; refine ⟨fun W3 hW3 => ?_, ?_⟩; (first | exact rfl | (have hcc3 := bcells (bnext hk.1 hW3); go_simp; rfl)); exact rfl)
                          · exact rfl
                          · exact rfl
                          · kernel_rfl
                          · kernel_rfl
                          · exact fun v W => Iff.rfl
                          · rfl
                          apply loose_q 118
                          · intro W2 hk; have hcc := bcells hk.1; go_big_quiet_op; first | exact rfl | (apply Exists.intro; refine ⟨fun W3 hW3 => ?_, ?_⟩; (first | exact rfl | (have hcc3 := bcells (bnext hk.1 hW3); go_simp; rfl)); exact rfl)
                          · exact rfl
                          · exact rfl
                          · kernel_rfl
                          · kernel_rfl
                          · exact fun v W => Iff.rfl
                          · rfl
                          apply loose_q 119
                          · intro W2 hk; have hcc := bcells hk.1; go_big_quiet_op; first | exact rfl | (apply Exists.intro; refine ⟨fun W3 hW3 => ?_, ?_⟩; (first | (obtain ⟨A5, n5, c5, e5, hr5⟩ : someI (ptsOf (x.points.take 17)) v115 W2 := hk.2 115 (by unfold inL; decide) (by decide); rw [e5]; go_at_call 126; exact calm_call (H3.out W3 A5 n5 c5 (hr5.below hW3)) hW3 (fun _ _ h => ⟨h.1, h.2 ▸ Below.refl _ _⟩)) | (have hcc3 := bcells (bnext hk.1 hW3); go_simp; rfl)); exact rfl)
                          · exact rfl
                          · exact rfl
                          · kernel_rfl
                          · kernel_rfl
                          · exact fun v W => Iff.rfl
                          · rfl
                          apply loose_q 120
                          · intro W2 hk; have hcc := bcells hk.1; go_big_quiet_op; first | exact rfl | (apply Exists.intro; refine ⟨fun W3 hW3 => ?_, ?_⟩; (first | exact rfl | (have hcc3 := bcells (bnext hk.1 hW3); go_simp; rfl)); exact rfl)
                          · exact rfl
                          · exact rfl
                          · kernel_rfl
                          · kernel_rfl
                          · exact fun v W => Iff.rfl
                          · rfl
                          apply loose_q 121
                          · intro W2 hk; have hcc := bcells hk.1; go_big_quiet_op; first | exact rfl | (apply Exists.intro; refine ⟨fun W3 hW3 => ?_, ?_⟩; (first | exact rfl | (have hcc3 := bcells (bnext hk.1 hW3); go_simp; rfl)); exact rfl)
                          · exact rfl
                          · exact rfl
                          · kernel_rfl
                          · kernel_rfl
                          · exact fun v W => Iff.rfl
                          · rfl
                          apply loose_q 122
                          · intro W2 hk; have hcc := bcells hk.1; go_big_quiet_op; first | exact rfl | (apply Exists.intro; refine ⟨fun W3 hW3 => ?_, ?_⟩; (first | exact rfl | (have hcc3 := bcells (bnext hk.1 hW3); go_simp; rfl)); exact rfl)
                          · exact rfl
                          · exact rfl
                          · kernel_rfl
                          · kernel_rfl
                          · exact fun v W => Iff.rfl
                          · rfl
                          refine loose_no 123 rfl rfl (by kernel_rfl) ?_
                          intro a1 ha1
                          simp [go_sem] at ha1
                          subst ha1
                          refine loose_no 124 rfl rfl (by kernel_rfl) ?_
                          intro a1 ha1
                          simp [go_sem] at ha1
                          subst ha1
                          refine loose_no 125 rfl rfl (by kernel_rfl) ?_
                          intro a1 ha1
                          simp [go_sem] at ha1
                          subst ha1
                          refine loose_no 126 rfl rfl (by kernel_rfl) ?_
                          intro a1 ha1
                          simp [go_sem] at ha1
                          subst ha1
                          refine loose_no 127 rfl rfl (by kernel_rfl) ?_
                          intro a1 ha1
                          simp [go_sem] at ha1
                          subst ha1
                          refine loose_no 128 rfl rfl (by kernel_rfl) ?_
                          intro a1 ha1
                          simp [go_sem] at ha1
                          subst ha1
                          refine loose_no 129 rfl rfl (by kernel_rfl) ?_
                          intro a1 ha1
                          simp [go_sem] at ha1
                          subst ha1
                          refine loose_no 130 rfl rfl (by kernel_rfl) ?_
                          intro a1 ha1
                          simp [go_sem] at ha1
                          subst ha1
                          apply loose_q 131
                          · intro W2 hk; have hcc := bcells hk.1; go_big_quiet_op; first | exact rfl | (apply Exists.intro; refine ⟨fun W3 hW3 => ?_, ?_⟩; (first | exact rfl | (have hcc3 := bcells (bnext hk.1 hW3); go_simp; rfl)); exact rfl)
                          · exact rfl
                          · exact rfl
                          · kernel_rfl
                          · kernel_rfl
                          · exact fun v W => Iff.rfl
                          · rfl
                          refine loose_done fun W3 hW3 _ => ?_
                          go_wp2
                          go_ret
                          rw [hfin.out]; exact ⟨rfl, bnext hbW (bnext hbr (bnext hb1 hW3))⟩
                        · skip
                          cases q4 : inB pn (ptsOf x.flank)
                          · rw [q0] at H0
                            rw [q1] at H1
                            rw [q2] at H2
                            rw [q3] at H3
                            rw [q4] at H4
                            have hfin : Hid (refMayB l = false) := by rw [hMAY4.out, ← hi', hrt.out, q0, q1, q2, q3, q4]; rfl
                            clear hi' hMAY4 q0 q1 q2 q3 q4
                            clear hrt
                            refine wp_region_loose (lk [ex (.pointer (some ⟨wr.heap.size, 1, none⟩)), ex (.int .i64 x.sig), oneI (x.sig), ex (.pointer (some ⟨w.heap.size, 2, none⟩)), ex (.slice gA gn gc), ex (.int .i64 gn), ex (.bool true), ex (.bool false), ex (.bool false), ex (.pointer (some ⟨wr.heap.size, 2, none⟩)), ex (.slice p1.A p1.n p1.c), ex (.pointer (some ⟨w.heap.size, 0, none⟩)), ex (.slice sA sn sc), ex (.int .i64 sn), ex (.bool true), ex (.bool false), ex (.bool false), ex (.bool false), ex (.pointer (some ⟨wr.heap.size, 4, none⟩)), ex (.slice p3.A p3.n p3.c), ex (.pointer (some ⟨w.heap.size, 0, none⟩)), ex (.slice sA sn sc), ex (.int .i64 sn), ex (.bool true), ex (.bool false), ex (.bool false), ex (.bool false), ex (.pointer (some ⟨wr.heap.size, 3, none⟩)), ex (.slice p2.A p2.n p2.c), someI (ptsOf (x.points.take 17)), ex (.pointer (some ⟨w.heap.size, 1, none⟩)), ex (.slice pA pn pc), ex (.int .i64 pn), ex (.bool true), ex (.bool false), ex (.bool false), ex (.bool false), ex (.pointer (some ⟨wr.heap.size, 5, none⟩)), ex (.slice p4.A p4.n p4.c), someI (ptsOf (x.flank.take 17)), ex (.pointer (some ⟨w.heap.size, 1, none⟩)), ex (.slice pA pn pc), ex (.int .i64 pn), ex (.bool false), ex (.bool true), ex (.bool true)] 86) (by kernel_rfl) (by kernel_rfl) (lk_stab ⟨stab_ex, stab_ex, stab_oneI, stab_ex, stab_ex, stab_ex, stab_ex, stab_ex, stab_ex, stab_ex, stab_ex, stab_ex, stab_ex, stab_ex, stab_ex, stab_ex, stab_ex, stab_ex, stab_ex, stab_ex, stab_ex, stab_ex, stab_ex, stab_ex, stab_ex, stab_ex, stab_ex, stab_ex, stab_ex, stab_someI, stab_ex, stab_ex, stab_ex, stab_ex, stab_ex, stab_ex, stab_ex, stab_ex, stab_ex, stab_someI, stab_ex, stab_ex, stab_ex, stab_ex, stab_ex, stab_ex, trivial⟩) (loose_start ?_)
                            apply loose_q 86
                            · intro W2 hk; have hcc := bcells hk.1; go_big_quiet_op; first | exact rfl | (apply Exists.intro; refine ⟨fun W3 hW3 => ?_, ?_⟩; (first | exact rfl | (have hcc3 := bcells (bnext hk.1 hW3); go_simp; rfl)); exact rfl)
                            · exact rfl
                            · exact rfl
                            · kernel_rfl
                            · kernel_rfl
                            · exact fun v W => Iff.rfl
                            · rfl
                            apply loose_q 87
                            · intro W2 hk; have hcc := bcells hk.1; go_big_quiet_op; first | exact rfl | (apply Exists.intro; refine ⟨fun W3 hW3 => ?_, ?_⟩; (first | exact rfl | (have hcc3 := bcells (bnext hk.1 hW3); go_simp; rfl)); exact rfl)
                            · exact rfl
                            · exact rfl
                            · kernel_rfl
                            · kernel_rfl
                            · exact fun v W => Iff.rfl
                            · rfl
                            refine loose_f 88 rfl rfl (by kernel_rfl) (by kernel_rfl) (fun W2 hk => ?_) ?_
                            · refine loose_run1 (oneI (x.sig)) (.tmp 87) (.int .i64 (x.sig)) rfl (fun _ _ h => h) fun ev hev hx => ?_; simp [go_sem, hx]; exact ⟨(Below.refl _ _).alloc (Nat.le_refl _) _, _, rfl, by go_simp⟩
                            rintro v88 W2 hv88 a1 ha1
                            simp [go_sem] at ha1
                            subst ha1
                            apply loose_q 89
                            · intro W2 hk; have hcc := bcells hk.1; go_big_quiet_op; first | exact rfl | (apply Exists.intro; refine ⟨fun W3 hW3 => ?_, ?_⟩; (first | exact rfl | (have hcc3 := bcells (bnext hk.1 hW3); go_simp; rfl)); exact rfl)
                            · exact rfl
                            · exact rfl
                            · kernel_rfl
                            · kernel_rfl
                            · exact fun v W => Iff.rfl
                            · rfl
                            apply loose_q 90
                            · intro W2 hk; have hcc := bcells hk.1; go_big_quiet_op; first | exact rfl | (apply Exists.intro; refine ⟨fun W3 hW3 => ?_, ?_⟩; (first | exact rfl | (have hcc3 := bcells (bnext hk.1 hW3); go_simp; rfl)); exact rfl)
                            · exact rfl
                            · exact rfl
                            · kernel_rfl
                            · kernel_rfl
                            · exact fun v W => Iff.rfl
                            · rfl
                            apply loose_q 91
                            · intro W2 hk; have hcc := bcells hk.1; go_big_quiet_op; first | exact rfl | (apply Exists.intro; refine ⟨fun W3 hW3 => ?_, ?_⟩; (first | exact rfl | (have hcc3 := bcells (bnext hk.1 hW3); go_simp; rfl)); exact rfl)
                            · exact rfl
                            · exact rfl
                            · kernel_rfl
                            · kernel_rfl
                            · exact fun v W => Iff.rfl
                            · rfl
                            apply loose_q 92
                            · intro W2 hk; have hcc := bcells hk.1; go_big_quiet_op; first | exact rfl | (apply Exists.intro; refine ⟨fun W3 hW3 => ?_, ?_⟩; (first | (obtain ⟨b8, e8, hc8⟩ : oneI x.sig v88 W2 := hk.2 88 (by unfold inL; decide) (by decide); rw [e8]; go_at_call 126; exact calm_call (H0.out W3 b8 (bcell hW3 hc8)) hW3 (fun _ _ h => ⟨h.1, h.2 ▸ Below.refl _ _⟩)) | (have hcc3 := bcells (bnext hk.1 hW3); go_simp; rfl)); exact rfl)
                            · exact rfl
                            · exact rfl
                            · kernel_rfl
                            · kernel_rfl
                            · exact fun v W => Iff.rfl
                            · rfl
                            apply loose_q 93
                            · intro W2 hk; have hcc := bcells hk.1; go_big_quiet_op; first | exact rfl | (apply Exists.intro; refine ⟨fun W3 hW3 => ?_, ?_⟩; (first | exact rfl | (have hcc3 := bcells (bnext hk.1 hW3); go_simp; rfl)); exact rfl)
                            · exact rfl
                            · exact rfl
                            · kernel_rfl
                            · kernel_rfl
                            · exact fun v W => Iff.rfl
                            · rfl
                            apply loose_q 94
                            · intro W2 hk; have hcc := bcells hk.1; go_big_quiet_op; first | exact rfl | (apply Exists.intro; refine ⟨fun W3 hW3 => ?_, ?_⟩; (first | exact rfl | (have hcc3 := bcells (bnext hk.1 hW3); go_simp; rfl)); exact rfl)
                            · exact rfl
                            · exact rfl
                            · kernel_rfl
                            · kernel_rfl
                            · exact fun v W => Iff.rfl
                            · rfl
                            apply loose_q 95
                            · intro W2 hk; have hcc := bcells hk.1; go_big_quiet_op; first | exact rfl | (apply Exists.intro; refine ⟨fun W3 hW3 => ?_, ?_⟩; (first | exact rfl | (have hcc3 := bcells (bnext hk.1 hW3); go_simp; rfl)); exact rfl)
                            · exact rfl
                            · exact rfl
                            · kernel_rfl
                            · kernel_rfl
                            · exact fun v W => Iff.rfl
                            · rfl
                            apply loose_q 96
                            · intro W2 hk; have hcc := bcells hk.1; go_big_quiet_op; first | exact rfl | (apply Exists.intro; refine ⟨fun W3 hW3 => ?_, ?_⟩; (first | exact rfl | (have hcc3 := bcells (bnext hk.1 hW3); go_simp; rfl)); exact rfl)
                            · exact rfl
                            · exact rfl
                            · kernel_rfl
                            · kernel_rfl
                            · exact fun v W => Iff.rfl
                            · rfl
                            apply loose_q 97
                            · intro W2 hk; have hcc := bcells hk.1; go_big_quiet_op; first | exact rfl | (apply Exists.intro; refine ⟨fun W3 hW3 => ?_, ?_⟩; (first | exact rfl | (have hcc3 := bcells (bnext hk.1 hW3); go_simp; rfl)); exact rfl)
                            · exact rfl
                            · exact rfl
                            · kernel_rfl
                            · kernel_rfl
                            · exact fun v W => Iff.rfl
                            · rfl
                            apply loose_q 98
                            · intro W2 hk; have hcc := bcells hk.1; go_big_quiet_op; first | exact rfl | (apply Exists.intro; refine ⟨fun W3 hW3 => ?_, ?_⟩; (first | exact rfl | (have hcc3 := bcells (bnext hk.1 hW3); go_simp; rfl)); exact rfl)
                            · exact rfl
                            · exact rfl
                            · kernel_rfl
                            · kernel_rfl
                            · exact fun v W => Iff.rfl
                            · rfl
                            apply loose_q 99
                            · intro W2 hk; have hcc := bcells hk.1; go_big_quiet_op; first | exact rfl | (apply Exists.intro; refine ⟨fun W3 hW3 => ?_, ?_⟩; (first | exact rfl | (have hcc3 := bcells (bnext hk.1 hW3); go_simp; rfl)); exact rfl)
                            · exact rfl
                            · exact rfl
                            · kernel_rfl
                            · kernel_rfl
                            · exact fun v W => Iff.rfl
                            · rfl
                            apply loose_q 100
                            · intro W2 hk; have hcc := bcells hk.1; go_big_quiet_op; first | exact rfl | (apply Exists.intro; refine ⟨fun W3 hW3 => ?_, ?_⟩; (first | (go_at_call 126; exact calm_call (H1.out W3 (bnext hk.1 hW3)) hW3 (fun _ _ h => ⟨h.1, h.2 ▸ Below.refl _ _⟩)) | (have hcc3 := bcells (bnext hk.1 hW3); go_simp; rfl)); exact rfl)
                            · exact rfl
                            · exact rfl
                            · kernel_rfl
                            · kernel_rfl
                            · exact fun v W => Iff.rfl
                            · rfl
                            apply loose_q 101
                            · intro W2 hk; have hcc := bcells hk.1; go_big_quiet_op; first | exact rfl | (apply Exists.intro; refine ⟨fun W3 hW3 => ?_, ?_⟩; (first | exact rfl | (have hcc3 := bcells (bnext hk.1 hW3); go_simp; rfl)); exact rfl)
                            · exact rfl
                            · exact rfl
                            · kernel_rfl
                            · kernel_rfl
                            · exact fun v W => Iff.rfl
                            · rfl
                            apply loose_q 102
                            · intro W2 hk; have hcc := bcells hk.1; go_big_quiet_op; first | exact rfl | (apply Exists.intro; refine ⟨fun W3 hW3 => ?_, ?_⟩; (first | exact rfl | (have hcc3 := bcells (bnext hk.1 hW3); go_simp; rfl)); exact rfl)
                            · exact rfl
                            · exact rfl
                            · kernel_rfl
                            · kernel_rfl
                            · exact fun v W => Iff.rfl
                            · rfl
                            apply loose_q 103
                            · intro W2 hk; have hcc := bcells hk.1; go_big_quiet_op; first | exact rfl | (apply Exists.intro; refine ⟨fun W3 hW3 => ?_, ?_⟩; (first | exact rfl | (have hcc3 := bcells (bnext hk.1 hW3); go_simp; rfl)); exact rfl)
                            · exact rfl
                            · exact rfl
                            · kernel_rfl
                            · kernel_rfl
                            · exact fun v W => Iff.rfl
                            · rfl
                            apply loose_q 104
                            · intro W2 hk; have hcc := bcells hk.1; go_big_quiet_op; first | exact rfl | (apply Exists.intro; refine ⟨fun W3 hW3 => ?_, ?_⟩; (first | exact rfl | (have hcc3 := bcells (bnext hk.1 hW3); go_simp; rfl)); exact rfl)
                            · exact rfl
                            · exact rfl
                            · kernel_rfl
                            · kernel_rfl
                            · exact fun v W => Iff.rfl
                            · rfl
                            apply loose_q 105
                            · intro W2 hk; have hcc := bcells hk.1; go_big_quiet_op; first | exact rfl | (apply Exists.intro; refine ⟨fun W3 hW3 => ?_, ?_⟩; (first | exact rfl | (have hcc3 := bcells (bnext hk.1 hW3); go_simp; rfl)); exact rfl)
                            · exact rfl
                            · exact rfl
                            · kernel_rfl
                            · kernel_rfl
                            · exact fun v W => Iff.rfl
                            · rfl
                            apply loose_q 106
                            · intro W2 hk; have hcc := bcells hk.1; go_big_quiet_op; first | exact rfl | (apply Exists.intro; refine ⟨fun W3 hW3 => ?_, ?_⟩; (first | exact rfl | (have hcc3 := bcells (bnext hk.1 hW3); go_simp; rfl)); exact rfl)
                            · exact rfl
                            · exact rfl
                            · kernel_rfl
                            · kernel_rfl
                            · exact fun v W => Iff.rfl
                            · rfl
                            apply loose_q 107
                            · intro W2 hk; have hcc := bcells hk.1; go_big_quiet_op; first | exact rfl | (apply Exists.intro; refine ⟨fun W3 hW3 => ?_, ?_⟩; (first | exact rfl | (have hcc3 := bcells (bnext hk.1 hW3); go_simp; rfl)); exact rfl)
                            · exact rfl
                            · exact rfl
                            · kernel_rfl
                            · kernel_rfl
                            · exact fun v W => Iff.rfl
                            · rfl
                            apply loose_q 108
                            · intro W2 hk; have hcc := bcells hk.1; go_big_quiet_op; first | exact rfl | (apply Exists.intro; refine ⟨fun W3 hW3 => ?_, ?_⟩; (first | exact rfl | (have hcc3 := bcells (bnext hk.1 hW3); go_simp; rfl)); exact rfl)
                            · exact rfl
                            · exact rfl
                            · kernel_rfl
                            · kernel_rfl
                            · exact fun v W => Iff.rfl
                            · rfl
                            apply loose_q 109
                            · intro W2 hk; have hcc := bcells hk.1; go_big_quiet_op; first | exact rfl | (apply Exists.intro; refine ⟨fun W3 hW3 => ?_, ?_⟩; (first | (go_at_call 126; exact calm_call (H2.out W3 (bnext hk.1 hW3)) hW3 (fun _ _ h => ⟨h.1, h.2 ▸ Below.refl _ _⟩)) | (have hcc3 := bcells (bnext hk.1 hW3); go_simp; rfl)); exact rfl)
                            · exact rfl
                            · exact rfl
                            · kernel_rfl
                            · kernel_rfl
                            · exact fun v W => Iff.rfl
                            · rfl
                            apply loose_q 110
                            · intro W2 hk; have hcc := bcells hk.1; go_big_quiet_op; first | exact rfl | (apply Exists.intro; refine ⟨fun W3 hW3 => ?_, ?_⟩; (first | exact rfl | (have hcc3 := bcells (bnext hk.1 hW3); go_simp; rfl)); exact rfl)
                            · exact rfl
                            · exact rfl
                            · kernel_rfl
                            · kernel_rfl
                            · exact fun v W => Iff.rfl
                            · rfl
                            apply loose_q 111
                            · intro W2 hk; have hcc := bcells hk.1; go_big_quiet_op; first | exact rfl | (apply Exists.intro; refine ⟨fun W3 hW3 => ?_, ?_⟩; (first | exact rfl | (have hcc3 := bcells (bnext hk.1 hW3); go_simp; rfl)); exact rfl)
                            · exact rfl
                            · exact rfl
                            · kernel_rfl
                            · kernel_rfl
                            · exact fun v W => Iff.rfl
                            · rfl
                            apply loose_q 112
                            · intro W2 hk; have hcc := bcells hk.1; go_big_quiet_op; first | exact rfl | (apply Exists.intro; refine ⟨fun W3 hW3 => ?_, ?_⟩; (first | exact rfl | (have hcc3 := bcells (bnext hk.1 hW3); go_simp; rfl)); exact rfl)
                            · exact rfl
                            · exact rfl
                            · kernel_rfl
                            · kernel_rfl
                            · exact fun v W => Iff.rfl
                            · rfl
                            apply loose_q 113
                            · intro W2 hk; have hcc := bcells hk.1; go_big_quiet_op; first | exact rfl | (apply Exists.intro; refine ⟨fun W3 hW3 => ?_, ?_⟩; (first | exact rfl | (have hcc3 := bcells (bnext hk.1 hW3); go_simp; rfl)); exact rfl)
                            · exact rfl
                            · exact rfl
                            · kernel_rfl
                            · kernel_rfl
                            · exact fun v W => Iff.rfl
                            · rfl
                            apply loose_q 114
                            · intro W2 hk; have hcc := bcells hk.1; go_big_quiet_op; first | exact rfl | (apply Exists.intro; refine ⟨fun W3 hW3 => ?_, ?_⟩; (first | exact rfl | (have hcc3 := bcells (bnext hk.1 hW3); go_simp; rfl)); exact rfl)
                            · exact rfl
                            · exact rfl
                            · kernel_rfl
                            · kernel_rfl
                            · exact fun v W => Iff.rfl
                            · rfl
                            refine loose_f 115 rfl rfl (by kernel_rfl) (by kernel_rfl) (fun W2 hk => ?_) ?_
                            · refine loose_run1 (someI (ptsOf (x.points.take 17))) (.tmp 114) (.slice p2.A p2.n p2.c) rfl (fun _ _ h => h) fun ev hev hx => ?_; simp [go_sem, hx, hev]; refine (P2.out _ hk.1).mono ?_; rintro e w5 ⟨A5, n5, c5, rfl, hle5, hb5, hr5⟩; exact ⟨_, rfl, hb5, A5, n5, c5, rfl, hr5⟩
                            rintro v115 W2 hv115 a1 ha1
                            simp [go_sem] at ha1
                            subst ha1
                            apply loose_q 116
                            · intro W2 hk; have hcc := bcells hk.1; go_big_quiet_op; first | exact rfl | (apply Exists.intro; refine ⟨fun W3 hW3 => ?_, ?_⟩; (first | exact rfl | (have hcc3 := bcells (bnext hk.1 hW3); go_simp; rfl)); exact rfl)
                            · exact rfl
                            · exact rfl
                            · kernel_rfl
                            · kernel_rfl
                            · exact fun v W => Iff.rfl
                            · rfl
                            apply loose_q 117
                            · intro W2 hk; have hcc := bcells hk.1; go_big_quiet_op; first | exact rfl | (apply Exists.intro; refine ⟨fun W3 hW3 => ?_, ?_⟩; (first | exact rfl | (have hcc3 := bcells (bnext hk.1 hW3); go_simp; rfl)); exact rfl)
                            · exact rfl
                            · exact rfl
                            · kernel_rfl
                            · kernel_rfl
                            · exact fun v W => Iff.rfl
                            · rfl
                            apply loose_q 118
                            · intro W2 hk; have hcc := bcells hk.1; go_big_quiet_op; first | exact rfl | (apply Exists.intro; refine ⟨fun W3 hW3 => ?_, ?_⟩; (first | exact rfl | (have hcc3 := bcells (bnext hk.1 hW3); go_simp; rfl)); exact rfl)
                            · exact rfl
                            · exact rfl
                            · kernel_rfl
                            · kernel_rfl
                            · exact fun v W => Iff.rfl
                            · rfl
                            apply loose_q 119
                            · intro W2 hk; have hcc := bcells hk.1; go_big_quiet_op; first | exact rfl | (apply Exists.intro; refine ⟨fun W3 hW3 => ?_, ?_⟩; (first | (obtain ⟨A5, n5, c5, e5, hr5⟩ : someI (ptsOf (x.points.take 17)) v115 W2 := hk.2 115 (by unfold inL; decide) (by decide); rw [e5]; go_at_call 126; exact calm_call (H3.out W3 A5 n5 c5 (hr5.below hW3)) hW3 (fun _ _ h => ⟨h.1, h.2 ▸ Below.refl _ _⟩)) | (have hcc3 := bcells (bnext hk.1 hW3); go_simp; rfl)); exact rfl)
                            · exact rfl
                            · exact rfl
                            · kernel_rfl
                            · kernel_rfl
                            · exact fun v W => Iff.rfl
                            · rfl
                            apply loose_q 120
                            · intro W2 hk; have hcc := bcells hk.1; go_big_quiet_op; first | exact rfl | (apply Exists.intro; refine ⟨fun W3 hW3 => ?_, ?_⟩; (first | exact rfl | (have hcc3 := bcells (bnext hk.1 hW3); go_simp; rfl)); exact rfl)
                            · exact rfl
                            · exact rfl
                            · kernel_rfl
                            · kernel_rfl
                            · exact fun v W => Iff.rfl
                            · rfl
                            apply loose_q 121
                            · intro W2 hk; have hcc := bcells hk.1; go_big_quiet_op; first | exact rfl | (apply Exists.intro; refine ⟨fun W3 hW3 => ?_, ?_⟩; (first | exact rfl | (have hcc3 := bcells (bnext hk.1 hW3); go_simp; rfl)); exact rfl)
                            · exact rfl
                            · exact rfl
                            · kernel_rfl
                            · kernel_rfl
                            · exact fun v W => Iff.rfl
                            · rfl
                            apply loose_q 122
                            · intro W2 hk; have hcc := bcells hk.1; go_big_quiet_op; first | exact rfl | (apply Exists.intro; refine ⟨fun W3 hW3 => ?_, ?_⟩; (first | exact rfl | (have hcc3 := bcells (bnext hk.1 hW3); go_simp; rfl)); exact rfl)
                            · exact rfl
                            · exact rfl
                            · kernel_rfl
                            · kernel_rfl
                            · exact fun v W => Iff.rfl
                            · rfl
                            apply loose_q 123
                            · intro W2 hk; have hcc := bcells hk.1; go_big_quiet_op; first | exact rfl | (apply Exists.intro; refine ⟨fun W3 hW3 => ?_, ?_⟩; (first | exact rfl | (have hcc3 := bcells (bnext hk.1 hW3); go_simp; rfl)); exact rfl)
                            · exact rfl
                            · exact rfl
                            · kernel_rfl
                            · kernel_rfl
                            · exact fun v W => Iff.rfl
                            · rfl
                            apply loose_q 124
                            · intro W2 hk; have hcc := bcells hk.1; go_big_quiet_op; first | exact rfl | (apply Exists.intro; refine ⟨fun W3 hW3 => ?_, ?_⟩; (first | exact rfl | (have hcc3 := bcells (bnext hk.1 hW3); go_simp; rfl)); exact rfl)
                            · exact rfl
                            · exact rfl
                            · kernel_rfl
                            · kernel_rfl
                            · exact fun v W => Iff.rfl
                            · rfl
                            refine loose_f 125 rfl rfl (by kernel_rfl) (by kernel_rfl) (fun W2 hk => ?_) ?_
                            · refine loose_run1 (someI (ptsOf (x.flank.take 17))) (.tmp 124) (.slice p4.A p4.n p4.c) rfl (fun _ _ h => h) fun ev hev hx => ?_; simp [go_sem, hx, hev]; refine (P4.out _ hk.1).mono ?_; rintro e w5 ⟨A5, n5, c5, rfl, hle5, hb5, hr5⟩; exact ⟨_, rfl, hb5, A5, n5, c5, rfl, hr5⟩
                            rintro v125 W2 hv125 a1 ha1
                            simp [go_sem] at ha1
                            subst ha1
                            apply loose_q 126
                            · intro W2 hk; have hcc := bcells hk.1; go_big_quiet_op; first | exact rfl | (apply Exists.intro; refine ⟨fun W3 hW3 => ?_, ?_⟩; (first | exact rfl | (have hcc3 := bcells (bnext hk.1 hW3); go_simp; rfl)); exact rfl)
                            · exact rfl
                            · exact rfl
                            · kernel_rfl
                            · kernel_rfl
                            · exact fun v W => Iff.rfl
                            · rfl
                            apply loose_q 127
                            · intro W2 hk; have hcc := bcells hk.1; go_big_quiet_op; first | exact rfl | (apply Exists.intro; refine ⟨fun W3 hW3 => ?_, ?_⟩; (first | exact rfl | (have hcc3 := bcells (bnext hk.1 hW3); go_simp; rfl)); exact rfl)
                            · exact rfl
                            · exact rfl
                            · kernel_rfl
                            · kernel_rfl
                            · exact fun v W => Iff.rfl
                            · rfl
                            apply loose_q 128
                            · intro W2 hk; have hcc := bcells hk.1; go_big_quiet_op; first | exact rfl | (apply Exists.intro; refine ⟨fun W3 hW3 => ?_, ?_⟩; (first | exact rfl | (have hcc3 := bcells (bnext hk.1 hW3); go_simp; rfl)); exact rfl)
                            · exact rfl
                            · exact rfl
                            · kernel_rfl
                            · kernel_rfl
                            · exact fun v W => Iff.rfl
                            · rfl
                            apply loose_q 129
                            · intro W2 hk; have hcc := bcells hk.1; go_big_quiet_op; first | exact rfl | (apply Exists.intro; refine ⟨fun W3 hW3 => ?_, ?_⟩; (first | (obtain ⟨A5, n5, c5, e5, hr5⟩ : someI (ptsOf (x.flank.take 17)) v125 W2 := hk.2 125 (by unfold inL; decide) (by decide); rw [e5]; go_at_call 126; exact calm_call (H4.out W3 A5 n5 c5 (hr5.below hW3)) hW3 (fun _ _ h => ⟨h.1, h.2 ▸ Below.refl _ _⟩)) | (have hcc3 := bcells (bnext hk.1 hW3); go_simp; rfl)); exact rfl)
                            · exact rfl
                            · exact rfl
                            · kernel_rfl
                            · kernel_rfl
                            · exact fun v W => Iff.rfl
                            · rfl
                            apply loose_q 130
                            · intro W2 hk; have hcc := bcells hk.1; go_big_quiet_op; first | exact rfl | (apply Exists.intro; refine ⟨fun W3 hW3 => ?_, ?_⟩; (first | exact rfl | (have hcc3 := bcells (bnext hk.1 hW3); go_simp; rfl)); exact rfl)
                            · exact rfl
                            · exact rfl
                            · kernel_rfl
                            · kernel_rfl
                            · exact fun v W => Iff.rfl
                            · rfl
                            apply loose_q 131
                            · intro W2 hk; have hcc := bcells hk.1; go_big_quiet_op; first | exact rfl | (apply Exists.intro; refine ⟨fun W3 hW3 => ?_, ?_⟩; (first | exact rfl | (have hcc3 := bcells (bnext hk.1 hW3); go_simp; rfl)); exact rfl)
                            · exact rfl
                            · exact rfl
                            · kernel_rfl
                            · kernel_rfl
                            · exact fun v W => Iff.rfl
                            · rfl
                            refine loose_done fun W3 hW3 _ => ?_
                            go_wp2
                            go_ret
                            rw [hfin.out]; exact ⟨rfl, bnext hbW (bnext hbr (bnext hb1 hW3))⟩
                          · skip
                            rw [q0] at H0
                            rw [q1] at H1
                            rw [q2] at H2
                            rw [q3] at H3
                            rw [q4] at H4
                            have hfin : Hid ((l.routes.drop (k + 1)).all (rtIn l) = l.routes.all (rtIn l)) := by rw [← hi', hrt.out, q0, q1, q2, q3, q4]; simp; trivial
                            clear hi' q0 q1 q2 q3 q4
                            clear hrt
                            refine wp_region_loose (lk [ex (.pointer (some ⟨wr.heap.size, 1, none⟩)), ex (.int .i64 x.sig), oneI (x.sig), ex (.pointer (some ⟨w.heap.size, 2, none⟩)), ex (.slice gA gn gc), ex (.int .i64 gn), ex (.bool true), ex (.bool false), ex (.bool false), ex (.pointer (some ⟨wr.heap.size, 2, none⟩)), ex (.slice p1.A p1.n p1.c), ex (.pointer (some ⟨w.heap.size, 0, none⟩)), ex (.slice sA sn sc), ex (.int .i64 sn), ex (.bool true), ex (.bool false), ex (.bool false), ex (.bool false), ex (.pointer (some ⟨wr.heap.size, 4, none⟩)), ex (.slice p3.A p3.n p3.c), ex (.pointer (some ⟨w.heap.size, 0, none⟩)), ex (.slice sA sn sc), ex (.int .i64 sn), ex (.bool true), ex (.bool false), ex (.bool false), ex (.bool false), ex (.pointer (some ⟨wr.heap.size, 3, none⟩)), ex (.slice p2.A p2.n p2.c), someI (ptsOf (x.points.take 17)), ex (.pointer (some ⟨w.heap.size, 1, none⟩)), ex (.slice pA pn pc), ex (.int .i64 pn), ex (.bool true), ex (.bool false), ex (.bool false), ex (.bool false), ex (.pointer (some ⟨wr.heap.size, 5, none⟩)), ex (.slice p4.A p4.n p4.c), someI (ptsOf (x.flank.take 17)), ex (.pointer (some ⟨w.heap.size, 1, none⟩)), ex (.slice pA pn pc), ex (.int .i64 pn), ex (.bool true), ex (.bool false), ex (.bool false)] 86) (by kernel_rfl) (by kernel_rfl) (lk_stab ⟨stab_ex, stab_ex, stab_oneI, stab_ex, stab_ex, stab_ex, stab_ex, stab_ex, stab_ex, stab_ex, stab_ex, stab_ex, stab_ex, stab_ex, stab_ex, stab_ex, stab_ex, stab_ex, stab_ex, stab_ex, stab_ex, stab_ex, stab_ex, stab_ex, stab_ex, stab_ex, stab_ex, stab_ex, stab_ex, stab_someI, stab_ex, stab_ex, stab_ex, stab_ex, stab_ex, stab_ex, stab_ex, stab_ex, stab_ex, stab_someI, stab_ex, stab_ex, stab_ex, stab_ex, stab_ex, stab_ex, trivial⟩) (loose_start ?_)
                            apply loose_q 86
                            · intro W2 hk; have hcc := bcells hk.1; go_big_quiet_op; first | exact rfl | (apply Exists.intro; refine ⟨fun W3 hW3 => ?_, ?_⟩; (first | exact rfl | (have hcc3 := bcells (bnext hk.1 hW3); go_simp; rfl)); exact rfl)
                            · exact rfl
                            · exact rfl
                            · kernel_rfl
                            · kernel_rfl
                            · exact fun v W => Iff.rfl
                            · rfl
                            apply loose_q 87
                            · intro W2 hk; have hcc := bcells hk.1; go_big_quiet_op; first | exact rfl | (apply Exists.intro; refine ⟨fun W3 hW3 => ?_, ?_⟩; (first | exact rfl | (have hcc3 := bcells (bnext hk.1 hW3); go_simp; rfl)); exact rfl)
                            · exact rfl
                            · exact rfl
                            · kernel_rfl
                            · kernel_rfl
                            · exact fun v W => Iff.rfl
                            · rfl
                            refine loose_f 88 rfl rfl (by kernel_rfl) (by kernel_rfl) (fun W2 hk => ?_) ?_
                            · refine loose_run1 (oneI (x.sig)) (.tmp 87) (.int .i64 (x.sig)) rfl (fun _ _ h => h) fun ev hev hx => ?_; simp [go_sem, hx]; exact ⟨(Below.refl _ _).alloc (Nat.le_refl _) _, _, rfl, by go_simp⟩
                            rintro v88 W2 hv88 a1 ha1
                            simp [go_sem] at ha1
                            subst ha1
                            apply loose_q 89
                            · intro W2 hk; have hcc := bcells hk.1; go_big_quiet_op; first | exact rfl | (apply Exists.intro; refine ⟨fun W3 hW3 => ?_, ?_⟩; (first | exact rfl | (have hcc3 := bcells (bnext hk.1 hW3); go_simp; rfl)); exact rfl)
                            · exact rfl
                            · exact rfl
                            · kernel_rfl
                            · kernel_rfl
                            · exact fun v W => Iff.rfl
                            · rfl
                            apply loose_q 90
                            · intro W2 hk; have hcc := bcells hk.1; go_big_quiet_op; first | exact rfl | (apply Exists.intro; refine ⟨fun W3 hW3 => ?_, ?_⟩; (first | exact rfl | (have hcc3 := bcells (bnext hk.1 hW3); go_simp; rfl)); exact rfl)
                            · exact rfl
                            · exact rfl
                            · kernel_rfl
                            · kernel_rfl
                            · exact fun v W => Iff.rfl
                            · rfl
                            apply loose_q 91
                            · intro W2 hk; have hcc := bcells hk.1; go_big_quiet_op; first | exact rfl | (apply Exists.intro; refine ⟨fun W3 hW3 => ?_, ?_⟩; (first | exact rfl | (have hcc3 := bcells (bnext hk.1 hW3); go_simp; rfl)); exact rfl)
                            · exact rfl
                            · exact rfl
                            · kernel_rfl
                            · kernel_rfl
                            · exact fun v W => Iff.rfl
                            · rfl
                            apply loose_q 92
                            · intro W2 hk; have hcc := bcells hk.1; go_big_quiet_op; first | exact rfl | (apply Exists.intro; refine ⟨fun W3 hW3 => ?_, ?_⟩; (first | (obtain ⟨b8, e8, hc8⟩ : oneI x.sig v88 W2 := hk.2 88 (by unfold inL; decide) (by decide); rw [e8]; go_at_call 126; exact calm_call (H0.out W3 b8 (bcell hW3 hc8)) hW3 (fun _ _ h => ⟨h.1, h.2 ▸ Below.refl _ _⟩)) | (have hcc3 := bcells (bnext hk.1 hW3); go_simp; rfl)); exact rfl)
                            · exact rfl
                            · exact rfl
                            · kernel_rfl
                            · kernel_rfl
                            · exact fun v W => Iff.rfl
                            · rfl
                            apply loose_q 93
                            · intro W2 hk; have hcc := bcells hk.1; go_big_quiet_op; first | exact rfl | (apply Exists.intro; refine ⟨fun W3 hW3 => ?_, ?_⟩; (first | exact rfl | (have hcc3 := bcells (bnext hk.1 hW3); go_simp; rfl)); exact rfl)
                            · exact rfl
                            · exact rfl
                            · kernel_rfl
                            · kernel_rfl
                            · exact fun v W => Iff.rfl
                            · rfl
                            apply loose_q 94
                            · intro W2 hk; have hcc := bcells hk.1; go_big_quiet_op; first | exact rfl | (apply Exists.intro; refine ⟨fun W3 hW3 => ?_, ?_⟩; (first | exact rfl | (have hcc3 := bcells (bnext hk.1 hW3); go_simp; rfl)); exact rfl)
                            · exact rfl
                            · exact rfl
                            · kernel_rfl
                            · kernel_rfl
                            · exact fun v W => Iff.rfl
                            · rfl
                            apply loose_q 95
                            · intro W2 hk; have hcc := bcells hk.1; go_big_quiet_op; first | exact rfl | (apply Exists.intro; refine ⟨fun W3 hW3 => ?_, ?_⟩; (first | exact rfl | (have hcc3 := bcells (bnext hk.1 hW3); go_simp; rfl)); exact rfl)
                            · exact rfl
                            · exact rfl
                            · kernel_rfl
                            · kernel_rfl
                            · exact fun v W => Iff.rfl
                            · rfl
                            apply loose_q 96
                            · intro W2 hk; have hcc := bcells hk.1; go_big_quiet_op; first | exact rfl | (apply Exists.intro; refine ⟨fun W3 hW3 => ?_, ?_⟩; (first | exact rfl | (have hcc3 := bcells (bnext hk.1 hW3); go_simp; rfl)); exact rfl)
                            · exact rfl
                            · exact rfl
                            · kernel_rfl
                            · kernel_rfl
                            · exact fun v W => Iff.rfl
                            · rfl
                            apply loose_q 97
                            · intro W2 hk; have hcc := bcells hk.1; go_big_quiet_op; first | exact rfl | (apply Exists.intro; refine ⟨fun W3 hW3 => ?_, ?_⟩; (first | exact rfl | (have hcc3 := bcells (bnext hk.1 hW3); go_simp; rfl)); exact rfl)
                            · exact rfl
                            · exact rfl
                            · kernel_rfl
                            · kernel_rfl
                            · exact fun v W => Iff.rfl
                            · rfl
                            apply loose_q 98
                            · intro W2 hk; have hcc := bcells hk.1; go_big_quiet_op; first | exact rfl | (apply Exists.intro; refine ⟨fun W3 hW3 => ?_, ?_⟩; (first | exact rfl | (have hcc3 := bcells (bnext hk.1 hW3); go_simp; rfl)); exact rfl)
                            · exact rfl
                            · exact rfl
                            · kernel_rfl
                            · kernel_rfl
                            · exact fun v W => Iff.rfl
                            · rfl
                            apply loose_q 99
                            · intro W2 hk; have hcc := bcells hk.1; go_big_quiet_op; first | exact rfl | (apply Exists.intro; refine ⟨fun W3 hW3 => ?_, ?_⟩; (first | exact rfl | (have hcc3 := bcells (bnext hk.1 hW3); go_simp; rfl)); exact rfl)
                            · exact rfl
                            · exact rfl
                            · kernel_rfl
                            · kernel_rfl
                            · exact fun v W => Iff.rfl
                            · rfl
                            apply loose_q 100
                            · intro W2 hk; have hcc := bcells hk.1; go_big_quiet_op; first | exact rfl | (apply Exists.intro; refine ⟨fun W3 hW3 => ?_, ?_⟩; (first | (go_at_call 126; exact calm_call (H1.out W3 (bnext hk.1 hW3)) hW3 (fun _ _ h => ⟨h.1, h.2 ▸ Below.refl _ _⟩)) | (have hcc3 := bcells (bnext hk.1 hW3); go_simp; rfl)); exact rfl)
                            · exact rfl
                            · exact rfl
                            · kernel_rfl
                            · kernel_rfl
                            · exact fun v W => Iff.rfl
                            · rfl
                            apply loose_q 101
                            · intro W2 hk; have hcc := bcells hk.1; go_big_quiet_op; first | exact rfl | (apply Exists.intro; refine ⟨fun W3 hW3 => ?_, ?_⟩; (first | exact rfl | (have hcc3 := bcells (bnext hk.1 hW3); go_simp; rfl)); exact rfl)
                            · exact rfl
                            · exact rfl
                            · kernel_rfl
                            · kernel_rfl
                            · exact fun v W => Iff.rfl
                            · rfl
                            apply loose_q 102
                            · intro W2 hk; have hcc := bcells hk.1; go_big_quiet_op; first | exact rfl | (apply Exists.intro; refine ⟨fun W3 hW3 => ?_, ?_⟩; (first | exact rfl | (have hcc3 := bcells (bnext hk.1 hW3); go_simp; rfl)); exact rfl)
                            · exact rfl
                            · exact rfl
                            · kernel_rfl
                            · kernel_rfl
                            · exact fun v W => Iff.rfl
                            · rfl
                            apply loose_q 103
                            · intro W2 hk; have hcc := bcells hk.1; go_big_quiet_op; first | exact rfl | (apply Exists.intro; refine ⟨fun W3 hW3 => ?_, ?_⟩; (first | exact rfl | (have hcc3 := bcells (bnext hk.1 hW3); go_simp; rfl)); exact rfl)
                            · exact rfl
                            · exact rfl
                            · kernel_rfl
                            · kernel_rfl
                            · exact fun v W => Iff.rfl
                            · rfl
                            apply loose_q 104
                            · intro W2 hk; have hcc := bcells hk.1; go_big_quiet_op; first | exact rfl | (apply Exists.intro; refine ⟨fun W3 hW3 => ?_, ?_⟩; (first | exact rfl | (have hcc3 := bcells (bnext hk.1 hW3); go_simp; rfl)); exact rfl)
                            · exact rfl
                            · exact rfl
                            · kernel_rfl
                            · kernel_rfl
                            · exact fun v W => Iff.rfl
                            · rfl
                            apply loose_q 105
                            · intro W2 hk; have hcc := bcells hk.1; go_big_quiet_op; first | exact rfl | (apply Exists.intro; refine ⟨fun W3 hW3 => ?_, ?_⟩; (first | exact rfl | (have hcc3 := bcells (bnext hk.1 hW3); go_simp; rfl)); exact rfl)
                            · exact rfl
                            · exact rfl
                            · kernel_rfl
                            · kernel_rfl
                            · exact fun v W => Iff.rfl
                            · rfl
                            apply loose_q 106
                            · intro W2 hk; have hcc := bcells hk.1; go_big_quiet_op; first | exact rfl | (apply Exists.intro; refine ⟨fun W3 hW3 => ?_, ?_⟩; (first | exact rfl | (have hcc3 := bcells (bnext hk.1 hW3); go_simp; rfl)); exact rfl)
                            · exact rfl
                            · exact rfl
                            · kernel_rfl
                            · kernel_rfl
                            · exact fun v W => Iff.rfl
                            · rfl
                            apply loose_q 107
                            · intro W2 hk; have hcc := bcells hk.1; go_big_quiet_op; first | exact rfl | (apply Exists.intro; refine ⟨fun W3 hW3 => ?_, ?_⟩; (first | exact rfl | (have hcc3 := bcells (bnext hk.1 hW3); go_simp; rfl)); exact rfl)
                            · exact rfl
                            · exact rfl
                            · kernel_rfl
                            · kernel_rfl
                            · exact fun v W => Iff.rfl
                            · rfl
                            apply loose_q 108
                            · intro W2 hk; have hcc := bcells hk.1; go_big_quiet_op; first | exact rfl | (apply Exists.intro; refine ⟨fun W3 hW3 => ?_, ?_⟩; (first | exact rfl | (have hcc3 := bcells (bnext hk.1 hW3); go_simp; rfl)); exact rfl)
                            · exact rfl
                            · exact rfl
                            · kernel_rfl
                            · kernel_rfl
                            · exact fun v W => Iff.rfl
                            · rfl
                            apply loose_q 109
                            · intro W2 hk; have hcc := bcells hk.1; go_big_quiet_op; first | exact rfl | (apply Exists.intro; refine ⟨fun W3 hW3 => ?_, ?_⟩; (first | (go_at_call 126; exact calm_call (H2.out W3 (bnext hk.1 hW3)) hW3 (fun _ _ h => ⟨h.1, h.2 ▸ Below.refl _ _⟩)) | (have hcc3 := bcells (bnext hk.1 hW3); go_simp; rfl)); exact rfl)
                            · exact rfl
                            · exact rfl
                            · kernel_rfl
                            · kernel_rfl
                            · exact fun v W => Iff.rfl
                            · rfl
                            apply loose_q 110
                            · intro W2 hk; have hcc := bcells hk.1; go_big_quiet_op; first | exact rfl | (apply Exists.intro; refine ⟨fun W3 hW3 => ?_, ?_⟩; (first | exact rfl | (have hcc3 := bcells (bnext hk.1 hW3); go_simp; rfl)); exact rfl)
                            · exact rfl
                            · exact rfl
                            · kernel_rfl
                            · kernel_rfl
                            · exact fun v W => Iff.rfl
                            · rfl
                            apply loose_q 111
                            · intro W2 hk; have hcc := bcells hk.1; go_big_quiet_op; first | exact rfl | (apply Exists.intro; refine ⟨fun W3 hW3 => ?_, ?_⟩; (first | exact rfl | (have hcc3 := bcells (bnext hk.1 hW3); go_simp; rfl)); exact rfl)
                            · exact rfl
                            · exact rfl
                            · kernel_rfl
                            · kernel_rfl
                            · exact fun v W => Iff.rfl
                            · rfl
                            apply loose_q 112
                            · intro W2 hk; have hcc := bcells hk.1; go_big_quiet_op; first | exact rfl | (apply Exists.intro; refine ⟨fun W3 hW3 => ?_, ?_⟩; (first | exact rfl | (have hcc3 := bcells (bnext hk.1 hW3); go_simp; rfl)); exact rfl)
                            · exact rfl
                            · exact rfl
                            · kernel_rfl
                            · kernel_rfl
                            · exact fun v W => Iff.rfl
                            · rfl
                            apply loose_q 113
                            · intro W2 hk; have hcc := bcells hk.1; go_big_quiet_op; first | exact rfl | (apply Exists.intro; refine ⟨fun W3 hW3 => ?_, ?_⟩; (first | exact rfl | (have hcc3 := bcells (bnext hk.1 hW3); go_simp; rfl)); exact rfl)
                            · exact rfl
                            · exact rfl
                            · kernel_rfl
                            · kernel_rfl
                            · exact fun v W => Iff.rfl
                            · rfl
                            apply loose_q 114
                            · intro W2 hk; have hcc := bcells hk.1; go_big_quiet_op; first | exact rfl | (apply Exists.intro; refine ⟨fun W3 hW3 => ?_, ?_⟩; (first | exact rfl | (have hcc3 := bcells (bnext hk.1 hW3); go_simp; rfl)); exact rfl)
                            · exact rfl
                            · exact rfl
                            · kernel_rfl
                            · kernel_rfl
                            · exact fun v W => Iff.rfl
                            · rfl
                            refine loose_f 115 rfl rfl (by kernel_rfl) (by kernel_rfl) (fun W2 hk => ?_) ?_
                            · refine loose_run1 (someI (ptsOf (x.points.take 17))) (.tmp 114) (.slice p2.A p2.n p2.c) rfl (fun _ _ h => h) fun ev hev hx => ?_; simp [go_sem, hx, hev]; refine (P2.out _ hk.1).mono ?_; rintro e w5 ⟨A5, n5, c5, rfl, hle5, hb5, hr5⟩; exact ⟨_, rfl, hb5, A5, n5, c5, rfl, hr5⟩
                            rintro v115 W2 hv115 a1 ha1
                            simp [go_sem] at ha1
                            subst ha1
                            apply loose_q 116
                            · intro W2 hk; have hcc := bcells hk.1; go_big_quiet_op; first | exact rfl | (apply Exists.intro; refine ⟨fun W3 hW3 => ?_, ?_⟩; (first | exact rfl | (have hcc3 := bcells (bnext hk.1 hW3); go_simp; rfl)); exact rfl)
                            · exact rfl
                            · exact rfl
                            · kernel_rfl
                            · kernel_rfl
                            · exact fun v W => Iff.rfl
                            · rfl
                            apply loose_q 117
                            · intro W2 hk; have hcc := bcells hk.1; go_big_quiet_op; first | exact rfl | (apply Exists.intro; refine ⟨fun W3 hW3 => ?_, ?_⟩; (first | exact rfl | (have hcc3 := bcells (bnext hk.1 hW3); go_simp; rfl)); exact rfl)
                            · exact rfl
                            · exact rfl
                            · kernel_rfl
                            · kernel_rfl
                            · exact fun v W => Iff.rfl
                            · rfl
                            apply loose_q 118
                            · intro W2 hk; have hcc := bcells hk.1; go_big_quiet_op; first | exact rfl | (apply Exists.intro; refine ⟨fun W3 hW3 => ?_, ?_⟩; (first | exact rfl | (have hcc3 := bcells (bnext hk.1 hW3); go_simp; rfl)); exact rfl)
                            · exact rfl
                            · exact rfl
                            · kernel_rfl
                            · kernel_rfl
                            · exact fun v W => Iff.rfl
                            · rfl
                            apply loose_q 119
                            · intro W2 hk; have hcc := bcells hk.1; go_big_quiet_op; first | exact rfl | (apply Exists.intro; refine ⟨fun W3 hW3 => ?_, ?_⟩; (first | (obtain ⟨A5, n5, c5, e5, hr5⟩ : someI (ptsOf (x.points.take 17)) v115 W2 := hk.2 115 (by unfold inL; decide) (by decide); rw [e5]; go_at_call 126; exact calm_call (H3.out W3 A5 n5 c5 (hr5.below hW3)) hW3 (fun _ _ h => ⟨h.1, h.2 ▸ Below.refl _ _⟩)) | (have hcc3 := bcells (bnext hk.1 hW3); go_simp; rfl)); exact rfl)
                            · exact rfl
                            · exact rfl
                            · kernel_rfl
                            · kernel_rfl
                            · exact fun v W => Iff.rfl
                            · rfl
                            apply loose_q 120
                            · intro W2 hk; have hcc := bcells hk.1; go_big_quiet_op; first | exact rfl | (apply Exists.intro; refine ⟨fun W3 hW3 => ?_, ?_⟩; (first | exact rfl | (have hcc3 := bcells (bnext hk.1 hW3); go_simp; rfl)); exact rfl)
                            · exact rfl
                            · exact rfl
                            · kernel_rfl
                            · kernel_rfl
                            · exact fun v W => Iff.rfl
                            · rfl
                            apply loose_q 121
                            · intro W2 hk; have hcc := bcells hk.1; go_big_quiet_op; first | exact rfl | (apply Exists.intro; refine ⟨fun W3 hW3 => ?_, ?_⟩; (first | exact rfl | (have hcc3 := bcells (bnext hk.1 hW3); go_simp; rfl)); exact rfl)
                            · exact rfl
                            · exact rfl
                            · kernel_rfl
                            · kernel_rfl
                            · exact fun v W => Iff.rfl
                            · rfl
                            apply loose_q 122
                            · intro W2 hk; have hcc := bcells hk.1; go_big_quiet_op; first | exact rfl | (apply Exists.intro; refine ⟨fun W3 hW3 => ?_, ?_⟩; (first | exact rfl | (have hcc3 := bcells (bnext hk.1 hW3); go_simp; rfl)); exact rfl)
                            · exact rfl
                            · exact rfl
                            · kernel_rfl
                            · kernel_rfl
                            · exact fun v W => Iff.rfl
                            · rfl
                            apply loose_q 123
                            · intro W2 hk; have hcc := bcells hk.1; go_big_quiet_op; first | exact rfl | (apply Exists.intro; refine ⟨fun W3 hW3 => ?_, ?_⟩; (first | exact rfl | (have hcc3 := bcells (bnext hk.1 hW3); go_simp; rfl)); exact rfl)
                            · exact rfl
                            · exact rfl
                            · kernel_rfl
                            · kernel_rfl
                            · exact fun v W => Iff.rfl
                            · rfl
                            apply loose_q 124
                            · intro W2 hk; have hcc := bcells hk.1; go_big_quiet_op; first | exact rfl | (apply Exists.intro; refine ⟨fun W3 hW3 => ?_, ?_⟩; (first | exact rfl | (have hcc3 := bcells (bnext hk.1 hW3); go_simp; rfl)); exact rfl)
                            · exact rfl
                            · exact rfl
                            · kernel_rfl
                            · kernel_rfl
                            · exact fun v W => Iff.rfl
                            · rfl
                            refine loose_f 125 rfl rfl (by kernel_rfl) (by kernel_rfl) (fun W2 hk => ?_) ?_
                            · refine loose_run1 (someI (ptsOf (x.flank.take 17))) (.tmp 124) (.slice p4.A p4.n p4.c) rfl (fun _ _ h => h) fun ev hev hx => ?_; simp [go_sem, hx, hev]; refine (P4.out _ hk.1).mono ?_; rintro e w5 ⟨A5, n5, c5, rfl, hle5, hb5, hr5⟩; exact ⟨_, rfl, hb5, A5, n5, c5, rfl, hr5⟩
                            rintro v125 W2 hv125 a1 ha1
                            simp [go_sem] at ha1
                            subst ha1
                            apply loose_q 126
                            · intro W2 hk; have hcc := bcells hk.1; go_big_quiet_op; first | exact rfl | (apply Exists.intro; refine ⟨fun W3 hW3 => ?_, ?_⟩; (first | exact rfl | (have hcc3 := bcells (bnext hk.1 hW3); go_simp; rfl)); exact rfl)
                            · exact rfl
                            · exact rfl
                            · kernel_rfl
                            · kernel_rfl
                            · exact fun v W => Iff.rfl
                            · rfl
                            apply loose_q 127
                            · intro W2 hk; have hcc := bcells hk.1; go_big_quiet_op; first | exact rfl | (apply Exists.intro; refine ⟨fun W3 hW3 => ?_, ?_⟩; (first | exact rfl | (have hcc3 := bcells (bnext hk.1 hW3); go_simp; rfl)); exact rfl)
                            · exact rfl
                            · exact rfl
                            · kernel_rfl
                            · kernel_rfl
                            · exact fun v W => Iff.rfl
                            · rfl
                            apply loose_q 128
                            · intro W2 hk; have hcc := bcells hk.1; go_big_quiet_op; first | exact rfl | (apply Exists.intro; refine ⟨fun W3 hW3 => ?_, ?_⟩; (first | exact rfl | (have hcc3 := bcells (bnext hk.1 hW3); go_simp; rfl)); exact rfl)
                            · exact rfl
                            · exact rfl
                            · kernel_rfl
                            · kernel_rfl
                            · exact fun v W => Iff.rfl
                            · rfl
                            apply loose_q 129
                            · intro W2 hk; have hcc := bcells hk.1; go_big_quiet_op; first | exact rfl | (apply Exists.intro; refine ⟨fun W3 hW3 => ?_, ?_⟩; (first | (obtain ⟨A5, n5, c5, e5, hr5⟩ : someI (ptsOf (x.flank.take 17)) v125 W2 := hk.2 125 (by unfold inL; decide) (by decide); rw [e5]; go_at_call 126; exact calm_call (H4.out W3 A5 n5 c5 (hr5.below hW3)) hW3 (fun _ _ h => ⟨h.1, h.2 ▸ Below.refl _ _⟩)) | (have hcc3 := bcells (bnext hk.1 hW3); go_simp; rfl)); exact rfl)
                            · exact rfl
                            · exact rfl
                            · kernel_rfl
                            · kernel_rfl
                            · exact fun v W => Iff.rfl
                            · rfl
                            apply loose_q 130
                            · intro W2 hk; have hcc := bcells hk.1; go_big_quiet_op; first | exact rfl | (apply Exists.intro; refine ⟨fun W3 hW3 => ?_, ?_⟩; (first | exact rfl | (have hcc3 := bcells (bnext hk.1 hW3); go_simp; rfl)); exact rfl)
                            · exact rfl
                            · exact rfl
                            · kernel_rfl
                            · kernel_rfl
                            · exact fun v W => Iff.rfl
                            · rfl
                            apply loose_q 131
                            · intro W2 hk; have hcc := bcells hk.1; go_big_quiet_op; first | exact rfl | (apply Exists.intro; refine ⟨fun W3 hW3 => ?_, ?_⟩; (first | exact rfl | (have hcc3 := bcells (bnext hk.1 hW3); go_simp; rfl)); exact rfl)
                            · exact rfl
                            · exact rfl
                            · kernel_rfl
                            · kernel_rfl
                            · exact fun v W => Iff.rfl
                            · rfl
                            refine loose_done fun W3 hW3 _ => ?_
                            go_wp2
                            go_roundw
                            case rel => exact ⟨k + 1, by omega, by go_num, hfin, bnext hb (bnext hb1 hW3)⟩
                            case measure => simp [intOf]; omega
                · have hfin : Hid (refMayB l = true) := by rw [hMAY4.out, ← hi.out, dropEnd (by omega)]; rfl
                  clear hi
                  go_wp2
                  go_ret
                  rw [hfin.out]; exact ⟨rfl, bnext hbW hbr⟩
end Go.Proofs.Ytmoccpbiogdbgaa
