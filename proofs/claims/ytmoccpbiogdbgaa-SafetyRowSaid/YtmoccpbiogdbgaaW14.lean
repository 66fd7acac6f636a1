/-
  The walk of the reference's formed.
-/
import Derived.Test.YtmoccpbiogdbgaaW8
import Derived.Test.YtmoccpbiogdbgaaW2
import Derived.Test.YtmoccpbiogdbgaaSpec4
import Derived.Handy
namespace Go.Proofs.Ytmoccpbiogdbgaa
open Go.RowKit Go.Shelf
theorem more_no {m : Nat} {x : Int} {xs : List Int} (h : moreI m x xs = false) : cntI x xs ≤ m := by unfold moreI at h; simp at h; exact h
theorem more_yes {m : Nat} {x : Int} {xs : List Int} (h : moreI m x xs = true) : m < cntI x xs := by unfold moreI at h; simp at h; exact h

set_option maxRecDepth 10000 in
set_option maxHeartbeats 4000000 in
theorem refformed_any (s p g rr : Hd) (l : Ly) (r : Rt) (a b c d : Hd) (w : World) (hx : RLy w s p g rr l) (hr : RRt w a b c d r) (hs : r.small) (h0 : 0 ≤ r.sig) (h1 : r.sig < l.signals.length) :
    Calls Try.prog 75 #[lyv s p g rr, rtv r a b c d] w (RetB (refFormedB l r) w) := by
  obtain ⟨hok, hR1, hR2, hR3, hR4⟩ := hx
  have hrr := hr
  obtain ⟨⟨ok1, ok2, ok3, ok4⟩, hnm, hp, hq, ho, hf⟩ := hr
  have hs2 := hs.2.1
  have hs4 := hs.2.2.2
  have hql := hq.1
  have hfl := hf.1
  have HT := Lib.hid (fun W (hb : Below w.heap.size w W) => reftrack_any r a b c d W (hrr.below hb) hs)
  have HN := Lib.hid (fun W (hb : Below w.heap.size w W) => refneeds_any r a b c d W (hrr.below hb) hs)
  have HPN := Lib.hid (fun W A n c (h : RNds W A n r.needs) => points05_any A n c r.needs W h (by have := h.1; simp [Rt.needs] at this; omega))
  have HP1 := Lib.hid (fun W (hb : Below w.heap.size w W) => points05_any b.A b.n b.c r.points W (hq.below hb) (by omega))
  have HP2 := Lib.hid (fun W (hb : Below w.heap.size w W) => points05_any d.A d.n d.c r.flank W (hf.below hb) (by omega))
  have HF : Hid (refFormedB l r = (!((r.path.length == 0) || moreI 0 (secOf l r) r.track) && (dupFree r.track && (dupFree (ptsOf r.needs) && refPtsOk r.track r l.points 0)))) := rfl
  have hpl := hp.1
  obtain ⟨sg, hsg⟩ := Int.eq_ofNat_of_zero_le h0
  rw [hsg] at h1
  have h1' : sg < l.signals.length := by omega
  obtain ⟨hl3, hm3, _, b3, o3, hA3, hc3⟩ := hR3
  have hA3' := hA3 (by omega)
  obtain ⟨sec, hsec, hcg⟩ : ∃ sec, Hid (secOf l r = sec) ∧ w.cell? ⟨b3, o3 + sg * 2 + 1, none⟩ = some (.int .i64 sec) := ⟨_, by simp [secOf, hsg, h1', Hid], (hc3 sg h1').2⟩
  clear hA3 hc3 hp hq ho hf hrr hm3 hql hfl hs2 hs4
  obtain ⟨hl2, hm2, _, b2, o2, hA2, hc2⟩ := hR2
  unfold lyv rtv Hd.v
  rw [hsg, hA3']
  generalize r.path.length = pl at *
  generalize p.A = pA at *
  go_enter Try.func75, Try.ntmps75
  go_upto_region 1 with (fail)
  refine name_box2 (fun W hbW hlt1 hlt2 hbox1 hbox2 => ?_)
  have B1 : W.cell? ⟨w.heap.size, 1, none⟩ = some (.slice pA p.n p.c) := hbox1 1 _ rfl
  have B2 : W.cell? ⟨w.heap.size, 2, none⟩ = some (.slice (some ⟨b3, o3, none⟩) g.n g.c) := hbox1 2 _ rfl
  have D0 : W.cell? ⟨w.heap.size + 1, 0, none⟩ = some (.string r.name) := hbox2 0 _ rfl
  have D1 : W.cell? ⟨w.heap.size + 1, 1, none⟩ = some (.int .i64 sg) := hbox2 1 _ rfl
  have D2 : W.cell? ⟨w.heap.size + 1, 2, none⟩ = some (.slice a.A a.n a.c) := hbox2 2 _ rfl
  have D3 : W.cell? ⟨w.heap.size + 1, 3, none⟩ = some (.slice b.A b.n b.c) := hbox2 3 _ rfl
  have D4 : W.cell? ⟨w.heap.size + 1, 4, none⟩ = some (.slice c.A c.n c.c) := hbox2 4 _ rfl
  have D5 : W.cell? ⟨w.heap.size + 1, 5, none⟩ = some (.slice d.A d.n d.c) := hbox2 5 _ rfl
  have G1 := bcell hbW hcg
  have hltg := World.block_lt_of_cell? W _ G1
  simp only at hltg
  clear hbox1 hbox2 hcg
  have hsg' : (sg : Int) < g.n := by omega
  have HTn : Hid (rtv r a b c d = .agg #[.string r.name, .int .i64 sg, .slice a.A a.n a.c, .slice b.A b.n b.c, .slice c.A c.n c.c, .slice d.A d.n d.c]) := by unfold rtv Hd.v; rw [hsg]; rfl
  rw [HTn.out] at HT HN
  clear hsg HTn h1 h1' h0
  -- the track
  go_wp2_with (go_at_call 86; with_reducible refine Calls.mono (HT.out _ ?h0) ?_)
  case h0 => exact hbW
  rintro e w1 ⟨A1, n1, c1, rfl, hle1, hb1, hr1⟩
  have hcc := bcells hb1
  go_wp2_with (go_at_call 84; with_reducible refine Calls.mono (HN.out _ ?h0) ?_)
  case h0 => exact bnext hbW hb1
  rintro e w2 ⟨A3, n3, c3, rfl, hle3, hb3, hr3⟩
  have hr2 := hr1.below hb3
  have hb2 := bnext hb1 hb3
  clear hcc hr1 hb1 hb3
  have hcc := bcells hb2
  go_wp2_with (go_at_call 128; with_reducible refine Calls.mono (HPN.out _ _ _ _ hr3) ?_)
  rintro e w3 ⟨A4, n4, c4, rfl, hle4, hb4, hr4⟩
  have hr2 := hr2.below hb4
  have hb3 := bnext hb2 hb4
  clear hcc hb4 hb2 HT HN HPN hr3
  have hcc := bcells hb3
  have HC := Lib.hid (fun W (hb : Below w3.heap.size w3 W) n => count05_any A1 n1 c1 r.track n W (hr2.below hb))
  have HC4 := Lib.hid (fun W (hb : Below w3.heap.size w3 W) n => count05_any A4 n4 c4 (ptsOf r.needs) n W (hr4.below hb))
  rw [hsec.out] at HF
  clear hsec
  by_cases hpl0 : pl = 0
  · have hfin : Hid (refFormedB l r = false) := by rw [HF.out, hpl0]; rfl
    have e0 : ((a.n : Int) == 0) = true := by simp; omega
    clear hpl hpl0 HF
    go_wp2
    go_ret
    rw [hfin.out]; exact ⟨rfl, bnext hbW hb3⟩
  have e0 : ((a.n : Int) == 0) = false := by simp; omega
  have hplb : (pl == 0) = false := by simp; omega
  rw [hplb] at HF
  clear hpl hpl0 hplb
  have hq0 : w.heap.size + 1 < w3.heap.size := Nat.lt_of_lt_of_le hlt2 hb3.size
  have HCs := Lib.hid (HC.out w3 (Below.refl _ _) sec)
  cases hms : moreI 0 sec r.track
  all_goals rw [hms] at HF
  rotate_left
  · have hfin : Hid (refFormedB l r = false) := by rw [HF.out]; rfl
    have hz := more_yes hms
    clear HF hms
    generalize cntI sec r.track = z at *
    go_wp2_with (go_at_call 129; with_reducible refine Calls.mono HCs.out ?_)
    rintro e w4 ⟨rfl, rfl⟩
    go_wp2
    go_ret
    rw [hfin.out]; exact ⟨rfl, bnext hbW hb3⟩
  have hz := more_no hms
  clear hms
  generalize cntI sec r.track = z at *
  obtain rfl : z = 0 := by omega
  go_wp2_with (go_at_call 129; with_reducible refine Calls.mono HCs.out ?_)
  rintro e w4 ⟨rfl, rfl⟩
  clear HCs
  have HF1 : Hid (refFormedB l r = (dupFree r.track && (dupFree (ptsOf r.needs) && refPtsOk r.track r l.points 0))) := by rw [HF.out]; simp; trivial
  clear HF
  go_wp2_with fail
  go_loopw [7] (fun i wr => ∃ k : Nat, k ≤ n1 ∧ i = .int .i64 k ∧ Hid ((r.track.drop k).all (fun x => !moreI 1 x r.track) = dupFree r.track) ∧ w3 = wr) (fun i _ => n1 - (intOf i).toNat)
  case atStart => exact ⟨0, Nat.zero_le _, rfl, rfl, rfl⟩
  case round =>
    obtain ⟨k, hk, rfl, hi, rfl⟩ := hrel
    have hln := hr2.1
    have hmx := hr2.2.1
    by_cases hlt : k < n1
    · have hkl : k < (r.track).length := by omega
      obtain ⟨_, _, b9, o9, hA9, hc9⟩ := hr2
      obtain rfl := hA9 (by omega)
      have e1 := hc9 k hkl
      have l9 := World.block_lt_of_cell? _ _ e1
      simp only at l9
      have hi' := hi.out
      rw [dropStep hkl, List.all_cons] at hi'
      clear hA9 hc9 hi
      generalize (r.track)[k] = x at *
      have HCs := Lib.hid (HC.out w3 (Below.refl _ _) x)
      cases hms : moreI 1 x r.track
      · have hz := more_no hms
        have hfin : Hid ((r.track.drop (k + 1)).all (fun x => !moreI 1 x r.track) = dupFree r.track) := by rw [← hi', hms]; simp; trivial
        clear hi' hms
        generalize cntI x r.track = z at *
        go_wp2_with (go_at_call 129; with_reducible refine Calls.mono HCs.out ?_)
        rintro e w4 ⟨rfl, rfl⟩
        go_wp2
        go_roundw
        case rel => exact ⟨k + 1, by omega, by go_num, hfin, trivial⟩
        case measure => simp [intOf]; omega
      · have hz := more_yes hms
        have hfin : Hid (refFormedB l r = false) := by rw [HF1.out, ← hi', hms]; rfl
        clear hi' hms HF1
        generalize cntI x r.track = z at *
        go_wp2_with (go_at_call 129; with_reducible refine Calls.mono HCs.out ?_)
        rintro e w4 ⟨rfl, rfl⟩
        go_wp2
        go_ret
        rw [hfin.out]; exact ⟨rfl, bnext hbW hb3⟩
    · have hN : Hid (dupFree r.track = true) := by rw [← hi.out, dropEnd (by omega)]; rfl
      have HF2 : Hid (refFormedB l r = (dupFree (ptsOf r.needs) && refPtsOk r.track r l.points 0)) := by rw [HF1.out, hN.out]; rfl
      clear hi hN HF1 hln hmx
      go_wp2_with fail
      go_loopw [8] (fun i wr => ∃ k : Nat, k ≤ n4 ∧ i = .int .i64 k ∧ Hid (((ptsOf r.needs).drop k).all (fun x => !moreI 1 x (ptsOf r.needs)) = dupFree (ptsOf r.needs)) ∧ w3 = wr) (fun i _ => n4 - (intOf i).toNat)
      case atStart => exact ⟨0, Nat.zero_le _, rfl, rfl, rfl⟩
      case round =>
        obtain ⟨k, hk, rfl, hi, rfl⟩ := hrel
        have hln := hr4.1
        have hmx := hr4.2.1
        by_cases hlt : k < n4
        · have hkl : k < ((ptsOf r.needs)).length := by omega
          obtain ⟨_, _, b9, o9, hA9, hc9⟩ := hr4
          obtain rfl := hA9 (by omega)
          have e1 := hc9 k hkl
          have l9 := World.block_lt_of_cell? _ _ e1
          simp only at l9
          have hi' := hi.out
          rw [dropStep hkl, List.all_cons] at hi'
          clear hA9 hc9 hi
          generalize ((ptsOf r.needs))[k] = x at *
          have HCs := Lib.hid (HC4.out w3 (Below.refl _ _) x)
          cases hms : moreI 1 x (ptsOf r.needs)
          · have hz := more_no hms
            have hfin : Hid (((ptsOf r.needs).drop (k + 1)).all (fun x => !moreI 1 x (ptsOf r.needs)) = dupFree (ptsOf r.needs)) := by rw [← hi', hms]; simp; trivial
            clear hi' hms
            generalize cntI x (ptsOf r.needs) = z at *
            go_wp2_with (go_at_call 129; with_reducible refine Calls.mono HCs.out ?_)
            rintro e w4 ⟨rfl, rfl⟩
            go_wp2
            go_roundw
            case rel => exact ⟨k + 1, by omega, by go_num, hfin, trivial⟩
            case measure => simp [intOf]; omega
          · have hz := more_yes hms
            have hfin : Hid (refFormedB l r = false) := by rw [HF2.out, ← hi', hms]; rfl
            clear hi' hms HF2
            generalize cntI x (ptsOf r.needs) = z at *
            go_wp2_with (go_at_call 129; with_reducible refine Calls.mono HCs.out ?_)
            rintro e w4 ⟨rfl, rfl⟩
            go_wp2
            go_ret
            rw [hfin.out]; exact ⟨rfl, bnext hbW hb3⟩
        · have hN : Hid (dupFree (ptsOf r.needs) = true) := by rw [← hi.out, dropEnd (by omega)]; rfl
          have HF3 : Hid (refFormedB l r = refPtsOk r.track r l.points 0) := by rw [HF2.out, hN.out]; rfl
          clear hi hN HF2 hln hmx
          go_wp2_with fail
          go_loopw [9] (fun i wr => ∃ k : Nat, k ≤ p.n ∧ i = .int .i64 k ∧ Hid (refPtsOk r.track r (l.points.drop k) k = refFormedB l r) ∧ Below w3.heap.size w3 wr) (fun i _ => p.n - (intOf i).toNat)
          case atStart => exact ⟨0, Nat.zero_le _, rfl, HF3.out.symm, Below.refl _ _⟩
          case round =>
            obtain ⟨k, hk, rfl, hi, hb⟩ := hrel
            have hbr := bnext hb3 hb
            clear hcc
            have B1r := bcell hbr B1
            have D3r := bcell hbr D3
            have D5r := bcell hbr D5
            have hq : w.heap.size + 1 < wr.heap.size := Nat.lt_of_lt_of_le hq0 hb.size
            have hqq : w.heap.size < wr.heap.size := by omega
            by_cases hlt : k < p.n
            · obtain rfl := hA2 (by omega)
              have hkl : k < l.points.length := by omega
              have e1 := bcell (bnext hbW hbr) (hc2 k hkl).2
              have l9 := World.block_lt_of_cell? _ _ e1
              simp only at l9
              have hi' := hi.out
              rw [dropStep hkl] at hi'
              unfold refPtsOk refPtOk at hi'
              clear hA2 hc2 hi B1 D0 D1 D2 D3 D4 D5 G1
              generalize l.points[k] = x at *
              have HCs := Lib.hid (HC.out wr hb x.sec)
              have HPs := Lib.hid (HP1.out wr (bnext hbW hbr))
              have HC5 := Lib.hid (fun W A n c (h : RInts W A n (ptsOf r.points)) => count05_any A n c (ptsOf r.points) k W h)
              have HC6 := Lib.hid (fun W A n c (h : RInts W A n (ptsOf r.flank)) => count05_any A n c (ptsOf r.flank) k W h)
              clear HC HC4 HP1
              cases hin : moreI 0 x.sec r.track
              all_goals rw [hin] at hi'
              all_goals cases hq1 : moreI 0 k (ptsOf r.points)
              all_goals rw [hq1] at hi'
              · have hz := more_no hin
                have hy := more_no hq1
                have hfin : Hid (refPtsOk r.track r (l.points.drop (k + 1)) (k + 1) = refFormedB l r) := by rw [← hi']; simp; trivial
                clear hi' hin hq1 HP2 HC6 HF3
                generalize cntI x.sec r.track = z at *
                generalize cntI k (ptsOf r.points) = y at *
                go_wp2_with (go_at_call 129; with_reducible refine Calls.mono HCs.out ?_)
                rintro e w4 ⟨rfl, rfl⟩
                clear HCs
                go_wp2_with (go_at_call 128; with_reducible refine Calls.mono HPs.out ?_)
                rintro e w5 ⟨A5, n5, c5, rfl, hle5, hb5, hr5⟩
                clear HPs
                have hcc5 := bcells hb5
                go_wp2_with (go_at_call 129; with_reducible refine Calls.mono (HC5.out _ _ _ _ hr5) ?_)
                rintro e w6 ⟨rfl, rfl⟩
                clear HC5
                go_wp2
                go_roundw
                case rel => exact ⟨k + 1, by omega, by go_num, hfin, bnext hb hb5⟩
                case measure => simp [intOf]; omega
              · have hz := more_no hin
                have hy := more_yes hq1
                have hfin : Hid (refFormedB l r = false) := by rw [← hi']; rfl
                clear hi' hin hq1 HP2 HC6 HF3
                generalize cntI x.sec r.track = z at *
                generalize cntI k (ptsOf r.points) = y at *
                go_wp2_with (go_at_call 129; with_reducible refine Calls.mono HCs.out ?_)
                rintro e w4 ⟨rfl, rfl⟩
                clear HCs
                go_wp2_with (go_at_call 128; with_reducible refine Calls.mono HPs.out ?_)
                rintro e w5 ⟨A5, n5, c5, rfl, hle5, hb5, hr5⟩
                clear HPs
                have hcc5 := bcells hb5
                go_wp2_with (go_at_call 129; with_reducible refine Calls.mono (HC5.out _ _ _ _ hr5) ?_)
                rintro e w6 ⟨rfl, rfl⟩
                clear HC5
                go_wp2
                go_ret
                rw [hfin.out]; exact ⟨rfl, bnext hbW (bnext hbr hb5)⟩
              · have hz := more_yes hin
                have hy := more_no hq1
                have hfin : Hid (refFormedB l r = false) := by rw [← hi']; rfl
                clear hi' hin hq1 HP2 HC6 HF3
                generalize cntI x.sec r.track = z at *
                generalize cntI k (ptsOf r.points) = y at *
                go_wp2_with (go_at_call 129; with_reducible refine Calls.mono HCs.out ?_)
                rintro e w4 ⟨rfl, rfl⟩
                clear HCs
                go_wp2_with (go_at_call 128; with_reducible refine Calls.mono HPs.out ?_)
                rintro e w5 ⟨A5, n5, c5, rfl, hle5, hb5, hr5⟩
                clear HPs
                have hcc5 := bcells hb5
                go_wp2_with (go_at_call 129; with_reducible refine Calls.mono (HC5.out _ _ _ _ hr5) ?_)
                rintro e w6 ⟨rfl, rfl⟩
                clear HC5
                go_wp2
                go_ret
                rw [hfin.out]; exact ⟨rfl, bnext hbW (bnext hbr hb5)⟩
              · have hz := more_yes hin
                have hy := more_yes hq1
                cases hq2 : moreI 0 k (ptsOf r.flank)
                all_goals rw [hq2] at hi'
                · have hx := more_no hq2
                  have hfin : Hid (refPtsOk r.track r (l.points.drop (k + 1)) (k + 1) = refFormedB l r) := by rw [← hi']; simp; trivial
                  clear hi' hin hq1 hq2 HF3
                  generalize cntI x.sec r.track = z at *
                  generalize cntI k (ptsOf r.points) = y at *
                  generalize cntI k (ptsOf r.flank) = u at *
                  go_wp2_with (go_at_call 129; with_reducible refine Calls.mono HCs.out ?_)
                  rintro e w4 ⟨rfl, rfl⟩
                  clear HCs
                  go_wp2_with (go_at_call 128; with_reducible refine Calls.mono HPs.out ?_)
                  rintro e w5 ⟨A5, n5, c5, rfl, hle5, hb5, hr5⟩
                  clear HPs
                  have hcc5 := bcells hb5
                  go_wp2_with (go_at_call 129; with_reducible refine Calls.mono (HC5.out _ _ _ _ hr5) ?_)
                  rintro e w6 ⟨rfl, rfl⟩
                  clear HC5
                  go_wp2_with (go_at_call 128; with_reducible refine Calls.mono (HP2.out _ ?h0) ?_)
                  case h0 => exact bnext hbW (bnext hbr hb5)
                  rintro e w6 ⟨A6, n6, c6, rfl, hle6, hb6, hr6⟩
                  have hcc6 := bcells hb6
                  go_wp2_with (go_at_call 129; with_reducible refine Calls.mono (HC6.out _ _ _ _ hr6) ?_)
                  rintro e w7 ⟨rfl, rfl⟩
                  clear HC6
                  go_wp2
                  go_roundw
                  case rel => exact ⟨k + 1, by omega, by go_num, hfin, bnext hb (bnext hb5 hb6)⟩
                  case measure => simp [intOf]; omega
                · have hx := more_yes hq2
                  have hfin : Hid (refFormedB l r = false) := by rw [← hi']; rfl
                  clear hi' hin hq1 hq2 HF3
                  generalize cntI x.sec r.track = z at *
                  generalize cntI k (ptsOf r.points) = y at *
                  generalize cntI k (ptsOf r.flank) = u at *
                  go_wp2_with (go_at_call 129; with_reducible refine Calls.mono HCs.out ?_)
                  rintro e w4 ⟨rfl, rfl⟩
                  clear HCs
                  go_wp2_with (go_at_call 128; with_reducible refine Calls.mono HPs.out ?_)
                  rintro e w5 ⟨A5, n5, c5, rfl, hle5, hb5, hr5⟩
                  clear HPs
                  have hcc5 := bcells hb5
                  go_wp2_with (go_at_call 129; with_reducible refine Calls.mono (HC5.out _ _ _ _ hr5) ?_)
                  rintro e w6 ⟨rfl, rfl⟩
                  clear HC5
                  go_wp2_with (go_at_call 128; with_reducible refine Calls.mono (HP2.out _ ?h0) ?_)
                  case h0 => exact bnext hbW (bnext hbr hb5)
                  rintro e w6 ⟨A6, n6, c6, rfl, hle6, hb6, hr6⟩
                  have hcc6 := bcells hb6
                  go_wp2_with (go_at_call 129; with_reducible refine Calls.mono (HC6.out _ _ _ _ hr6) ?_)
                  rintro e w7 ⟨rfl, rfl⟩
                  clear HC6
                  go_wp2
                  go_ret
                  rw [hfin.out]; exact ⟨rfl, bnext hbW (bnext hbr (bnext hb5 hb6))⟩
            · have hfin : Hid (refFormedB l r = true) := by rw [← hi.out, dropEnd (by omega)]; rfl
              clear hi HC HC4 HP1 HP2
              go_wp2
              go_ret
              rw [hfin.out]; exact ⟨rfl, bnext hbW hbr⟩
end Go.Proofs.Ytmoccpbiogdbgaa
