/-
  The walk of topo.formed: is a route well-formed?
-/
import Derived.Test.YtmoccpbiogdbgaaW7
namespace Go.Proofs.Ytmoccpbiogdbgaa
open Go.RowKit Go.Shelf

set_option maxRecDepth 10000 in
set_option maxHeartbeats 4000000 in
theorem formed_any (s p g rr : Hd) (l : Ly) (r : Rt) (a b c d : Hd) (w : World) (hx : RLy w s p g rr l) (hr : RRt w a b c d r) (hs : r.small) (hp0 : l.points.length ≤ 1000) (h0 : 0 ≤ r.sig) (h1 : r.sig < l.signals.length) :
    Calls Try.prog 117 #[lyv s p g rr, rtv r a b c d] w (RetB (formedB l r) w) := by
  obtain ⟨hok, hR1, hR2, hR3, hR4⟩ := hx
  have hrr := hr
  obtain ⟨⟨ok1, ok2, ok3, ok4⟩, hnm, hp, hq, ho, hf⟩ := hr
  have HT := Lib.hid (fun W (hb : Below w.heap.size w W) => track_any r a b c d W (hrr.below hb) hs)
  have HN := Lib.hid (fun W (hb : Below w.heap.size w W) => needs_any r a b c d W (hrr.below hb) hs)
  have HP1 := Lib.hid (fun W (hb : Below w.heap.size w W) n => has_any' b.A b.n b.c r.points n W (hq.below hb))
  have HP2 := Lib.hid (fun W (hb : Below w.heap.size w W) n => has_any' d.A d.n d.c r.flank n W (hf.below hb))
  have HF : Hid (formedB l r = (!(r.path.length == 0) && (!(twiceFrom (fun x => x) [] r.track) && (!(hasI (secOf l r) r.track) && (!(twiceFrom Nd.pt [] r.needs) && ptsOk r.track r l.points 0))))) := rfl
  have hpl := hp.1
  obtain ⟨sg, hsg⟩ := Int.eq_ofNat_of_zero_le h0
  rw [hsg] at h1
  have h1' : sg < l.signals.length := by omega
  obtain ⟨hl3, hm3, _, b3, o3, hA3, hc3⟩ := hR3
  have hA3' := hA3 (by omega)
  obtain ⟨sec, hsec, hcg⟩ : ∃ sec, Hid (secOf l r = sec) ∧ w.cell? ⟨b3, o3 + sg * 2 + 1, none⟩ = some (.int .i64 sec) := ⟨_, by simp [secOf, hsg, h1', Hid], (hc3 sg h1').2⟩
  clear hA3 hc3 hp hq ho hf hrr hm3
  obtain ⟨hl2, hm2, _, b2, o2, hA2, hc2⟩ := hR2
  unfold lyv rtv Hd.v
  rw [hsg, hA3']
  generalize r.path.length = pl at *
  generalize p.A = pA at *
  go_enter Try.func117, Try.ntmps117
  go_upto_region 1 with (fail)
  refine name_box2 (fun W hbW hlt1 hlt2 hbox1 hbox2 => ?_)
  have B1 : W.cell? ⟨w.heap.size, 1, none⟩ = some (.slice pA p.n p.c) := hbox1 1 _ rfl
  have B2 : W.cell? ⟨w.heap.size, 2, none⟩ = some (.slice (some ⟨b3, o3, none⟩) g.n g.c) := hbox1 2 _ rfl
  have D0 : W.cell? ⟨w.heap.size + 1, 0, none⟩ = some (.string r.name) := hbox2 0 _ rfl
  have D1 : W.cell? ⟨w.heap.size + 1, 1, none⟩ = some (.int .i64 sg) := hbox2 1 _ rfl
  have D2 : W.cell? ⟨w.heap.size + 1, 2, none⟩ = some (.slice a.A a.n a.c) := hbox2 2 _ rfl
  have D3 : W.cell? ⟨w.heap.size + 1, 3, none⟩ = some (.slice b.A b.n b.c) := hbox2 3 _ rfl
  have D4 : W.cell? ⟨w.heap.size + 1, 4, none⟩ = some (.slice c.A c.n c.c) := hbox2 4 _ rfl
  have D5 : W.cell? ⟨w.heap.size + 1, 5, none⟩ = some (.slice d.A d.n d.c) := hbox2 5 _ rfl
  have G1 := bcell hbW hcg
  have hltg := World.block_lt_of_cell? W _ G1
  simp only at hltg
  clear hbox1 hbox2 hcg
  have hsg' : (sg : Int) < g.n := by omega
  have HTn : Hid (rtv r a b c d = .agg #[.string r.name, .int .i64 sg, .slice a.A a.n a.c, .slice b.A b.n b.c, .slice c.A c.n c.c, .slice d.A d.n d.c]) := by unfold rtv Hd.v; rw [hsg]; rfl
  rw [HTn.out] at HT HN
  clear hsg HTn h1 h1' h0
  -- the track
  go_wp2_with (go_at_call 67; refine Calls.mono (HT.out _ ?h0) ?_)
  case h0 => exact hbW
  rintro e w1 ⟨A1, n1, c1, rfl, hle1, hb1, hr1⟩
  have hcc := bcells hb1
  by_cases hpl0 : pl = 0
  · have hfin : Hid (formedB l r = false) := by rw [HF.out, hpl0]; rfl
    have e0 : ((a.n : Int) == 0) = true := by simp; omega
    clear hpl hpl0
    go_wp2
    go_ret
    rw [hfin.out]; exact ⟨rfl, bnext hbW hb1⟩
  have e0 : ((a.n : Int) == 0) = false := by simp; omega
  have hplb : (pl == 0) = false := by simp; omega
  rw [hplb] at HF
  clear hpl hpl0 hplb
  have HC1 := Lib.hid (twiceI_any A1 n1 c1 r.track w1 hr1 hle1)
  cases ht : twiceFrom (fun x => x) [] r.track
  all_goals rw [ht] at HC1 HF
  rotate_left
  · have hfin : Hid (formedB l r = false) := by rw [HF.out]; rfl
    clear HF ht hle1
    go_wp2_with (go_at_call 160; refine Calls.mono HC1.out ?_)
    rintro e w2 ⟨rfl, hb2⟩
    go_wp2
    go_ret
    rw [hfin.out]; exact ⟨rfl, bnext hbW (bnext hb1 hb2)⟩
  clear ht hle1
  go_wp2_with (go_at_call 160; refine Calls.mono HC1.out ?_)
  rintro e w2 ⟨rfl, hb2⟩
  have hr2 := hr1.below hb2
  have hb2 := bnext hb1 hb2
  clear hcc hb1 hr1 HC1
  have hcc := bcells hb2
  have HC2 := Lib.hid (contains_any A1 n1 c1 r.track sec w2 hr2)
  rw [hsec.out] at HF
  clear hsec
  cases ht : hasI sec r.track
  all_goals rw [ht] at HC2 HF
  rotate_left
  · have hfin : Hid (formedB l r = false) := by rw [HF.out]; rfl
    clear HF ht
    go_wp2_with (go_at_call 162; refine Calls.mono HC2.out ?_; rintro e w3 ⟨rfl, rfl⟩)
    go_ret
    rw [hfin.out]; exact ⟨rfl, bnext hbW hb2⟩
  clear ht
  go_wp2_with (go_at_call 162; refine Calls.mono HC2.out ?_)
  rintro e w3 ⟨rfl, rfl⟩
  clear HC2
  go_wp2_with (go_at_call 82; refine Calls.mono (HN.out _ ?h0) ?_)
  case h0 => exact bnext hbW hb2
  rintro e w3 ⟨A3, n3, c3, rfl, hle3, hb3, hr3⟩
  have hr2 := hr2.below hb3
  have hb3 := bnext hb2 hb3
  clear hcc hb2
  have hcc := bcells hb3
  have HC3 := Lib.hid (twiceN_any A3 n3 c3 r.needs w3 hr3 hle3)
  cases ht : twiceFrom Nd.pt [] r.needs
  all_goals rw [ht] at HC3 HF
  rotate_left
  · have hfin : Hid (formedB l r = false) := by rw [HF.out]; rfl
    clear HF ht hle3
    go_wp2_with (go_at_call 163; refine Calls.mono HC3.out ?_)
    rintro e w4 ⟨rfl, hb4⟩
    go_wp2
    go_ret
    rw [hfin.out]; exact ⟨rfl, bnext hbW (bnext hb3 hb4)⟩
  clear ht hle3
  go_wp2_with (go_at_call 163; refine Calls.mono HC3.out ?_)
  rintro e w4 ⟨rfl, hb4⟩
  have hr2 := hr2.below hb4
  have hb4 := bnext hb3 hb4
  clear hcc hb3 hr3 HC3 HT HN
  have hcc := bcells hb4
  have HF2 : Hid (ptsOk r.track r l.points 0 = formedB l r) := by rw [HF.out]; simp [Hid]
  clear HF
  go_wp2_with fail
  go_loopw [33] (fun i wr => ∃ k : Nat, k ≤ p.n ∧ i = .int .i64 k ∧ Hid (ptsOk r.track r (l.points.drop k) k = formedB l r) ∧ Below w4.heap.size w4 wr) (fun i _ => p.n - (intOf i).toNat)
  case atStart => exact ⟨0, Nat.zero_le _, rfl, HF2, Below.refl _ _⟩
  case round =>
    obtain ⟨k, hk, rfl, hi, hb⟩ := hrel
    have hbr := bnext hb4 hb
    clear hcc
    have D3r := bcell hbr D3
    have D5r := bcell hbr D5
    have hq : w.heap.size + 1 < wr.heap.size := Nat.lt_of_lt_of_le hlt2 hbr.size
    by_cases hlt : k < p.n
    · obtain rfl := hA2 (by omega)
      have hkl : k < l.points.length := by omega
      have k0 := bcell (bnext hbW hbr) (hc2 k hkl).1
      have k1 := bcell (bnext hbW hbr) (hc2 k hkl).2
      have hi' := hi.out
      rw [dropStep hkl] at hi'
      have hz := hbr.size
      have hbw := bnext hbW hbr
      have hr5 := hr2.below hb
      have HBR : ∀ W1, Below wr.heap.size wr W1 → Below w4.heap.size w4 W1 := fun W1 h => bnext hb h
      clear hc2 hA2 hi HF2 hb4 hr2 hb
      generalize l.points[k] = x at *
      have HC1 := Lib.hid (fun W1 (hb1 : Below wr.heap.size wr W1) => contains_any A1 n1 c1 r.track x.sec W1 (hr5.below hb1))
      have HC2 := Lib.hid (fun W1 (hb1 : Below wr.heap.size wr W1) => HP1.out W1 (bnext hbw hb1) k)
      have HC3 := Lib.hid (fun W1 (hb1 : Below wr.heap.size wr W1) => HP2.out W1 (bnext hbw hb1) k)
      have hbx := (Below.refl wr.heap.size wr).alloc (Nat.le_refl _) (.cells #[.string x.name, .int .i64 x.sec] 67)
      cases h1 : hasI x.sec r.track <;> cases h2 : hasP k r.points
      · simp [ptsOk, h1, h2] at hi'
        have hfin : Hid (ptsOk r.track r (l.points.drop (k + 1)) (k + 1) = formedB l r) := by first | exact hi' | exact hi'.symm
        rw [h1] at HC1
        rw [h2] at HC2
        clear HC3
        clear hi' h1 h2 HP1 HP2
        go_wp2_with (first | (go_at_call 162; refine Calls.mono (HC1.out _ ?g1) ?_) | (go_at_call 165; refine Calls.mono (HC2.out _ ?g2) ?_))
        case g1 => exact (Below.refl _ _).alloc (Nat.le_refl _) _
        rintro e w5 ⟨rfl, rfl⟩
        go_wp2_with (go_at_call 165; refine Calls.mono (HC2.out _ ?g2) ?_)
        case g2 => exact (Below.refl _ _).alloc (Nat.le_refl _) _
        rintro e w5 ⟨rfl, hb5⟩
        have hb6 := ((Below.refl wr.heap.size wr).alloc (Nat.le_refl _) _).trans (hb5.mono (by simp))
        have hcc := bcells (bnext hbr hb6)
        go_wp2
        go_roundw
        case rel => exact ⟨k + 1, by omega, by go_num, hfin, HBR _ hb6⟩
        case measure => simp [intOf]; omega
      · simp [ptsOk, h1, h2] at hi'
        have hfin : Hid (formedB l r = false) := by first | exact hi' | exact hi'.symm
        rw [h1] at HC1
        rw [h2] at HC2
        clear HC3
        clear hi' h1 h2 HP1 HP2
        go_wp2_with (first | (go_at_call 162; refine Calls.mono (HC1.out _ ?g1) ?_) | (go_at_call 165; refine Calls.mono (HC2.out _ ?g2) ?_))
        case g1 => exact (Below.refl _ _).alloc (Nat.le_refl _) _
        rintro e w5 ⟨rfl, rfl⟩
        go_wp2_with (go_at_call 165; refine Calls.mono (HC2.out _ ?g2) ?_)
        case g2 => exact (Below.refl _ _).alloc (Nat.le_refl _) _
        rintro e w5 ⟨rfl, hb5⟩
        have hb6 := ((Below.refl wr.heap.size wr).alloc (Nat.le_refl _) _).trans (hb5.mono (by simp))
        have hcc := bcells (bnext hbr hb6)
        go_wp2
        go_ret
        rw [hfin.out]; exact ⟨rfl, bnext hbw hb6⟩
      · simp [ptsOk, h1, h2] at hi'
        have hfin : Hid (formedB l r = false) := by first | exact hi' | exact hi'.symm
        rw [h1] at HC1
        rw [h2] at HC2
        clear HC3
        clear hi' h1 h2 HP1 HP2
        go_wp2_with (first | (go_at_call 162; refine Calls.mono (HC1.out _ ?g1) ?_) | (go_at_call 165; refine Calls.mono (HC2.out _ ?g2) ?_))
        case g1 => exact (Below.refl _ _).alloc (Nat.le_refl _) _
        rintro e w5 ⟨rfl, rfl⟩
        go_wp2_with (go_at_call 165; refine Calls.mono (HC2.out _ ?g2) ?_)
        case g2 => exact (Below.refl _ _).alloc (Nat.le_refl _) _
        rintro e w5 ⟨rfl, hb5⟩
        have hb6 := ((Below.refl wr.heap.size wr).alloc (Nat.le_refl _) _).trans (hb5.mono (by simp))
        have hcc := bcells (bnext hbr hb6)
        go_wp2
        go_ret
        rw [hfin.out]; exact ⟨rfl, bnext hbw hb6⟩
      · cases h3 : hasP k r.flank
        · simp [ptsOk, h1, h2, h3] at hi'
          have hfin : Hid (ptsOk r.track r (l.points.drop (k + 1)) (k + 1) = formedB l r) := by first | exact hi' | exact hi'.symm
          rw [h1] at HC1
          rw [h2] at HC2
          rw [h3] at HC3
          clear hi' h1 h2 h3 HP1 HP2
          go_wp2_with (first | (go_at_call 162; refine Calls.mono (HC1.out _ ?g1) ?_) | (go_at_call 165; refine Calls.mono (HC2.out _ ?g2) ?_))
          case g1 => exact (Below.refl _ _).alloc (Nat.le_refl _) _
          rintro e w5 ⟨rfl, rfl⟩
          go_wp2_with (go_at_call 165; refine Calls.mono (HC2.out _ ?g2) ?_)
          case g2 => exact (Below.refl _ _).alloc (Nat.le_refl _) _
          rintro e w5 ⟨rfl, hb5⟩
          have hb6 := ((Below.refl wr.heap.size wr).alloc (Nat.le_refl _) _).trans (hb5.mono (by simp))
          have hcc := bcells (bnext hbr hb6)
          have HC4 := Lib.hid (HC3.out _ hb6)
          clear HC3 hb5
          go_wp2_with (go_at_call 165; refine Calls.mono HC4.out ?_)
          rintro e w7 ⟨rfl, hb7⟩
          have hb6 := bnext hb6 hb7
          clear hcc hb7 HC4
          have hcc := bcells (bnext hbr hb6)
          go_wp2
          go_roundw
          case rel => exact ⟨k + 1, by omega, by go_num, hfin, HBR _ hb6⟩
          case measure => simp [intOf]; omega
        · simp [ptsOk, h1, h2, h3] at hi'
          have hfin : Hid (formedB l r = false) := by first | exact hi' | exact hi'.symm
          rw [h1] at HC1
          rw [h2] at HC2
          rw [h3] at HC3
          clear hi' h1 h2 h3 HP1 HP2
          go_wp2_with (first | (go_at_call 162; refine Calls.mono (HC1.out _ ?g1) ?_) | (go_at_call 165; refine Calls.mono (HC2.out _ ?g2) ?_))
          case g1 => exact (Below.refl _ _).alloc (Nat.le_refl _) _
          rintro e w5 ⟨rfl, rfl⟩
          go_wp2_with (go_at_call 165; refine Calls.mono (HC2.out _ ?g2) ?_)
          case g2 => exact (Below.refl _ _).alloc (Nat.le_refl _) _
          rintro e w5 ⟨rfl, hb5⟩
          have hb6 := ((Below.refl wr.heap.size wr).alloc (Nat.le_refl _) _).trans (hb5.mono (by simp))
          have hcc := bcells (bnext hbr hb6)
          have HC4 := Lib.hid (HC3.out _ hb6)
          clear HC3 hb5
          go_wp2_with (go_at_call 165; refine Calls.mono HC4.out ?_)
          rintro e w7 ⟨rfl, hb7⟩
          have hb6 := bnext hb6 hb7
          clear hcc hb7 HC4
          have hcc := bcells (bnext hbr hb6)
          go_wp2
          go_ret
          rw [hfin.out]; exact ⟨rfl, bnext hbw hb6⟩
    · have hf : Hid (formedB l r = true) := by rw [← hi.out, dropEnd (by omega)]; rfl
      clear hi HF2 hA2 hc2
      go_wp2
      go_ret
      rw [hf.out]; exact ⟨rfl, bnext hbW hbr⟩
end Go.Proofs.Ytmoccpbiogdbgaa
