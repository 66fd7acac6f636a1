/-
  The walk of layout.May: may a layout be?
-/
import Derived.Test.YtmoccpbiogdbgaaW9
import Derived.Deep.CutBlock
namespace Go.Proofs.Ytmoccpbiogdbgaa
open Go.RowKit Go.Shelf

theorem RInts.kept {w W : World} {A : Option Addr} {n r : Nat} {xs : List Int} (h : RInts w A n xs) (hg : w.grownBy W (some r)) (hw : ∀ b o v, w.cell? ⟨b, o, none⟩ = some v → b ≠ r) : RInts W A n xs := by
  obtain ⟨h1, h2, b, off, hA, hc⟩ := h
  exact ⟨h1, h2, b, off, hA, fun i hi => hg.cell (hc i hi) (fun e => by cases e; exact hw _ _ _ (hc i hi) rfl)⟩
theorem RNds.kept {w W : World} {A : Option Addr} {n r : Nat} {xs : List Nd} (h : RNds w A n xs) (hg : w.grownBy W (some r)) (hw : ∀ b o v, w.cell? ⟨b, o, none⟩ = some v → b ≠ r) : RNds W A n xs := by
  obtain ⟨h1, h2, b, off, hA, hc⟩ := h
  exact ⟨h1, h2, b, off, hA, fun i hi => ⟨hg.cell (hc i hi).1 (fun e => by cases e; exact hw _ _ _ (hc i hi).1 rfl), hg.cell (hc i hi).2 (fun e => by cases e; exact hw _ _ _ (hc i hi).2 rfl)⟩⟩
theorem not_map {w : World} {r : Nat} {names : List ByteArray} (h : HasNames w r names) : ∀ b o v, w.cell? ⟨b, o, none⟩ = some v → b ≠ r := by
  obtain ⟨es, clock, hb, _⟩ := h
  rintro b o v hc rfl
  simp [World.cell?, hb] at hc
theorem RRt.kept {w W : World} {p q o f : Hd} {r : Nat} {x : Rt} (h : RRt w p q o f x) (hg : w.grownBy W (some r)) (hw : ∀ b o v, w.cell? ⟨b, o, none⟩ = some v → b ≠ r) : RRt W p q o f x :=
  ⟨h.1, h.2.1, h.2.2.1.kept hg hw, h.2.2.2.1.kept hg hw, h.2.2.2.2.1.kept hg hw, h.2.2.2.2.2.kept hg hw⟩

/-- Facts of a world, the world itself a variable. -/
theorem name_any {P : Program} {c : Code} {Q : Exit → Act → World → Prop} {a : Act} {w : World} (F : World → Prop) (hF : F w) (h : ∀ W, F W → c.wp P Q a W) : c.wp P Q a w := h w hF

set_option maxRecDepth 10000 in
set_option maxHeartbeats 8000000 in
theorem may_any (s p g r : Hd) (l : Ly) (w : World) (hx : RLy w s p g r l) :
    Calls Try.prog 114 #[lyv s p g r] w (RetB (mayB l) w) := by
  obtain ⟨hok, hR1, hR2, hR3, hR4⟩ := hx
  have hs1 := hR1.1
  have hs2 := hR2.1
  have hs3 := hR3.1
  have hs4 := hR4.1
  have hfu : Hid (fullB l = (decide (64 < s.n) || (decide (32 < p.n) || (decide (32 < g.n) || decide (64 < r.n))))) := by rw [← hs1, ← hs2, ← hs3, ← hs4]; rfl
  have hMAY : Hid (mayB l = (!fullB l && (st4 l).1)) := rfl
  unfold lyv Hd.v
  obtain ⟨sA, sn, sc⟩ := s
  obtain ⟨pA, pn, pc⟩ := p
  obtain ⟨gA, gn, gc⟩ := g
  obtain ⟨rA, rn, rc⟩ := r
  dsimp only at *
  have hmax := hR1.2.1
  have hmax2 := hR2.2.1
  have hmax3 := hR3.2.1
  have hmax4 := hR4.2.1
  go_enter Try.func114, Try.ntmps114
  go_upto_region 1 with (fail)
  refine name_box (fun W0 hbW0 hlt0 hbox => ?_)
  have B0 : W0.cell? ⟨w.heap.size, 0, none⟩ = some (.slice sA sn sc) := hbox 0 _ rfl
  have B1 : W0.cell? ⟨w.heap.size, 1, none⟩ = some (.slice pA pn pc) := hbox 1 _ rfl
  have B2 : W0.cell? ⟨w.heap.size, 2, none⟩ = some (.slice gA gn gc) := hbox 2 _ rfl
  have B3 : W0.cell? ⟨w.heap.size, 3, none⟩ = some (.slice rA rn rc) := hbox 3 _ rfl
  clear hbox
  go_quiet (fail)
  by_cases hfull : 64 < sn ∨ 32 < pn ∨ 32 < gn ∨ 64 < rn
  · have hfin : Hid (mayB l = false) := by
      rw [hMAY.out, hfu.out]
      have : (decide (64 < sn) || (decide (32 < pn) || (decide (32 < gn) || decide (64 < rn)))) = true := by simpa using hfull
      rw [this]; rfl
    clear hMAY hfu
    go_wp2
    all_goals first | (exfalso; omega) | (go_ret; rw [hfin.out]; exact ⟨rfl, bdrewN hbW0 _⟩)
  have hf1 : sn ≤ 64 := by omega
  have hf2 : pn ≤ 32 := by omega
  have hf3 : gn ≤ 32 := by omega
  have hf4 : rn ≤ 64 := by omega
  have hMAY : Hid (mayB l = (st4 l).1) := by
    rw [hMAY.out, hfu.out]
    have : (decide (64 < sn) || (decide (32 < pn) || (decide (32 < gn) || decide (64 < rn)))) = false := by simp; omega
    rw [this]; simp [Hid]
  clear hfull hfu hmax hmax2 hmax3 hmax4
  have hmm := @run_makeMap Try.prog
  go_upto_region 5 with (fail)
  clear hmm
  refine name_any (fun W => Below W0.heap.size W0 W ∧ W0.heap.size + 1 < W.heap.size ∧ W.cell? ⟨W0.heap.size + 1, 4, none⟩ = some (.map (some W0.heap.size)) ∧ HasNames W W0.heap.size []) ?_ ?_
  · refine ⟨((bdrewN (Below.refl _ _) _).alloc (by simp) _).alloc (by simp) _, by simp, by go_simp, ?_⟩
    exact (HasNames.made (W0.drewN nq)).below (B := W0.heap.size + 1) ((Below.refl _ _).alloc (by simp) _) (by simp)
  rintro W ⟨hbW, hltW, hbk, hnm0⟩
  have hbW1 : Below w.heap.size w W0 := hbW0
  obtain ⟨R, hR⟩ : ∃ R, R = W0.heap.size := ⟨_, rfl⟩
  rw [← hR] at hltW hbk hnm0 ⊢
  have HRr := Lib.hid hR
  clear hR
  have hne0 : some w.heap.size ≠ some R := by have := HRr.out; intro e; cases e; omega
  have hneb : some (R + 1) ≠ some R := by simp
  -- a later world
  have hLater : ∀ wr, W.grownBy wr (some R) → Below w.heap.size w wr ∧ wr.cell? ⟨w.heap.size, 0, none⟩ = some (.slice sA sn sc) ∧ wr.cell? ⟨w.heap.size, 1, none⟩ = some (.slice pA pn pc) ∧ wr.cell? ⟨w.heap.size, 2, none⟩ = some (.slice gA gn gc) ∧ wr.cell? ⟨w.heap.size, 3, none⟩ = some (.slice rA rn rc) ∧ wr.cell? ⟨R + 1, 4, none⟩ = some (.map (some R)) ∧ R + 1 < wr.heap.size := by
    intro wr hg
    have hb := below_of_grown hbW (r := R) (by have := HRr.out; omega) hg
    exact ⟨bnext hbW1 hb, bcell hb B0, bcell hb B1, bcell hb B2, bcell hb B3, hg.cell hbk hneb, Nat.lt_of_lt_of_le hltW hg.size⟩
  have HL := Lib.hid hLater
  clear hLater
  have b0 := bcell hbW B0
  clear hbk B0 B1 B2 B3
  go_wp2_with fail
  go_loopw [8, 49] (fun o i wr => ∃ (k : Nat) (okb : Bool) (names : List ByteArray), k ≤ sn ∧ i = .int .i64 k ∧ o = .bool okb ∧ Hid ((okb, names) = (l.sections.take k).foldl stName (true, [])) ∧ W.grownBy wr (some R) ∧ HasNames wr R names) (fun _ i _ => sn - (intOf i).toNat)
  case atStart => exact ⟨0, true, [], Nat.zero_le _, rfl, rfl, rfl, ⟨rfl, rfl, rfl, Nat.le_refl _, fun _ _ _ => rfl⟩, hnm0⟩
  case round =>
    obtain ⟨k, okb, names, hk, rfl, rfl, hi, hg, hnm⟩ := hrel
    obtain ⟨hbr, c0, c1, c2, c3, ck, hlk⟩ := HL.out _ hg
    by_cases hlt : k < sn
    · have hkl : k < l.sections.length := by omega
      have hst := foldStep stName (true, []) l.sections k hkl
      rw [← hi.out] at hst
      have HST := Lib.hid hst
      obtain ⟨_, _, hsz, b, off, hA, hc⟩ := hR1.below hbr
      obtain rfl := hA (by omega)
      have e0 := hc k hkl
      have hszx := hsz _ (List.getElem_mem hkl)
      clear hi hc hA hsz hR1 hR2 hR3 hR4 hst
      generalize l.sections[k] = x at *
      go_upto_block 1 with (fail)
      go_cut [8] (fun s8 wx => ∃ (okb' : Bool) (names' : List ByteArray), s8 = .bool okb' ∧ Hid ((okb', names') = stName (okb, names) x) ∧ wr.grownBy wx (some R) ∧ HasNames wx R names')
      case first =>
        cases okb
        · go_wp2
          go_meet
          exact ⟨false, names, rfl, by simp [stName, Hid], ⟨rfl, rfl, rfl, Nat.le_refl _, fun _ _ _ => rfl⟩, hnm⟩
        have HR := Lib.hid (right_any x wr hszx)
        cases hr : rightB x
        all_goals rw [hr] at HR
        · go_wp2_with (go_at_call 156; refine Calls.mono HR.out ?_)
          rintro e w1 ⟨rfl, hb1⟩
          go_wp2
          go_meet
          exact ⟨false, names, rfl, by simp [stName, Hid, hr], grown_of_below' hb1 _, hnm.below hb1 hnm.lt⟩
        · go_wp2_with (go_at_call 156; refine Calls.mono HR.out ?_)
          rintro e w1 ⟨rfl, hb1⟩
          have hnm1 := hnm.below hb1 hnm.lt
          have ck1 := bcell hb1 ck
          cases hh : hasS x names
          · have HC := Lib.hid (fun v => fresh_yes (R + 1) R names x v w1 ck1 hnm1 hh)
            go_wp2_with (go_at_call 157; refine Calls.mono (HC.out _) ?_)
            rintro e w2 ⟨rfl, hn2, hg2⟩
            have HN2 := Lib.hid hn2
            clear hn2
            go_wp2
            go_meet
            exact ⟨true, names ++ [x], rfl, by simp [stName, Hid, hr, hh], gthen (grown_of_below' hb1 _) hg2, HN2.out⟩
          · have HC := Lib.hid (fun v => fresh_no (R + 1) R names x v w1 ck1 hnm1 hh)
            go_wp2_with (go_at_call 157; refine Calls.mono (HC.out _) ?_)
            rintro e w2 ⟨rfl, rfl⟩
            go_wp2
            go_meet
            exact ⟨false, names, rfl, by simp [stName, Hid, hr, hh], grown_of_below' hb1 _, hnm1⟩
      case rest =>
        obtain ⟨okb', names', rfl, hst', hgx, hnx⟩ := hcut
        go_wp2
        go_roundw
        case rel => exact ⟨k + 1, okb', names', by omega, by go_num, rfl, by rw [HST.out]; exact hst'.out, gthen hg hgx, hnx⟩
        case measure => simp [intOf]; omega
    · have hST1 : Hid ((okb, names) = st1 l) := by
        have := hi.out
        rw [List.take_of_length_le (by omega)] at this
        exact this
      have hg1 := hg
      have hnm1 := hnm
      clear hi hg hnm c0 ck
      go_wp2_with fail
      go_loopw [8, 70] (fun o i wr => ∃ (k : Nat) (okb : Bool) (names : List ByteArray), k ≤ pn ∧ i = .int .i64 k ∧ o = .bool okb ∧ Hid ((okb, names) = (l.points.take k).foldl (stPt l.sections.length) (st1 l)) ∧ W.grownBy wr (some R) ∧ HasNames wr R names) (fun _ i _ => pn - (intOf i).toNat)
      case atStart => exact ⟨0, okb, names, Nat.zero_le _, rfl, rfl, hST1, hg1, hnm1⟩
      case round =>
        clear hST1 hg1 hnm1 hbr hlk c1 c2 c3
        obtain ⟨k, okb, names, hk, rfl, rfl, hi, hg, hnm⟩ := hrel
        obtain ⟨hbr, c0, c1, c2, c3, ck, hlk⟩ := HL.out _ hg
        by_cases hlt : k < pn
        · have hkl : k < l.points.length := by omega
          have hst := foldStep (stPt l.sections.length) (st1 l) l.points k hkl
          rw [← hi.out] at hst
          have HST := Lib.hid hst
          obtain ⟨_, _, hsz, b, off, hA, hc⟩ := hR2.below hbr
          obtain rfl := hA (by omega)
          have e0 := (hc k hkl).1
          have e1 := (hc k hkl).2
          have hszx := hsz _ (List.getElem_mem hkl)
          clear hi hc hA hsz hR1 hR2 hR3 hR4 hst
          generalize l.points[k] = x at *
          have hsn : l.sections.length = sn := hs1
          go_upto_block 3 with (fail)
          go_cut [8] (fun s8 wx => ∃ (okb' : Bool) (names' : List ByteArray), s8 = .bool okb' ∧ Hid ((okb', names') = stPt l.sections.length (okb, names) x) ∧ wr.grownBy wx (some R) ∧ HasNames wx R names')
          case first =>
            go_upto_region 14 with (fail)
            refine name_box (fun W1 hb1 hlt1 hbox => ?_)
            have d0 : W1.cell? ⟨wr.heap.size, 0, none⟩ = some (.string x.name) := hbox 0 _ rfl
            have d1 : W1.cell? ⟨wr.heap.size, 1, none⟩ = some (.int .i64 x.sec) := hbox 1 _ rfl
            have hnm1 := hnm.below hb1 hnm.lt
            have ck1 := bcell hb1 ck
            have hneb : some wr.heap.size ≠ some R := by intro e; cases e; omega
            clear hbox c0 c1 c2 c3 e0 e1
            cases okb
            · go_wp2
              go_meet
              exact ⟨false, names, rfl, by simp [stPt, stName, Hid], grown_of_below' hb1 _, hnm1⟩
            have HR := Lib.hid (right_any x.name W1 hszx)
            cases hr : rightB x.name
            all_goals rw [hr] at HR
            · go_wp2_with (go_at_call 156; with_reducible refine Calls.mono HR.out ?_)
              rintro e w1 ⟨rfl, hb2⟩
              go_wp2
              go_meet
              exact ⟨false, names, rfl, by simp [stPt, stName, Hid, hr], grown_of_below' (bnext hb1 hb2) _, hnm1.below hb2 hnm1.lt⟩
            · go_wp2_with (go_at_call 156; with_reducible refine Calls.mono HR.out ?_)
              rintro e w1 ⟨rfl, hb2⟩
              have hnm2 := hnm1.below hb2 hnm1.lt
              have ck2 := bcell hb2 ck1
              have d0 := bcell hb2 d0
              have d1 := bcell hb2 d1
              cases hh : hasS x.name names
              · have HC := Lib.hid (fun v => fresh_yes (R + 1) R names x.name v w1 ck2 hnm2 hh)
                go_wp2_with (go_at_call 157; with_reducible refine Calls.mono (HC.out _) ?_)
                rintro e w2 ⟨rfl, hn2, hg2⟩
                have HN2 := Lib.hid hn2
                have d1 := hg2.cell d1 hneb
                have HG := Lib.hid (gthen (grown_of_below' (bnext hb1 hb2) _) hg2)
                have HB := Lib.hid (fun (V : World) (h : V.cell? ⟨w2.heap.size, 0, none⟩ = some (.int .i64 x.sec)) => below_any sn (some ⟨w2.heap.size, 0, none⟩) 1 1 [x.sec] V
                  ⟨rfl, by omega, w2.heap.size, 0, fun _ => rfl, fun i hi => by simp at hi; subst hi; exact h⟩)
                have hfin : Hid ((inR sn [x.sec], names ++ [x.name]) = stPt l.sections.length (true, names) x) := by rw [hsn]; simp [stPt, stName, Hid, hr, hh]
                clear hn2 hg2 HC d0
                go_wp2_with (go_at_call 158; with_reducible refine Calls.mono (HB.out _ ?h0) ?_)
                case h0 => go_simp
                rintro e w3 ⟨rfl, rfl⟩
                go_wp2
                go_meet
                exact ⟨_, _, rfl, hfin, gthen HG.out (grown_of_below' ((Below.refl _ _).alloc (Nat.le_refl _) _) _), HN2.out.below ((Below.refl _ _).alloc (Nat.le_refl _) _) HN2.out.lt⟩
              · have HC := Lib.hid (fun v => fresh_no (R + 1) R names x.name v w1 ck2 hnm2 hh)
                go_wp2_with (go_at_call 157; with_reducible refine Calls.mono (HC.out _) ?_)
                rintro e w2 ⟨rfl, rfl⟩
                go_wp2
                go_meet
                exact ⟨false, names, rfl, by simp [stPt, stName, Hid, hr, hh], grown_of_below' (bnext hb1 hb2) _, hnm2⟩
          case rest =>
            obtain ⟨okb', names', rfl, hst', hgx, hnx⟩ := hcut
            go_wp2
            go_roundw
            case rel => exact ⟨k + 1, okb', names', by omega, by go_num, rfl, by rw [HST.out]; exact hst'.out, gthen hg hgx, hnx⟩
            case measure => simp [intOf]; omega
        · have hST1 : Hid ((okb, names) = st2 l) := by
            have := hi.out
            rw [List.take_of_length_le (by omega)] at this
            exact this
          have hg1 := hg
          have hnm1 := hnm
          clear hi hg hnm c0 ck
          go_wp2_with fail
          go_loopw [8, 100] (fun o i wr => ∃ (k : Nat) (okb : Bool) (names : List ByteArray), k ≤ gn ∧ i = .int .i64 k ∧ o = .bool okb ∧ Hid ((okb, names) = (l.signals.take k).foldl (stPt l.sections.length) (st2 l)) ∧ W.grownBy wr (some R) ∧ HasNames wr R names) (fun _ i _ => gn - (intOf i).toNat)
          case atStart => exact ⟨0, okb, names, Nat.zero_le _, rfl, rfl, hST1, hg1, hnm1⟩
          case round =>
            clear hST1 hg1 hnm1 hbr hlk c1 c2 c3
            obtain ⟨k, okb, names, hk, rfl, rfl, hi, hg, hnm⟩ := hrel
            obtain ⟨hbr, c0, c1, c2, c3, ck, hlk⟩ := HL.out _ hg
            by_cases hlt : k < gn
            · have hkl : k < l.signals.length := by omega
              have hst := foldStep (stPt l.sections.length) (st2 l) l.signals k hkl
              rw [← hi.out] at hst
              have HST := Lib.hid hst
              obtain ⟨_, _, hsz, b, off, hA, hc⟩ := hR3.below hbr
              obtain rfl := hA (by omega)
              have e0 := (hc k hkl).1
              have e1 := (hc k hkl).2
              have hszx := hsz _ (List.getElem_mem hkl)
              clear hi hc hA hsz hR1 hR2 hR3 hR4 hst
              generalize l.signals[k] = x at *
              have hsn : l.sections.length = sn := hs1
              go_upto_block 5 with (fail)
              go_cut [8] (fun s8 wx => ∃ (okb' : Bool) (names' : List ByteArray), s8 = .bool okb' ∧ Hid ((okb', names') = stPt l.sections.length (okb, names) x) ∧ wr.grownBy wx (some R) ∧ HasNames wx R names')
              case first =>
                go_upto_region 19 with (fail)
                refine name_box (fun W1 hb1 hlt1 hbox => ?_)
                have d0 : W1.cell? ⟨wr.heap.size, 0, none⟩ = some (.string x.name) := hbox 0 _ rfl
                have d1 : W1.cell? ⟨wr.heap.size, 1, none⟩ = some (.int .i64 x.sec) := hbox 1 _ rfl
                have hnm1 := hnm.below hb1 hnm.lt
                have ck1 := bcell hb1 ck
                have hneb : some wr.heap.size ≠ some R := by intro e; cases e; omega
                clear hbox c0 c1 c2 c3 e0 e1
                cases okb
                · go_wp2
                  go_meet
                  exact ⟨false, names, rfl, by simp [stPt, stName, Hid], grown_of_below' hb1 _, hnm1⟩
                have HR := Lib.hid (right_any x.name W1 hszx)
                cases hr : rightB x.name
                all_goals rw [hr] at HR
                · go_wp2_with (go_at_call 156; with_reducible refine Calls.mono HR.out ?_)
                  rintro e w1 ⟨rfl, hb2⟩
                  go_wp2
                  go_meet
                  exact ⟨false, names, rfl, by simp [stPt, stName, Hid, hr], grown_of_below' (bnext hb1 hb2) _, hnm1.below hb2 hnm1.lt⟩
                · go_wp2_with (go_at_call 156; with_reducible refine Calls.mono HR.out ?_)
                  rintro e w1 ⟨rfl, hb2⟩
                  have hnm2 := hnm1.below hb2 hnm1.lt
                  have ck2 := bcell hb2 ck1
                  have d0 := bcell hb2 d0
                  have d1 := bcell hb2 d1
                  cases hh : hasS x.name names
                  · have HC := Lib.hid (fun v => fresh_yes (R + 1) R names x.name v w1 ck2 hnm2 hh)
                    go_wp2_with (go_at_call 157; with_reducible refine Calls.mono (HC.out _) ?_)
                    rintro e w2 ⟨rfl, hn2, hg2⟩
                    have HN2 := Lib.hid hn2
                    have d1 := hg2.cell d1 hneb
                    have HG := Lib.hid (gthen (grown_of_below' (bnext hb1 hb2) _) hg2)
                    have HB := Lib.hid (fun (V : World) (h : V.cell? ⟨w2.heap.size, 0, none⟩ = some (.int .i64 x.sec)) => below_any sn (some ⟨w2.heap.size, 0, none⟩) 1 1 [x.sec] V
                      ⟨rfl, by omega, w2.heap.size, 0, fun _ => rfl, fun i hi => by simp at hi; subst hi; exact h⟩)
                    have hfin : Hid ((inR sn [x.sec], names ++ [x.name]) = stPt l.sections.length (true, names) x) := by rw [hsn]; simp [stPt, stName, Hid, hr, hh]
                    clear hn2 hg2 HC d0
                    go_wp2_with (go_at_call 158; with_reducible refine Calls.mono (HB.out _ ?h0) ?_)
                    case h0 => go_simp
                    rintro e w3 ⟨rfl, rfl⟩
                    go_wp2
                    go_meet
                    exact ⟨_, _, rfl, hfin, gthen HG.out (grown_of_below' ((Below.refl _ _).alloc (Nat.le_refl _) _) _), HN2.out.below ((Below.refl _ _).alloc (Nat.le_refl _) _) HN2.out.lt⟩
                  · have HC := Lib.hid (fun v => fresh_no (R + 1) R names x.name v w1 ck2 hnm2 hh)
                    go_wp2_with (go_at_call 157; with_reducible refine Calls.mono (HC.out _) ?_)
                    rintro e w2 ⟨rfl, rfl⟩
                    go_wp2
                    go_meet
                    exact ⟨false, names, rfl, by simp [stPt, stName, Hid, hr, hh], grown_of_below' (bnext hb1 hb2) _, hnm2⟩
              case rest =>
                obtain ⟨okb', names', rfl, hst', hgx, hnx⟩ := hcut
                go_wp2
                go_roundw
                case rel => exact ⟨k + 1, okb', names', by omega, by go_num, rfl, by rw [HST.out]; exact hst'.out, gthen hg hgx, hnx⟩
                case measure => simp [intOf]; omega
            · have hST1 : Hid ((okb, names) = st3 l) := by
                have := hi.out
                rw [List.take_of_length_le (by omega)] at this
                exact this
              have hg1 := hg
              have hnm1 := hnm
              clear hi hg hnm c0 ck
              go_wp2_with fail
              go_loopw [8, 130] (fun o i wr => ∃ (k : Nat) (okb : Bool) (names : List ByteArray), k ≤ rn ∧ i = .int .i64 k ∧ o = .bool okb ∧ Hid ((okb, names) = (l.routes.take k).foldl (stRt l.sections.length l.points.length l.signals.length) (st3 l)) ∧ W.grownBy wr (some R) ∧ HasNames wr R names) (fun _ i _ => rn - (intOf i).toNat)
              case atStart => exact ⟨0, okb, names, Nat.zero_le _, rfl, rfl, hST1, hg1, hnm1⟩
              case round =>
                clear hST1 hg1 hnm1 hbr hlk c1 c2 c3
                obtain ⟨k, okb, names, hk, rfl, rfl, hi, hg, hnm⟩ := hrel
                obtain ⟨hbr, c0, c1, c2, c3, ck, hlk⟩ := HL.out _ hg
                by_cases hlt : k < rn
                · have hkl : k < l.routes.length := by omega
                  have hst := foldStep (stRt l.sections.length l.points.length l.signals.length) (st3 l) l.routes k hkl
                  rw [← hi.out] at hst
                  have HST := Lib.hid hst
                  obtain ⟨_, _, b, off, hA, hc⟩ := hR4.below hbr
                  obtain rfl := hA (by omega)
                  obtain ⟨p1, p2, p3, p4, hRt, e0, e1, e2, e3, e4, e5⟩ := hc k hkl
                  clear hi hc hA hR1 hR2 hR3 hR4 hst
                  generalize l.routes[k] = x at *
                  unfold Hd.v at e2 e3 e4 e5
                  have hszx := hRt.2.1
                  have hl1 : x.path.length = p1.n := hRt.2.2.1.1
                  have hl3 : x.overlap.length = p3.n := hRt.2.2.2.2.1.1
                  have hsn : l.sections.length = sn := hs1
                  have hpn : l.points.length = pn := hs2
                  have hgn : l.signals.length = gn := hs3
                  go_upto_block 7 with (fail)
                  go_cut [8] (fun s8 wx => ∃ (okb' : Bool) (names' : List ByteArray), s8 = .bool okb' ∧ Hid ((okb', names') = stRt l.sections.length l.points.length l.signals.length (okb, names) x) ∧ wr.grownBy wx (some R) ∧ HasNames wx R names')
                  case first =>
                    go_upto_region 24 with (fail)
                    refine name_box (fun W1 hb1 hlt1 hbox => ?_)
                    have d0 : W1.cell? ⟨wr.heap.size, 0, none⟩ = some (.string x.name) := hbox 0 _ rfl
                    have d1 : W1.cell? ⟨wr.heap.size, 1, none⟩ = some (.int .i64 x.sig) := hbox 1 _ rfl
                    have d2 : W1.cell? ⟨wr.heap.size, 2, none⟩ = some (.slice p1.A p1.n p1.c) := hbox 2 _ rfl
                    have d3 : W1.cell? ⟨wr.heap.size, 3, none⟩ = some (.slice p2.A p2.n p2.c) := hbox 3 _ rfl
                    have d4 : W1.cell? ⟨wr.heap.size, 4, none⟩ = some (.slice p3.A p3.n p3.c) := hbox 4 _ rfl
                    have d5 : W1.cell? ⟨wr.heap.size, 5, none⟩ = some (.slice p4.A p4.n p4.c) := hbox 5 _ rfl
                    have hnm1 := hnm.below hb1 hnm.lt
                    have ck1 := bcell hb1 ck
                    have hneb : some wr.heap.size ≠ some R := by intro e; cases e; omega
                    have hRW : R < wr.heap.size := by omega
                    have hNM := Lib.hid (not_map hnm)
                    clear hbox c0 c1 c2 c3 e0 e1 e2 e3 e4 e5
                    go_cut [8] (fun s8 wx => ∃ (ok1 : Bool) (names1 : List ByteArray), s8 = .bool ok1 ∧ Hid ((ok1, names1) = stRt1 l.signals.length (okb, names) x) ∧ W1.grownBy wx (some R) ∧ HasNames wx R names1)
                    case first =>
                      cases okb
                      · go_wp2
                        go_meet
                        exact ⟨false, names, rfl, by simp [stRt1, stName, Hid], ⟨rfl, rfl, rfl, Nat.le_refl _, fun _ _ _ => rfl⟩, hnm1⟩
                      have HR := Lib.hid (right_any x.name W1 hszx)
                      cases hr : rightB x.name
                      all_goals rw [hr] at HR
                      · go_wp2_with (go_at_call 156; with_reducible refine Calls.mono HR.out ?_)
                        rintro e w1 ⟨rfl, hb2⟩
                        go_wp2
                        go_meet
                        exact ⟨false, names, rfl, by simp [stRt1, stName, Hid, hr], grown_of_below' hb2 _, hnm1.below hb2 hnm1.lt⟩
                      · go_wp2_with (go_at_call 156; with_reducible refine Calls.mono HR.out ?_)
                        rintro e w1 ⟨rfl, hb2⟩
                        have hnm2 := hnm1.below hb2 hnm1.lt
                        have ck2 := bcell hb2 ck1
                        have d0 := bcell hb2 d0
                        have d1 := bcell hb2 d1
                        cases hh : hasS x.name names
                        · have HC := Lib.hid (fun v => fresh_yes (R + 1) R names x.name v w1 ck2 hnm2 hh)
                          go_wp2_with (go_at_call 157; with_reducible refine Calls.mono (HC.out _) ?_)
                          rintro e w2 ⟨rfl, hn2, hg2⟩
                          have HN2 := Lib.hid hn2
                          have d1 := hg2.cell d1 hneb
                          have HG := Lib.hid (gthen (grown_of_below' hb2 _) hg2)
                          have HB := Lib.hid (fun (V : World) (h : V.cell? ⟨w2.heap.size, 0, none⟩ = some (.int .i64 x.sig)) => below_any gn (some ⟨w2.heap.size, 0, none⟩) 1 1 [x.sig] V
                            ⟨rfl, by omega, w2.heap.size, 0, fun _ => rfl, fun i hi => by simp at hi; subst hi; exact h⟩)
                          have hfin : Hid ((inR gn [x.sig], names ++ [x.name]) = stRt1 l.signals.length (true, names) x) := by rw [hgn]; simp [stRt1, stName, Hid, hr, hh]
                          clear hn2 hg2 HC d0
                          go_wp2_with (go_at_call 158; with_reducible refine Calls.mono (HB.out _ ?h0) ?_)
                          case h0 => go_simp
                          rintro e w3 ⟨rfl, rfl⟩
                          go_wp2
                          go_meet
                          exact ⟨_, _, rfl, hfin, gthen HG.out (grown_of_below' ((Below.refl _ _).alloc (Nat.le_refl _) _) _), HN2.out.below ((Below.refl _ _).alloc (Nat.le_refl _) _) HN2.out.lt⟩
                        · have HC := Lib.hid (fun v => fresh_no (R + 1) R names x.name v w1 ck2 hnm2 hh)
                          go_wp2_with (go_at_call 157; with_reducible refine Calls.mono (HC.out _) ?_)
                          rintro e w2 ⟨rfl, rfl⟩
                          go_wp2
                          go_meet
                          exact ⟨false, names, rfl, by simp [stRt1, stName, Hid, hr, hh], grown_of_below' hb2 _, hnm2⟩
                    case rest =>
                      obtain ⟨ok1, names1, rfl, hst1, hgx, hnx⟩ := hcut
                      have d2 := hgx.cell d2 hneb
                      have d3 := hgx.cell d3 hneb
                      have d4 := hgx.cell d4 hneb
                      have d5 := hgx.cell d5 hneb
                      have hgr := gthen (grown_of_below' hb1 (some R)) hgx
                      have hRc := hRt.kept hgr hNM.out
                      clear d0 d1 ck1 hnm1
                      obtain ⟨wz, hwz⟩ : ∃ wz, wz = wc := ⟨_, rfl⟩
                      subst hwz
                      have hmx := hRc.2.2.1.2.1
                      have hmx3 := hRc.2.2.2.2.1.2.1
                      go_upto_region 25 with (fail)
                      go_cut [8] (fun s8 wx => ∃ ok2 : Bool, s8 = .bool ok2 ∧ Hid (ok2 = (ok1 && rtOk1 l.sections.length x)) ∧ wx = wz)
                      case first =>
                        have HB1 := Lib.hid (below_any sn p1.A p1.n p1.c x.path wz hRc.2.2.1)
                        have HB2 := Lib.hid (below_any sn p3.A p3.n p3.c x.overlap wz hRc.2.2.2.2.1)
                        cases ok1
                        · go_wp2
                          go_meet
                          exact ⟨false, rfl, by simp [Hid], rfl⟩
                        by_cases h1 : p1.n ≤ 16
                        rotate_left
                        · go_wp2
                          go_meet
                          exact ⟨false, rfl, by simp [Hid, rtOk1]; omega, rfl⟩
                        by_cases h2 : p3.n ≤ 16
                        rotate_left
                        · go_wp2
                          go_meet
                          exact ⟨false, rfl, by simp [Hid, rtOk1]; omega, rfl⟩
                        have e1 : decide (x.path.length ≤ 16) = true := by simp; omega
                        have e2 : decide (x.overlap.length ≤ 16) = true := by simp; omega
                        have hfin : Hid ((inR sn x.path && inR sn x.overlap) = (true && rtOk1 l.sections.length x)) := by rw [hsn]; simp [rtOk1, e1, e2, Hid]
                        clear e1 e2
                        cases h3 : inR sn x.path
                        all_goals rw [h3] at HB1 hfin
                        · go_wp2_with (go_at_call 158; with_reducible refine Calls.mono HB1.out ?_)
                          rintro e w3 ⟨rfl, rfl⟩
                          go_wp2
                          go_meet
                          exact ⟨false, rfl, hfin, rfl⟩
                        · go_wp2_with (go_at_call 158; with_reducible refine Calls.mono HB1.out ?_)
                          rintro e w3 ⟨rfl, rfl⟩
                          go_wp2_with (go_at_call 158; with_reducible refine Calls.mono HB2.out ?_)
                          rintro e w3 ⟨rfl, rfl⟩
                          go_wp2
                          go_meet
                          exact ⟨_, rfl, hfin, rfl⟩
                      case rest =>
                        obtain ⟨ok2, rfl, hok2, rfl⟩ := hcut
                        have HM1 := Lib.hid (may04_any pn p2.A p2.n p2.c x.points wc hRc.2.2.2.1)
                        have hfin : Hid ((ok2 && rtOk2 pn x, names1) = stRt l.sections.length l.points.length l.signals.length (okb, names) x) := by
                          simp only [stRt, Hid]; rw [← hst1.out, hok2.out, hpn]
                        cases ok2
                        · go_wp2
                          go_meet
                          exact ⟨false, _, rfl, hfin, hgr, hnx⟩
                        cases h1 : mayN pn x.points
                        all_goals rw [h1] at HM1
                        all_goals simp only [rtOk2, h1, Bool.false_and, Bool.true_and] at hfin
                        · go_wp2_with (go_at_call 159; with_reducible refine Calls.mono HM1.out ?_)
                          rintro e w3 ⟨rfl, hb3⟩
                          go_wp2
                          go_meet
                          exact ⟨_, _, rfl, hfin, gthen hgr (grown_of_below' hb3 _), hnx.below hb3 hnx.lt⟩
                        · go_wp2_with (go_at_call 159; with_reducible refine Calls.mono HM1.out ?_)
                          rintro e w3 ⟨rfl, hb3⟩
                          have HM2 := Lib.hid (may04_any pn p4.A p4.n p4.c x.flank w3 (hRc.2.2.2.2.2.below hb3))
                          have d5 := bcell hb3 d5
                          go_wp2_with (go_at_call 159; with_reducible refine Calls.mono HM2.out ?_)
                          rintro e w4 ⟨rfl, hb4⟩
                          have hb5 := bnext hb3 hb4
                          go_wp2
                          go_meet
                          exact ⟨_, _, rfl, hfin, gthen hgr (grown_of_below' hb5 _), hnx.below hb5 hnx.lt⟩
                  case rest =>
                    obtain ⟨okb', names', rfl, hst', hgx, hnx⟩ := hcut
                    go_wp2
                    go_roundw
                    case rel => exact ⟨k + 1, okb', names', by omega, by go_num, rfl, by rw [HST.out]; exact hst'.out, gthen hg hgx, hnx⟩
                    case measure => simp [intOf]; omega
                · have hST1 : Hid ((okb, names) = st4 l) := by
                    have := hi.out
                    rw [List.take_of_length_le (by omega)] at this
                    exact this
                  have hfin : Hid (mayB l = okb) := by rw [hMAY.out, ← hST1.out]; rfl
                  clear hST1 hi
                  go_wp2
                  go_ret
                  rw [hfin.out]; exact ⟨rfl, hbr⟩
end Go.Proofs.Ytmoccpbiogdbgaa
