/-
  The walk of the reference's Conflict.
-/
import Derived.Test.YtmoccpbiogdbgaaSpec5
import Derived.Test.YtmoccpbiogdbgaaW12
import Derived.Handy
namespace Go.Proofs.Ytmoccpbiogdbgaa
open Go.RowKit Go.Shelf
def meetV (u v : Int) (hu hv : Bool) : Bool := decide (u ≠ v) && ((decide (0 < u) && decide (0 < v)) || ((decide (0 < u) && hu) || (decide (0 < v) && hv)))
theorem anyPt_step (x y : Rt) (ps : List Pt) (k : Nat) (h : k < ps.length) :
    anyPt (refPtMeet x y) (ps.drop k) k = (meetV (needOf k x.needs) (needOf k y.needs) (hasI ps[k].sec y.track) (hasI ps[k].sec x.track) || anyPt (refPtMeet x y) (ps.drop (k + 1)) (k + 1)) := by
  rw [dropStep h]; rfl
/-- The like of name_box behind three new blocks. -/
theorem name_box3 {P : Program} {c : Code} {Q : Exit → Act → World → Prop} {a : Act} {w : World} {cs ds es : Array Value} {T U V : TypeId}
    (h : ∀ W, Below w.heap.size w W → w.heap.size + 2 < W.heap.size → (∀ j v, cs[j]? = some v → W.cell? ⟨w.heap.size, j, none⟩ = some v) → (∀ j v, ds[j]? = some v → W.cell? ⟨w.heap.size + 1, j, none⟩ = some v) → (∀ j v, es[j]? = some v → W.cell? ⟨w.heap.size + 1 + 1, j, none⟩ = some v) → c.wp P Q a W) :
    c.wp P Q a (((w.alloc (.cells cs T)).alloc (.cells ds U)).alloc (.cells es V)) := by
  have b1 : Below w.heap.size w (w.alloc (.cells cs T)) := (Below.refl _ _).alloc (Nat.le_refl _) _
  have z1 : (w.alloc (.cells cs T)).heap.size = w.heap.size + 1 := by simp
  have b2 : Below (w.alloc (.cells cs T)).heap.size (w.alloc (.cells cs T)) ((w.alloc (.cells cs T)).alloc (.cells ds U)) := (Below.refl _ _).alloc (Nat.le_refl _) _
  have z2 : ((w.alloc (.cells cs T)).alloc (.cells ds U)).heap.size = w.heap.size + 1 + 1 := by simp
  have b3 : Below ((w.alloc (.cells cs T)).alloc (.cells ds U)).heap.size ((w.alloc (.cells cs T)).alloc (.cells ds U)) (((w.alloc (.cells cs T)).alloc (.cells ds U)).alloc (.cells es V)) := (Below.refl _ _).alloc (Nat.le_refl _) _
  have k : ∀ (w : World) (cs : Array Value) (T : TypeId) j v, cs[j]? = some v → (w.alloc (.cells cs T)).cell? ⟨w.heap.size, j, none⟩ = some v := fun w cs T j v hj => by
    have : (w.alloc (.cells cs T)).heap[w.heap.size]? = some (.cells cs T) := heap_alloc_new w _
    unfold World.cell?; rw [this]; exact hj
  refine h _ (bnext b1 (bnext b2 b3)) (by simp) (fun j v hj => bcell (bnext b2 b3) (k _ _ _ j v hj)) (fun j v hj => bcell b3 (by have := k (w.alloc (.cells cs T)) ds U j v hj; rwa [z1] at this)) (fun j v hj => by have := k ((w.alloc (.cells cs T)).alloc (.cells ds U)) es V j v hj; rwa [z2] at this)
set_option maxRecDepth 10000 in
set_option maxHeartbeats 1500000 in
theorem refconflict_any (s p g rr : Hd) (l : Ly) (x y : Rt) (a1 a2 a3 a4 b1 b2 b3 b4 : Hd) (w : World) (hl : RLy w s p g rr l) (hx : RRt w a1 a2 a3 a4 x) (hy : RRt w b1 b2 b3 b4 y) (hsx : x.small) (hsy : y.small) :
    Calls Try.prog 108 #[lyv s p g rr, rtv x a1 a2 a3 a4, rtv y b1 b2 b3 b4] w (RetB (refConflictB l x y) w) := by
  have HTx := Lib.hid (fun W (hb : Below w.heap.size w W) => reftrack_any x a1 a2 a3 a4 W (hx.below hb) hsx)
  have HTy := Lib.hid (fun W (hb : Below w.heap.size w W) => reftrack_any y b1 b2 b3 b4 W (hy.below hb) hsy)
  have HNx := Lib.hid (fun W (hb : Below w.heap.size w W) n => needs06_any x a1 a2 a3 a4 n W (hx.below hb) hsx)
  have HNy := Lib.hid (fun W (hb : Below w.heap.size w W) n => needs06_any y b1 b2 b3 b4 n W (hy.below hb) hsy)
  have HF : Hid (refConflictB l x y = (decide (x.sig = y.sig) || ((x.track.any fun s => hasI s y.track) || anyPt (refPtMeet x y) l.points 0))) := rfl
  have hR2 := hl.2.2.1
  unfold lyv rtv Hd.v at *
  obtain ⟨pA, pn, pc⟩ := p
  dsimp only at *
  clear hl hx hy hsx hsy
  go_enter Try.func108, Try.ntmps108
  go_upto_region 1 with (fail)
  refine name_box3 (fun W hbW hlt hbox1 hbox2 hbox3 => ?_)
  have A1 : W.cell? ⟨w.heap.size, 1, none⟩ = some (.slice pA pn pc) := hbox1 1 _ rfl
  have X1 : W.cell? ⟨w.heap.size + 1, 1, none⟩ = some (.int .i64 x.sig) := hbox2 1 _ rfl
  have Y1 : W.cell? ⟨w.heap.size + 1 + 1, 1, none⟩ = some (.int .i64 y.sig) := hbox3 1 _ rfl
  have X0 : W.cell? ⟨w.heap.size + 1, 0, none⟩ = some (.string x.name) := hbox2 0 _ rfl
  have Y0 : W.cell? ⟨w.heap.size + 1 + 1, 0, none⟩ = some (.string y.name) := hbox3 0 _ rfl
  have X2 : W.cell? ⟨w.heap.size + 1, 2, none⟩ = some (.slice a1.A a1.n a1.c) := hbox2 2 _ rfl
  have X3 : W.cell? ⟨w.heap.size + 1, 3, none⟩ = some (.slice a2.A a2.n a2.c) := hbox2 3 _ rfl
  have X4 : W.cell? ⟨w.heap.size + 1, 4, none⟩ = some (.slice a3.A a3.n a3.c) := hbox2 4 _ rfl
  have X5 : W.cell? ⟨w.heap.size + 1, 5, none⟩ = some (.slice a4.A a4.n a4.c) := hbox2 5 _ rfl
  have Y2 : W.cell? ⟨w.heap.size + 1 + 1, 2, none⟩ = some (.slice b1.A b1.n b1.c) := hbox3 2 _ rfl
  have Y3 : W.cell? ⟨w.heap.size + 1 + 1, 3, none⟩ = some (.slice b2.A b2.n b2.c) := hbox3 3 _ rfl
  have Y4 : W.cell? ⟨w.heap.size + 1 + 1, 4, none⟩ = some (.slice b3.A b3.n b3.c) := hbox3 4 _ rfl
  have Y5 : W.cell? ⟨w.heap.size + 1 + 1, 5, none⟩ = some (.slice b4.A b4.n b4.c) := hbox3 5 _ rfl
  have hl1 : w.heap.size < W.heap.size := by omega
  have hl2 : w.heap.size + 1 < W.heap.size := by omega
  have hl3 : w.heap.size + 1 + 1 < W.heap.size := by omega
  clear hbox1 hbox2 hbox3 hlt
  by_cases hsg : x.sig = y.sig
  · have hfin : Hid (refConflictB l x y = true) := by rw [HF.out, decide_eq_true hsg]; rfl
    clear HF
    go_wp2
    go_ret
    rw [hfin.out]; exact ⟨rfl, hbW⟩
  have HF1 : Hid (refConflictB l x y = ((x.track.any fun s => hasI s y.track) || anyPt (refPtMeet x y) l.points 0)) := by rw [HF.out, decide_eq_false hsg]; rfl
  clear HF
  have hsgb : (x.sig == y.sig) = false := by simpa using hsg
  go_upto_region 3 with (fail)
  refine wp_region_loose (lk [someI x.track, someI y.track, nof, nof, nof, nof, nof, nof, nof, nof, nof, nof, ex (.agg #[.string x.name, .int .i64 x.sig, .slice a1.A a1.n a1.c, .slice a2.A a2.n a2.c, .slice a3.A a3.n a3.c, .slice a4.A a4.n a4.c]), someI x.track, ex (.agg #[.string y.name, .int .i64 y.sig, .slice b1.A b1.n b1.c, .slice b2.A b2.n b2.c, .slice b3.A b3.n b3.c, .slice b4.A b4.n b4.c]), someI y.track] 7) (by kernel_rfl) (by kernel_rfl) (lk_stab ⟨stab_someI, stab_someI, stab_no, stab_no, stab_no, stab_no, stab_no, stab_no, stab_no, stab_no, stab_no, stab_no, stab_ex, stab_someI, stab_ex, stab_someI, trivial⟩) (loose_start ?_)
  apply loose_q 19
  · intro W2 hk; have hcc := bcells hk.1; go_big_quiet_op; first | exact rfl | (apply Exists.intro; refine ⟨fun W3 hW3 => ?_, ?_⟩; (first | exact rfl | (have hcc3 := bcells (bnext hk.1 hW3); go_simp; rfl)); exact rfl)
  · exact rfl
  · exact rfl
  · kernel_rfl
  · kernel_rfl
  · exact fun v W => Iff.rfl
  · rfl
  refine loose_f 20 rfl rfl (by kernel_rfl) (by kernel_rfl) (fun W2 hk => ?_) ?_
  · refine loose_run1 (someI x.track) (.tmp 19) (.agg #[.string x.name, .int .i64 x.sig, .slice a1.A a1.n a1.c, .slice a2.A a2.n a2.c, .slice a3.A a3.n a3.c, .slice a4.A a4.n a4.c]) rfl (fun _ _ h => h) fun ev hev hx => ?_; simp [go_sem, hx, hev]; refine (HTx.out _ (bnext hbW hk.1)).mono ?_; rintro e w5 ⟨A5, n5, c5, rfl, hle5, hb5, hr5⟩; exact ⟨_, rfl, hb5, A5, n5, c5, rfl, hr5⟩
  rintro v20 W2 hv20 a1 ha1
  simp [go_sem] at ha1
  subst ha1
  apply loose_q 21
  · intro W2 hk; have hcc := bcells hk.1; go_big_quiet_op; first | exact rfl | (apply Exists.intro; refine ⟨fun W3 hW3 => ?_, ?_⟩; (first | exact rfl | (have hcc3 := bcells (bnext hk.1 hW3); go_simp; rfl)); exact rfl)
  · exact rfl
  · exact rfl
  · kernel_rfl
  · kernel_rfl
  · exact fun v W => Iff.rfl
  · rfl
  refine loose_f 22 rfl rfl (by kernel_rfl) (by kernel_rfl) (fun W2 hk => ?_) ?_
  · refine loose_run1 (someI y.track) (.tmp 21) (.agg #[.string y.name, .int .i64 y.sig, .slice b1.A b1.n b1.c, .slice b2.A b2.n b2.c, .slice b3.A b3.n b3.c, .slice b4.A b4.n b4.c]) rfl (fun _ _ h => h) fun ev hev hx => ?_; simp [go_sem, hx, hev]; refine (HTy.out _ (bnext hbW hk.1)).mono ?_; rintro e w5 ⟨A5, n5, c5, rfl, hle5, hb5, hr5⟩; exact ⟨_, rfl, hb5, A5, n5, c5, rfl, hr5⟩
  rintro v22 W2 hv22 a1 ha1
  simp [go_sem] at ha1
  subst ha1
  refine loose_f 7 rfl rfl (by kernel_rfl) (by kernel_rfl) (fun W2 hk => ?_) ?_
  · refine loose_run1 (someI x.track) (.tmp 20) v20 rfl (fun _ _ h => h) fun ev hev hx => ?_; simp [go_sem, hx]; exact ⟨Below.refl _ _, hk.2 20 (by unfold inL; decide) (by decide)⟩
  rintro v7 W2 hv7 a1 ha1
  simp [go_sem] at ha1
  subst ha1
  refine loose_f 8 rfl rfl (by kernel_rfl) (by kernel_rfl) (fun W2 hk => ?_) ?_
  · refine loose_run1 (someI y.track) (.tmp 22) v22 rfl (fun _ _ h => h) fun ev hev hx => ?_; simp [go_sem, hx]; exact ⟨Below.refl _ _, hk.2 22 (by unfold inL; decide) (by decide)⟩
  rintro v8 W2 hv8 a1 ha1
  simp [go_sem] at ha1
  subst ha1
  refine loose_done fun W3 hW3 hK => ?_
  obtain ⟨At, nt, ct, et, hrt⟩ : someI x.track _ W3 := hK 7 (by decide)
  obtain ⟨Au, nu, cu, eu, hru⟩ : someI y.track _ W3 := hK 8 (by decide)
  clear hK HTx HTy
  replace et : v7 = _ := et
  replace eu : v8 = _ := eu
  subst et eu
  have HI := Lib.hid (fun W4 (hb : Below W3.heap.size W3 W4) n => in06_any Au nu cu y.track n W4 (hru.below hb))
  have HJ := Lib.hid (fun W4 (hb : Below W3.heap.size W3 W4) n => in06_any At nt ct x.track n W4 (hrt.below hb))
  have hltn := hrt.1
  have hmxn := hrt.2.1
  go_wp2_with fail
  go_loopw [9] (fun i wr => ∃ k : Nat, k ≤ nt ∧ i = .int .i64 k ∧ Hid ((x.track.drop k).any (fun s => hasI s y.track) = x.track.any fun s => hasI s y.track) ∧ W3 = wr) (fun i _ => nt - (intOf i).toNat)
  case atStart => exact ⟨0, Nat.zero_le _, rfl, rfl, rfl⟩
  case round =>
    obtain ⟨k, hk, rfl, hi, rfl⟩ := hrel
    by_cases hlt : k < nt
    · have hkl : k < x.track.length := by omega
      obtain ⟨_, _, b9, o9, hA9, hc9⟩ := hrt
      obtain rfl := hA9 (by omega)
      have e1 := hc9 k hkl
      have l9 := World.block_lt_of_cell? _ _ e1
      simp only at l9
      have hi' := hi.out
      rw [dropStep hkl, List.any_cons] at hi'
      clear hA9 hc9 hi HJ
      generalize x.track[k] = q at *
      have HIs := Lib.hid (HI.out W3 (Below.refl _ _) q)
      clear HI
      cases hms : hasI q y.track
      all_goals rw [hms] at HIs
      · have hfin : Hid ((x.track.drop (k + 1)).any (fun s => hasI s y.track) = x.track.any fun s => hasI s y.track) := by rw [← hi', hms]; simp; trivial
        clear hi' hms
        go_wp2_with (go_at_call 152; with_reducible refine Calls.mono HIs.out ?_)
        rintro e w4 ⟨rfl, rfl⟩
        go_wp2
        go_roundw
        case rel => exact ⟨k + 1, by omega, by go_num, hfin, trivial⟩
        case measure => simp [intOf]; omega
      · have hfin : Hid (refConflictB l x y = true) := by rw [HF1.out, ← hi', hms]; rfl
        clear hi' hms HF1
        go_wp2_with (go_at_call 152; with_reducible refine Calls.mono HIs.out ?_)
        rintro e w4 ⟨rfl, rfl⟩
        go_wp2
        go_ret
        rw [hfin.out]; exact ⟨rfl, bnext hbW hW3⟩
    · have hN : Hid ((x.track.any fun s => hasI s y.track) = false) := by rw [← hi.out, dropEnd (by omega)]; rfl
      have HF2 : Hid (refConflictB l x y = anyPt (refPtMeet x y) l.points 0) := by rw [HF1.out, hN.out]; rfl
      clear hi hN HF1 hltn hmxn
      obtain ⟨hpl, hpm, hpz, b2, o2, hpA, hpc⟩ := hR2
      go_wp2_with fail
      go_loopw [10] (fun i wr => ∃ k : Nat, k ≤ pn ∧ i = .int .i64 k ∧ Hid (anyPt (refPtMeet x y) (l.points.drop k) k = refConflictB l x y) ∧ Below W3.heap.size W3 wr) (fun i _ => pn - (intOf i).toNat)
      case atStart => exact ⟨0, Nat.zero_le _, rfl, HF2.out.symm, Below.refl _ _⟩
      case round =>
        obtain ⟨k, hk, rfl, hi, hb⟩ := hrel
        have hbr := bnext hW3 hb
        have hbw := bnext hbW hbr
        have A1r := bcell hbr A1
        have X0r := bcell hbr X0
        have X1r := bcell hbr X1
        have X2r := bcell hbr X2
        have X3r := bcell hbr X3
        have X4r := bcell hbr X4
        have X5r := bcell hbr X5
        have Y0r := bcell hbr Y0
        have Y1r := bcell hbr Y1
        have Y2r := bcell hbr Y2
        have Y3r := bcell hbr Y3
        have Y4r := bcell hbr Y4
        have Y5r := bcell hbr Y5
        have hq1 := Nat.lt_of_lt_of_le hl1 hbr.size
        have hq2 := Nat.lt_of_lt_of_le hl2 hbr.size
        have hq3 := Nat.lt_of_lt_of_le hl3 hbr.size
        by_cases hlt : k < pn
        · obtain rfl := hpA (by omega)
          have hkl : k < l.points.length := by omega
          have e1 := bcell hbw (hpc k hkl).2
          have l9 := World.block_lt_of_cell? _ _ e1
          simp only at l9
          have hi' := hi.out
          rw [anyPt_step x y l.points k hkl] at hi'
          clear hpA hpc hi HF2
          generalize l.points[k] = q at *
          have HIs := Lib.hid (fun W4 (h : Below wr.heap.size wr W4) => HI.out W4 (bnext hb h) q.sec)
          have HJs := Lib.hid (fun W4 (h : Below wr.heap.size wr W4) => HJ.out W4 (bnext hb h) q.sec)
          have HX := Lib.hid (fun W4 (h : Below wr.heap.size wr W4) => HNx.out W4 (bnext hbw h) k)
          have HY := Lib.hid (fun W4 (h : Below wr.heap.size wr W4) => HNy.out W4 (bnext hbw h) k)
          clear HI HJ HNx HNy
          have HU := Lib.hid (needOf_three k x.needs)
          have HV := Lib.hid (needOf_three k y.needs)
          generalize needOf (k : Int) x.needs = u at *
          generalize needOf (k : Int) y.needs = v at *
          generalize hqx : hasI q.sec x.track = bx at *
          generalize hqy : hasI q.sec y.track = by' at *
          have HQX := Lib.hid hqx
          have HQY := Lib.hid hqy
          clear hqx hqy
          have HI1 := Lib.hid hi'
          clear hi'
          go_upto_region 12 with (fail)
          refine wp_region_calm (by kernel_rfl) (by kernel_rfl) ?_
          repeat (first | go_big_quiet_skip | (go_big_quiet_want; go_big_quiet_op; first | go_big_quiet_on | (apply Exists.intro; refine ⟨fun W1 hW1 => ?_, ?_⟩; (first | exact rfl | (go_at_call 153; (with_reducible refine Calls.mono (HX.out _ hW1) ?_); exact fun e w5 hr => ⟨hr.1, bnext hW1 hr.2⟩) | (go_at_call 153; (with_reducible refine Calls.mono (HY.out _ hW1) ?_); exact fun e w5 hr => ⟨hr.1, bnext hW1 hr.2⟩) | (have hcc := bcells hW1; go_simp; rfl)); go_big_quiet_on)))
          refine wpQuiet_nil ?_
          intro W5 hW5
          have hcc := bcells hW5
          clear HX HY
          have HIx := Lib.hid (HIs.out W5 hW5)
          have HJx := Lib.hid (HJs.out W5 hW5)
          clear HIs HJs
          rcases HU.out with hu | hu | hu <;> rcases HV.out with hv | hv | hv <;> subst hu <;> subst hv <;> clear HU HV
          · have hfin : Hid (anyPt (refPtMeet x y) (l.points.drop (k + 1)) (k + 1) = refConflictB l x y) := by rw [← HI1.out]; rfl
            clear HI1
            go_wp2
            go_roundw
            case rel => exact ⟨k + 1, by omega, by go_num, hfin, bnext hb hW5⟩
            case measure => simp [intOf]; omega
          · cases bx
            · have hfin : Hid (anyPt (refPtMeet x y) (l.points.drop (k + 1)) (k + 1) = refConflictB l x y) := by rw [← HI1.out]; rfl
              clear HI1
              go_wp2_with (go_at_call 152; with_reducible refine Calls.mono HJx.out ?_)
              rintro e w6 ⟨rfl, rfl⟩
              go_wp2
              go_roundw
              case rel => exact ⟨k + 1, by omega, by go_num, hfin, bnext hb hW5⟩
              case measure => simp [intOf]; omega
            · have hfin : Hid (refConflictB l x y = true) := by rw [← HI1.out]; rfl
              clear HI1
              go_wp2_with (go_at_call 152; with_reducible refine Calls.mono HJx.out ?_)
              rintro e w6 ⟨rfl, rfl⟩
              go_wp2
              go_ret
              rw [hfin.out]; exact ⟨rfl, bnext hbw hW5⟩
          · cases bx
            · have hfin : Hid (anyPt (refPtMeet x y) (l.points.drop (k + 1)) (k + 1) = refConflictB l x y) := by rw [← HI1.out]; rfl
              clear HI1
              go_wp2_with (go_at_call 152; with_reducible refine Calls.mono HJx.out ?_)
              rintro e w6 ⟨rfl, rfl⟩
              go_wp2
              go_roundw
              case rel => exact ⟨k + 1, by omega, by go_num, hfin, bnext hb hW5⟩
              case measure => simp [intOf]; omega
            · have hfin : Hid (refConflictB l x y = true) := by rw [← HI1.out]; rfl
              clear HI1
              go_wp2_with (go_at_call 152; with_reducible refine Calls.mono HJx.out ?_)
              rintro e w6 ⟨rfl, rfl⟩
              go_wp2
              go_ret
              rw [hfin.out]; exact ⟨rfl, bnext hbw hW5⟩
          · cases by'
            · have hfin : Hid (anyPt (refPtMeet x y) (l.points.drop (k + 1)) (k + 1) = refConflictB l x y) := by rw [← HI1.out]; rfl
              clear HI1
              go_wp2_with (go_at_call 152; with_reducible refine Calls.mono HIx.out ?_)
              rintro e w6 ⟨rfl, rfl⟩
              go_wp2
              go_roundw
              case rel => exact ⟨k + 1, by omega, by go_num, hfin, bnext hb hW5⟩
              case measure => simp [intOf]; omega
            · have hfin : Hid (refConflictB l x y = true) := by rw [← HI1.out]; rfl
              clear HI1
              go_wp2_with (go_at_call 152; with_reducible refine Calls.mono HIx.out ?_)
              rintro e w6 ⟨rfl, rfl⟩
              go_wp2
              go_ret
              rw [hfin.out]; exact ⟨rfl, bnext hbw hW5⟩
          · have hfin : Hid (anyPt (refPtMeet x y) (l.points.drop (k + 1)) (k + 1) = refConflictB l x y) := by rw [← HI1.out]; rfl
            clear HI1
            go_wp2
            go_roundw
            case rel => exact ⟨k + 1, by omega, by go_num, hfin, bnext hb hW5⟩
            case measure => simp [intOf]; omega
          · have hfin : Hid (refConflictB l x y = true) := by rw [← HI1.out]; rfl
            clear HI1
            go_wp2
            go_ret
            rw [hfin.out]; exact ⟨rfl, bnext hbw hW5⟩
          · cases by'
            · have hfin : Hid (anyPt (refPtMeet x y) (l.points.drop (k + 1)) (k + 1) = refConflictB l x y) := by rw [← HI1.out]; rfl
              clear HI1
              go_wp2_with (go_at_call 152; with_reducible refine Calls.mono HIx.out ?_)
              rintro e w6 ⟨rfl, rfl⟩
              go_wp2
              go_roundw
              case rel => exact ⟨k + 1, by omega, by go_num, hfin, bnext hb hW5⟩
              case measure => simp [intOf]; omega
            · have hfin : Hid (refConflictB l x y = true) := by rw [← HI1.out]; rfl
              clear HI1
              go_wp2_with (go_at_call 152; with_reducible refine Calls.mono HIx.out ?_)
              rintro e w6 ⟨rfl, rfl⟩
              go_wp2
              go_ret
              rw [hfin.out]; exact ⟨rfl, bnext hbw hW5⟩
          · have hfin : Hid (refConflictB l x y = true) := by rw [← HI1.out]; rfl
            clear HI1
            go_wp2
            go_ret
            rw [hfin.out]; exact ⟨rfl, bnext hbw hW5⟩
          · have hfin : Hid (anyPt (refPtMeet x y) (l.points.drop (k + 1)) (k + 1) = refConflictB l x y) := by rw [← HI1.out]; rfl
            clear HI1
            go_wp2
            go_roundw
            case rel => exact ⟨k + 1, by omega, by go_num, hfin, bnext hb hW5⟩
            case measure => simp [intOf]; omega
        · have hfin : Hid (refConflictB l x y = false) := by rw [← hi.out, dropEnd (by omega)]; rfl
          clear hi HI HJ HNx HNy HF2
          go_wp2
          go_ret
          rw [hfin.out]; exact ⟨rfl, bnext hbW hbr⟩

end Go.Proofs.Ytmoccpbiogdbgaa
