/-
  The walks of conflict's reasons (an iterator), of conflict and of Pair.
-/
import Derived.Test.YtmoccpbiogdbgaaW20
import Derived.Test.YtmoccpbiogdbgaaLoose
import Derived.Test.YtmoccpbiogdbgaaW13
import Derived.Test.YtmoccpbiogdbgaaSpec6
namespace Go.Proofs.Ytmoccpbiogdbgaa
open Go.RowKit Go.Shelf
attribute [local go_sem] Oper.semAt_some

/-! ### What a round keeps: all cells and maps -/
structure KeepsData (W W' : World) : Prop where
  size : W.heap.size ≤ W'.heap.size
  same : ∀ (k : Nat) (o : Obj), W.heap[k]? = some o → (o.isCells = true ∨ o.isWalk = true) → W'.heap[k]? = some o
theorem KeepsData.refl (W : World) : KeepsData W W := ⟨Nat.le_refl _, fun _ _ h _ => h⟩
theorem KeepsData.trans {A B C : World} (h : KeepsData A B) (k : KeepsData B C) : KeepsData A C := ⟨Nat.le_trans h.size k.size, fun i o hi ho => k.same i o (h.same i o hi ho) ho⟩
theorem KeepsData.putObj (W : World) (l : Nat) (o o' : Obj) (h : W.heap[l]? = some o) (ho : o.isCells = false) (hw : o.isWalk = false) : KeepsData W (W.putObj l o') :=
  ⟨by simp, fun k o2 h2 hc => by
    by_cases e : k = l
    · subst e; rw [h] at h2; cases h2; rw [ho, hw] at hc; rcases hc with hc | hc <;> cases hc
    · exact (World.putObj_heap_other e).trans h2⟩
theorem KeepsData.of_below {W W' : World} (h : Below W.heap.size W W') : KeepsData W W' := ⟨h.size, fun k _ ho _ => (h.block k (Array.getElem?_eq_some_iff.1 ho).1).trans ho⟩
theorem KeepsData.cell {W W' : World} (h : KeepsData W W') {b o : Nat} {v : Value} (hc : W.cell? ⟨b, o, none⟩ = some v) : W'.cell? ⟨b, o, none⟩ = some v := by
  obtain ⟨x, hx, hi⟩ := isCells_of_cell hc
  exact cell_of_same ((h.same b x hx (.inl hi)).trans hx.symm) hc
theorem KeepsData.ints {W W' : World} (h : KeepsData W W') {A : Option Addr} {n : Nat} {xs : List Int} (hx : RInts W A n xs) : RInts W' A n xs := by
  obtain ⟨h1, h2, b, off, hA, hc⟩ := hx
  exact ⟨h1, h2, b, off, hA, fun i hi => h.cell (hc i hi)⟩
theorem KeepsData.map {W W' : World} (h : KeepsData W W') {r : Nat} {f : Int → Option Bool} (hx : MapIs W r f) : MapIs W' r f := by
  have hx0 := hx
  obtain ⟨es, clock, h1, _⟩ := hx
  exact hx0.same ((h.same r _ h1 (.inr rfl)).trans h1.symm)
theorem KeepsData.pts {W W' : World} (h : KeepsData W W') {A : Option Addr} {n : Nat} {xs : List Pt} (hx : RPts W A n xs) : RPts W' A n xs := by
  obtain ⟨h1, h2, h3, b, off, hA, hc⟩ := hx
  exact ⟨h1, h2, h3, b, off, hA, fun i hi => ⟨h.cell (hc i hi).1, h.cell (hc i hi).2⟩⟩
theorem KeepsData.nds {W W' : World} (h : KeepsData W W') {A : Option Addr} {n : Nat} {xs : List Nd} (hx : RNds W A n xs) : RNds W' A n xs := by
  obtain ⟨h1, h2, b, off, hA, hc⟩ := hx
  exact ⟨h1, h2, b, off, hA, fun i hi => ⟨h.cell (hc i hi).1, h.cell (hc i hi).2⟩⟩
theorem KeepsData.rt {W W' : World} (h : KeepsData W W') {p q o f : Hd} {r : Rt} (hx : RRt W p q o f r) : RRt W' p q o f r :=
  ⟨hx.1, hx.2.1, h.ints hx.2.2.1, h.nds hx.2.2.2.1, h.ints hx.2.2.2.2.1, h.nds hx.2.2.2.2.2⟩
theorem abides_below {β : Type} {B : Nat} {J : β → World → Prop} (hJ : AbidesFrom B J) {s : β} {W W' : World} (h : J s W) (hb : Below W.heap.size W W') : J s W' :=
  hJ s W W' none h ⟨hb.os, hb.tape, hb.output, hb.size, fun k hk _ => hb.block k hk⟩ (fun r e => by cases e)
/-- The box of a route. -/
def RtBox (w : World) (b : Nat) (r : Rt) (p q o f : Hd) : Prop :=
  w.cell? ⟨b, 0, none⟩ = some (.string r.name) ∧ w.cell? ⟨b, 1, none⟩ = some (.int .i64 r.sig) ∧ w.cell? ⟨b, 2, none⟩ = some p.v ∧ w.cell? ⟨b, 3, none⟩ = some q.v ∧ w.cell? ⟨b, 4, none⟩ = some o.v ∧ w.cell? ⟨b, 5, none⟩ = some f.v
theorem RtBox.below {w W : World} {b : Nat} {r : Rt} {p q o f : Hd} (h : RtBox w b r p q o f) (hb : Below w.heap.size w W) : RtBox W b r p q o f :=
  ⟨bcell hb h.1, bcell hb h.2.1, bcell hb h.2.2.1, bcell hb h.2.2.2.1, bcell hb h.2.2.2.2.1, bcell hb h.2.2.2.2.2⟩
theorem RtBox.kept {w W : World} {b : Nat} {r : Rt} {p q o f : Hd} (h : RtBox w b r p q o f) (hb : KeepsData w W) : RtBox W b r p q o f :=
  ⟨hb.cell h.1, hb.cell h.2.1, hb.cell h.2.2.1, hb.cell h.2.2.2.1, hb.cell h.2.2.2.2.1, hb.cell h.2.2.2.2.2⟩
theorem LyBox.kept {w W : World} {b : Nat} {s p g r : Hd} (h : LyBox w b s p g r) (hb : KeepsData w W) : LyBox W b s p g r := ⟨hb.cell h.1, hb.cell h.2.1, hb.cell h.2.2.1, hb.cell h.2.2.2⟩
/-- A map of a route's needs. -/
def someM (f : Int → Option Bool) : Value → World → Prop := fun v W => ∃ b, v = .map (some b) ∧ MapIs W b f
theorem stab_someM {f : Int → Option Bool} : stab (someM f) := fun _ _ _ ⟨b, h1, h2⟩ hb => ⟨b, h1, h2.below hb h2.lt⟩

/-! ### The plain words -/
def trk (_x y : Rt) (ts : List Int) : Bool := ts.any fun s => hasI s y.track
theorem trk_step (x y : Rt) (ts : List Int) (k : Nat) (h : k < ts.length) : trk x y (ts.drop k) = (hasI ts[k] y.track || trk x y (ts.drop (k + 1))) := by unfold trk; rw [dropStep h]; rfl
theorem trk_end (x y : Rt) (ts : List Int) (k : Nat) (h : ¬ k < ts.length) : trk x y (ts.drop k) = false := by rw [dropEnd h]; rfl
def anyId (pre : List Bool) : Bool := pre.any id
theorem anyId_snoc (pre : List Bool) (b : Bool) : anyId (pre ++ [b]) = (anyId pre || b) := by simp [anyId]
theorem anyP_step (x y : Rt) (ps : List Pt) (k : Nat) (h : k < ps.length) : anyPt (ptMeet x y) (ps.drop k) k = (ptMeet x y ps[k] k || anyPt (ptMeet x y) (ps.drop (k + 1)) (k + 1)) := by rw [dropStep h]; rfl
theorem anyP_end (x y : Rt) (ps : List Pt) (k : Nat) (h : ¬ k < ps.length) : anyPt (ptMeet x y) (ps.drop k) k = false := by rw [dropEnd h]; rfl
/-- What the two maps tell: do the needs of a point meet? -/
def meetF (u v : Option Bool) (hu hv : Bool) : Bool := ((u.isSome && v.isSome) || ((u.isSome && hu) || (v.isSome && hv))) && !((u.isSome == v.isSome) && (u.getD false == v.getD false))
theorem ptMeet_F (x y : Rt) (p : Pt) (i : Nat) : ptMeet x y p i = meetF (sideFn x.needs i) (sideFn y.needs i) (hasI p.sec y.track) (hasI p.sec x.track) := by
  unfold ptMeet meetF sideFn needs? rev?
  rcases needOf_three i x.needs with h1 | h1 | h1 <;> rcases needOf_three i y.needs with h2 | h2 | h2 <;> rw [h1, h2] <;> simp

set_option maxRecDepth 10000 in
set_option maxHeartbeats 3000000 in
theorem reasons_stops (n : Nat) (hn : 1 ≤ n) (s p g rr : Hd) (l : Ly) (x y : Rt) (a1 a2 a3 a4 b1 b2 b3 b4 : Hd) (bl bx by1 : Nat) (w : World) (hl : RLy w s p g rr l) (hx : RRt w a1 a2 a3 a4 x) (hy : RRt w b1 b2 b3 b4 y) (hsx : x.small) (hsy : y.small)
    (hbl : LyBox w bl s p g rr) (hbx : RtBox w bx x a1 a2 a3 a4) (hby : RtBox w by1 y b1 b2 b3 b4) :
    SeqStopsK Fence.wide n Try.prog 177 #[.pointer (some ⟨bx, 0, none⟩), .pointer (some ⟨by1, 0, none⟩), .pointer (some ⟨bl, 0, none⟩)] (fun b : Bool => #[.bool b]) KeepsData
      (fun ys => anyId ys = conflictB l x y) (fun pre => anyId pre = true → conflictB l x y = true) (1 + x.track.length + l.points.length) w := fun l0 J Jx W0 hW hJa hJxa hY h0 => by
  have HTx := Lib.hid (fun W (hk : KeepsData W0 W) => track_any x a1 a2 a3 a4 W (hk.rt (hx.below hW)) hsx)
  have HTy := Lib.hid (fun W (hk : KeepsData W0 W) => track_any y b1 b2 b3 b4 W (hk.rt (hy.below hW)) hsy)
  have HSx := Lib.hid (fun W (hk : KeepsData W0 W) => sides06_any x a1 a2 a3 a4 W (hk.rt (hx.below hW)) hsx)
  have HSy := Lib.hid (fun W (hk : KeepsData W0 W) => sides06_any y b1 b2 b3 b4 W (hk.rt (hy.below hW)) hsy)
  have HP := Lib.hid (fun W (hk : KeepsData W0 W) => hk.pts (hl.2.2.1.below hW))
  have HC : Hid (conflictB l x y = ((x.sig == y.sig) || (trk x y x.track || anyPt (ptMeet x y) l.points 0))) := by
    unfold conflictB trk; congr 1
  have HBX := Lib.hid (hbx.below hW)
  have HBY := Lib.hid (hby.below hW)
  have HBL := Lib.hid (hbl.below hW).2.1
  unfold Hd.v at HBL
  clear hbx hby hbl hl hx hy hsx hsy
  obtain ⟨pA, pn, pc⟩ := p
  dsimp only at *
  refine callsIn_of_wp Try.func177 rfl trivial ?_ rfl
  simp only [Try.ntmps177, List.size_toArray, List.length_cons, List.length_nil, Nat.reduceAdd, Nat.reduceSub, Array.replicate_succ, Array.replicate_zero, List.push_toArray, List.append_toArray, List.nil_append, List.cons_append]
  have HYg := Lib.hid hY
  obtain ⟨fn1, tm1, as1, bo1, hy1, hR1⟩ := hY [] (x.sig == y.sig) W0 h0 (by simp; omega)
  clear hY
  have HR1 := Lib.hid hR1
  clear hR1
  have X1 := HBX.out.2.1
  have Y1 := HBY.out.2.1
  gi_wp2
  refine HR1.out.mono ?_
  clear HR1 hy1 X1 Y1
  rintro e W1 (⟨rfl, hJ1, hk1⟩ | ⟨rfl, hJx1⟩)
  rotate_left
  · gi_wp2
    refine bodyPost_ret (results_none rfl _ _ _) rfl ?_
    refine ⟨⟨_, rfl⟩, .inr ⟨_, fun h => ?_, hJx1⟩⟩
    rw [HC.out]; simp [anyId] at h; simp [h]
  gi_wp2
  have hk0 : KeepsData W0 W1 := hk1
  have HTx1 := Lib.hid (fun W (hb : Below W1.heap.size W1 W) => HTx.out W (hk0.trans (KeepsData.of_below hb)))
  have HTy1 := Lib.hid (fun W (hb : Below W1.heap.size W1 W) => HTy.out W (hk0.trans (KeepsData.of_below hb)))
  clear HTx HTy
  unfold rtv Hd.v at HTx1 HTy1
  obtain ⟨X0, X1, X2, X3, X4, X5⟩ := HBX.out.kept hk0
  obtain ⟨Y0, Y1, Y2, Y3, Y4, Y5⟩ := HBY.out.kept hk0
  unfold Hd.v at X2 X3 X4 X5 Y2 Y3 Y4 Y5
  have lx := World.block_lt_of_cell? _ _ X0
  have ly := World.block_lt_of_cell? _ _ Y0
  simp only at lx ly
  refine wpIn_wide.2 ?_
  refine wp_region_loose (lk [someI x.track, someI y.track, nof, nof, nof, nof, nof, nof, nof, nof, nof, nof, nof, nof, nof, nof, nof, nof, nof, nof, nof, nof, ex (.agg #[.string x.name, .int .i64 x.sig, .slice a1.A a1.n a1.c, .slice a2.A a2.n a2.c, .slice a3.A a3.n a3.c, .slice a4.A a4.n a4.c]), someI x.track, ex (.agg #[.string y.name, .int .i64 y.sig, .slice b1.A b1.n b1.c, .slice b2.A b2.n b2.c, .slice b3.A b3.n b3.c, .slice b4.A b4.n b4.c]), someI y.track] 5) (by kernel_rfl) (by kernel_rfl) (lk_stab ⟨stab_someI, stab_someI, stab_no, stab_no, stab_no, stab_no, stab_no, stab_no, stab_no, stab_no, stab_no, stab_no, stab_no, stab_no, stab_no, stab_no, stab_no, stab_no, stab_no, stab_no, stab_no, stab_no, stab_ex, stab_someI, stab_ex, stab_someI, trivial⟩) (loose_start ?_)
  apply loose_q 27
  · intro W2 hk; have hcc := bcells hk.1; go_big_quiet_op; first | exact rfl | (apply Exists.intro; refine ⟨fun W3 hW3 => ?_, ?_⟩; (first | exact rfl | (have hcc3 := bcells (bnext hk.1 hW3); go_simp; rfl)); exact rfl)
  · exact rfl
  · exact rfl
  · kernel_rfl
  · kernel_rfl
  · exact fun v W => Iff.rfl
  · rfl
  refine loose_f 28 rfl rfl (by kernel_rfl) (by kernel_rfl) (fun W2 hk => ?_) ?_
  · refine loose_run1 (someI x.track) (.tmp 27) (.agg #[.string x.name, .int .i64 x.sig, .slice a1.A a1.n a1.c, .slice a2.A a2.n a2.c, .slice a3.A a3.n a3.c, .slice a4.A a4.n a4.c]) rfl (fun _ _ h => h) fun ev hev hx => ?_; simp [go_sem, hx, hev]; refine (HTx1.out _ hk.1).mono ?_; rintro e w5 ⟨A5, n5, c5, rfl, hle5, hb5, hr5⟩; exact ⟨_, rfl, hb5, A5, n5, c5, rfl, hr5⟩
  rintro v28 W2 hv28 a1 ha1
  simp [go_sem] at ha1
  subst ha1
  apply loose_q 29
  · intro W2 hk; have hcc := bcells hk.1; go_big_quiet_op; first | exact rfl | (apply Exists.intro; refine ⟨fun W3 hW3 => ?_, ?_⟩; (first | exact rfl | (have hcc3 := bcells (bnext hk.1 hW3); go_simp; rfl)); exact rfl)
  · exact rfl
  · exact rfl
  · kernel_rfl
  · kernel_rfl
  · exact fun v W => Iff.rfl
  · rfl
  refine loose_f 30 rfl rfl (by kernel_rfl) (by kernel_rfl) (fun W2 hk => ?_) ?_
  · refine loose_run1 (someI y.track) (.tmp 29) (.agg #[.string y.name, .int .i64 y.sig, .slice b1.A b1.n b1.c, .slice b2.A b2.n b2.c, .slice b3.A b3.n b3.c, .slice b4.A b4.n b4.c]) rfl (fun _ _ h => h) fun ev hev hx => ?_; simp [go_sem, hx, hev]; refine (HTy1.out _ hk.1).mono ?_; rintro e w5 ⟨A5, n5, c5, rfl, hle5, hb5, hr5⟩; exact ⟨_, rfl, hb5, A5, n5, c5, rfl, hr5⟩
  rintro v30 W2 hv30 a1 ha1
  simp [go_sem] at ha1
  subst ha1
  refine loose_f 5 rfl rfl (by kernel_rfl) (by kernel_rfl) (fun W2 hk => ?_) ?_
  · refine loose_run1 (someI x.track) (.tmp 28) v28 rfl (fun _ _ h => h) fun ev hev hx => ?_; simp [go_sem, hx]; exact ⟨Below.refl _ _, hk.2 28 (by unfold inL; decide) (by decide)⟩
  rintro v5 W2 hv5 a1 ha1
  simp [go_sem] at ha1
  subst ha1
  refine loose_f 6 rfl rfl (by kernel_rfl) (by kernel_rfl) (fun W2 hk => ?_) ?_
  · refine loose_run1 (someI y.track) (.tmp 30) v30 rfl (fun _ _ h => h) fun ev hev hx => ?_; simp [go_sem, hx]; exact ⟨Below.refl _ _, hk.2 30 (by unfold inL; decide) (by decide)⟩
  rintro v6 W2 hv6 a1 ha1
  simp [go_sem] at ha1
  subst ha1
  refine loose_done fun W3 hW3 hK => ?_
  clear X0 X1 X2 X3 X4 X5 Y0 Y1 Y2 Y3 Y4 Y5 lx ly
  obtain ⟨At, nt, ct, et, hrt⟩ : someI x.track _ W3 := hK 5 (by decide)
  obtain ⟨Au, nu, cu, eu, hru⟩ : someI y.track _ W3 := hK 6 (by decide)
  clear hK HTx1 HTy1
  replace et : v5 = _ := et
  replace eu : v6 = _ := eu
  subst et eu
  have hk3 : KeepsData W0 W3 := hk0.trans (KeepsData.of_below hW3)
  have hJ3 := abides_below hJa hJ1 hW3
  have hlt1 := hrt.1
  have hmx1 := hrt.2.1
  have HRT := Lib.hid hrt
  have HRU := Lib.hid hru
  clear hrt hru hJ1 hk1 hW3 hk0
  gi_wp2
  gi_loopw [33] (fun i wr => ∃ k : Nat, k ≤ nt ∧ i = .int .i64 k ∧ ∃ pre : List Bool, J pre wr ∧ Hid (pre.length = 1 + k) ∧ Hid ((anyId pre || trk x y (x.track.drop k)) = ((x.sig == y.sig) || trk x y x.track)) ∧ KeepsData W3 wr) (fun i _ => nt - (intOf i).toNat)
  case atStart => exact ⟨0, Nat.zero_le _, rfl, [x.sig == y.sig], hJ3, rfl, by simp [anyId, Hid], KeepsData.refl _⟩
  case round =>
    obtain ⟨k, hk, rfl, pre, hJ, hpl, hi, hkd⟩ := hrel
    by_cases hlt : k < nt
    · have hkl : k < x.track.length := by omega
      have HCon := Lib.hid (contains_any Au nu cu y.track x.track[k] wr (hkd.ints HRU.out))
      obtain ⟨_, _, b9, o9, hA9, hc9⟩ := HRT.out
      obtain rfl := hA9 (by omega)
      have e1 := hkd.cell (hc9 k hkl)
      have l9 := World.block_lt_of_cell? _ _ e1
      simp only at l9
      have hi' := hi.out
      rw [trk_step x y x.track k hkl, ← Bool.or_assoc, ← anyId_snoc] at hi'
      obtain ⟨fn2, tm2, as2, bo2, hy2, hR2⟩ := HYg.out pre (hasI x.track[k] y.track) wr hJ (by rw [hpl.out]; omega)
      have HI2 := Lib.hid hi'
      have HPL : Hid ((pre ++ [hasI x.track[k] y.track]).length = 1 + (k + 1)) := by rw [List.length_append, hpl.out]; simp [Hid]; omega
      have HR2 := Lib.hid hR2
      clear hA9 hc9 hi hi' hpl hR2
      generalize x.track[k] = q at *
      generalize hasI q y.track = bq at *
      gi_wp2
      refine ⟨trivial, (callsIn_wide.2 HCon.out).mono ?_⟩
      rintro e w4 ⟨rfl, rfl⟩
      gi_wp2
      refine HR2.out.mono ?_
      clear HR2 hy2 HCon
      rintro e W5 (⟨rfl, hJ5, hk5⟩ | ⟨rfl, hJx5⟩)
      · gi_wp2
        go_roundw
        case rel => exact ⟨k + 1, by omega, by go_num, _, hJ5, HPL, HI2, hkd.trans hk5⟩
        case measure => simp [intOf]; omega
      · gi_wp2
        refine bodyPost_ret (results_none rfl _ _ _) rfl ?_
        refine ⟨⟨_, rfl⟩, .inr ⟨_, fun h => ?_, hJx5⟩⟩
        have h2 := HI2.out
        rw [h, Bool.true_or] at h2
        rw [HC.out, ← Bool.or_assoc, ← h2]; rfl
    · obtain rfl : nt = k := by omega
      have hi' := hi.out
      rw [trk_end x y x.track nt (by omega), Bool.or_false] at hi'
      have HI2 : Hid (conflictB l x y = (anyId pre || anyPt (ptMeet x y) l.points 0)) := by rw [HC.out, ← Bool.or_assoc, hi']; rfl
      have HPL : Hid (pre.length = 1 + x.track.length) := by rw [hpl.out, ← hlt1]; rfl
      clear hi hi' hpl hlt hk
      have hS0 : KeepsData W0 wr := hk3.trans hkd
      gi_wp2
      obtain ⟨wo, rfl⟩ : ∃ wo : World, wo = wr := ⟨_, rfl⟩
      have HSx1 := Lib.hid (fun W (hb : Below wo.heap.size wo W) => HSx.out W (hS0.trans (KeepsData.of_below hb)))
      have HSy1 := Lib.hid (fun W (hb : Below wo.heap.size wo W) => HSy.out W (hS0.trans (KeepsData.of_below hb)))
      clear HSx HSy
      unfold rtv Hd.v at HSx1 HSy1
      obtain ⟨X0, X1, X2, X3, X4, X5⟩ := HBX.out.kept hS0
      obtain ⟨Y0, Y1, Y2, Y3, Y4, Y5⟩ := HBY.out.kept hS0
      unfold Hd.v at X2 X3 X4 X5 Y2 Y3 Y4 Y5
      have lx := World.block_lt_of_cell? _ _ X0
      have ly := World.block_lt_of_cell? _ _ Y0
      simp only at lx ly
      refine wpIn_wide.2 ?_
      refine wp_region_loose (lk [someM (sideFn x.needs), someM (sideFn y.needs), nof, nof, nof, nof, nof, nof, nof, nof, nof, nof, nof, nof, nof, nof, nof, nof, nof, nof, nof, nof, nof, nof, nof, nof, nof, nof, nof, nof, nof, nof, nof, nof, nof, ex (.agg #[.string x.name, .int .i64 x.sig, .slice a1.A a1.n a1.c, .slice a2.A a2.n a2.c, .slice a3.A a3.n a3.c, .slice a4.A a4.n a4.c]), someM (sideFn x.needs), ex (.agg #[.string y.name, .int .i64 y.sig, .slice b1.A b1.n b1.c, .slice b2.A b2.n b2.c, .slice b3.A b3.n b3.c, .slice b4.A b4.n b4.c]), someM (sideFn y.needs)] 9) (by kernel_rfl) (by kernel_rfl) (lk_stab ⟨stab_someM, stab_someM, stab_no, stab_no, stab_no, stab_no, stab_no, stab_no, stab_no, stab_no, stab_no, stab_no, stab_no, stab_no, stab_no, stab_no, stab_no, stab_no, stab_no, stab_no, stab_no, stab_no, stab_no, stab_no, stab_no, stab_no, stab_no, stab_no, stab_no, stab_no, stab_no, stab_no, stab_no, stab_no, stab_no, stab_ex, stab_someM, stab_ex, stab_someM, trivial⟩) (loose_start ?_)
      apply loose_q 44
      · intro W2 hk; have hcc := bcells hk.1; go_big_quiet_op; first | exact rfl | (apply Exists.intro; refine ⟨fun W3 hW3 => ?_, ?_⟩; (first | exact rfl | (have hcc3 := bcells (bnext hk.1 hW3); go_simp; rfl)); exact rfl)
      · exact rfl
      · exact rfl
      · kernel_rfl
      · kernel_rfl
      · exact fun v W => Iff.rfl
      · rfl
      refine loose_f 45 rfl rfl (by kernel_rfl) (by kernel_rfl) (fun W2 hk => ?_) ?_
      · refine loose_run1 (someM (sideFn x.needs)) (.tmp 44) (.agg #[.string x.name, .int .i64 x.sig, .slice a1.A a1.n a1.c, .slice a2.A a2.n a2.c, .slice a3.A a3.n a3.c, .slice a4.A a4.n a4.c]) rfl (fun _ _ h => h) fun ev hev hx => ?_; simp [go_sem, hx, hev]; refine (HSx1.out _ hk.1).mono ?_; rintro e w5 ⟨b5, rfl, hb5, hm5⟩; exact ⟨_, rfl, hb5, b5, rfl, hm5⟩
      rintro v45 W2 hv45 a1 ha1
      simp [go_sem] at ha1
      subst ha1
      apply loose_q 46
      · intro W2 hk; have hcc := bcells hk.1; go_big_quiet_op; first | exact rfl | (apply Exists.intro; refine ⟨fun W3 hW3 => ?_, ?_⟩; (first | exact rfl | (have hcc3 := bcells (bnext hk.1 hW3); go_simp; rfl)); exact rfl)
      · exact rfl
      · exact rfl
      · kernel_rfl
      · kernel_rfl
      · exact fun v W => Iff.rfl
      · rfl
      refine loose_f 47 rfl rfl (by kernel_rfl) (by kernel_rfl) (fun W2 hk => ?_) ?_
      · refine loose_run1 (someM (sideFn y.needs)) (.tmp 46) (.agg #[.string y.name, .int .i64 y.sig, .slice b1.A b1.n b1.c, .slice b2.A b2.n b2.c, .slice b3.A b3.n b3.c, .slice b4.A b4.n b4.c]) rfl (fun _ _ h => h) fun ev hev hx => ?_; simp [go_sem, hx, hev]; refine (HSy1.out _ hk.1).mono ?_; rintro e w5 ⟨b5, rfl, hb5, hm5⟩; exact ⟨_, rfl, hb5, b5, rfl, hm5⟩
      rintro v47 W2 hv47 a1 ha1
      simp [go_sem] at ha1
      subst ha1
      refine loose_f 9 rfl rfl (by kernel_rfl) (by kernel_rfl) (fun W2 hk => ?_) ?_
      · refine loose_run1 (someM (sideFn x.needs)) (.tmp 45) v45 rfl (fun _ _ h => h) fun ev hev hx => ?_; simp [go_sem, hx]; exact ⟨Below.refl _ _, hk.2 45 (by unfold inL; decide) (by decide)⟩
      rintro v9 W2 hv9 a1 ha1
      simp [go_sem] at ha1
      subst ha1
      refine loose_f 10 rfl rfl (by kernel_rfl) (by kernel_rfl) (fun W2 hk => ?_) ?_
      · refine loose_run1 (someM (sideFn y.needs)) (.tmp 47) v47 rfl (fun _ _ h => h) fun ev hev hx => ?_; simp [go_sem, hx]; exact ⟨Below.refl _ _, hk.2 47 (by unfold inL; decide) (by decide)⟩
      rintro v10 W2 hv10 a1 ha1
      simp [go_sem] at ha1
      subst ha1
      refine loose_done fun W6 hW6 hK => ?_
      clear X0 X1 X2 X3 X4 X5 Y0 Y1 Y2 Y3 Y4 Y5 lx ly
      obtain ⟨Bm, em, hrm⟩ : someM (sideFn x.needs) _ W6 := hK 9 (by decide)
      obtain ⟨Bn, en, hrn⟩ : someM (sideFn y.needs) _ W6 := hK 10 (by decide)
      clear hK HSx1 HSy1
      replace em : v9 = _ := em
      replace en : v10 = _ := en
      subst em en
      have hk6 : KeepsData W0 W6 := hS0.trans (KeepsData.of_below hW6)
      have hkd6 : KeepsData W3 W6 := hkd.trans (KeepsData.of_below hW6)
      have hJ6 := abides_below hJa hJ hW6
      have HRM := Lib.hid hrm
      have HRN := Lib.hid hrn
      clear hrm hrn hW6
      have L1 := hk6.cell HBL.out
      have hpl := (HP.out W6 hk6).1
      have hpm := (HP.out W6 hk6).2.1
      gi_wp2
      gi_loopw [51] (fun i wr => ∃ k : Nat, k ≤ pn ∧ i = .int .i64 k ∧ ∃ pre2 : List Bool, J pre2 wr ∧ Hid (pre2.length = 1 + x.track.length + k) ∧ Hid ((anyId pre2 || anyPt (ptMeet x y) (l.points.drop k) k) = conflictB l x y) ∧ KeepsData W6 wr) (fun i _ => pn - (intOf i).toNat)
      case atStart => exact ⟨0, Nat.zero_le _, rfl, pre, hJ6, HPL, HI2.out.symm, KeepsData.refl _⟩
      case round =>
        clear HI2 HPL hJ6 hJ hkd hJ3 L1
        obtain ⟨k, hk, rfl, pre2, hJ2, hpl2, hi2, hkd2⟩ := hrel
        by_cases hlt : k < pn
        · have hkl : k < l.points.length := by omega
          obtain ⟨_, _, _, b9, o9, hA9, hc9⟩ := HP.out wr (hk6.trans hkd2)
          obtain rfl := hA9 (by omega)
          have e0 := (hc9 k hkl).1
          have e1 := (hc9 k hkl).2
          have l9 := World.block_lt_of_cell? _ _ e1
          simp only at l9
          have hi' := hi2.out
          rw [anyP_step x y l.points k hkl, ptMeet_F, ← Bool.or_assoc, ← anyId_snoc] at hi'
          have hlen : pre2.length < 1 + x.track.length + l.points.length := by rw [hpl2.out]; omega
          have HPL : ∀ b : Bool, Hid ((pre2 ++ [b]).length = 1 + x.track.length + (k + 1)) := fun b => by rw [List.length_append, hpl2.out]; simp [Hid]; omega
          clear hA9 hc9 hi2 hpl2
          generalize l.points[k] = q at *
          have hbA : ∀ o, Below wr.heap.size wr (wr.alloc o) := fun o => (Below.refl _ _).alloc (Nat.le_refl _) _
          have HL1 : ∀ o, (Instr.lookup 214 (.map (some Bm)) (.int .i64 k) true).run Try.prog (wr.alloc o) = _ := fun o => run_lookup_mapI (P := Try.prog) Try.underlying214 Try.underlying3 (fun w => by kernel_rfl) ((KeepsData.of_below (hbA o)).map (hkd2.map HRM.out)) k
          have HL2 : ∀ o, (Instr.lookup 214 (.map (some Bn)) (.int .i64 k) true).run Try.prog (wr.alloc o) = _ := fun o => run_lookup_mapI (P := Try.prog) Try.underlying214 Try.underlying3 (fun w => by kernel_rfl) ((KeepsData.of_below (hbA o)).map (hkd2.map HRN.out)) k
          have HCu := Lib.hid (fun o => contains_any Au nu cu y.track q.sec (wr.alloc o) ((KeepsData.of_below (hbA o)).ints ((hkd6.trans hkd2).ints HRU.out)))
          have HCt := Lib.hid (fun o => contains_any At nt ct x.track q.sec (wr.alloc o) ((KeepsData.of_below (hbA o)).ints ((hkd6.trans hkd2).ints HRT.out)))
          generalize sideFn x.needs (k : Int) = u at *
          generalize sideFn y.needs (k : Int) = v at *
          generalize hasI q.sec y.track = hu at *
          generalize hasI q.sec x.track = hv at *
          rcases u with _ | u
          · rcases v with _ | v
            · obtain ⟨fn3, tm3, as3, bo3, hy3, hR3⟩ := HYg.out pre2 false (wr.alloc (.cells #[.string q.name, .int .i64 q.sec] 67)) (abides_below hJa hJ2 (hbA _)) hlen
              have HI3 : Hid ((anyId (pre2 ++ [false]) || anyPt (ptMeet x y) (l.points.drop (k + 1)) (k + 1)) = conflictB l x y) := hi'
              have HR3 := Lib.hid hR3
              clear hR3 hi'
              gi_wp2
              try any_goals (rename_i hA hB; exact absurd (Option.some.inj hA) (by intro h; cases h))
              refine ⟨trivial, ?_⟩
              gi_wp2
              try any_goals (rename_i hA hB; exact absurd (Option.some.inj hA) (by intro h; cases h))
              refine ⟨trivial, ?_⟩
              gi_wp2
              refine HR3.out.mono ?_
              rintro e W7 (⟨rfl, hJ7, hk7⟩ | ⟨rfl, hJx7⟩)
              · gi_wp2
                go_roundw
                case rel => exact ⟨k + 1, by omega, by go_num, _, hJ7, HPL _, HI3, hkd2.trans ((KeepsData.of_below (hbA _)).trans hk7)⟩
                case measure => simp [intOf]; omega
              · gi_wp2
                refine bodyPost_ret (results_none rfl _ _ _) rfl ?_
                refine ⟨⟨_, rfl⟩, .inr ⟨_, fun h => ?_, hJx7⟩⟩
                have h2 := HI3.out
                rw [h, Bool.true_or] at h2
                exact h2.symm
            · cases v
              · cases hv
                · obtain ⟨fn3, tm3, as3, bo3, hy3, hR3⟩ := HYg.out pre2 false (wr.alloc (.cells #[.string q.name, .int .i64 q.sec] 67)) (abides_below hJa hJ2 (hbA _)) hlen
                  have HI3 : Hid ((anyId (pre2 ++ [false]) || anyPt (ptMeet x y) (l.points.drop (k + 1)) (k + 1)) = conflictB l x y) := hi'
                  have HR3 := Lib.hid hR3
                  clear hR3 hi'
                  gi_wp2
                  try any_goals (rename_i hA hB; exact absurd (Option.some.inj hA) (by intro h; cases h))
                  refine ⟨trivial, ?_⟩
                  gi_wp2
                  refine ⟨trivial, (callsIn_wide.2 (HCt.out _)).mono ?_⟩
                  rintro e w4 ⟨rfl, rfl⟩
                  gi_wp2
                  refine HR3.out.mono ?_
                  rintro e W7 (⟨rfl, hJ7, hk7⟩ | ⟨rfl, hJx7⟩)
                  · gi_wp2
                    go_roundw
                    case rel => exact ⟨k + 1, by omega, by go_num, _, hJ7, HPL _, HI3, hkd2.trans ((KeepsData.of_below (hbA _)).trans hk7)⟩
                    case measure => simp [intOf]; omega
                  · gi_wp2
                    refine bodyPost_ret (results_none rfl _ _ _) rfl ?_
                    refine ⟨⟨_, rfl⟩, .inr ⟨_, fun h => ?_, hJx7⟩⟩
                    have h2 := HI3.out
                    rw [h, Bool.true_or] at h2
                    exact h2.symm
                · obtain ⟨fn3, tm3, as3, bo3, hy3, hR3⟩ := HYg.out pre2 true (wr.alloc (.cells #[.string q.name, .int .i64 q.sec] 67)) (abides_below hJa hJ2 (hbA _)) hlen
                  have HI3 : Hid ((anyId (pre2 ++ [true]) || anyPt (ptMeet x y) (l.points.drop (k + 1)) (k + 1)) = conflictB l x y) := hi'
                  have HR3 := Lib.hid hR3
                  clear hR3 hi'
                  gi_wp2
                  try any_goals (rename_i hA hB; exact absurd (Option.some.inj hA) (by intro h; cases h))
                  refine ⟨trivial, ?_⟩
                  gi_wp2
                  refine ⟨trivial, (callsIn_wide.2 (HCt.out _)).mono ?_⟩
                  rintro e w4 ⟨rfl, rfl⟩
                  gi_wp2
                  refine HR3.out.mono ?_
                  rintro e W7 (⟨rfl, hJ7, hk7⟩ | ⟨rfl, hJx7⟩)
                  · gi_wp2
                    go_roundw
                    case rel => exact ⟨k + 1, by omega, by go_num, _, hJ7, HPL _, HI3, hkd2.trans ((KeepsData.of_below (hbA _)).trans hk7)⟩
                    case measure => simp [intOf]; omega
                  · gi_wp2
                    refine bodyPost_ret (results_none rfl _ _ _) rfl ?_
                    refine ⟨⟨_, rfl⟩, .inr ⟨_, fun h => ?_, hJx7⟩⟩
                    have h2 := HI3.out
                    rw [h, Bool.true_or] at h2
                    exact h2.symm
              · cases hv
                · obtain ⟨fn3, tm3, as3, bo3, hy3, hR3⟩ := HYg.out pre2 false (wr.alloc (.cells #[.string q.name, .int .i64 q.sec] 67)) (abides_below hJa hJ2 (hbA _)) hlen
                  have HI3 : Hid ((anyId (pre2 ++ [false]) || anyPt (ptMeet x y) (l.points.drop (k + 1)) (k + 1)) = conflictB l x y) := hi'
                  have HR3 := Lib.hid hR3
                  clear hR3 hi'
                  gi_wp2
                  try any_goals (rename_i hA hB; exact absurd (Option.some.inj hA) (by intro h; cases h))
                  refine ⟨trivial, ?_⟩
                  gi_wp2
                  refine ⟨trivial, (callsIn_wide.2 (HCt.out _)).mono ?_⟩
                  rintro e w4 ⟨rfl, rfl⟩
                  gi_wp2
                  refine HR3.out.mono ?_
                  rintro e W7 (⟨rfl, hJ7, hk7⟩ | ⟨rfl, hJx7⟩)
                  · gi_wp2
                    go_roundw
                    case rel => exact ⟨k + 1, by omega, by go_num, _, hJ7, HPL _, HI3, hkd2.trans ((KeepsData.of_below (hbA _)).trans hk7)⟩
                    case measure => simp [intOf]; omega
                  · gi_wp2
                    refine bodyPost_ret (results_none rfl _ _ _) rfl ?_
                    refine ⟨⟨_, rfl⟩, .inr ⟨_, fun h => ?_, hJx7⟩⟩
                    have h2 := HI3.out
                    rw [h, Bool.true_or] at h2
                    exact h2.symm
                · obtain ⟨fn3, tm3, as3, bo3, hy3, hR3⟩ := HYg.out pre2 true (wr.alloc (.cells #[.string q.name, .int .i64 q.sec] 67)) (abides_below hJa hJ2 (hbA _)) hlen
                  have HI3 : Hid ((anyId (pre2 ++ [true]) || anyPt (ptMeet x y) (l.points.drop (k + 1)) (k + 1)) = conflictB l x y) := hi'
                  have HR3 := Lib.hid hR3
                  clear hR3 hi'
                  gi_wp2
                  try any_goals (rename_i hA hB; exact absurd (Option.some.inj hA) (by intro h; cases h))
                  refine ⟨trivial, ?_⟩
                  gi_wp2
                  refine ⟨trivial, (callsIn_wide.2 (HCt.out _)).mono ?_⟩
                  rintro e w4 ⟨rfl, rfl⟩
                  gi_wp2
                  refine HR3.out.mono ?_
                  rintro e W7 (⟨rfl, hJ7, hk7⟩ | ⟨rfl, hJx7⟩)
                  · gi_wp2
                    go_roundw
                    case rel => exact ⟨k + 1, by omega, by go_num, _, hJ7, HPL _, HI3, hkd2.trans ((KeepsData.of_below (hbA _)).trans hk7)⟩
                    case measure => simp [intOf]; omega
                  · gi_wp2
                    refine bodyPost_ret (results_none rfl _ _ _) rfl ?_
                    refine ⟨⟨_, rfl⟩, .inr ⟨_, fun h => ?_, hJx7⟩⟩
                    have h2 := HI3.out
                    rw [h, Bool.true_or] at h2
                    exact h2.symm
          · cases u
            · rcases v with _ | v
              · cases hu
                · obtain ⟨fn3, tm3, as3, bo3, hy3, hR3⟩ := HYg.out pre2 false (wr.alloc (.cells #[.string q.name, .int .i64 q.sec] 67)) (abides_below hJa hJ2 (hbA _)) hlen
                  have HI3 : Hid ((anyId (pre2 ++ [false]) || anyPt (ptMeet x y) (l.points.drop (k + 1)) (k + 1)) = conflictB l x y) := hi'
                  have HR3 := Lib.hid hR3
                  clear hR3 hi'
                  gi_wp2
                  refine ⟨trivial, (callsIn_wide.2 (HCu.out _)).mono ?_⟩
                  rintro e w4 ⟨rfl, rfl⟩
                  gi_wp2
                  try any_goals (rename_i hA hB; exact absurd (Option.some.inj hA) (by intro h; cases h))
                  refine ⟨trivial, ?_⟩
                  gi_wp2
                  refine HR3.out.mono ?_
                  rintro e W7 (⟨rfl, hJ7, hk7⟩ | ⟨rfl, hJx7⟩)
                  · gi_wp2
                    go_roundw
                    case rel => exact ⟨k + 1, by omega, by go_num, _, hJ7, HPL _, HI3, hkd2.trans ((KeepsData.of_below (hbA _)).trans hk7)⟩
                    case measure => simp [intOf]; omega
                  · gi_wp2
                    refine bodyPost_ret (results_none rfl _ _ _) rfl ?_
                    refine ⟨⟨_, rfl⟩, .inr ⟨_, fun h => ?_, hJx7⟩⟩
                    have h2 := HI3.out
                    rw [h, Bool.true_or] at h2
                    exact h2.symm
                · obtain ⟨fn3, tm3, as3, bo3, hy3, hR3⟩ := HYg.out pre2 true (wr.alloc (.cells #[.string q.name, .int .i64 q.sec] 67)) (abides_below hJa hJ2 (hbA _)) hlen
                  have HI3 : Hid ((anyId (pre2 ++ [true]) || anyPt (ptMeet x y) (l.points.drop (k + 1)) (k + 1)) = conflictB l x y) := hi'
                  have HR3 := Lib.hid hR3
                  clear hR3 hi'
                  gi_wp2
                  refine ⟨trivial, (callsIn_wide.2 (HCu.out _)).mono ?_⟩
                  rintro e w4 ⟨rfl, rfl⟩
                  gi_wp2
                  try any_goals (rename_i hA hB; exact absurd (Option.some.inj hA) (by intro h; cases h))
                  refine ⟨trivial, ?_⟩
                  gi_wp2
                  refine HR3.out.mono ?_
                  rintro e W7 (⟨rfl, hJ7, hk7⟩ | ⟨rfl, hJx7⟩)
                  · gi_wp2
                    go_roundw
                    case rel => exact ⟨k + 1, by omega, by go_num, _, hJ7, HPL _, HI3, hkd2.trans ((KeepsData.of_below (hbA _)).trans hk7)⟩
                    case measure => simp [intOf]; omega
                  · gi_wp2
                    refine bodyPost_ret (results_none rfl _ _ _) rfl ?_
                    refine ⟨⟨_, rfl⟩, .inr ⟨_, fun h => ?_, hJx7⟩⟩
                    have h2 := HI3.out
                    rw [h, Bool.true_or] at h2
                    exact h2.symm
              · cases v
                · obtain ⟨fn3, tm3, as3, bo3, hy3, hR3⟩ := HYg.out pre2 false (wr.alloc (.cells #[.string q.name, .int .i64 q.sec] 67)) (abides_below hJa hJ2 (hbA _)) hlen
                  have HI3 : Hid ((anyId (pre2 ++ [false]) || anyPt (ptMeet x y) (l.points.drop (k + 1)) (k + 1)) = conflictB l x y) := hi'
                  have HR3 := Lib.hid hR3
                  clear hR3 hi'
                  gi_wp2
                  try any_goals (rename_i hA hB; exact absurd (Option.some.inj hA) (by intro h; cases h))
                  refine ⟨trivial, ?_⟩
                  gi_wp2
                  try any_goals (rename_i hA hB; exact absurd (Option.some.inj hA) (by intro h; cases h))
                  refine ⟨trivial, ?_⟩
                  gi_wp2
                  refine HR3.out.mono ?_
                  rintro e W7 (⟨rfl, hJ7, hk7⟩ | ⟨rfl, hJx7⟩)
                  · gi_wp2
                    go_roundw
                    case rel => exact ⟨k + 1, by omega, by go_num, _, hJ7, HPL _, HI3, hkd2.trans ((KeepsData.of_below (hbA _)).trans hk7)⟩
                    case measure => simp [intOf]; omega
                  · gi_wp2
                    refine bodyPost_ret (results_none rfl _ _ _) rfl ?_
                    refine ⟨⟨_, rfl⟩, .inr ⟨_, fun h => ?_, hJx7⟩⟩
                    have h2 := HI3.out
                    rw [h, Bool.true_or] at h2
                    exact h2.symm
                · obtain ⟨fn3, tm3, as3, bo3, hy3, hR3⟩ := HYg.out pre2 true (wr.alloc (.cells #[.string q.name, .int .i64 q.sec] 67)) (abides_below hJa hJ2 (hbA _)) hlen
                  have HI3 : Hid ((anyId (pre2 ++ [true]) || anyPt (ptMeet x y) (l.points.drop (k + 1)) (k + 1)) = conflictB l x y) := hi'
                  have HR3 := Lib.hid hR3
                  clear hR3 hi'
                  gi_wp2
                  try any_goals (rename_i hA hB; exact absurd (Option.some.inj hA) (by intro h; cases h))
                  refine ⟨trivial, ?_⟩
                  gi_wp2
                  try any_goals (rename_i hA hB; exact absurd (Option.some.inj hA) (by intro h; cases h))
                  refine ⟨trivial, ?_⟩
                  gi_wp2
                  refine HR3.out.mono ?_
                  rintro e W7 (⟨rfl, hJ7, hk7⟩ | ⟨rfl, hJx7⟩)
                  · gi_wp2
                    go_roundw
                    case rel => exact ⟨k + 1, by omega, by go_num, _, hJ7, HPL _, HI3, hkd2.trans ((KeepsData.of_below (hbA _)).trans hk7)⟩
                    case measure => simp [intOf]; omega
                  · gi_wp2
                    refine bodyPost_ret (results_none rfl _ _ _) rfl ?_
                    refine ⟨⟨_, rfl⟩, .inr ⟨_, fun h => ?_, hJx7⟩⟩
                    have h2 := HI3.out
                    rw [h, Bool.true_or] at h2
                    exact h2.symm
            · rcases v with _ | v
              · cases hu
                · obtain ⟨fn3, tm3, as3, bo3, hy3, hR3⟩ := HYg.out pre2 false (wr.alloc (.cells #[.string q.name, .int .i64 q.sec] 67)) (abides_below hJa hJ2 (hbA _)) hlen
                  have HI3 : Hid ((anyId (pre2 ++ [false]) || anyPt (ptMeet x y) (l.points.drop (k + 1)) (k + 1)) = conflictB l x y) := hi'
                  have HR3 := Lib.hid hR3
                  clear hR3 hi'
                  gi_wp2
                  refine ⟨trivial, (callsIn_wide.2 (HCu.out _)).mono ?_⟩
                  rintro e w4 ⟨rfl, rfl⟩
                  gi_wp2
                  try any_goals (rename_i hA hB; exact absurd (Option.some.inj hA) (by intro h; cases h))
                  refine ⟨trivial, ?_⟩
                  gi_wp2
                  refine HR3.out.mono ?_
                  rintro e W7 (⟨rfl, hJ7, hk7⟩ | ⟨rfl, hJx7⟩)
                  · gi_wp2
                    go_roundw
                    case rel => exact ⟨k + 1, by omega, by go_num, _, hJ7, HPL _, HI3, hkd2.trans ((KeepsData.of_below (hbA _)).trans hk7)⟩
                    case measure => simp [intOf]; omega
                  · gi_wp2
                    refine bodyPost_ret (results_none rfl _ _ _) rfl ?_
                    refine ⟨⟨_, rfl⟩, .inr ⟨_, fun h => ?_, hJx7⟩⟩
                    have h2 := HI3.out
                    rw [h, Bool.true_or] at h2
                    exact h2.symm
                · obtain ⟨fn3, tm3, as3, bo3, hy3, hR3⟩ := HYg.out pre2 true (wr.alloc (.cells #[.string q.name, .int .i64 q.sec] 67)) (abides_below hJa hJ2 (hbA _)) hlen
                  have HI3 : Hid ((anyId (pre2 ++ [true]) || anyPt (ptMeet x y) (l.points.drop (k + 1)) (k + 1)) = conflictB l x y) := hi'
                  have HR3 := Lib.hid hR3
                  clear hR3 hi'
                  gi_wp2
                  refine ⟨trivial, (callsIn_wide.2 (HCu.out _)).mono ?_⟩
                  rintro e w4 ⟨rfl, rfl⟩
                  gi_wp2
                  try any_goals (rename_i hA hB; exact absurd (Option.some.inj hA) (by intro h; cases h))
                  refine ⟨trivial, ?_⟩
                  gi_wp2
                  refine HR3.out.mono ?_
                  rintro e W7 (⟨rfl, hJ7, hk7⟩ | ⟨rfl, hJx7⟩)
                  · gi_wp2
                    go_roundw
                    case rel => exact ⟨k + 1, by omega, by go_num, _, hJ7, HPL _, HI3, hkd2.trans ((KeepsData.of_below (hbA _)).trans hk7)⟩
                    case measure => simp [intOf]; omega
                  · gi_wp2
                    refine bodyPost_ret (results_none rfl _ _ _) rfl ?_
                    refine ⟨⟨_, rfl⟩, .inr ⟨_, fun h => ?_, hJx7⟩⟩
                    have h2 := HI3.out
                    rw [h, Bool.true_or] at h2
                    exact h2.symm
              · cases v
                · obtain ⟨fn3, tm3, as3, bo3, hy3, hR3⟩ := HYg.out pre2 true (wr.alloc (.cells #[.string q.name, .int .i64 q.sec] 67)) (abides_below hJa hJ2 (hbA _)) hlen
                  have HI3 : Hid ((anyId (pre2 ++ [true]) || anyPt (ptMeet x y) (l.points.drop (k + 1)) (k + 1)) = conflictB l x y) := hi'
                  have HR3 := Lib.hid hR3
                  clear hR3 hi'
                  gi_wp2
                  try any_goals (rename_i hA hB; exact absurd (Option.some.inj hA) (by intro h; cases h))
                  refine ⟨trivial, ?_⟩
                  gi_wp2
                  try any_goals (rename_i hA hB; exact absurd (Option.some.inj hA) (by intro h; cases h))
                  refine ⟨trivial, ?_⟩
                  gi_wp2
                  refine HR3.out.mono ?_
                  rintro e W7 (⟨rfl, hJ7, hk7⟩ | ⟨rfl, hJx7⟩)
                  · gi_wp2
                    go_roundw
                    case rel => exact ⟨k + 1, by omega, by go_num, _, hJ7, HPL _, HI3, hkd2.trans ((KeepsData.of_below (hbA _)).trans hk7)⟩
                    case measure => simp [intOf]; omega
                  · gi_wp2
                    refine bodyPost_ret (results_none rfl _ _ _) rfl ?_
                    refine ⟨⟨_, rfl⟩, .inr ⟨_, fun h => ?_, hJx7⟩⟩
                    have h2 := HI3.out
                    rw [h, Bool.true_or] at h2
                    exact h2.symm
                · obtain ⟨fn3, tm3, as3, bo3, hy3, hR3⟩ := HYg.out pre2 false (wr.alloc (.cells #[.string q.name, .int .i64 q.sec] 67)) (abides_below hJa hJ2 (hbA _)) hlen
                  have HI3 : Hid ((anyId (pre2 ++ [false]) || anyPt (ptMeet x y) (l.points.drop (k + 1)) (k + 1)) = conflictB l x y) := hi'
                  have HR3 := Lib.hid hR3
                  clear hR3 hi'
                  gi_wp2
                  try any_goals (rename_i hA hB; exact absurd (Option.some.inj hA) (by intro h; cases h))
                  refine ⟨trivial, ?_⟩
                  gi_wp2
                  try any_goals (rename_i hA hB; exact absurd (Option.some.inj hA) (by intro h; cases h))
                  refine ⟨trivial, ?_⟩
                  gi_wp2
                  refine HR3.out.mono ?_
                  rintro e W7 (⟨rfl, hJ7, hk7⟩ | ⟨rfl, hJx7⟩)
                  · gi_wp2
                    go_roundw
                    case rel => exact ⟨k + 1, by omega, by go_num, _, hJ7, HPL _, HI3, hkd2.trans ((KeepsData.of_below (hbA _)).trans hk7)⟩
                    case measure => simp [intOf]; omega
                  · gi_wp2
                    refine bodyPost_ret (results_none rfl _ _ _) rfl ?_
                    refine ⟨⟨_, rfl⟩, .inr ⟨_, fun h => ?_, hJx7⟩⟩
                    have h2 := HI3.out
                    rw [h, Bool.true_or] at h2
                    exact h2.symm
        · have HF : Hid (anyId pre2 = conflictB l x y) := by rw [← hi2.out, anyP_end x y l.points k (by omega), Bool.or_false]; rfl
          clear hi2 hpl2
          gi_wp2
          go_end0
          exact ⟨⟨_, rfl⟩, .inl ⟨_, HF.out, hJ2⟩⟩



end Go.Proofs.Ytmoccpbiogdbgaa
