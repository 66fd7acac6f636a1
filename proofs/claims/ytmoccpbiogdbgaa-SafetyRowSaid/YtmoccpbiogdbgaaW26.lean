/-
  The walk of safety.Cycle.
-/
import Derived.Test.YtmoccpbiogdbgaaW25
import Derived.Test.YtmoccpbiogdbgaaTwo
import Derived.Test.YtmoccpbiogdbgaaRts
import Derived.Deep.CutBlock
import Derived.Laws.EntriesVeiled
import Derived.Test.YtmoccpbiogdbgaaW18
namespace Go.Proofs.Ytmoccpbiogdbgaa
open Go.RowKit Go.Shelf
/-- Two new boxes. -/
theorem name_two {P : Program} {c : Code} {Q : Exit → Act → World → Prop} {a : Act} {w : World} {u v : Value} {T U : TypeId}
    (h : ∀ W, Below w.heap.size w W → W.heap.size = w.heap.size + 2 → W.cell? ⟨w.heap.size, 0, none⟩ = some u → W.frozen? ⟨w.heap.size, 0, none⟩ = false → W.cell? ⟨w.heap.size + 1, 0, none⟩ = some v → W.frozen? ⟨w.heap.size + 1, 0, none⟩ = false → c.wp P Q a W) :
    c.wp P Q a ((w.alloc (.cells #[u] T)).alloc (.cells #[v] U)) := by
  have h1 : ((w.alloc (.cells #[u] T)).alloc (.cells #[v] U)).heap[w.heap.size]? = some (.cells #[u] T) := (Below.heap_alloc _ _ _ (by simp)).trans (heap_alloc_new w _)
  have h2 : ((w.alloc (.cells #[u] T)).alloc (.cells #[v] U)).heap[w.heap.size + 1]? = some (.cells #[v] U) := by have := heap_alloc_new (w.alloc (.cells #[u] T)) (.cells #[v] U); simpa using this
  refine h _ (((Below.refl _ _).alloc (Nat.le_refl _) _).alloc (by simp) _) (by simp) ?_ ?_ ?_ ?_
  · unfold World.cell?; rw [h1]; rfl
  · unfold World.frozen?; rw [h1]; rfl
  · unfold World.cell?; rw [h2]; rfl
  · unfold World.frozen?; rw [h2]; rfl
def intsTo (n : Nat) : List Int := (List.range n).map Int.ofNat
/-- What the loop has collected when k rounds are over. -/
def CyLoop (l : Ly) (pro : Nat) (wc : World) (k : Nat) (wr : World) : Prop :=
  ∃ (hs : List RtH) (ys : List Int) (v1 v2 : Value), (hs.map RtH.rt = pick pro (l.routes.take k) 0 ∧ ys = pick pro ((intsTo l.routes.length).take k) 0 ∧ ys.length = hs.length ∧ hs.length ≤ k) ∧ (∀ x ∈ hs, RRt wc x.p x.q x.o x.f x.rt) ∧
    (wr.cell? ⟨wc.heap.size, 0, none⟩ = some v1 ∧ wr.frozen? ⟨wc.heap.size, 0, none⟩ = false ∧ wr.cell? ⟨wc.heap.size + 1, 0, none⟩ = some v2 ∧ wr.frozen? ⟨wc.heap.size + 1, 0, none⟩ = false) ∧
    wr.ownsRow (wc.heap.size + 2) 64 6 v1 hs.length (rtCells hs) ∧ wr.ownsRow (wc.heap.size + 2) 3 1 v2 hs.length (ys.map (Value.int .i64)) ∧ Below wc.heap.size wc wr ∧ wc.heap.size + 2 ≤ wr.heap.size
theorem CyLoop.alloc {l : Ly} {pro : Nat} {wc : World} {k : Nat} {wr : World} (h : CyLoop l pro wc k wr) (o : Obj) : CyLoop l pro wc k (wr.alloc o) := by
  obtain ⟨hs, ys, v1, v2, h1, h2, ⟨c1, f1, c2, f2⟩, o1, o2, hb, hz⟩ := h
  have hk := KB.alloc wr o
  exact ⟨hs, ys, v1, v2, h1, h2, ⟨hk.cell c1 (fun h => h), frozen_same (hk.same _ (by omega) (fun h => h)) f1, hk.cell c2 (fun h => h), frozen_same (hk.same _ (by omega) (fun h => h)) f2⟩, hk.own o1 (fun _ _ h => h), hk.own o2 (fun _ _ h => h), hb.alloc (by omega) _, by simp; omega⟩
theorem CyLoop.skip {l : Ly} {pro : Nat} {wc : World} {k : Nat} {wr : World} (h : CyLoop l pro wc k wr) (hk : k < l.routes.length) (hb : hasU pro k = false) : CyLoop l pro wc (k + 1) wr := by
  obtain ⟨hs, ys, v1, v2, ⟨h1, h2, h3, h4⟩, rest⟩ := h
  rw [hasU_nat] at hb
  refine ⟨hs, ys, v1, v2, ⟨?_, ?_, h3, by omega⟩, rest⟩
  · rw [pick_take pro l.routes k hk, hb, h1]; simp
  · rw [pick_take pro (intsTo l.routes.length) k (by simpa [intsTo] using hk), hb, h2]; simp
theorem CyLoop.step {l : Ly} {pro : Nat} {wc : World} {k : Nat} {W' : World} {hs : List RtH} {ys : List Int} (x : RtH) (h1 : hs.map RtH.rt = pick pro (l.routes.take k) 0) (h2 : ys = pick pro ((intsTo l.routes.length).take k) 0) (h3 : ys.length = hs.length) (h4 : hs.length ≤ k) (h5 : ∀ x ∈ hs, RRt wc x.p x.q x.o x.f x.rt)
    (hk : l.routes[k]? = some x.rt) (hb : hasU pro k = true) (hx : RRt wc x.p x.q x.o x.f x.rt) (h9 : fSt wc.heap.size (wc.heap.size + 2) 64 6 (hs.length + 1) (rtCells hs ++ [.string x.rt.name, .int .i64 x.rt.sig, x.p.v, x.q.v, x.o.v, x.f.v]) W')
    (h10 : fSt (wc.heap.size + 1) (wc.heap.size + 2) 3 1 (hs.length + 1) (ys.map (Value.int .i64) ++ [.int .i64 (k : Int)]) W') (hW : Below wc.heap.size wc W') (hz : wc.heap.size + 2 ≤ W'.heap.size) : CyLoop l pro wc (k + 1) W' := by
  obtain ⟨u1, c1, f1, g1, e1, r1, o1⟩ := h9
  obtain ⟨u2, c2, f2, g2, e2, r2, o2⟩ := h10
  rw [hasU_nat] at hb
  obtain ⟨hkl, hke⟩ := List.getElem?_eq_some_iff.1 hk
  refine ⟨hs ++ [x], ys ++ [(k : Int)], u1, u2, ⟨?_, ?_, by simp; omega, by simp; omega⟩, ?_, ⟨c1, f1, c2, f2⟩, ?_, ?_, hW, hz⟩
  · rw [pick_take pro l.routes k hkl, hb, ← h1, hke]; simp
  · have hkl2 : k < (intsTo l.routes.length).length := by simpa [intsTo] using hkl
    rw [pick_take pro (intsTo l.routes.length) k hkl2, hb, ← h2]
    simp [intsTo]
  · intro z hz
    rcases List.mem_append.1 hz with hz | hz
    · exact h5 z hz
    · simp at hz; subst hz; exact hx
  · have : rtCells (hs ++ [x]) = rtCells hs ++ [.string x.rt.name, .int .i64 x.rt.sig, x.p.v, x.q.v, x.o.v, x.f.v] := by simp [rtCells, RtH.cells]
    rw [this, List.length_append]; exact o1
  · rw [List.map_append, List.length_append]; exact o2
theorem shown_ok (l : Ly) (hm : mayB l = true) (pro : Nat) : RtsOk (shownOf l pro) := by
  obtain ⟨_, _, _, hrt⟩ := may_facts l hm
  intro r hr
  have h0 := hrt r ((pick_sub _ _ _).subset hr)
  refine ⟨(rtIn_facts h0).1, ?_, fun n hn => (shown_needs l hm pro r hr n hn).1⟩
  intro t ht
  unfold rtIn at h0
  simp only [Bool.and_eq_true] at h0
  obtain ⟨_, h1, h2, _, _⟩ := h0
  unfold inB inR at h1 h2
  simp only [Bool.and_eq_true, List.all_eq_true, decide_eq_true_eq] at h1 h2
  unfold Rt.track at ht
  rcases List.mem_append.1 ht with ht | ht
  · exact (h1.2 t ht).1
  · exact (h2.2 t ht).1
theorem side_lt (io : Io) (h : io.ok) : sideN io < 4294967296 ∧ sideR io < 4294967296 :=
  ⟨Nat.lt_of_le_of_lt Nat.and_le_left h.2.1, Nat.lt_of_le_of_lt Nat.and_le_left h.2.2.1⟩
theorem idx7_0 (x0 x1 x2 x3 x4 x5 x6 : Value) (w : World) : (Instr.index 129 (.agg #[x0, x1, x2, x3, x4, x5, x6]) (.int .i64 0)).run Try.prog w = .ok x0 w := by kernel_rfl
theorem idx7_1 (x0 x1 x2 x3 x4 x5 x6 : Value) (w : World) : (Instr.index 129 (.agg #[x0, x1, x2, x3, x4, x5, x6]) (.int .i64 1)).run Try.prog w = .ok x1 w := by kernel_rfl
theorem idx7_2 (x0 x1 x2 x3 x4 x5 x6 : Value) (w : World) : (Instr.index 129 (.agg #[x0, x1, x2, x3, x4, x5, x6]) (.int .i64 2)).run Try.prog w = .ok x2 w := by kernel_rfl
theorem idx7_3 (x0 x1 x2 x3 x4 x5 x6 : Value) (w : World) : (Instr.index 129 (.agg #[x0, x1, x2, x3, x4, x5, x6]) (.int .i64 3)).run Try.prog w = .ok x3 w := by kernel_rfl
theorem idx7_4 (x0 x1 x2 x3 x4 x5 x6 : Value) (w : World) : (Instr.index 129 (.agg #[x0, x1, x2, x3, x4, x5, x6]) (.int .i64 4)).run Try.prog w = .ok x4 w := by kernel_rfl
theorem idx7_5 (x0 x1 x2 x3 x4 x5 x6 : Value) (w : World) : (Instr.index 129 (.agg #[x0, x1, x2, x3, x4, x5, x6]) (.int .i64 5)).run Try.prog w = .ok x5 w := by kernel_rfl
theorem idx7_6 (x0 x1 x2 x3 x4 x5 x6 : Value) (w : World) : (Instr.index 129 (.agg #[x0, x1, x2, x3, x4, x5, x6]) (.int .i64 6)).run Try.prog w = .ok x6 w := by kernel_rfl
theorem neqf_nil (w : World) : (binOp .neq 31 .nilFunc .nilFunc).run Try.prog w = .ok (.bool false) w := by
  simp only [binOp]
  kernel_rfl
theorem neqf_fn (f : Fn) (a b : Array Value) (w : World) : (binOp .neq 31 (.func f a b) .nilFunc).run Try.prog w = .ok (.bool true) w := by
  simp only [binOp]
  kernel_rfl
theorem unk_calc (l : Ly) (io : Io) (rn pn : Nat) (h1 : l.routes.length = rn) (h2 : l.points.length = pn) : unknownP l io = ((decide (rn < 64) && ((io.pro : Int) / 2 ^ rn != 0)) || ((io.pts : Int) / 2 ^ pn != 0)) := by
  have k : ∀ x n : Nat, ((x : Int) / 2 ^ n != 0) = decide (x / 2 ^ n ≠ 0) := by
    intro x n
    have e : ((x : Int) / 2 ^ n) = ((x / 2 ^ n : Nat) : Int) := by simp
    rw [e, Bool.eq_iff_iff]; simp only [bne_iff_ne, decide_eq_true_eq]; omega
  unfold unknownP
  rw [h1, h2, k, k]
def Ret8 (n : Nat) (w : World) : Ending → World → Prop := fun e w' => e = .returned (.int .u8 n) ∧ Below w.heap.size w w'
set_option maxRecDepth 10000 in
set_option maxHeartbeats 1000000 in
theorem cycle29_any (s p g rr : Hd) (l : Ly) (io : Io) (ch : Hd) (w : World) (hl : RLy w s p g rr l) (hio : io.ok) :
    Calls Try.prog 24 #[lyv s p g rr, inv io ch, outv io] w (Ret8 (cycleP l io) w) := by
  have HCH := Lib.hid (fun W (hb : Below w.heap.size w W) => check_any s p g rr l W (hl.below hb))
  have HSD := Lib.hid (fun W => sides_any io ch W hio)
  have HCP : Hid (cycleP l io = if (checkB l).1 ≠ 0 then 1 else if unknownP l io = true then 2 else wrongP l io) := rfl
  have hcz := check_zero l
  obtain ⟨occ, nor, rev, pro, pts⟩ := io
  unfold lyv inv outv Hd.v at *
  obtain ⟨pA, pn, pc⟩ := p
  obtain ⟨rA, rn, rc⟩ := rr
  dsimp only at *
  generalize checkB l = ck at *
  obtain ⟨ce, ci⟩ := ck
  dsimp only at *
  go_enter Try.func24, Try.ntmps24
  go_upto_region 1 with (fail)
  refine name_box3 (fun W hbW hlt hbox1 hbox2 hbox3 => ?_)
  have A1 : W.cell? ⟨w.heap.size, 1, none⟩ = some (.slice pA pn pc) := hbox1 1 _ rfl
  have A3 : W.cell? ⟨w.heap.size, 3, none⟩ = some (.slice rA rn rc) := hbox1 3 _ rfl
  have A0 : W.cell? ⟨w.heap.size, 0, none⟩ = some (.slice s.A s.n s.c) := hbox1 0 _ rfl
  have A2 : W.cell? ⟨w.heap.size, 2, none⟩ = some (.slice g.A g.n g.c) := hbox1 2 _ rfl
  have I0 : W.cell? ⟨w.heap.size + 1, 0, none⟩ = some (.int .u64 occ) := hbox2 0 _ rfl
  have I1 : W.cell? ⟨w.heap.size + 1, 1, none⟩ = some (.int .u32 nor) := hbox2 1 _ rfl
  have I2 : W.cell? ⟨w.heap.size + 1, 2, none⟩ = some (.int .u32 rev) := hbox2 2 _ rfl
  have I3 : W.cell? ⟨w.heap.size + 1, 3, none⟩ = some (.slice ch.A ch.n ch.c) := hbox2 3 _ rfl
  have O0 : W.cell? ⟨w.heap.size + 1 + 1, 0, none⟩ = some (.int .u64 pro) := hbox3 0 _ rfl
  have O1 : W.cell? ⟨w.heap.size + 1 + 1, 1, none⟩ = some (.int .u32 pts) := hbox3 1 _ rfl
  have hl1 : w.heap.size < W.heap.size := by omega
  have hl2 : w.heap.size + 1 < W.heap.size := by omega
  have hl3 : w.heap.size + 1 + 1 < W.heap.size := by omega
  clear hbox1 hbox2 hbox3 hlt
  have HC2 := Lib.hid (HCH.out W hbW)
  clear HCH
  by_cases hce : ce = 0
  · subst hce
    have HCP2 : Hid (cycleP l ⟨occ, nor, rev, pro, pts⟩ = if unknownP l ⟨occ, nor, rev, pro, pts⟩ = true then 2 else wrongP l ⟨occ, nor, rev, pro, pts⟩) := by rw [HCP.out]; simp; trivial
    have hm := hcz rfl
    clear HCP hcz
    go_wp2_with (go_at_call 56; with_reducible refine Calls.mono HC2.out ?_)
    rintro e w1 ⟨rfl, hb1⟩
    have hbw1 := bnext hbW hb1
    have A0 := bcell hb1 A0
    have A1 := bcell hb1 A1
    have A2 := bcell hb1 A2
    have A3 := bcell hb1 A3
    have I0 := bcell hb1 I0
    have I1 := bcell hb1 I1
    have I2 := bcell hb1 I2
    have I3 := bcell hb1 I3
    have O0 := bcell hb1 O0
    have O1 := bcell hb1 O1
    have hl1 := Nat.lt_of_lt_of_le hl1 hb1.size
    have hl2 := Nat.lt_of_lt_of_le hl2 hb1.size
    have hl3 := Nat.lt_of_lt_of_le hl3 hb1.size
    clear HC2 hb1 hbW
    obtain ⟨⟨_, hpm, _, hrm⟩, _, _, hrt⟩ := may_facts l hm
    rw [hl.2.2.1.1] at hpm
    rw [hl.2.2.2.2.1] at hrm
    have hM := Lib.hid hm
    have hRT := Lib.hid hrt
    clear hm hrt
    have hpt := hio.2.2.2.2
    dsimp only at hpt
    have hio2 := Lib.hid hio
    clear hio
    have HL := Lib.hid hl
    clear hl
    have hU := unk_calc l ⟨occ, nor, rev, pro, pts⟩ rn pn HL.out.2.2.2.2.1 HL.out.2.2.1.1
    dsimp only at hU
    generalize unknownP l ⟨occ, nor, rev, pro, pts⟩ = un at *
    go_upto_region 4 with (fail)
    go_cut [47] (fun s47 wx => s47 = .bool un ∧ wx = w1)
    case first =>
      by_cases h64 : rn < 64
      · cases hq : ((pro : Int) / 2 ^ rn != 0)
        · cases hp : ((pts : Int) / 2 ^ pn != 0)
          all_goals rw [hq, hp] at hU
          all_goals simp [h64] at hU
          all_goals subst hU
          all_goals go_wp2
          all_goals go_meet
          all_goals exact ⟨rfl, rfl⟩
        · rw [hq] at hU
          simp [h64] at hU
          subst hU
          go_wp2
          go_meet
          exact ⟨rfl, rfl⟩
      · have h64' : decide ((rn : Int) < 64) = false := by simp; omega
        cases hp : ((pts : Int) / 2 ^ pn != 0)
        all_goals rw [hp] at hU
        all_goals simp [h64] at hU
        all_goals subst hU
        all_goals go_wp2
        all_goals go_meet
        all_goals exact ⟨rfl, rfl⟩
    case rest =>
      obtain ⟨rfl, rfl⟩ := hcut
      clear hU
      cases un
      · have HCP3 : Hid (cycleP l ⟨occ, nor, rev, pro, pts⟩ = wrongP l ⟨occ, nor, rev, pro, pts⟩) := by rw [HCP2.out]; rfl
        clear HCP2
        go_upto_block 0 with (fail)
        refine name_two (fun W0 hbW0 hz0 C9 F9 C10 F10 => ?_)
        have hst0 : CyLoop l pro wc 0 W0 := ⟨[], [], _, _, ⟨rfl, rfl, rfl, Nat.zero_le _⟩, (fun x hx => by cases hx), ⟨C9, F9, C10, F10⟩, World.ownsRow_nil _ _ _ _, World.ownsRow_nil _ _ _ _, hbW0, by omega⟩
        clear C9 F9 C10 F10
        go_wp2_with fail
        go_loopw [51] (fun i wr => ∃ k : Nat, k ≤ rn ∧ i = .int .i64 k ∧ CyLoop l pro wc k wr) (fun i _ => rn - (intOf i).toNat)
        case atStart => exact ⟨0, Nat.zero_le _, rfl, hst0⟩
        case round =>
          clear hst0 hz0 hbW0
          obtain ⟨k, hk, rfl, hst⟩ := hrel
          have hbr : Below wc.heap.size wc wr := by obtain ⟨_, _, _, _, _, _, _, _, _, hb, _⟩ := hst; exact hb
          have HST := Lib.hid hst
          clear hst
          by_cases hlt : k < rn
          · have hkl : k < l.routes.length := by rw [HL.out.2.2.2.2.1]; exact hlt
            obtain ⟨_, _, b9, o9, hA9, hc9⟩ := HL.out.2.2.2.2.below hbw1
            obtain rfl := hA9 (by omega)
            obtain ⟨p1, p2, p3, p4, hRt, e0, e1, e2, e3, e4, e5⟩ := hc9 k hkl
            have hx : l.routes[k]? = some l.routes[k] := by simp [hkl]
            clear hA9 hc9
            have HX := Lib.hid hx
            have HRt := Lib.hid hRt
            clear hx hRt
            generalize l.routes[k] = x at *
            have e0 := bcell hbr e0
            have e1 := bcell hbr e1
            have e2 := bcell hbr e2
            have e3 := bcell hbr e3
            have e4 := bcell hbr e4
            have e5 := bcell hbr e5
            unfold Hd.v at e2 e3 e4 e5
            have l9 := World.block_lt_of_cell? _ _ e0
            simp only at l9
            have O0 := bcell hbr O0
            have hl3 := Nat.lt_of_lt_of_le hl3 hbr.size
            have HH := Lib.hid (fun W => has29_any pro k W hio2.out.2.2.2.1)
            cases hb : hasU pro k
            all_goals rw [hb] at HH
            · go_wp2_with (go_at_call 57; with_reducible refine Calls.mono (HH.out _) ?_)
              rintro e w5 ⟨rfl, rfl⟩
              go_wp2
              go_roundw
              case rel => exact ⟨k + 1, by omega, by go_num, (HST.out.alloc _).skip hkl hb⟩
              case measure => simp [intOf]; omega
            · go_wp2_with (go_at_call 57; with_reducible refine Calls.mono (HH.out _) ?_)
              rintro e w5 ⟨rfl, rfl⟩
              go_upto_region 12 with (fail)
              obtain ⟨hs, ys, v1, v2, ⟨g1, g2, g3, g4⟩, g5, ⟨c1, f1, c2, f2⟩, o1, o2, hb0, hz0⟩ := HST.out
              have hk0 := KB.alloc wr (.cells #[.string x.name, .int .i64 x.sig, .slice p1.A p1.n p1.c, .slice p2.A p2.n p2.c, .slice p3.A p3.n p3.c, .slice p4.A p4.n p4.c] 64)
              refine two_appends (s0 := 60) (s1 := 61) (s2 := 62) (s3 := 63) (s4 := 64) (s5 := 65) (s6 := 66) (s7 := 67) (r9 := 9) (r12 := 12) (r10 := 10) (r11 := 11) ?hT (by kernel_rfl) (by kernel_rfl) (by kernel_rfl) (by kernel_rfl)
                (wc.heap.size + 2) wc.heap.size (wc.heap.size + 1) wr.heap.size hs.length wc.heap.size v1 v2 x p1 p2 p3 p4 (k : Int) (rtCells hs) (ys.map (Value.int .i64)) (by omega) (by omega) (by omega) (by omega) (by omega) (by omega) (by omega)
                rfl rfl rfl rfl (hk0.cell c1 (fun h => h)) (frozen_same (hk0.same _ (by omega) (fun h => h)) f1) (hk0.cell c2 (fun h => h)) (frozen_same (hk0.same _ (by omega) (fun h => h)) f2) (hk0.own o1 (fun _ _ h => h)) (hk0.own o2 (fun _ _ h => h))
                (alloc_cells _ _ _) hz0 (fun h => by have := own_lt o1 h; omega) (fun h => by have := own_lt o2 h; omega) (by simp; omega) (hb0.alloc (by omega) _) ?hQ
              case hT => exact { o0 := ⟨_, _, _, rfl⟩, o1 := ⟨_, _, _, rfl⟩, o2 := ⟨_, _, _, rfl⟩, o3 := ⟨_, _, _, rfl⟩, o4 := ⟨_, _, _, rfl⟩, o5 := ⟨_, _, _, rfl⟩, o6 := ⟨_, _, _, rfl⟩, o7 := ⟨_, _, _, rfl⟩, o8 := ⟨_, _, _, rfl⟩, o9 := ⟨_, _, _, rfl⟩, n9 := by kernel_rfl, n10 := by kernel_rfl, n11 := by kernel_rfl, n12 := by kernel_rfl, p12 := by kernel_rfl, p03 := by kernel_rfl, p23 := by kernel_rfl, p56 := by kernel_rfl, p47 := by kernel_rfl, p67 := by kernel_rfl, p37 := by kernel_rfl, p38 := by kernel_rfl, p08 := by kernel_rfl, p78 := by kernel_rfl, p79 := by kernel_rfl, p49 := by kernel_rfl, p89 := by kernel_rfl, sz := rfl }
              case hQ =>
                intro x0 x1 x2 x3 x4 x5 x6 x7 W' hbW' hszW' h9' h10' a' ha'
                have HN := Lib.hid (CyLoop.step ⟨x, p1, p2, p3, p4⟩ g1 g2 g3 g4 g5 HX.out hb HRt.out h9' h10' hbW' (Nat.le_trans hz0 (Nat.le_trans (by simp) hszW')))
                clear h9' h10' g1 g2 g3 g4 g5 o1 o2 c1 c2 f1 f2 hk0
                simp [go_sem, Act.put] at ha'
                subst ha'
                go_wp2
                go_roundw
                case rel => exact ⟨k + 1, by omega, by go_num, HN.out⟩
                case measure => simp [intOf]; omega
          · obtain rfl : rn = k := by omega
            obtain ⟨hs, ys, v1, v2, ⟨g1, g2, g3, g4⟩, g5, ⟨c1, f1, c2, f2⟩, o1, o2, hb0, hz0⟩ := HST.out
            have hsz : hs.length ≤ 140737488355328 := by omega
            obtain ⟨AA1, cc1, rfl, hle1, hX1⟩ := rts_of_own o1 (fun x hx => (g5 x hx).below hbr) hsz
            obtain ⟨AA2, cc2, rfl, hle2, hX2⟩ := ints_of_own o2 hsz
            have hlen : l.routes.length = rn := HL.out.2.2.2.2.1
            rw [List.take_of_length_le (by omega)] at g1
            rw [List.take_of_length_le (by simp [intsTo]; omega)] at g2
            rw [show hs.map RtH.rt = shownOf l pro from g1] at hX1
            rw [show ys = numsOf l pro from g2] at hX2
            have I0 := bcell hbr I0
            have I1 := bcell hbr I1
            have I2 := bcell hbr I2
            have I3 := bcell hbr I3
            have O0 := bcell hbr O0
            have O1 := bcell hbr O1
            have A0 := bcell hbr A0
            have A1' := bcell hbr A1
            have A2' := bcell hbr A2
            have A3 := bcell hbr A3
            have hl1 := Nat.lt_of_lt_of_le hl1 hbr.size
            have hl2 := Nat.lt_of_lt_of_le hl2 hbr.size
            have hl3 := Nat.lt_of_lt_of_le hl3 hbr.size
            have hbwr := bnext hbw1 hbr
            have HX1 := Lib.hid hX1
            have HX2 := Lib.hid hX2
            clear g1 g2 g3 g4 g5 o1 o2 hX1 hX2 HST hlen hle1 hle2
            go_wp2_with (go_at_call 58; with_reducible refine Calls.mono (HSD.out _) ?_)
            rintro e w5 ⟨rfl, hb5⟩
            have hsl := side_lt _ hio2.out
            have HE : Hid (undetP l ⟨occ, nor, rev, pro, pts⟩ = (shownOf l pro).any fun r => r.needs.any fun x => !hasU (if x.rev = true then sideR ⟨occ, nor, rev, pro, pts⟩ else sideN ⟨occ, nor, rev, pro, pts⟩) x.pt) := rfl
            obtain ⟨hsn, hsr⟩ := hsl
            generalize sideN ⟨occ, nor, rev, pro, pts⟩ = sN at *
            generalize sideR ⟨occ, nor, rev, pro, pts⟩ = sR at *
            have HSN := Lib.hid hsn
            have HSR := Lib.hid hsr
            clear hsn hsr HSD
            have cS := bcell hb5 c1
            have cN := bcell hb5 c2
            have hlw := hb5.size
            clear c1 c2 f1 f2
            go_upto_block 2 with (fail)
            refine name_box3 (fun W6 hb56 hz6 hx1 hx2 hx3 => ?_)
            have cNor : W6.cell? ⟨w5.heap.size, 0, none⟩ = some (.int .u32 sN) := hx1 0 _ rfl
            have cRev : W6.cell? ⟨w5.heap.size + 1, 0, none⟩ = some (.int .u32 sR) := hx2 0 _ rfl
            clear hx1 hx2 hx3
            have K1 := Lib.hid (fun W' (hb' : Below W6.heap.size W6 W') => c1_any s ⟨pA, pn, pc⟩ g ⟨rA, rn, rc⟩ l pro AA2 hs.length cc2 w.heap.size (wc.heap.size + 1) W' (HL.out.below (bnext hbwr (bnext hb5 (bnext hb56 hb')))) hM.out
              ⟨bcell hb' (bcell hb56 (bcell hb5 A0)), bcell hb' (bcell hb56 (bcell hb5 A1')), bcell hb' (bcell hb56 (bcell hb5 A2')), bcell hb' (bcell hb56 (bcell hb5 A3))⟩ (bcell hb' (bcell hb56 cN)) (HX2.out.below (bnext hb5 (bnext hb56 hb'))))
            have K2 := Lib.hid (fun W' (hb' : Below W6.heap.size W6 W') => c2_any (shownOf l pro) AA1 hs.length cc1 occ wc.heap.size (w.heap.size + 1) W' (shown_ok l hM.out pro) hio2.out.1 (bcell hb' (bcell hb56 cS)) (HX1.out.below (bnext hb5 (bnext hb56 hb'))) (bcell hb' (bcell hb56 (bcell hb5 I0))))
            have K3 := Lib.hid (fun W' (hb' : Below W6.heap.size W6 W') => c3_any (shownOf l pro) AA1 hs.length cc1 wc.heap.size (w5.heap.size + 1) w5.heap.size sR sN W' (shown_ok l hM.out pro) HSR.out HSN.out (bcell hb' (bcell hb56 cS)) (HX1.out.below (bnext hb5 (bnext hb56 hb'))) (bcell hb' cRev) (bcell hb' cNor))
            have K4 := Lib.hid (fun W' (hb' : Below W6.heap.size W6 W') => c4_any (shownOf l pro) AA1 hs.length cc1 wc.heap.size (w.heap.size + 1 + 1) pts W' (shown_ok l hM.out pro) hpt (bcell hb' (bcell hb56 cS)) (HX1.out.below (bnext hb5 (bnext hb56 hb'))) (bcell hb' (bcell hb56 (bcell hb5 O1))))
            have hW : wrongP l ⟨occ, nor, rev, pro, pts⟩ = if clashP l pro = true then 3 else if occP l ⟨occ, nor, rev, pro, pts⟩ = true then 4 else if undetP l ⟨occ, nor, rev, pro, pts⟩ = true then 5 else if turnP l ⟨occ, nor, rev, pro, pts⟩ = true then 6 else 0 := rfl
            rw [HE.out] at hW
            unfold occP turnP at hW
            dsimp only at hW
            have HC3 := HCP3.out
            rw [hW] at HC3
            clear hW HCP3 HE
            generalize ((shownOf l pro).any fun r => r.needs.any fun x => !hasU (if x.rev = true then sR else sN) x.pt) = q3 at *
            generalize ((shownOf l pro).any fun r => r.needs.any fun n => hasU pts n.pt != n.rev) = q4 at *
            generalize ((shownOf l pro).any fun r => r.track.any fun s => hasU occ s) = q2 at *
            generalize clashP l pro = q1 at *
            have HCP3 := Lib.hid HC3
            clear HC3
            have eg1 : ∀ args w, (callFunc 59 args).run Try.prog w = .ok (.enter 59 args) w := enters_of' Try.func59 (by kernel_rfl) rfl
            have eg2 : ∀ args w, (callFunc 64 args).run Try.prog w = .ok (.enter 64 args) w := enters_of' Try.func64 (by kernel_rfl) rfl
            have eg3 : ∀ args w, (callFunc 69 args).run Try.prog w = .ok (.enter 69 args) w := enters_of' Try.func69 (by kernel_rfl) rfl
            have eg4 : ∀ args w, (callFunc 72 args).run Try.prog w = .ok (.enter 72 args) w := enters_of' Try.func72 (by kernel_rfl) rfl
            have nf0 := neqf_nil
            have nf1 := neqf_fn
            have ix0 := idx7_0
            have ix1 := idx7_1
            have ix2 := idx7_2
            have ix3 := idx7_3
            have ix4 := idx7_4
            have ix5 := idx7_5
            have ix6 := idx7_6
            go_wp2_with fail
            refine wp_loop_rounds 8 ?_
            rw [rounds_succ]
            go_wp2_with fail
            rw [rounds_succ]
            go_wp2_with fail
            rw [rounds_succ]
            go_wp2_with fail
            rw [rounds_succ]
            cases q1
            · go_wp2_with (go_at_fn 59; with_reducible refine Calls.mono (K1.out _ (Below.refl _ _)) ?_)
              rintro e wz0 ⟨rfl, hy0⟩
              have hz0 : Below W6.heap.size W6 wz0 := hy0
              go_wp2_with fail
              rw [rounds_succ]
              cases q2
              · go_wp2_with (go_at_fn 64; with_reducible refine Calls.mono (K2.out _ hz0) ?_)
                rintro e wz1 ⟨rfl, hy1⟩
                have hz1 : Below W6.heap.size W6 wz1 := bnext hz0 hy1
                go_wp2_with fail
                rw [rounds_succ]
                cases q3
                · go_wp2_with (go_at_fn 69; with_reducible refine Calls.mono (K3.out _ hz1) ?_)
                  rintro e wz2 ⟨rfl, hy2⟩
                  have hz2 : Below W6.heap.size W6 wz2 := bnext hz1 hy2
                  go_wp2_with fail
                  rw [rounds_succ]
                  cases q4
                  · go_wp2_with (go_at_fn 72; with_reducible refine Calls.mono (K4.out _ hz2) ?_)
                    rintro e wz3 ⟨rfl, hy3⟩
                    have hz3 : Below W6.heap.size W6 wz3 := bnext hz2 hy3
                    go_wp2_with fail
                    rw [rounds_succ]
                    go_wp2
                    go_ret
                    rw [HCP3.out]; exact ⟨rfl, bnext hbwr (bnext hb5 (bnext hb56 hz3))⟩
                  · go_wp2_with (go_at_fn 72; with_reducible refine Calls.mono (K4.out _ hz2) ?_)
                    rintro e wz3 ⟨rfl, hy3⟩
                    have hz3 : Below W6.heap.size W6 wz3 := bnext hz2 hy3
                    go_wp2
                    go_ret
                    rw [HCP3.out]; exact ⟨rfl, bnext hbwr (bnext hb5 (bnext hb56 hz3))⟩
                · go_wp2_with (go_at_fn 69; with_reducible refine Calls.mono (K3.out _ hz1) ?_)
                  rintro e wz2 ⟨rfl, hy2⟩
                  have hz2 : Below W6.heap.size W6 wz2 := bnext hz1 hy2
                  go_wp2
                  go_ret
                  rw [HCP3.out]; exact ⟨rfl, bnext hbwr (bnext hb5 (bnext hb56 hz2))⟩
              · go_wp2_with (go_at_fn 64; with_reducible refine Calls.mono (K2.out _ hz0) ?_)
                rintro e wz1 ⟨rfl, hy1⟩
                have hz1 : Below W6.heap.size W6 wz1 := bnext hz0 hy1
                go_wp2
                go_ret
                rw [HCP3.out]; exact ⟨rfl, bnext hbwr (bnext hb5 (bnext hb56 hz1))⟩
            · go_wp2_with (go_at_fn 59; with_reducible refine Calls.mono (K1.out _ (Below.refl _ _)) ?_)
              rintro e wz0 ⟨rfl, hy0⟩
              have hz0 : Below W6.heap.size W6 wz0 := hy0
              go_wp2
              go_ret
              rw [HCP3.out]; exact ⟨rfl, bnext hbwr (bnext hb5 (bnext hb56 hz0))⟩
      · have hfin : Hid (cycleP l ⟨occ, nor, rev, pro, pts⟩ = 2) := by rw [HCP2.out]; rfl
        clear HCP2
        go_wp2
        go_ret
        rw [hfin.out]; exact ⟨rfl, hbw1⟩
  · have hfin : Hid (cycleP l ⟨occ, nor, rev, pro, pts⟩ = 1) := by rw [HCP.out, if_pos hce]; rfl
    have hne : (ce != 0) = true := by simpa using hce
    clear HCP hcz hce
    go_wp2_with (go_at_call 56; with_reducible refine Calls.mono HC2.out ?_)
    rintro e w1 ⟨rfl, hb1⟩
    go_wp2
    go_ret
    rw [hfin.out]; exact ⟨rfl, bnext hbW hb1⟩
end Go.Proofs.Ytmoccpbiogdbgaa
