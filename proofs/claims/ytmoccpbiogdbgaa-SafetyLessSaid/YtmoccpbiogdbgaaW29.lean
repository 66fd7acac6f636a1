/-
  The walk of SafetyLess.
-/
import Derived.Test.YtmoccpbiogdbgaaW28
import Derived.Test.YtmoccpbiogdbgaaW15
import Derived.Deep.RegionHeld3
namespace Go.Proofs.Ytmoccpbiogdbgaa
open Go.RowKit
theorem and_lt64 (a b : Nat) (h : a < 18446744073709551616) : a &&& b < 18446744073709551616 := Nat.lt_of_le_of_lt Nat.and_le_left h
theorem firstN_lt (n : Nat) : firstN n < 18446744073709551616 := by
  unfold firstN
  have := Nat.two_pow_pos (min n 64)
  have : 2 ^ min n 64 ≤ 2 ^ 64 := Nat.pow_le_pow_right (by decide) (Nat.min_le_right _ _)
  omega
set_option maxRecDepth 10000 in
set_option maxHeartbeats 2000000 in
theorem less29_any (s p g rr : Hd) (l : Ly) (io : Io) (ch : Hd) (f : Nat) (w : World) (hl : RLy w s p g rr l) (hio : io.ok) (hf : f < 18446744073709551616) (hch : ch.n ≤ 140737488355328) :
    Calls Try.prog 4 #[lyv s p g rr, inv io ch, outv io, .int .u64 f] w (RetB true w) := by
  have HW := Lib.hid (fun W (hb : Below w.heap.size w W) => weight_any s p g rr l 400 W (hl.below hb))
  have HC := Lib.hid (fun W (hb : Below w.heap.size w W) => cycle29_any s p g rr l io ch W (hl.below hb) hio)
  have HK := Lib.hid (fun W (hb : Below w.heap.size w W) => refcheck_any s p g rr l W (hl.below hb))
  have hio2 : (io.less f).ok := ⟨hio.1, hio.2.1, hio.2.2.1, and_lt64 _ _ hio.2.2.2.1, hio.2.2.2.2⟩
  have hio3 : (io.none l).ok := ⟨hio.1, hio.2.1, hio.2.2.1, by show (0 : Nat) < _; decide, Nat.lt_of_le_of_lt Nat.and_le_left hio.2.2.2.2⟩
  have HC2 := Lib.hid (fun W (hb : Below w.heap.size w W) => cycle29_any s p g rr l (io.less f) ch W (hl.below hb) hio2)
  have HC3 := Lib.hid (fun W (hb : Below w.heap.size w W) => cycle29_any s p g rr l (io.none l) ch W (hl.below hb) hio3)
  have hless := cycle_less l io f
  have hnone := cycle_none l io
  have hpl : l.points.length = p.n := hl.2.2.1.1
  have hand := u64_and_nat io.pro f hio.2.2.2.1 hf
  have hpts := hio.2.2.2.2
  have hmf := firstN_lt (min p.n 32)
  have hand2 := u32_and_nat io.pts (firstN (min p.n 32) % 4294967296) hpts (Nat.mod_lt _ (by decide))
  unfold Io.less at HC2 hless
  unfold Io.none at HC3 hnone
  rw [hpl] at HC3 hnone
  generalize hM : io.pro &&& f = m at *
  generalize hN : io.pts &&& firstN (min p.n 32) % 4294967296 = nn at *
  have HF := Lib.hid (fun W => first07_any (min p.n 32) W)
  have hwr : IntKind.u32.wrap (firstN (min p.n 32) : Int) = ((firstN (min p.n 32) % 4294967296 : Nat) : Int) := by rw [IntKind.wrap_u32]; omega
  generalize hFN : firstN (min p.n 32) = fn at *
  clear hl hM hN hFN hio2 hio3 hmf
  obtain ⟨occ, nor, rev, pro, pts⟩ := io
  unfold lyv inv outv Hd.v at *
  dsimp only at *
  generalize hq1 : cycleP l ⟨occ, nor, rev, pro, pts⟩ = r1 at *
  generalize hq2 : cycleP l ⟨occ, nor, rev, m, pts⟩ = r2 at *
  generalize hq3 : cycleP l ⟨occ, nor, rev, 0, nn⟩ = r3 at *
  generalize checkB l = ck at *
  obtain ⟨ce, ci⟩ := ck
  dsimp only at hnone
  clear hq1 hq2 hq3 hio hf hpl hpts
  go_enter Try.func4, Try.ntmps4
  go_upto_region 1 with (fail)
  refine name_box3 (fun W hbW hlt hbox1 hbox2 hbox3 => ?_)
  have A0 : W.cell? ⟨w.heap.size, 0, none⟩ = some (.slice s.A s.n s.c) := hbox1 0 _ rfl
  have A1 : W.cell? ⟨w.heap.size, 1, none⟩ = some (.slice p.A p.n p.c) := hbox1 1 _ rfl
  have A2 : W.cell? ⟨w.heap.size, 2, none⟩ = some (.slice g.A g.n g.c) := hbox1 2 _ rfl
  have A3 : W.cell? ⟨w.heap.size, 3, none⟩ = some (.slice rr.A rr.n rr.c) := hbox1 3 _ rfl
  have I0 : W.cell? ⟨w.heap.size + 1, 0, none⟩ = some (.int .u64 occ) := hbox2 0 _ rfl
  have I1 : W.cell? ⟨w.heap.size + 1, 1, none⟩ = some (.int .u32 nor) := hbox2 1 _ rfl
  have I2 : W.cell? ⟨w.heap.size + 1, 2, none⟩ = some (.int .u32 rev) := hbox2 2 _ rfl
  have I3 : W.cell? ⟨w.heap.size + 1, 3, none⟩ = some (.slice ch.A ch.n ch.c) := hbox2 3 _ rfl
  have O0 : W.cell? ⟨w.heap.size + 1 + 1, 0, none⟩ = some (.int .u64 pro) := hbox3 0 _ rfl
  have O1 : W.cell? ⟨w.heap.size + 1 + 1, 1, none⟩ = some (.int .u32 pts) := hbox3 1 _ rfl
  have hl1 : w.heap.size < W.heap.size := by omega
  have hl2 : w.heap.size + 1 < W.heap.size := by omega
  have hl3 : w.heap.size + 1 + 1 < W.heap.size := by omega
  clear hbox1 hbox2 hbox3 hlt
  have hND := Lib.hid hnone
  have hLS := Lib.hid hless
  clear hnone hless
  go_wp2_with (go_at_call 22; with_reducible refine Calls.mono (HW.out _ hbW) ?_)
  rintro e w1 ⟨z, rfl, hb1⟩
  have hbw1 := bnext hbW hb1
  have A0 := bcell hb1 A0
  have A1 := bcell hb1 A1
  have A2 := bcell hb1 A2
  have A3 := bcell hb1 A3
  have I0 := bcell hb1 I0
  have I1 := bcell hb1 I1
  have I2 := bcell hb1 I2
  have I3 := bcell hb1 I3
  have O0 := bcell hb1 O0
  have O1 := bcell hb1 O1
  have hl1 := Nat.lt_of_lt_of_le hl1 hb1.size
  have hl2 := Nat.lt_of_lt_of_le hl2 hb1.size
  have hl3 := Nat.lt_of_lt_of_le hl3 hb1.size
  clear hb1 HW
  by_cases hz : 400 < z
  · go_wp2_with (go_at_call 23; with_reducible refine Calls.mono (works29_any _) ?_)
    rintro e w2 ⟨rfl, hb2⟩
    go_wp2
    go_ret
    exact ⟨rfl, bnext hbw1 hb2⟩
  have hz2 : decide (400 < z) = false := by simpa using hz
  by_cases hc : 100 < ch.n
  · go_wp2_with (go_at_call 23; with_reducible refine Calls.mono (works29_any _) ?_)
    rintro e w2 ⟨rfl, hb2⟩
    go_wp2
    go_ret
    exact ⟨rfl, bnext hbw1 hb2⟩
  have hc2 : decide (100 < (ch.n : Int)) = false := by simp; omega
  go_upto_region 5 with (fail)
  refine name_box (fun W2 hb2 hlt2 hx => ?_)
  have N0 : W2.cell? ⟨w1.heap.size, 0, none⟩ = some (.int .u64 m) := hx 0 _ rfl
  have N1 : W2.cell? ⟨w1.heap.size, 1, none⟩ = some (.int .u32 pts) := hx 1 _ rfl
  clear hx
  have A0 := bcell hb2 A0
  have A1 := bcell hb2 A1
  have A2 := bcell hb2 A2
  have A3 := bcell hb2 A3
  have I0 := bcell hb2 I0
  have I1 := bcell hb2 I1
  have I2 := bcell hb2 I2
  have I3 := bcell hb2 I3
  have O0 := bcell hb2 O0
  have O1 := bcell hb2 O1
  have hl1 := Nat.lt_of_lt_of_le hl1 hb2.size
  have hl2 := Nat.lt_of_lt_of_le hl2 hb2.size
  have hl3 := Nat.lt_of_lt_of_le hl3 hb2.size
  have hbw2 := bnext hbw1 hb2
  clear hb2 hbw1 hbW hz hc
  go_cut [40] (fun s40 wx => s40 = .bool false ∧ Below W2.heap.size W2 wx)
  case first =>
    by_cases h1 : r1 = 0
    · have h2 := hLS.out h1
      subst h1 h2
      go_wp2_with (go_at_call 24; with_reducible refine Calls.mono (HC.out _ hbw2) ?_)
      rintro e w3 ⟨rfl, hb3⟩
      have A0 := bcell hb3 A0
      have A1 := bcell hb3 A1
      have A2 := bcell hb3 A2
      have A3 := bcell hb3 A3
      have I0 := bcell hb3 I0
      have I1 := bcell hb3 I1
      have I2 := bcell hb3 I2
      have I3 := bcell hb3 I3
      have O0 := bcell hb3 O0
      have O1 := bcell hb3 O1
      have N0 := bcell hb3 N0
      have N1 := bcell hb3 N1
      have hl1 := Nat.lt_of_lt_of_le hl1 hb3.size
      have hl2 := Nat.lt_of_lt_of_le hl2 hb3.size
      have hl3 := Nat.lt_of_lt_of_le hl3 hb3.size
      have hlt2 := Nat.lt_of_lt_of_le hlt2 hb3.size
      go_wp2_with (go_at_call 24; with_reducible refine Calls.mono (HC2.out _ (bnext hbw2 hb3)) ?_)
      rintro e w4 ⟨rfl, hb4⟩
      go_wp2
      go_meet
      exact ⟨rfl, bnext hb3 hb4⟩
    · have hne : ((r1 : Int) == 0) = false := by simp; omega
      go_wp2_with (go_at_call 24; with_reducible refine Calls.mono (HC.out _ hbw2) ?_)
      rintro e w3 ⟨rfl, hb3⟩
      go_wp2
      go_meet
      exact ⟨rfl, hb3⟩
  case rest =>
    obtain ⟨rfl, hbx⟩ := hcut
    have hbwx := bnext hbw2 hbx
    have A0 := bcell hbx A0
    have A1 := bcell hbx A1
    have A2 := bcell hbx A2
    have A3 := bcell hbx A3
    have I0 := bcell hbx I0
    have I1 := bcell hbx I1
    have I2 := bcell hbx I2
    have I3 := bcell hbx I3
    have O0 := bcell hbx O0
    have O1 := bcell hbx O1
    have hl1 := Nat.lt_of_lt_of_le hl1 hbx.size
    have hl2 := Nat.lt_of_lt_of_le hl2 hbx.size
    have hl3 := Nat.lt_of_lt_of_le hl3 hbx.size
    clear hbx hbw2 N0 N1 hlt2 HC HC2 hLS
    go_wp2_with (go_at_call 25; with_reducible refine Calls.mono (HK.out _ hbwx) ?_)
    rintro e w3 ⟨rfl, hb3⟩
    have hbw3 := bnext hbwx hb3
    have A0 := bcell hb3 A0
    have A1 := bcell hb3 A1
    have A2 := bcell hb3 A2
    have A3 := bcell hb3 A3
    have I0 := bcell hb3 I0
    have I1 := bcell hb3 I1
    have I2 := bcell hb3 I2
    have I3 := bcell hb3 I3
    have O0 := bcell hb3 O0
    have O1 := bcell hb3 O1
    have hl1 := Nat.lt_of_lt_of_le hl1 hb3.size
    have hl2 := Nat.lt_of_lt_of_le hl2 hb3.size
    have hl3 := Nat.lt_of_lt_of_le hl3 hb3.size
    clear hb3 hbwx HK
    go_upto_region 8 with (fail)
    refine wp_region_par (H := fun W => Below w3.heap.size w3 W ∧ ((W.heap.size = w3.heap.size) ∨ ((∃ u, W.cell? ⟨w3.heap.size, 0, none⟩ = some u) ∧ (∃ u, W.cell? ⟨w3.heap.size, 1, none⟩ = some u) ∧ W.frozen? ⟨w3.heap.size, 0, none⟩ = false ∧ W.frozen? ⟨w3.heap.size, 1, none⟩ = false))) (F := fun i => List.getD ([fun v _ => v = .pointer (some ⟨w.heap.size + 1 + 1, 1, none⟩), fun v _ => v = .int .u32 pts, fun v _ => v = .pointer (some ⟨w.heap.size, 1, none⟩), fun v _ => v = .slice p.A p.n p.c, fun v _ => v = .int .i64 (p.n : Int), fun v _ => v = .int .i64 ((min p.n 32 : Nat) : Int), fun v _ => v = .int .u64 (fn : Int), fun v _ => v = .int .u32 ((fn % 4294967296 : Nat) : Int), fun v _ => v = .int .u32 (nn : Int), fun v _ => v = .agg #[.int .u64 0, .int .u32 (nn : Int)], fun v W => v = .pointer (some ⟨w3.heap.size, 0, none⟩) ∧ w3.heap.size < W.heap.size, fun _ W => W.cell? ⟨w3.heap.size, 0, none⟩ = some (.int .u64 0) ∧ W.cell? ⟨w3.heap.size, 1, none⟩ = some (.int .u32 (nn : Int))] : List (Value → World → Prop)) i (fun _ _ => True)) (G := fun i => List.getD ([fun _ => True, fun _ => True, fun _ => True, fun _ => True, fun _ => True, fun _ => True, fun _ => True, fun _ => True, fun _ => True, fun _ => True, fun W => W.heap.size = w3.heap.size, fun _ => True] : List (World → Prop)) i (fun _ => True)) (by kernel_rfl) (by kernel_rfl) (by kernel_rfl) (by kernel_rfl) ⟨(Below.refl _ _).drew, .inl rfl⟩ ?hG ?hstep ?hQ
    case hG =>
      intro i hi
      rcases i with _ | _ | _ | _ | _ | _ | _ | _ | _ | _ | _ | _ | i
      · trivial
      · trivial
      · trivial
      · trivial
      · trivial
      · trivial
      · trivial
      · trivial
      · trivial
      · trivial
      · exact rfl
      · trivial
      · exact absurd hi (by simp)
    case hstep =>
      intro i op hop a W hH hF hO hsz hdf hG
      rcases i with _ | _ | _ | _ | _ | _ | _ | _ | _ | _ | _ | _ | i
      · obtain rfl : _ = op := Option.some.inj hop
        have x6 : a.eval (.tmp 6) = .pointer (some ⟨w.heap.size + 1 + 1, 0, none⟩) := hO 6 (notDst_spec (by kernel_rfl))
        refine ⟨rfl, wp_val (v := .pointer (some ⟨w.heap.size + 1 + 1, 1, none⟩)) (W' := W) ?_ ⟨_, rfl, (fun h => by cases h), hH, rfl, ?_, ?_⟩⟩
        · generalize a.eval = ev at *; simp [go_sem, x6]
        · intro j hj hji hp v h
          rcases j with _ | _ | _ | _ | _ | _ | _ | _ | _ | _ | _ | _ | j
          · exact absurd rfl hji
          · exact h
          · exact h
          · exact h
          · exact h
          · exact h
          · exact h
          · exact h
          · exact h
          · exact h
          · exact h
          · exact h
          · trivial
        · intro k hk hki hp h
          rcases k with _ | _ | _ | _ | _ | _ | _ | _ | _ | _ | _ | _ | k
          · exact absurd rfl hki
          · trivial
          · trivial
          · trivial
          · trivial
          · trivial
          · trivial
          · trivial
          · trivial
          · trivial
          · exact h
          · trivial
          · trivial
      · obtain rfl : _ = op := Option.some.inj hop
        have x46 : a.eval (.tmp 46) = .pointer (some ⟨w.heap.size + 1 + 1, 1, none⟩) := hF 0 _ rfl (pre_of (by kernel_rfl))
        have c := bcell hH.1 O1
        refine ⟨rfl, wp_val (v := .int .u32 pts) (W' := W) ?_ ⟨_, rfl, (fun h => by cases h), hH, rfl, ?_, ?_⟩⟩
        · generalize a.eval = ev at *; simp [go_sem, x46, c]
        · intro j hj hji hp v h
          rcases j with _ | _ | _ | _ | _ | _ | _ | _ | _ | _ | _ | _ | j
          · exact h
          · exact absurd rfl hji
          · exact h
          · exact h
          · exact h
          · exact h
          · exact h
          · exact h
          · exact h
          · exact h
          · exact h
          · exact h
          · trivial
        · intro k hk hki hp h
          rcases k with _ | _ | _ | _ | _ | _ | _ | _ | _ | _ | _ | _ | k
          · trivial
          · exact absurd rfl hki
          · trivial
          · trivial
          · trivial
          · trivial
          · trivial
          · trivial
          · trivial
          · trivial
          · exact h
          · trivial
          · trivial
      · obtain rfl : _ = op := Option.some.inj hop
        have x4 : a.eval (.tmp 4) = .pointer (some ⟨w.heap.size, 0, none⟩) := hO 4 (notDst_spec (by kernel_rfl))
        refine ⟨rfl, wp_val (v := .pointer (some ⟨w.heap.size, 1, none⟩)) (W' := W) ?_ ⟨_, rfl, (fun h => by cases h), hH, rfl, ?_, ?_⟩⟩
        · generalize a.eval = ev at *; simp [go_sem, x4]
        · intro j hj hji hp v h
          rcases j with _ | _ | _ | _ | _ | _ | _ | _ | _ | _ | _ | _ | j
          · exact h
          · exact h
          · exact absurd rfl hji
          · exact h
          · exact h
          · exact h
          · exact h
          · exact h
          · exact h
          · exact h
          · exact h
          · exact h
          · trivial
        · intro k hk hki hp h
          rcases k with _ | _ | _ | _ | _ | _ | _ | _ | _ | _ | _ | _ | k
          · trivial
          · trivial
          · exact absurd rfl hki
          · trivial
          · trivial
          · trivial
          · trivial
          · trivial
          · trivial
          · trivial
          · exact h
          · trivial
          · trivial
      · obtain rfl : _ = op := Option.some.inj hop
        have x48 : a.eval (.tmp 48) = .pointer (some ⟨w.heap.size, 1, none⟩) := hF 2 _ rfl (pre_of (by kernel_rfl))
        have c := bcell hH.1 A1
        refine ⟨rfl, wp_val (v := .slice p.A p.n p.c) (W' := W) ?_ ⟨_, rfl, (fun h => by cases h), hH, rfl, ?_, ?_⟩⟩
        · generalize a.eval = ev at *; simp [go_sem, x48, c]
        · intro j hj hji hp v h
          rcases j with _ | _ | _ | _ | _ | _ | _ | _ | _ | _ | _ | _ | j
          · exact h
          · exact h
          · exact h
          · exact absurd rfl hji
          · exact h
          · exact h
          · exact h
          · exact h
          · exact h
          · exact h
          · exact h
          · exact h
          · trivial
        · intro k hk hki hp h
          rcases k with _ | _ | _ | _ | _ | _ | _ | _ | _ | _ | _ | _ | k
          · trivial
          · trivial
          · trivial
          · exact absurd rfl hki
          · trivial
          · trivial
          · trivial
          · trivial
          · trivial
          · trivial
          · exact h
          · trivial
          · trivial
      · obtain rfl : _ = op := Option.some.inj hop
        have x49 : a.eval (.tmp 49) = .slice p.A p.n p.c := hF 3 _ rfl (pre_of (by kernel_rfl))
        refine ⟨rfl, wp_val (v := .int .i64 (p.n : Int)) (W' := W) ?_ ⟨_, rfl, (fun h => by cases h), hH, rfl, ?_, ?_⟩⟩
        · generalize a.eval = ev at *; simp [go_sem, x49]
        · intro j hj hji hp v h
          rcases j with _ | _ | _ | _ | _ | _ | _ | _ | _ | _ | _ | _ | j
          · exact h
          · exact h
          · exact h
          · exact h
          · exact absurd rfl hji
          · exact h
          · exact h
          · exact h
          · exact h
          · exact h
          · exact h
          · exact h
          · trivial
        · intro k hk hki hp h
          rcases k with _ | _ | _ | _ | _ | _ | _ | _ | _ | _ | _ | _ | k
          · trivial
          · trivial
          · trivial
          · trivial
          · exact absurd rfl hki
          · trivial
          · trivial
          · trivial
          · trivial
          · trivial
          · exact h
          · trivial
          · trivial
      · obtain rfl : _ = op := Option.some.inj hop
        have x50 : a.eval (.tmp 50) = .int .i64 (p.n : Int) := hF 4 _ rfl (pre_of (by kernel_rfl))
        have xc : ∀ v, a.eval (.const v) = v := fun _ => rfl
        refine ⟨rfl, wp_val (v := .int .i64 ((min p.n 32 : Nat) : Int)) (W' := W) ?_ ⟨_, rfl, (fun h => by cases h), hH, rfl, ?_, ?_⟩⟩
        · generalize a.eval = ev at *
          rcases Nat.lt_or_ge 32 p.n with hp | hp
          · rw [show min p.n 32 = 32 by omega]; simp [go_sem, x50, xc]; try omega
          · rw [show min p.n 32 = p.n by omega]; have hp2 : ¬ 32 < p.n := by omega
            simp [go_sem, x50, xc]; try omega
        · intro j hj hji hp v h
          rcases j with _ | _ | _ | _ | _ | _ | _ | _ | _ | _ | _ | _ | j
          · exact h
          · exact h
          · exact h
          · exact h
          · exact h
          · exact absurd rfl hji
          · exact h
          · exact h
          · exact h
          · exact h
          · exact h
          · exact h
          · trivial
        · intro k hk hki hp h
          rcases k with _ | _ | _ | _ | _ | _ | _ | _ | _ | _ | _ | _ | k
          · trivial
          · trivial
          · trivial
          · trivial
          · trivial
          · exact absurd rfl hki
          · trivial
          · trivial
          · trivial
          · trivial
          · exact h
          · trivial
          · trivial
      · obtain rfl : _ = op := Option.some.inj hop
        have x51 : a.eval (.tmp 51) = .int .i64 ((min p.n 32 : Nat) : Int) := hF 5 _ rfl (pre_of (by kernel_rfl))
        refine ⟨rfl, ?_⟩
        unfold Oper.wp
        have hfe : a.eval (.func 26) = .func (.func 26) #[] #[] := rfl
        generalize a.eval = ev at *
        simp [go_sem, x51, hfe]
        refine (HF.out W).mono ?_
        rintro e w5 ⟨rfl, rfl⟩
        refine ⟨_, rfl, (fun h => by cases h), hH, rfl, ?_, ?_⟩
        · intro j hj hji hp v h
          rcases j with _ | _ | _ | _ | _ | _ | _ | _ | _ | _ | _ | _ | j
          · exact h
          · exact h
          · exact h
          · exact h
          · exact h
          · exact h
          · exact absurd rfl hji
          · exact h
          · exact h
          · exact h
          · exact h
          · exact h
          · trivial
        · intro k hk hki hp h
          rcases k with _ | _ | _ | _ | _ | _ | _ | _ | _ | _ | _ | _ | k
          · trivial
          · trivial
          · trivial
          · trivial
          · trivial
          · trivial
          · exact absurd rfl hki
          · trivial
          · trivial
          · trivial
          · exact h
          · trivial
          · trivial
      · obtain rfl : _ = op := Option.some.inj hop
        have x52 : a.eval (.tmp 52) = .int .u64 (fn : Int) := hF 6 _ rfl (pre_of (by kernel_rfl))
        refine ⟨rfl, wp_val (v := .int .u32 ((fn % 4294967296 : Nat) : Int)) (W' := W) ?_ ⟨_, rfl, (fun h => by cases h), hH, rfl, ?_, ?_⟩⟩
        · generalize a.eval = ev at *; simp [go_sem, x52, hwr]
        · intro j hj hji hp v h
          rcases j with _ | _ | _ | _ | _ | _ | _ | _ | _ | _ | _ | _ | j
          · exact h
          · exact h
          · exact h
          · exact h
          · exact h
          · exact h
          · exact h
          · exact absurd rfl hji
          · exact h
          · exact h
          · exact h
          · exact h
          · trivial
        · intro k hk hki hp h
          rcases k with _ | _ | _ | _ | _ | _ | _ | _ | _ | _ | _ | _ | k
          · trivial
          · trivial
          · trivial
          · trivial
          · trivial
          · trivial
          · trivial
          · exact absurd rfl hki
          · trivial
          · trivial
          · exact h
          · trivial
          · trivial
      · obtain rfl : _ = op := Option.some.inj hop
        have x47 : a.eval (.tmp 47) = .int .u32 pts := hF 1 _ rfl (pre_of (by kernel_rfl))
        have x53 : a.eval (.tmp 53) = .int .u32 ((fn % 4294967296 : Nat) : Int) := hF 7 _ rfl (pre_of (by kernel_rfl))
        refine ⟨rfl, wp_val (v := .int .u32 (nn : Int)) (W' := W) ?_ ⟨_, rfl, (fun h => by cases h), hH, rfl, ?_, ?_⟩⟩
        · generalize a.eval = ev at *; simp [go_sem, x47, x53]; exact hand2
        · intro j hj hji hp v h
          rcases j with _ | _ | _ | _ | _ | _ | _ | _ | _ | _ | _ | _ | j
          · exact h
          · exact h
          · exact h
          · exact h
          · exact h
          · exact h
          · exact h
          · exact h
          · exact absurd rfl hji
          · exact h
          · exact h
          · exact h
          · trivial
        · intro k hk hki hp h
          rcases k with _ | _ | _ | _ | _ | _ | _ | _ | _ | _ | _ | _ | k
          · trivial
          · trivial
          · trivial
          · trivial
          · trivial
          · trivial
          · trivial
          · trivial
          · exact absurd rfl hki
          · trivial
          · exact h
          · trivial
          · trivial
      · obtain rfl : _ = op := Option.some.inj hop
        have x54 : a.eval (.tmp 54) = .int .u32 (nn : Int) := hF 8 _ rfl (pre_of (by kernel_rfl))
        refine ⟨rfl, wp_val (v := .agg #[.int .u64 0, .int .u32 (nn : Int)]) (W' := W) ?_ ⟨_, rfl, (fun h => by cases h), hH, rfl, ?_, ?_⟩⟩
        · generalize a.eval = ev at *; simp [go_sem, x54]
        · intro j hj hji hp v h
          rcases j with _ | _ | _ | _ | _ | _ | _ | _ | _ | _ | _ | _ | j
          · exact h
          · exact h
          · exact h
          · exact h
          · exact h
          · exact h
          · exact h
          · exact h
          · exact h
          · exact absurd rfl hji
          · exact h
          · exact h
          · trivial
        · intro k hk hki hp h
          rcases k with _ | _ | _ | _ | _ | _ | _ | _ | _ | _ | _ | _ | k
          · trivial
          · trivial
          · trivial
          · trivial
          · trivial
          · trivial
          · trivial
          · trivial
          · trivial
          · exact absurd rfl hki
          · exact h
          · trivial
          · trivial
      · obtain rfl : _ = op := Option.some.inj hop
        have hs : W.heap.size = w3.heap.size := hG
        have hbA : Below w3.heap.size w3 (W.alloc (.cells #[.int .u64 0, .int .u32 0] 35)) := hH.1.alloc (by omega) _
        have hca := alloc_cells W #[.int .u64 0, .int .u32 0] 35
        rw [hs] at hca
        have hfr : ∀ o, (W.alloc (.cells #[.int .u64 0, .int .u32 0] 35)).frozen? ⟨w3.heap.size, o, none⟩ = false := fun o => by rw [← hs]; simp
        refine ⟨rfl, wp_val (v := .pointer (some ⟨w3.heap.size, 0, none⟩)) (W' := W.alloc (.cells #[.int .u64 0, .int .u32 0] 35)) ?_ ⟨_, rfl, (fun h => by cases h), ⟨hbA, .inr ⟨⟨_, hca 0 _ rfl⟩, ⟨_, hca 1 _ rfl⟩, hfr 0, hfr 1⟩⟩, ⟨rfl, by simp; omega⟩, ?_, ?_⟩⟩
        · rw [← hs]; generalize a.eval = ev at *; simp [go_sem]
        · intro j hj hji hp v h
          rcases j with _ | _ | _ | _ | _ | _ | _ | _ | _ | _ | _ | _ | j
          · exact h
          · exact h
          · exact h
          · exact h
          · exact h
          · exact h
          · exact h
          · exact h
          · exact h
          · exact h
          · exact absurd rfl hji
          · exact ⟨bcell ((Below.refl _ _).alloc (Nat.le_refl _) _) h.1, bcell ((Below.refl _ _).alloc (Nat.le_refl _) _) h.2⟩
          · trivial
        · intro k hk hki hp h
          rcases k with _ | _ | _ | _ | _ | _ | _ | _ | _ | _ | _ | _ | k
          · trivial
          · trivial
          · trivial
          · trivial
          · trivial
          · trivial
          · trivial
          · trivial
          · trivial
          · trivial
          · exact absurd rfl hki
          · trivial
          · trivial
      · obtain rfl : _ = op := Option.some.inj hop
        have x55 : a.eval (.tmp 55) = .agg #[.int .u64 0, .int .u32 (nn : Int)] := hF 9 _ rfl (pre_of (by kernel_rfl))
        have x12 : a.eval (.tmp 12) = .pointer (some ⟨w3.heap.size, 0, none⟩) := (hF 10 _ rfl (pre_of (by kernel_rfl))).1
        have hlt := (hF 10 _ rfl (pre_of (by kernel_rfl))).2
        rcases hH.2 with hs | ⟨⟨u0, k0⟩, ⟨u1, k1⟩, f0, f1⟩
        · exact absurd hlt (by omega)
        refine ⟨rfl, wp_skp (W' := (W.setCell ⟨w3.heap.size, 0, none⟩ (.int .u64 0)).setCell ⟨w3.heap.size, 1, none⟩ (.int .u32 (nn : Int))) ?_ ⟨undef, rfl, (fun _ => rfl), ⟨(hH.1.setCell (p := ⟨w3.heap.size, 0, none⟩) (Nat.le_refl _) _).setCell (p := ⟨w3.heap.size, 1, none⟩) (Nat.le_refl _) _, .inr ⟨⟨.int .u64 0, by go_simp⟩, ⟨.int .u32 (nn : Int), by go_simp⟩, by go_simp, by go_simp⟩⟩, ⟨by go_simp, by go_simp⟩, ?_, ?_⟩⟩
        · generalize a.eval = ev at *; simp [go_sem, x12, x55, k0, k1, f0, f1]
        · intro j hj hji hp v h
          rcases j with _ | _ | _ | _ | _ | _ | _ | _ | _ | _ | _ | _ | j
          · exact h
          · exact h
          · exact h
          · exact h
          · exact h
          · exact h
          · exact h
          · exact h
          · exact h
          · exact h
          · exact ⟨h.1, by simpa using h.2⟩
          · exact absurd rfl hji
          · trivial
        · intro k hk hki hp h
          rcases k with _ | _ | _ | _ | _ | _ | _ | _ | _ | _ | _ | _ | k
          · trivial
          · trivial
          · trivial
          · trivial
          · trivial
          · trivial
          · trivial
          · trivial
          · trivial
          · trivial
          · exact absurd (pre_of (ops := _) (k := 10) (i := 11) (by kernel_rfl)) hp
          · exact absurd rfl hki
          · trivial
      · exact absurd (Array.getElem?_eq_some_iff.1 hop).1 (by simp)
    case hQ =>
      intro a W hH hF hO hsz hdf
      have hbW4 := hH.1
      have D0 := (hF 11 _ rfl).1
      have D1 := (hF 11 _ rfl).2
      have x12 : tm a 12 = .pointer (some ⟨w3.heap.size, 0, none⟩) := (hF 10 _ rfl).1
      have hlt4 := (hF 10 _ rfl).2
      have ha := act_eq a _ hsz hdf [12, 46, 47, 48, 49, 50, 51, 52, 53, 54, 55] (fun t ht => hO t fun i op hop hd => ?hds)
      case hds =>
        simp only [List.mem_cons, List.not_mem_nil, or_false, not_or] at ht
        obtain ⟨n0, n1, n2, n3, n4, n5, n6, n7, n8, n9, n10⟩ := ht
        rcases i with _ | _ | _ | _ | _ | _ | _ | _ | _ | _ | _ | _ | i
        · obtain rfl : _ = op := Option.some.inj hop
          exact n1 (Option.some.inj hd).symm
        · obtain rfl : _ = op := Option.some.inj hop
          exact n2 (Option.some.inj hd).symm
        · obtain rfl : _ = op := Option.some.inj hop
          exact n3 (Option.some.inj hd).symm
        · obtain rfl : _ = op := Option.some.inj hop
          exact n4 (Option.some.inj hd).symm
        · obtain rfl : _ = op := Option.some.inj hop
          exact n5 (Option.some.inj hd).symm
        · obtain rfl : _ = op := Option.some.inj hop
          exact n6 (Option.some.inj hd).symm
        · obtain rfl : _ = op := Option.some.inj hop
          exact n7 (Option.some.inj hd).symm
        · obtain rfl : _ = op := Option.some.inj hop
          exact n8 (Option.some.inj hd).symm
        · obtain rfl : _ = op := Option.some.inj hop
          exact n9 (Option.some.inj hd).symm
        · obtain rfl : _ = op := Option.some.inj hop
          exact n10 (Option.some.inj hd).symm
        · obtain rfl : _ = op := Option.some.inj hop
          exact n0 (Option.some.inj hd).symm
        · obtain rfl : _ = op := Option.some.inj hop
          cases hd
        · exact absurd (Array.getElem?_eq_some_iff.1 hop).1 (by simp)
      simp only [List.foldl_cons, List.foldl_nil] at ha
      rw [x12] at ha
      generalize tm a 46 = y46 at *
      generalize tm a 47 = y47 at *
      generalize tm a 48 = y48 at *
      generalize tm a 49 = y49 at *
      generalize tm a 50 = y50 at *
      generalize tm a 51 = y51 at *
      generalize tm a 52 = y52 at *
      generalize tm a 53 = y53 at *
      generalize tm a 54 = y54 at *
      generalize tm a 55 = y55 at *
      clear hF hO hsz hdf x12 hH
      simp [go_sem, Act.put] at ha
      subst ha
      have A0 := bcell hbW4 A0
      have A1 := bcell hbW4 A1
      have A2 := bcell hbW4 A2
      have A3 := bcell hbW4 A3
      have I0 := bcell hbW4 I0
      have I1 := bcell hbW4 I1
      have I2 := bcell hbW4 I2
      have I3 := bcell hbW4 I3
      have hl1 := Nat.lt_of_lt_of_le hl1 hbW4.size
      have hl2 := Nat.lt_of_lt_of_le hl2 hbW4.size
      have hl3 := Nat.lt_of_lt_of_le hl3 hbW4.size
      have hbw4 := bnext hbw3 hbW4
      have HC3b : Hid (Calls Try.prog 24 #[.agg #[.slice s.A s.n s.c, .slice p.A p.n p.c, .slice g.A g.n g.c, .slice rr.A rr.n rr.c], .agg #[.int .u64 occ, .int .u32 nor, .int .u32 rev, .slice ch.A ch.n ch.c], .agg #[.int .u64 0, .int .u32 nn]] W (Ret8 r3 W)) := HC3.out W hbw4
      have hND2 := hND.out
      clear HC3 hND HF hwr hand hand2 hbW4
      by_cases hce : ce = 0
      · have hr3 : r3 = 0 := by simpa [hce] using hND2
        subst hce hr3
        clear hND2
        go_wp2_with (go_at_call 24; with_reducible refine Calls.mono HC3b.out ?_)
        rintro e w5 ⟨rfl, hb5⟩
        go_wp2_with (go_at_call 23; with_reducible refine Calls.mono (works29_any _) ?_)
        rintro e w6 ⟨rfl, hb6⟩
        go_wp2
        go_ret
        exact ⟨rfl, bnext hbw4 (bnext hb5 hb6)⟩
      · have hr3 : ¬ r3 = 0 := by simpa [hce] using hND2
        have hb1 : ((r3 : Int) == 0) = false := by simp; omega
        have hb2 : (ce == 0) = false := by simpa using hce
        clear hND2 hce hr3
        go_wp2_with (go_at_call 24; with_reducible refine Calls.mono HC3b.out ?_)
        rintro e w5 ⟨rfl, hb5⟩
        go_wp2_with (go_at_call 23; with_reducible refine Calls.mono (works29_any _) ?_)
        rintro e w6 ⟨rfl, hb6⟩
        go_wp2
        go_ret
        exact ⟨rfl, bnext hbw4 (bnext hb5 hb6)⟩
end Go.Proofs.Ytmoccpbiogdbgaa
