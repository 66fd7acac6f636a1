/-
  The walk of the reference of layer 29: Cycle.
-/
import Derived.Test.YtmoccpbiogdbgaaW30
import Derived.Test.YtmoccpbiogdbgaaW31
import Derived.Test.YtmoccpbiogdbgaaW26
import Derived.Test.YtmoccpbiogdbgaaW15
namespace Go.Proofs.Ytmoccpbiogdbgaa
open Go.RowKit
theorem not32 (x : Nat) (h : x < 4294967296) : 4294967295 ^^^ x = 4294967295 - x := by
  refine Nat.eq_of_testBit_eq fun i => ?_
  have e : 4294967295 - x = 2 ^ 32 - (x + 1) := by omega
  rw [e, Nat.testBit_two_pow_sub_succ (by simpa using h), Nat.testBit_xor, show 4294967295 = 2 ^ 32 - 1 from rfl, Nat.testBit_two_pow_sub_one]
  by_cases hi : i < 32
  · simp [hi]
  · have : x.testBit i = false := bit_big (n := 32) (by simpa using h) (by omega)
    simp [hi, this]
theorem firstN_u64 (n : Nat) : firstN n < 18446744073709551616 := by
  unfold firstN
  have := Nat.two_pow_pos (min n 64)
  have : 2 ^ min n 64 ≤ 2 ^ 64 := Nat.pow_le_pow_right (by decide) (Nat.min_le_right _ _)
  omega
set_option maxRecDepth 10000 in
set_option maxHeartbeats 2000000 in
theorem refcycle29_any (s p g rr : Hd) (l : Ly) (io : Io) (ch : Hd) (w : World) (hl : RLy w s p g rr l) (hio : io.ok) :
    Calls Try.prog 77 #[lyv s p g rr, inv io ch, outv io] w (Ret8 (cycleR l io) w) := by
  have HCH := Lib.hid (fun W (hb : Below w.heap.size w W) => refcheck_any s p g rr l W (hl.below hb))
  have HSD := Lib.hid (fun W => refsides_any io ch W hio)
  have HCP : Hid (cycleR l io = if (checkB l).1 ≠ 0 then 1 else if unknownR l io = true then 2 else wrongR l io) := rfl
  have HUN : Hid (unknownR l io = (decide (io.pro &&& (18446744073709551615 - firstN l.routes.length) ≠ 0) || decide (io.pts &&& (4294967295 - firstN l.points.length % 4294967296) ≠ 0))) := rfl
  have HWR : Hid (wrongR l io = if clashR l [] (shownOf l io.pro) = true then 3 else if occP l io = true then 4 else if liesR (shownOf l io.pro) (sideN io) (sideR io) = false then 5
    else if liesR (shownOf l io.pro) (4294967295 - io.pts) io.pts = false then 6 else 0) := rfl
  have hcz := check_zero l
  have HSL := Lib.hid (side_lt io hio)
  have HIO := Lib.hid hio
  have HL := Lib.hid hl
  have hrn := hl.2.2.2.2.1
  have hpn := hl.2.2.1.1
  have hrm := hl.2.2.2.2.2.1
  have hpm := hl.2.2.1.2.1
  have HSO := Lib.hid (fun (hm : mayB l = true) (W : World) (hb : Below w.heap.size w W) => shown29_any s p g rr l io W (hl.below hb) hio (may_facts l hm).1.2.2.2)
  have HCL := Lib.hid (fun (hm : mayB l = true) (W : World) (hb : Below w.heap.size w W) A n c (hX : RRts W A n (shownOf l io.pro)) => clash29_any s p g rr l A n c _ W (hl.below hb) hX (shown_ok l hm io.pro))
  have HOC := Lib.hid (fun (hm : mayB l = true) (W : World) A n c (hX : RRts W A n (shownOf l io.pro)) => occ29_any A n c _ io ch W hX (shown_ok l hm io.pro) hio)
  have HLI := Lib.hid (fun (hm : mayB l = true) (W : World) A n c a b (hX : RRts W A n (shownOf l io.pro)) (ha : a < 4294967296) (hb : b < 4294967296) => lies29_any A n c _ a b W hX (shown_ok l hm io.pro) ha hb)
  rw [show ((shownOf l io.pro).any fun r => r.track.any fun t => hasU io.occ t) = occP l io from rfl] at HOC
  rw [hrn, hpn] at HUN
  clear hl hio
  have a1 := u64_andNot_nat io.pro (firstN rr.n) HIO.out.2.2.2.1 (firstN_u64 _)
  have a2 := u32_andNot_nat io.pts (firstN p.n % 4294967296) HIO.out.2.2.2.2 (Nat.mod_lt _ (by decide))
  rw [Int.natCast_emod] at a2
  have a3 := u32_xor_nat 4294967295 io.pts (by decide) HIO.out.2.2.2.2
  rw [not32 _ HIO.out.2.2.2.2] at a3
  simp only [Int.cast_ofNat_Int] at a2 a3
  have hf1 := firstN_u64 rr.n
  have hf2 := firstN_u64 p.n
  have hpt := HIO.out.2.2.2.2
  generalize sideN io = sN at *
  generalize sideR io = sR at *
  generalize occP l io = q2 at *
  generalize shownOf l io.pro = sh at *
  generalize clashR l [] sh = q1 at *
  obtain ⟨occ, nor, rev, pro, pts⟩ := io
  generalize cycleR l ⟨occ, nor, rev, pro, pts⟩ = res at *
  generalize unknownR l ⟨occ, nor, rev, pro, pts⟩ = un at *
  generalize wrongR l ⟨occ, nor, rev, pro, pts⟩ = wr at *
  unfold lyv inv outv Hd.v at *
  obtain ⟨pA, pn, pc⟩ := p
  obtain ⟨rA, rn, rc⟩ := rr
  dsimp only at *
  generalize hfr : firstN rn = fr at *
  generalize hfp : firstN pn = fp at *
  generalize checkB l = ck at *
  obtain ⟨ce, ci⟩ := ck
  dsimp only at *
  go_enter Try.func77, Try.ntmps77
  go_upto_region 1 with (fail)
  refine name_box3 (fun W hbW hlt hbox1 hbox2 hbox3 => ?_)
  have A1 : W.cell? ⟨w.heap.size, 1, none⟩ = some (.slice pA pn pc) := hbox1 1 _ rfl
  have A3 : W.cell? ⟨w.heap.size, 3, none⟩ = some (.slice rA rn rc) := hbox1 3 _ rfl
  have A0 : W.cell? ⟨w.heap.size, 0, none⟩ = some (.slice s.A s.n s.c) := hbox1 0 _ rfl
  have A2 : W.cell? ⟨w.heap.size, 2, none⟩ = some (.slice g.A g.n g.c) := hbox1 2 _ rfl
  have I0 : W.cell? ⟨w.heap.size + 1, 0, none⟩ = some (.int .u64 occ) := hbox2 0 _ rfl
  have I1 : W.cell? ⟨w.heap.size + 1, 1, none⟩ = some (.int .u32 nor) := hbox2 1 _ rfl
  have I2 : W.cell? ⟨w.heap.size + 1, 2, none⟩ = some (.int .u32 rev) := hbox2 2 _ rfl
  have I3 : W.cell? ⟨w.heap.size + 1, 3, none⟩ = some (.slice ch.A ch.n ch.c) := hbox2 3 _ rfl
  have O0 : W.cell? ⟨w.heap.size + 1 + 1, 0, none⟩ = some (.int .u64 pro) := hbox3 0 _ rfl
  have O1 : W.cell? ⟨w.heap.size + 1 + 1, 1, none⟩ = some (.int .u32 pts) := hbox3 1 _ rfl
  have hl1 : w.heap.size < W.heap.size := by omega
  have hl2 : w.heap.size + 1 < W.heap.size := by omega
  have hl3 : w.heap.size + 1 + 1 < W.heap.size := by omega
  clear hbox1 hbox2 hbox3 hlt
  have HC2 := Lib.hid (HCH.out W hbW)
  clear HCH
  by_cases hce : ce = 0
  case neg =>
    have HR : Hid (res = 1) := by rw [HCP.out]; simp [hce]; trivial
    clear HCP hcz HSO HCL HOC HLI HWR HUN a1 a2 a3
    go_wp2_with (go_at_call 25; with_reducible refine Calls.mono HC2.out ?_)
    rintro e w1 ⟨rfl, hb1⟩
    go_wp2
    go_ret
    rw [HR.out]; exact ⟨rfl, bnext hbW hb1⟩
  subst hce
  have HCP2 : Hid (res = if un = true then 2 else wr) := by rw [HCP.out]; simp; trivial
  have hm := Lib.hid (hcz rfl)
  clear HCP hcz
  go_wp2_with (go_at_call 25; with_reducible refine Calls.mono HC2.out ?_)
  rintro e w1 ⟨rfl, hb1⟩
  clear HC2
  have A0 := bcell hb1 A0
  have A1 := bcell hb1 A1
  have A2 := bcell hb1 A2
  have A3 := bcell hb1 A3
  have I0 := bcell hb1 I0
  have I1 := bcell hb1 I1
  have I2 := bcell hb1 I2
  have I3 := bcell hb1 I3
  have O0 := bcell hb1 O0
  have O1 := bcell hb1 O1
  have hl1 := Nat.lt_of_lt_of_le hl1 hb1.size
  have hl2 := Nat.lt_of_lt_of_le hl2 hb1.size
  have hl3 := Nat.lt_of_lt_of_le hl3 hb1.size
  have hbw1 := bnext hbW hb1
  have HF1 := Lib.hid (fun W => first07_any rn W)
  have HF2 := Lib.hid (fun W => first07_any pn W)
  have HF1 : Hid (∀ W, Calls Try.prog 26 #[.int .i64 rn] W (RetN .u64 fr W)) := fun W => by rw [← hfr]; exact HF1.out W
  have HF2 : Hid (∀ W, Calls Try.prog 26 #[.int .i64 pn] W (RetN .u64 fp W)) := fun W => by rw [← hfp]; exact HF2.out W
  clear hfr hfp
  generalize pro &&& (18446744073709551615 - fr) = X1 at *
  generalize pts &&& (4294967295 - fp % 4294967296) = X2 at *
  by_cases hX1 : X1 = 0
  case neg =>
    have HR : Hid (res = 2) := by rw [HCP2.out, HUN.out]; simp [hX1]; trivial
    clear HCP2 HUN HWR HSO HCL HOC HLI
    have hX1' : ((X1 : Int) != 0) = true := by simp [hX1]
    go_upto_region 4 with (fail)
    refine wp_region_calm (by kernel_rfl) (by kernel_rfl) ?_
    repeat (first | go_big_quiet_skip | (go_big_quiet_want; go_big_quiet_op; first | go_big_quiet_on | (apply Exists.intro; refine ⟨fun W1 hW1 => ?_, ?_⟩; (first | exact rfl | (go_at_call 26; (with_reducible refine Calls.mono (HF1.out W1) ?_); exact fun e w5 hr => ⟨hr.1, bnext hW1 (hr.2 ▸ Below.refl _ _)⟩) | (go_at_call 26; (with_reducible refine Calls.mono (HF2.out W1) ?_); exact fun e w5 hr => ⟨hr.1, bnext hW1 (hr.2 ▸ Below.refl _ _)⟩) | (have hcc := bcells hW1; go_simp; rfl)); go_big_quiet_on)))
    refine wpQuiet_nil ?_
    intro W3 hW3
    go_wp2
    go_ret
    rw [HR.out]; exact ⟨rfl, bnext hbW (bnext hb1 hW3)⟩
  subst hX1
  rw [Int.natCast_zero] at a1
  by_cases hX2 : X2 = 0
  case neg =>
    have HR : Hid (res = 2) := by rw [HCP2.out, HUN.out]; simp [hX2]; trivial
    clear HCP2 HUN HWR HSO HCL HOC HLI
    have hX2' : ((X2 : Int) != 0) = true := by simp [hX2]
    go_upto_region 4 with (fail)
    refine wp_region_calm (by kernel_rfl) (by kernel_rfl) ?_
    repeat (first | go_big_quiet_skip | (go_big_quiet_want; go_big_quiet_op; first | go_big_quiet_on | (apply Exists.intro; refine ⟨fun W1 hW1 => ?_, ?_⟩; (first | exact rfl | (go_at_call 26; (with_reducible refine Calls.mono (HF1.out W1) ?_); exact fun e w5 hr => ⟨hr.1, bnext hW1 (hr.2 ▸ Below.refl _ _)⟩) | (go_at_call 26; (with_reducible refine Calls.mono (HF2.out W1) ?_); exact fun e w5 hr => ⟨hr.1, bnext hW1 (hr.2 ▸ Below.refl _ _)⟩) | (have hcc := bcells hW1; go_simp; rfl)); go_big_quiet_on)))
    refine wpQuiet_nil ?_
    intro W3 hW3
    go_wp2
    go_ret
    rw [HR.out]; exact ⟨rfl, bnext hbW (bnext hb1 hW3)⟩
  subst hX2
  rw [Int.natCast_zero] at a2
  have HCP3 : Hid (res = if q1 = true then 3 else if q2 = true then 4 else if liesR sh sN sR = false then 5 else if liesR sh (4294967295 - pts) pts = false then 6 else 0) := by
    rw [HCP2.out, HUN.out, HWR.out]; simp; trivial
  clear HCP2 HUN HWR
  go_upto_region 4 with (fail)
  refine wp_region_calm (by kernel_rfl) (by kernel_rfl) ?_
  repeat (first | go_big_quiet_skip | (go_big_quiet_want; go_big_quiet_op; first | go_big_quiet_on | (apply Exists.intro; refine ⟨fun W1 hW1 => ?_, ?_⟩; (first | exact rfl | (go_at_call 26; (with_reducible refine Calls.mono (HF1.out W1) ?_); exact fun e w5 hr => ⟨hr.1, bnext hW1 (hr.2 ▸ Below.refl _ _)⟩) | (go_at_call 26; (with_reducible refine Calls.mono (HF2.out W1) ?_); exact fun e w5 hr => ⟨hr.1, bnext hW1 (hr.2 ▸ Below.refl _ _)⟩) | (have hcc := bcells hW1; go_simp; rfl)); go_big_quiet_on)))
  refine wpQuiet_nil ?_
  intro w2 hb2
  have A0 := bcell hb2 A0
  have A1 := bcell hb2 A1
  have A2 := bcell hb2 A2
  have A3 := bcell hb2 A3
  have I0 := bcell hb2 I0
  have I1 := bcell hb2 I1
  have I2 := bcell hb2 I2
  have I3 := bcell hb2 I3
  have O0 := bcell hb2 O0
  have O1 := bcell hb2 O1
  have hl1 := Nat.lt_of_lt_of_le hl1 hb2.size
  have hl2 := Nat.lt_of_lt_of_le hl2 hb2.size
  have hl3 := Nat.lt_of_lt_of_le hl3 hb2.size
  have hbw2 := bnext hbw1 hb2
  clear a1 a2 HF1 HF2
  generalize hq3 : liesR sh sN sR = q3 at *
  generalize hq4 : liesR sh (4294967295 - pts) pts = q4 at *
  have HSO2 := Lib.hid (HSO.out hm.out w2 hbw2)
  clear HSO
  go_wp2_with (go_at_call 130; with_reducible refine Calls.mono HSO2.out ?_)
  rintro e w3 ⟨Ash, nsh, csh, rfl, hle, hb3, hX⟩
  clear HSO2

  have HX3 := Lib.hid hX
  clear hX
  have A0 := bcell hb3 A0
  have A1 := bcell hb3 A1
  have A2 := bcell hb3 A2
  have A3 := bcell hb3 A3
  have I0 := bcell hb3 I0
  have I1 := bcell hb3 I1
  have I2 := bcell hb3 I2
  have I3 := bcell hb3 I3
  have O0 := bcell hb3 O0
  have O1 := bcell hb3 O1
  have hl1 := Nat.lt_of_lt_of_le hl1 hb3.size
  have hl2 := Nat.lt_of_lt_of_le hl2 hb3.size
  have hl3 := Nat.lt_of_lt_of_le hl3 hb3.size
  have hbw3 := bnext hbw2 hb3
  go_wp2_with (go_at_call 110; with_reducible refine Calls.mono (HSD.out _) ?_)
  rintro e w4 ⟨rfl, hb4⟩
  clear HSD
  have A0 := bcell hb4 A0
  have A1 := bcell hb4 A1
  have A2 := bcell hb4 A2
  have A3 := bcell hb4 A3
  have I0 := bcell hb4 I0
  have I1 := bcell hb4 I1
  have I2 := bcell hb4 I2
  have I3 := bcell hb4 I3
  have O0 := bcell hb4 O0
  have O1 := bcell hb4 O1
  have hl1 := Nat.lt_of_lt_of_le hl1 hb4.size
  have hl2 := Nat.lt_of_lt_of_le hl2 hb4.size
  have hl3 := Nat.lt_of_lt_of_le hl3 hb4.size
  have hbw4 := bnext hbw3 hb4
  have HX4 := Lib.hid (HX3.out.below hb4)
  clear HX3
  have K1 := Lib.hid (HCL.out hm.out w4 hbw4 Ash nsh csh HX4.out)
  clear HCL
  cases q1
  case true =>
    have HR : Hid (res = 3) := by rw [HCP3.out]; simp; trivial
    clear HCP3 HOC HLI
    go_wp2_with (go_at_call 131; with_reducible refine Calls.mono K1.out ?_)
    rintro e w5 ⟨rfl, hb5⟩
    go_wp2
    go_ret
    rw [HR.out]; exact ⟨rfl, bnext hbw4 hb5⟩
  go_wp2_with (go_at_call 131; with_reducible refine Calls.mono K1.out ?_)
  rintro e w5 ⟨rfl, hb5⟩
  clear K1
  have A0 := bcell hb5 A0
  have A1 := bcell hb5 A1
  have A2 := bcell hb5 A2
  have A3 := bcell hb5 A3
  have I0 := bcell hb5 I0
  have I1 := bcell hb5 I1
  have I2 := bcell hb5 I2
  have I3 := bcell hb5 I3
  have O0 := bcell hb5 O0
  have O1 := bcell hb5 O1
  have hl1 := Nat.lt_of_lt_of_le hl1 hb5.size
  have hl2 := Nat.lt_of_lt_of_le hl2 hb5.size
  have hl3 := Nat.lt_of_lt_of_le hl3 hb5.size
  have hbw5 := bnext hbw4 hb5
  have HX5 := Lib.hid (HX4.out.below hb5)
  clear HX4
  have K2 := Lib.hid (HOC.out hm.out w5 Ash nsh csh HX5.out)
  clear HOC
  cases q2
  case true =>
    have HR : Hid (res = 4) := by rw [HCP3.out]; simp; trivial
    clear HCP3 HLI
    go_wp2_with (go_at_call 132; with_reducible refine Calls.mono K2.out ?_)
    rintro e w6 ⟨rfl, hb6⟩
    go_wp2
    go_ret
    rw [HR.out]; exact ⟨rfl, bnext hbw5 hb6⟩
  go_wp2_with (go_at_call 132; with_reducible refine Calls.mono K2.out ?_)
  rintro e w6 ⟨rfl, hb6⟩
  clear K2
  have A0 := bcell hb6 A0
  have A1 := bcell hb6 A1
  have A2 := bcell hb6 A2
  have A3 := bcell hb6 A3
  have I0 := bcell hb6 I0
  have I1 := bcell hb6 I1
  have I2 := bcell hb6 I2
  have I3 := bcell hb6 I3
  have O0 := bcell hb6 O0
  have O1 := bcell hb6 O1
  have hl1 := Nat.lt_of_lt_of_le hl1 hb6.size
  have hl2 := Nat.lt_of_lt_of_le hl2 hb6.size
  have hl3 := Nat.lt_of_lt_of_le hl3 hb6.size
  have hbw6 := bnext hbw5 hb6
  have HX6 := Lib.hid (HX5.out.below hb6)
  clear HX5
  have K3 := Lib.hid (HLI.out hm.out w6 Ash nsh csh sN sR HX6.out HSL.out.1 HSL.out.2)
  rw [hq3] at K3
  cases q3
  case false =>
    have HR : Hid (res = 5) := by rw [HCP3.out]; simp; trivial
    clear HCP3 HLI
    go_wp2_with (go_at_call 133; with_reducible refine Calls.mono K3.out ?_)
    rintro e w7 ⟨rfl, hb7⟩
    go_wp2
    go_ret
    rw [HR.out]; exact ⟨rfl, bnext hbw6 hb7⟩
  go_wp2_with (go_at_call 133; with_reducible refine Calls.mono K3.out ?_)
  rintro e w7 ⟨rfl, hb7⟩
  clear K3
  have A0 := bcell hb7 A0
  have A1 := bcell hb7 A1
  have A2 := bcell hb7 A2
  have A3 := bcell hb7 A3
  have I0 := bcell hb7 I0
  have I1 := bcell hb7 I1
  have I2 := bcell hb7 I2
  have I3 := bcell hb7 I3
  have O0 := bcell hb7 O0
  have O1 := bcell hb7 O1
  have hl1 := Nat.lt_of_lt_of_le hl1 hb7.size
  have hl2 := Nat.lt_of_lt_of_le hl2 hb7.size
  have hl3 := Nat.lt_of_lt_of_le hl3 hb7.size
  have hbw7 := bnext hbw6 hb7
  have HX7 := Lib.hid (HX6.out.below hb7)
  clear HX6
  have K4 := Lib.hid (HLI.out hm.out w7 Ash nsh csh (4294967295 - pts) pts HX7.out (Nat.lt_of_le_of_lt (Nat.sub_le _ _) (by decide)) hpt)
  rw [hq4] at K4
  clear HLI hq3 hq4
  generalize 4294967295 - pts = npts at *
  have x1 : IntKind.signed .u32 = false := rfl
  have x2 : IntKind.max .u32 = 4294967295 := rfl
  cases q4
  case false =>
    have HR : Hid (res = 6) := by rw [HCP3.out]; simp; trivial
    clear HCP3
    go_wp2_with (go_at_call 133; with_reducible refine Calls.mono K4.out ?_)
    rintro e w8 ⟨rfl, hb8⟩
    go_wp2
    go_ret
    rw [HR.out]; exact ⟨rfl, bnext hbw7 hb8⟩
  have HR : Hid (res = 0) := by rw [HCP3.out]; simp; trivial
  clear HCP3
  go_wp2_with (go_at_call 133; with_reducible refine Calls.mono K4.out ?_)
  rintro e w8 ⟨rfl, hb8⟩
  go_wp2
  go_ret
  rw [HR.out]; exact ⟨rfl, bnext hbw7 hb8⟩
end Go.Proofs.Ytmoccpbiogdbgaa
