/-
  The walks of sets as numbers: has, the points' sides; the reference's power, Has, With, First.
-/
import Derived.Test.YtmoccpbiogdbgaaW1
import Derived.Laws.BitsAllLaws
import Derived.Handy
namespace Go.Proofs.Ytmoccpbiogdbgaa
open Go.RowKit

/-! ### Sets as numbers -/
def hasU (x : Nat) (n : Int) : Bool := decide (0 ≤ n) && x.testBit n.toNat
theorem hasU_nat (x n : Nat) : hasU x n = x.testBit n := by simp [hasU]
theorem hasU_zero (n : Int) : hasU 0 n = false := by simp [hasU]

theorem bit_and1 (x n : Nat) (hx : x < 18446744073709551616) : (bits .and .u64 ((x : Int) / 2 ^ min n 64) 1 == 1) = hasU x n := by
  have e : ((x : Int) / 2 ^ min n 64) = ((x / 2 ^ min n 64 : Nat) : Int) := by simp
  have hle : x / 2 ^ min n 64 ≤ x := Nat.div_le_self _ _
  rw [e, show (1 : Int) = ((1 : Nat) : Int) from rfl, u64_and_nat _ _ (by omega) (by omega), hasU_nat]
  rw [Bool.eq_iff_iff]
  simp only [beq_iff_eq]
  rw [Nat.and_one_is_mod, Nat.testBit_eq_decide_div_mod_eq, decide_eq_true_iff]
  by_cases h : n ≤ 64
  · rw [Nat.min_eq_left h]; omega
  · rw [Nat.min_eq_right (by omega)]
    have h1 : x / 2 ^ 64 = 0 := Nat.div_eq_of_lt (by simpa using hx)
    have h2 : x / 2 ^ n = 0 := Nat.div_eq_of_lt (Nat.lt_of_lt_of_le (show x < 2 ^ 64 by simpa using hx) (Nat.pow_le_pow_right (by decide) (by omega)))
    rw [h1, h2]; simp
set_option maxRecDepth 10000 in
set_option maxHeartbeats 400000 in
theorem has29_any (x n : Nat) (w : World) (hx : x < 18446744073709551616) : Calls Try.prog 57 #[.int .u64 x, .int .i64 n] w (RetQ (.bool (hasU x n)) w) := by
  have H := Lib.hid (bit_and1 x n hx)
  have hx' : (x : Int) < 18446744073709551616 := by omega
  go_enter Try.func57, Try.ntmps57
  go_wp2
  go_ret
  rw [← H.out]
  exact ⟨rfl, rfl⟩
/-- What a cycle works on, what it commands. -/
structure Io where
  occ : Nat
  nor : Nat
  rev : Nat
  pro : Nat
  pts : Nat
def Io.ok (io : Io) : Prop := io.occ < 18446744073709551616 ∧ io.nor < 4294967296 ∧ io.rev < 4294967296 ∧ io.pro < 18446744073709551616 ∧ io.pts < 4294967296
abbrev inv (io : Io) (c : Hd) : Value := .agg #[.int .u64 io.occ, .int .u32 io.nor, .int .u32 io.rev, c.v]
abbrev outv (io : Io) : Value := .agg #[.int .u64 io.pro, .int .u32 io.pts]
def sideN (io : Io) : Nat := io.nor &&& (4294967295 - io.rev)
def sideR (io : Io) : Nat := io.rev &&& (4294967295 - io.nor)
def RetU2 (a b : Nat) (w : World) : Ending → World → Prop := fun e w' => e = .returned (.tuple #[.int .u32 a, .int .u32 b]) ∧ Below w.heap.size w w'
set_option maxRecDepth 10000 in
set_option maxHeartbeats 400000 in
theorem sides_any (io : Io) (c : Hd) (w : World) (hx : io.ok) : Calls Try.prog 58 #[inv io c] w (RetU2 (sideN io) (sideR io) w) := by
  have H1 := Lib.hid (u32_andNot_nat io.nor io.rev hx.2.1 hx.2.2.1)
  have H2 := Lib.hid (u32_andNot_nat io.rev io.nor hx.2.2.1 hx.2.1)
  have H3 : Hid (sideN io = io.nor &&& (4294967295 - io.rev)) := rfl
  have H4 : Hid (sideR io = io.rev &&& (4294967295 - io.nor)) := rfl
  clear hx
  obtain ⟨oc, nr, rv, pr, ps⟩ := io
  unfold inv Hd.v
  dsimp only at *
  go_enter Try.func58, Try.ntmps58
  go_upto_region 1 with (fail)
  refine name_box (fun W hbW hlt hbox => ?_)
  have B1 : W.cell? ⟨w.heap.size, 1, none⟩ = some (.int .u32 nr) := hbox 1 _ rfl
  have B2 : W.cell? ⟨w.heap.size, 2, none⟩ = some (.int .u32 rv) := hbox 2 _ rfl
  clear hbox
  go_quiet (fail)
  go_wp2
  go_ret2
  refine ⟨?_, bdrewN hbW _⟩
  rw [H3.out, H4.out, ← H1.out, ← H2.out]
  rfl
set_option maxRecDepth 10000 in
set_option maxHeartbeats 400000 in
theorem refsides_any (io : Io) (c : Hd) (w : World) (hx : io.ok) : Calls Try.prog 110 #[inv io c] w (RetU2 (sideN io) (sideR io) w) := by
  have H1 := Lib.hid (u32_andNot_nat io.nor io.rev hx.2.1 hx.2.2.1)
  have H2 := Lib.hid (u32_andNot_nat io.rev io.nor hx.2.2.1 hx.2.1)
  have H3 : Hid (sideN io = io.nor &&& (4294967295 - io.rev)) := rfl
  have H4 : Hid (sideR io = io.rev &&& (4294967295 - io.nor)) := rfl
  clear hx
  obtain ⟨oc, nr, rv, pr, ps⟩ := io
  unfold inv Hd.v
  dsimp only at *
  go_enter Try.func110, Try.ntmps110
  go_upto_region 1 with (fail)
  refine name_box (fun W hbW hlt hbox => ?_)
  have B1 : W.cell? ⟨w.heap.size, 1, none⟩ = some (.int .u32 nr) := hbox 1 _ rfl
  have B2 : W.cell? ⟨w.heap.size, 2, none⟩ = some (.int .u32 rv) := hbox 2 _ rfl
  clear hbox
  go_quiet (fail)
  go_wp2
  go_ret2
  refine ⟨?_, bdrewN hbW _⟩
  rw [H3.out, H4.out, ← H1.out, ← H2.out]
  rfl
/-! ### The reference's words -/
def RetN (k : IntKind) (n : Nat) (w : World) : Ending → World → Prop := fun e w' => e = .returned (.int k n) ∧ w = w'
theorem rn {k : IntKind} {a b : Nat} (h : a = b) : Ending.returned (.int k (a : Int)) = .returned (.int k (b : Int)) := by rw [h]
set_option maxRecDepth 10000 in
set_option maxHeartbeats 400000 in
theorem power_any (n : Nat) (w : World) (hn : n ≤ 63) : Calls Try.prog 95 #[.int .i64 n] w (RetN .u64 (2 ^ n) w) := by
  go_enter Try.func95, Try.ntmps95
  go_wp2
  go_loop [3, 4] (fun x i => ∃ k : Nat, ∃ y : Nat, k ≤ n ∧ i = .int .i64 k ∧ Hid (y = 2 ^ k) ∧ y ≤ 9223372036854775808 ∧ x = .int .u64 y) (fun _ i => n - (intOf i).toNat)
  case atStart => exact ⟨0, 1, Nat.zero_le _, rfl, rfl, by omega, rfl⟩
  case round =>
    obtain ⟨k, y, hk, rfl, hy, hle, rfl⟩ := hrel
    by_cases hlt : k < n
    · have hy' := hy.out
      have h2 : 2 * y ≤ 9223372036854775808 := by
        have : 2 ^ (k + 1) ≤ 2 ^ 63 := Nat.pow_le_pow_right (by decide) (by omega)
        rw [hy']; rw [Nat.pow_succ] at this; omega
      have hz : Hid (2 * y = 2 ^ (k + 1)) := by rw [Nat.pow_succ, ← hy']; exact Nat.mul_comm _ _
      clear hy hy'
      go_wp2
      go_round
      case rel => exact ⟨k + 1, 2 * y, by omega, by go_num, hz, h2, by simp; omega⟩
      case measure => simp [intOf]; omega
    · obtain rfl : k = n := by omega
      go_wp2
      go_ret
      exact ⟨rn hy.out, rfl⟩
theorem hasU_eq (x n y : Nat) (hx : x < 18446744073709551616) (hy : y = 2 ^ n) : ((IntKind.u64.wrap ((x : Int) / (y : Int))).tmod 2 == 1) = hasU x n := by
  have hd : x / y ≤ x := Nat.div_le_self _ _
  have e : IntKind.u64.wrap ((x : Int) / (y : Int)) = ((x / y : Nat) : Int) := by rw [IntKind.wrap_u64, ← Int.natCast_ediv]; generalize x / y = q at *; omega
  rw [e, Int.tmod_eq_emod_of_nonneg (Int.natCast_nonneg _)]
  subst hy
  rw [hasU_nat, Nat.testBit_eq_decide_div_mod_eq, Bool.eq_iff_iff]
  simp only [beq_iff_eq, decide_eq_true_eq]
  omega
theorem hasU_neg (x : Nat) (n : Int) (h : n < 0) : hasU x n = false := by unfold hasU; rw [decide_eq_false (by omega)]; rfl
theorem hasU_big (x : Nat) (n : Int) (hx : x < 18446744073709551616) (h : 63 < n) : hasU x n = false := by
  unfold hasU; rw [Nat.testBit_lt_two_pow (Nat.lt_of_lt_of_le (show x < 2 ^ 64 by simpa using hx) (Nat.pow_le_pow_right (by decide) (by omega)))]; simp
set_option maxRecDepth 10000 in
set_option maxHeartbeats 400000 in
theorem has07_any (x : Nat) (n : Int) (w : World) (hx : x < 18446744073709551616) : Calls Try.prog 41 #[.int .u64 x, .int .i64 n] w (RetQ (.bool (hasU x n)) w) := by
  by_cases h0 : n < 0
  · have H := Lib.hid (hasU_neg x n h0)
    have hd : decide (0 ≤ n) = false := by simpa using h0
    go_enter Try.func41, Try.ntmps41
    go_wp2
    go_ret
    rw [H.out]; exact ⟨rfl, rfl⟩
  · by_cases h1 : 63 < n
    · have H := Lib.hid (hasU_big x n hx h1)
      have hd : decide (n ≤ 63) = false := by simp; omega
      have hd0 : 0 ≤ n := by omega
      clear h0
      go_enter Try.func41, Try.ntmps41
      go_wp2
      go_ret
      rw [H.out]; exact ⟨rfl, rfl⟩
    · obtain ⟨m, rfl⟩ := Int.eq_ofNat_of_zero_le (show 0 ≤ n by omega)
      have hm : m ≤ 63 := by omega
      obtain ⟨y, hy⟩ : ∃ y, y = 2 ^ m := ⟨_, rfl⟩
      have hy0 : 0 < y := by rw [hy]; exact Nat.two_pow_pos m
      have HP := Lib.hid (power_any m w hm)
      rw [← hy] at HP
      have H := Lib.hid (hasU_eq x m y hx hy)
      clear hy h0 h1 hx
      go_enter Try.func41, Try.ntmps41
      go_wp2_with (go_at_call 95; with_reducible refine Calls.mono HP.out ?_)
      rintro e w' ⟨rfl, rfl⟩
      go_wp2
      go_ret
      rw [← H.out]; exact ⟨rfl, rfl⟩
/-- A set with a number. -/
def withU (x : Nat) (n : Int) : Nat := if 0 ≤ n ∧ n ≤ 63 then x ||| 2 ^ n.toNat else x
theorem or_add (x n : Nat) (hx : x < 18446744073709551616) (hn : n ≤ 63) (h : x.testBit n = false) : x + 2 ^ n = x ||| 2 ^ n := by
  have hp : 2 ^ n < 2 ^ 64 := Nat.lt_of_le_of_lt (Nat.pow_le_pow_right (by decide) hn) (by decide)
  have hx' : x < 2 ^ 64 := hx
  have ex : x % 2 ^ 64 = x := Nat.mod_eq_of_lt hx'
  have ep : 2 ^ n % 2 ^ 64 = 2 ^ n := Nat.mod_eq_of_lt hp
  have h0 : (BitVec.ofNat 64 x) &&& (BitVec.ofNat 64 (2 ^ n)) = 0#64 := by
    apply BitVec.eq_of_toNat_eq
    rw [BitVec.toNat_and, BitVec.toNat_ofNat, BitVec.toNat_ofNat, ex, ep]
    refine Nat.eq_of_testBit_eq fun i => ?_
    rw [Nat.testBit_and, Nat.testBit_two_pow]
    by_cases hi : n = i
    · subst hi; simp [h]
    · simp [hi]
  have h1 := congrArg BitVec.toNat (BitVec.add_eq_or_of_and_eq_zero _ _ h0)
  rw [BitVec.toNat_add, BitVec.toNat_or, BitVec.toNat_ofNat, BitVec.toNat_ofNat, ex, ep] at h1
  have h3 : x + 2 ^ n < 2 ^ 64 := by
    rcases Nat.lt_or_ge (x + 2 ^ n) (2 ^ 64) with h | h
    · exact h
    · exfalso
      have h2 : (x + 2 ^ n) % 2 ^ 64 = x + 2 ^ n - 2 ^ 64 := by rw [Nat.mod_eq_sub_mod h, Nat.mod_eq_of_lt (by omega)]
      have h4 : 2 ^ n ≤ x ||| 2 ^ n := Nat.right_le_or
      rw [← h1, h2] at h4
      omega
  rw [Nat.mod_eq_of_lt h3] at h1
  exact h1
theorem withU_lt (x : Nat) (n : Int) (hx : x < 18446744073709551616) : withU x n < 18446744073709551616 := by
  unfold withU
  split
  · exact Nat.or_lt_two_pow (n := 64) hx (Nat.lt_of_le_of_lt (Nat.pow_le_pow_right (by decide) (show n.toNat ≤ 63 by omega)) (by decide))
  · exact hx
set_option maxRecDepth 10000 in
set_option maxHeartbeats 400000 in
theorem with07_any (x : Nat) (n : Int) (w : World) (hx : x < 18446744073709551616) : Calls Try.prog 76 #[.int .u64 x, .int .i64 n] w (RetN .u64 (withU x n) w) := by
  by_cases h0 : n < 0
  · have H : Hid (withU x n = x) := by unfold withU; rw [if_neg (by omega)]; rfl
    go_enter Try.func76, Try.ntmps76
    go_wp2
    go_ret
    rw [H.out]; exact ⟨rfl, rfl⟩
  · by_cases h1 : 63 < n
    · have H : Hid (withU x n = x) := by unfold withU; rw [if_neg (by omega)]; rfl
      have hd : decide (n < 0) = false := by simpa using h0
      have hd0 : 0 ≤ n := by omega
      clear h0
      go_enter Try.func76, Try.ntmps76
      go_wp2
      go_ret
      rw [H.out]; exact ⟨rfl, rfl⟩
    · obtain ⟨m, rfl⟩ := Int.eq_ofNat_of_zero_le (show 0 ≤ n by omega)
      have hm : m ≤ 63 := by omega
      have HH := Lib.hid (has07_any x m w hx)
      have hd1 : decide (63 < (m : Int)) = false := by simp; omega
      clear h0 h1
      cases hb : hasU x m
      all_goals rw [hb] at HH
      · have hbit : x.testBit m = false := by rw [hasU_nat] at hb; exact hb
        have hor := or_add x m hx hm hbit
        have hlt := withU_lt x m hx
        have H : Hid (withU x m = x + 2 ^ m) := by unfold withU; rw [if_pos (by omega), hor]; rfl
        rw [H.out] at hlt
        obtain ⟨y, hy⟩ : ∃ y, y = 2 ^ m := ⟨_, rfl⟩
        have HP := Lib.hid (power_any m w hm)
        rw [← hy] at HP H hlt
        clear hor hbit hb hy
        go_enter Try.func76, Try.ntmps76
        go_wp2_with (go_at_call 41; with_reducible refine Calls.mono HH.out ?_)
        rintro e w' ⟨rfl, rfl⟩
        go_wp2_with (go_at_call 95; with_reducible refine Calls.mono HP.out ?_)
        rintro e w' ⟨rfl, rfl⟩
        go_wp2
        go_ret
        rw [H.out]; refine ⟨?_, rfl⟩
        refine congrArg (fun z => Ending.returned (.int .u64 z)) ?_
        simp; try omega
      · have hbit : x.testBit m = true := by rw [hasU_nat] at hb; exact hb
        have H : Hid (withU x m = x) := by
          unfold withU; rw [if_pos (by omega)]
          refine Nat.eq_of_testBit_eq fun i => ?_
          rw [Nat.testBit_or, Int.toNat_natCast, Nat.testBit_two_pow]
          by_cases hi : m = i
          · subst hi; simp [hbit]
          · simp [hi]
        clear hbit hb
        go_enter Try.func76, Try.ntmps76
        go_wp2_with (go_at_call 41; with_reducible refine Calls.mono HH.out ?_)
        rintro e w' ⟨rfl, rfl⟩
        go_wp2
        go_ret
        rw [H.out]; exact ⟨rfl, rfl⟩
def firstN (n : Nat) : Nat := 2 ^ min n 64 - 1
theorem with_first (k : Nat) (h : k ≤ 63) : withU (2 ^ k - 1) k = 2 ^ (k + 1) - 1 := by
  have hp : 2 ^ k < 18446744073709551616 := Nat.lt_of_le_of_lt (Nat.pow_le_pow_right (by decide) h) (by decide)
  have h0 := Nat.two_pow_pos k
  unfold withU
  rw [if_pos (by omega), Int.toNat_natCast, ← or_add _ _ (by omega) h (by rw [Nat.testBit_two_pow_sub_one]; simp), Nat.pow_succ]
  omega
set_option maxRecDepth 10000 in
set_option maxHeartbeats 400000 in
theorem first07_any (n : Nat) (w : World) : Calls Try.prog 26 #[.int .i64 n] w (RetN .u64 (firstN n) w) := by
  go_enter Try.func26, Try.ntmps26
  go_wp2
  go_loop [3, 4] (fun x i => ∃ k : Nat, ∃ y : Nat, k ≤ n ∧ k ≤ 64 ∧ i = .int .i64 k ∧ Hid (y = 2 ^ k - 1) ∧ y < 18446744073709551616 ∧ x = .int .u64 y) (fun _ i => 64 - (intOf i).toNat)
  case atStart => exact ⟨0, 0, Nat.zero_le _, Nat.zero_le _, rfl, rfl, by omega, rfl⟩
  case round =>
    obtain ⟨k, y, hk, hk2, rfl, hy, hle, rfl⟩ := hrel
    by_cases hlt : k < n
    · by_cases hlt2 : k < 64
      · have HW := Lib.hid (with07_any y k w hle)
        have hz : withU y k = 2 ^ (k + 1) - 1 := by rw [hy.out]; exact with_first k (by omega)
        have hzl := withU_lt y k hle
        generalize withU y k = z at *
        have HZ := Lib.hid hz
        clear hy hz
        go_wp2_with (go_at_call 76; with_reducible refine Calls.mono HW.out ?_)
        rintro e w' ⟨rfl, rfl⟩
        go_wp2
        go_round
        case rel => exact ⟨k + 1, z, by omega, by omega, by go_num, HZ, hzl, rfl⟩
        case measure => simp [intOf]; omega
      · obtain rfl : k = 64 := by omega
        have hf : Hid (firstN n = y) := by unfold firstN; rw [hy.out, Nat.min_eq_right (by omega)]; rfl
        clear hy hlt2
        go_wp2
        go_ret
        rw [hf.out]; exact ⟨rfl, rfl⟩
    · have hf : Hid (firstN n = y) := by unfold firstN; rw [hy.out, Nat.min_eq_left (by omega), show k = n by omega]; rfl
      clear hy
      go_wp2
      go_ret
      rw [hf.out]; exact ⟨rfl, rfl⟩
end Go.Proofs.Ytmoccpbiogdbgaa
