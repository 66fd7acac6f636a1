/-
  The walks of the closures of safety.Cycle.
-/
import Derived.Test.YtmoccpbiogdbgaaW23
namespace Go.Proofs.Ytmoccpbiogdbgaa
open Go.RowKit Go.Shelf
/-! ### Clash -/
theorem eC111 : Enters Try.prog 62 := enters_of' Try.func62 (by kernel_rfl) rfl
theorem eC11 : Enters Try.prog 61 := enters_of' Try.func61 (by kernel_rfl) rfl
set_option maxRecDepth 10000 in
set_option maxHeartbeats 400000 in
theorem c111_any (s p g rr : Hd) (l : Ly) (a b : Nat) (bl ba : Nat) (w : World) (hl : RLy w s p g rr l) (hm : mayB l = true) (ha : a < l.routes.length) (hb : b < l.routes.length) (hB : LyBox w bl s p g rr) (hA : w.cell? ⟨ba, 0, none⟩ = some (.int .i64 a)) :
    Calls Try.prog 62 #[.int .i64 b, .pointer (some ⟨bl, 0, none⟩), .pointer (some ⟨ba, 0, none⟩)] w (RetB (pairB l a b) w) := by
  have HP := Lib.hid (fun W (hb2 : Below w.heap.size w W) => pair_any s p g rr l a b W (hl.below hb2) hm ha hb)
  obtain ⟨B0, B1, B2, B3⟩ := hB
  have l0 := World.block_lt_of_cell? _ _ B0
  have l1 := World.block_lt_of_cell? _ _ hA
  simp only at l0 l1
  unfold lyv Hd.v at *
  clear hl hm ha hb
  go_enter Try.func62, Try.ntmps62
  go_wp2_with (go_at_call 63; with_reducible refine Calls.mono (HP.out _ (Below.refl _ _)) ?_)
  rintro e w1 ⟨rfl, hb1⟩
  go_wp2
  go_ret
  exact ⟨rfl, hb1⟩
/-- The numbers of routes that are there. -/
def Nums (l : Ly) (xs : List Int) : Prop := ∀ x ∈ xs, ∃ k : Nat, k < l.routes.length ∧ x = (k : Int)
theorem nums_ok (l : Ly) (pro : Nat) : Nums l (numsOf l pro) := by
  intro x hx
  rw [nums_places] at hx
  obtain ⟨k, hk, rfl⟩ := List.mem_map.1 hx
  exact ⟨k, places_lt l pro k hk, rfl⟩
set_option maxRecDepth 10000 in
set_option maxHeartbeats 400000 in
theorem c11_any (s p g rr : Hd) (l : Ly) (a : Nat) (xs : List Int) (A : Option Addr) (n c : Nat) (bl bn : Nat) (w : World) (hl : RLy w s p g rr l) (hm : mayB l = true) (ha : a < l.routes.length) (hx : Nums l xs) (hB : LyBox w bl s p g rr) (hN : w.cell? ⟨bn, 0, none⟩ = some (.slice A n c)) (hX : RInts w A n xs) :
    Calls Try.prog 61 #[.int .i64 a, .pointer (some ⟨bn, 0, none⟩), .pointer (some ⟨bl, 0, none⟩)] w (RetB (xs.any fun b => pairB l a b) w) := by
  have HC := Lib.hid (fun W (hb : Below w.heap.size w W) (hc : W.cell? ⟨w.heap.size, 0, none⟩ = some (.int .i64 a)) => containsFuncI A n c xs 62 #[.pointer (some ⟨bl, 0, none⟩), .pointer (some ⟨w.heap.size, 0, none⟩)] (fun b => pairB l a b) W (hX.below hb)
    ⟨eC111, fun x hxm W' hb' => by
      obtain ⟨k, hk, rfl⟩ := hx x hxm
      exact c111_any s p g rr l a k bl w.heap.size W' (hl.below (bnext hb hb')) hm ha hk (hB.below (bnext hb hb')) (bcell hb' hc)⟩)
  have l1 := World.block_lt_of_cell? _ _ hN
  simp only at l1
  clear hl hm ha hX hx hB
  go_enter Try.func61, Try.ntmps61
  go_wp2_with (go_at_call 60; with_reducible refine Calls.mono (HC.out _ ?h0 ?h1) ?_)
  case h0 => exact (Below.refl _ _).alloc (Nat.le_refl _) _
  case h1 => go_simp
  rintro e w1 ⟨rfl, hb1⟩
  have hb2 := bnext ((Below.refl w.heap.size w).alloc (Nat.le_refl _) _) hb1
  clear hb1
  go_wp2
  go_ret
  exact ⟨rfl, hb2⟩
set_option maxRecDepth 10000 in
set_option maxHeartbeats 400000 in
theorem c1_any (s p g rr : Hd) (l : Ly) (pro : Nat) (A : Option Addr) (n c : Nat) (bl bn : Nat) (w : World) (hl : RLy w s p g rr l) (hm : mayB l = true) (hB : LyBox w bl s p g rr) (hN : w.cell? ⟨bn, 0, none⟩ = some (.slice A n c)) (hX : RInts w A n (numsOf l pro)) :
    Calls Try.prog 59 #[.pointer (some ⟨bn, 0, none⟩), .pointer (some ⟨bl, 0, none⟩)] w (RetB (clashP l pro) w) := by
  have HC := Lib.hid (containsFuncI A n c (numsOf l pro) 61 #[.pointer (some ⟨bn, 0, none⟩), .pointer (some ⟨bl, 0, none⟩)] (fun a => (numsOf l pro).any fun b => pairB l a b) w hX
    ⟨eC11, fun x hxm W' hb' => by
      obtain ⟨k, hk, rfl⟩ := nums_ok l pro x hxm
      exact c11_any s p g rr l k (numsOf l pro) A n c bl bn W' (hl.below hb') hm hk (nums_ok l pro) (hB.below hb') (bcell hb' hN) (hX.below hb')⟩)
  have hcl : Hid (((numsOf l pro).any fun a => (numsOf l pro).any fun b => pairB l a b) = clashP l pro) := rfl
  clear hl hm hX hB
  go_enter Try.func59, Try.ntmps59
  go_wp2_with (go_at_call 60; with_reducible refine Calls.mono HC.out ?_)
  rintro e w1 ⟨rfl, hb1⟩
  go_wp2
  go_ret
  rw [hcl.out]
  exact ⟨rfl, hb1⟩
/-! ### Occupied -/
theorem eC2111 : Enters Try.prog 68 := enters_of' Try.func68 (by kernel_rfl) rfl
theorem eC21 : Enters Try.prog 66 := enters_of' Try.func66 (by kernel_rfl) rfl
set_option maxRecDepth 10000 in
set_option maxHeartbeats 400000 in
theorem c2111_any (x : Nat) (n : Nat) (bi : Nat) (w : World) (hx : x < 18446744073709551616) (hB : w.cell? ⟨bi, 0, none⟩ = some (.int .u64 x)) :
    Calls Try.prog 68 #[.int .i64 n, .pointer (some ⟨bi, 0, none⟩)] w (RetB (hasU x n) w) := by
  have H := Lib.hid (has29_any x n w hx)
  clear hx
  go_enter Try.func68, Try.ntmps68
  go_wp2_with (go_at_call 57; with_reducible refine Calls.mono H.out ?_)
  rintro e w1 ⟨rfl, rfl⟩
  go_wp2
  go_ret
  exact ⟨rfl, Below.refl _ _⟩
set_option maxRecDepth 10000 in
set_option maxHeartbeats 400000 in
theorem c21_any (r : Rt) (p q o f : Hd) (x bi : Nat) (w : World) (hr : RRt w p q o f r) (hs : r.small) (ht : ∀ t ∈ r.track, 0 ≤ t) (hx : x < 18446744073709551616) (hB : w.cell? ⟨bi, 0, none⟩ = some (.int .u64 x)) :
    Calls Try.prog 66 #[rtv r p q o f, .pointer (some ⟨bi, 0, none⟩)] w (RetB (r.track.any fun t => hasU x t) w) := by
  have HT := Lib.hid (fun W (hb : Below w.heap.size w W) => track_any r p q o f W (hr.below hb) hs)
  have HC := Lib.hid (fun W (hb : Below w.heap.size w W) A n c (hX : RInts W A n r.track) => containsFuncI A n c r.track 68 #[.pointer (some ⟨bi, 0, none⟩)] (fun t => hasU x t) W hX
    ⟨eC2111, fun t htm W' hb' => by
      obtain ⟨k, rfl⟩ := Int.eq_ofNat_of_zero_le (ht t htm)
      exact c2111_any x k bi W' hx (bcell (bnext hb hb') hB)⟩)
  clear hr hs ht hx hB
  unfold rtv Hd.v at *
  go_enter Try.func66, Try.ntmps66
  go_wp2_with (go_at_call 67; with_reducible refine Calls.mono (HT.out _ ?h0) ?_)
  case h0 => exact (Below.refl _ _).alloc (Nat.le_refl _) _
  rintro e w1 ⟨A, n, c, rfl, hle, hb1, hX⟩
  have hb2 := bnext ((Below.refl w.heap.size w).alloc (Nat.le_refl _) _) hb1
  have HC2 := Lib.hid (HC.out w1 hb2 A n c hX)
  clear hb1 hX HT HC
  go_wp2_with (go_at_call 60; with_reducible refine Calls.mono HC2.out ?_)
  rintro e w2 ⟨rfl, hb3⟩
  go_wp2
  go_ret
  exact ⟨rfl, bnext hb2 hb3⟩
/-- The routes that are shown are right. -/
def RtsOk (xs : List Rt) : Prop := ∀ r ∈ xs, r.small ∧ (∀ t ∈ r.track, 0 ≤ t) ∧ ∀ n ∈ r.needs, 0 ≤ n.pt
set_option maxRecDepth 10000 in
set_option maxHeartbeats 400000 in
theorem c2_any (xs : List Rt) (A : Option Addr) (n c : Nat) (x bn bi : Nat) (w : World) (hk : RtsOk xs) (hx : x < 18446744073709551616) (hN : w.cell? ⟨bn, 0, none⟩ = some (.slice A n c)) (hX : RRts w A n xs) (hB : w.cell? ⟨bi, 0, none⟩ = some (.int .u64 x)) :
    Calls Try.prog 64 #[.pointer (some ⟨bn, 0, none⟩), .pointer (some ⟨bi, 0, none⟩)] w (RetB (xs.any fun r => r.track.any fun t => hasU x t) w) := by
  have HC := Lib.hid (containsFuncR A n c xs 66 #[.pointer (some ⟨bi, 0, none⟩)] (fun r => r.track.any fun t => hasU x t) w hX
    ⟨eC21, fun r hrm W' p q o f hb' hr => c21_any r p q o f x bi W' hr (hk r hrm).1 (hk r hrm).2.1 hx (bcell hb' hB)⟩)
  clear hX hk hx
  go_enter Try.func64, Try.ntmps64
  go_wp2_with (go_at_call 65; with_reducible refine Calls.mono HC.out ?_)
  rintro e w1 ⟨rfl, hb1⟩
  go_wp2
  go_ret
  exact ⟨rfl, hb1⟩
end Go.Proofs.Ytmoccpbiogdbgaa
