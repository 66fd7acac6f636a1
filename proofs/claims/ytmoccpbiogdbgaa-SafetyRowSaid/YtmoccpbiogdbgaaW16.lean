/-
  Walks of package ref06: in, needs.
-/
import Derived.Test.YtmoccpbiogdbgaaW6
import Derived.Test.YtmoccpbiogdbgaaSpec4
import Derived.Handy
namespace Go.Proofs.Ytmoccpbiogdbgaa
open Go.RowKit Go.Shelf
theorem hasI_step (n : Int) (xs : List Int) (k : Nat) (h : k < xs.length) : hasI n (xs.drop k) = (n == xs[k] || hasI n (xs.drop (k + 1))) := by unfold hasI; rw [dropStep h, List.any_cons]
set_option maxRecDepth 10000 in
set_option maxHeartbeats 400000 in
theorem in06_any (A : Option Addr) (m c : Nat) (xs : List Int) (n : Int) (w : World) (hx : RInts w A m xs) :
    Calls Try.prog 152 #[.slice A m c, .int .i64 n] w (RetQ (.bool (hasI n xs)) w) := by
  obtain ⟨hl, hm, b, off, hA, hc⟩ := hx
  go_enter Try.func152, Try.ntmps152
  go_wp2
  go_loopw [5] (fun i wr => ∃ k : Nat, k ≤ m ∧ i = .int .i64 k ∧ Hid (hasI n (xs.drop k) = hasI n xs) ∧ w = wr) (fun i _ => m - (intOf i).toNat)
  case atStart => exact ⟨0, Nat.zero_le _, rfl, rfl, rfl⟩
  case round =>
    obtain ⟨k, hk, rfl, hi, rfl⟩ := hrel
    by_cases hlt : k < m
    · obtain rfl := hA (by omega)
      have hkl : k < xs.length := by omega
      have c0 := hc k hkl
      have hi' := hi.out
      rw [hasI_step n xs k hkl] at hi'
      clear hc hA hi
      generalize xs[k] = x at *
      by_cases hq : x = n
      · have hfin : Hid (hasI n xs = true) := by rw [← hi', hq]; simp; trivial
        subst hq
        clear hi'
        go_wp2
        go_ret
        rw [hfin.out]; exact ⟨rfl, rfl⟩
      · have hfin : Hid (hasI n (xs.drop (k + 1)) = hasI n xs) := by
          rw [← hi']
          have : (n == x) = false := by simp; exact fun e => hq e.symm
          rw [this]; simp; trivial
        clear hi'
        go_wp2
        go_roundw
        case rel => exact ⟨k + 1, by omega, by go_num, hfin, trivial⟩
        case measure => simp [intOf]; omega
    · have hfin : Hid (hasI n xs = false) := by rw [← hi.out, dropEnd (by omega)]; rfl
      clear hi hc hA
      go_wp2
      go_ret
      rw [hfin.out]; exact ⟨rfl, rfl⟩
/-- How a row needs a point: not (0), normal (1), reverse (2); the first that names it counts. -/
def needOf (n : Int) : List Nd → Int
  | [] => 0
  | x :: xs => if x.pt = n then (if x.rev = true then 2 else 1) else needOf n xs
theorem needOf_cons (n : Int) (x : Nd) (xs : List Nd) : needOf n (x :: xs) = if x.pt = n then (if x.rev = true then 2 else 1) else needOf n xs := rfl
set_option maxRecDepth 10000 in
set_option maxHeartbeats 400000 in
theorem needs06_any (r : Rt) (a b c d : Hd) (n : Int) (w : World) (hr : RRt w a b c d r) (hs : r.small) :
    Calls Try.prog 153 #[rtv r a b c d, .int .i64 n] w (RetI (needOf n r.needs) w) := by
  have HN := Lib.hid (fun W (hb : Below w.heap.size w W) => refneeds_any r a b c d W (hr.below hb) hs)
  unfold rtv Hd.v at *
  obtain ⟨aA, an, ac⟩ := a
  obtain ⟨bA, bn, bc⟩ := b
  obtain ⟨cA, cn, cc⟩ := c
  obtain ⟨dA, dn, dc⟩ := d
  dsimp only at *
  clear hr
  go_enter Try.func153, Try.ntmps153
  go_wp2_with (go_at_call 84; with_reducible refine Calls.mono (HN.out _ ?h0) ?_)
  case h0 => exact (Below.refl _ _).alloc (Nat.le_refl _) _
  rintro e w1 ⟨A, m, cq, rfl, hle, hb1, hx⟩
  have hb1 := bnext ((Below.refl w.heap.size w).alloc (Nat.le_refl _) _) hb1
  clear HN
  obtain ⟨hl, hm, b, off, hA, hc⟩ := hx
  go_wp2_with fail
  go_loopw [6] (fun i wr => ∃ k : Nat, k ≤ m ∧ i = .int .i64 k ∧ Hid (needOf n (r.needs.drop k) = needOf n r.needs) ∧ Below w1.heap.size w1 wr) (fun i _ => m - (intOf i).toNat)
  case atStart => exact ⟨0, Nat.zero_le _, rfl, rfl, Below.refl _ _⟩
  case round =>
    obtain ⟨k, hk, rfl, hi, hb⟩ := hrel
    by_cases hlt : k < m
    · obtain rfl := hA (by omega)
      have hkl : k < r.needs.length := by omega
      have c0 := bcell hb (hc k hkl).1
      have c1 := bcell hb (hc k hkl).2
      have hi' := hi.out
      rw [dropStep hkl] at hi'
      clear hc hA hi
      generalize r.needs[k] = x at *
      obtain ⟨xp, xr⟩ := x
      rw [needOf_cons] at hi'
      dsimp only at *
      by_cases hq : xp = n
      · rw [if_pos hq] at hi'
        subst hq
        cases xr
        · have hfin : Hid (needOf xp r.needs = 1) := by rw [← hi']; rfl
          clear hi'
          go_wp2
          go_ret
          rw [hfin.out]; exact ⟨rfl, bnext hb1 hb⟩
        · have hfin : Hid (needOf xp r.needs = 2) := by rw [← hi']; rfl
          clear hi'
          go_wp2
          go_ret
          rw [hfin.out]; exact ⟨rfl, bnext hb1 hb⟩
      · rw [if_neg hq] at hi'
        have hfin := Lib.hid hi'
        clear hi'
        go_wp2
        go_roundw
        case rel => exact ⟨k + 1, by omega, by go_num, hfin, hb⟩
        case measure => simp [intOf]; omega
    · have hfin : Hid (needOf n r.needs = 0) := by rw [← hi.out, dropEnd (by omega)]; rfl
      clear hi hc hA
      go_wp2
      go_ret
      rw [hfin.out]; exact ⟨rfl, bnext hb1 hb⟩
end Go.Proofs.Ytmoccpbiogdbgaa
