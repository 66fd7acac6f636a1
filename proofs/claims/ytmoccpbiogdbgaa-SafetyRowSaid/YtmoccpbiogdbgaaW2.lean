/-
  The walks of layer 4 that only read: ranges of numbers, places of texts.
-/
import Derived.Test.YtmoccpbiogdbgaaW1
namespace Go.Proofs.Ytmoccpbiogdbgaa
open Go.RowKit

set_option maxHeartbeats 400000 in
theorem below_any (n : Int) (A : Option Addr) (m c : Nat) (xs : List Int) (w : World) (hx : RInts w A m xs) :
    Calls Try.prog 158 #[.int .i64 n, .slice A m c] w (RetQ (.bool (inR n xs)) w) := by
  obtain ⟨hl, hm, b, off, hA, hc⟩ := hx
  go_enter Try.func158, Try.ntmps158
  go_wp2
  go_loop [9] (fun i => ∃ k : Nat, k ≤ m ∧ i = .int .i64 k ∧ Hid (inR n (xs.drop k) = inR n xs)) (fun i => m - (intOf i).toNat)
  case atStart => exact ⟨0, Nat.zero_le _, rfl, by simp [Hid]⟩
  case round =>
    obtain ⟨k, hk, rfl, hi⟩ := hrel
    by_cases hlt : k < m
    · obtain rfl := hA (by omega)
      have c0 := hc k (by omega)
      have H := Lib.hid hc
      clear hc hA
      have hi' := hi.out
      rw [dropStep (by omega)] at hi'
      generalize xs[k] = x at *
      by_cases h0 : x < 0
      · have hf : inR n xs = false := by rw [← hi']; simp [inR]; omega
        have HF := Lib.hid hf
        clear hf hi hi'
        go_wp2
        go_ret
        rw [HF.out]; exact ⟨rfl, rfl⟩
      · by_cases h1 : n ≤ x
        · have hf : inR n xs = false := by rw [← hi']; simp [inR]; omega
          have HF := Lib.hid hf
          clear hf hi hi'
          go_wp2
          go_ret
          rw [HF.out]; exact ⟨rfl, rfl⟩
        · have hf : Hid (inR n (xs.drop (k + 1)) = inR n xs) := by rw [← hi']; simp [inR, Hid]; omega
          clear hi hi'
          go_wp2
          go_round
          case rel => exact ⟨k + 1, by omega, by go_num, hf⟩
          case measure => simp [intOf]; omega
    · have hf : inR n xs = true := by rw [← hi.out, dropEnd (by omega)]; rfl
      have HF := Lib.hid hf
      clear hf hi
      go_wp2
      go_ret
      rw [HF.out]; exact ⟨rfl, rfl⟩

set_option maxHeartbeats 400000 in
theorem find_any (A : Option Addr) (m c : Nat) (xs : List ByteArray) (s : ByteArray) (w : World) (hx : RStrs w A m xs) :
    Calls Try.prog 125 #[.slice A m c, .string s] w (RetQ (.int .i64 (findFrom s xs 0)) w) := by
  obtain ⟨hl, hm, _, b, off, hA, hc⟩ := hx
  go_enter Try.func125, Try.ntmps125
  go_wp2
  go_loop [5] (fun i => ∃ k : Nat, k ≤ m ∧ i = .int .i64 k ∧ Hid (findFrom s (xs.drop k) k = findFrom s xs 0)) (fun i => m - (intOf i).toNat)
  case atStart => exact ⟨0, Nat.zero_le _, rfl, by simp [Hid]⟩
  case round =>
    obtain ⟨k, hk, rfl, hi⟩ := hrel
    by_cases hlt : k < m
    · obtain rfl := hA (by omega)
      have c0 := hc k (by omega)
      have hi' := hi.out
      rw [dropStep (by omega)] at hi'
      clear hc hA hi
      generalize xs[k] = x at *
      cases h0 : (x.toList == s.toList)
      · have hf : Hid (findFrom s (xs.drop (k + 1)) (k + 1) = findFrom s xs 0) := by rw [← hi']; simp [findFrom, h0, Hid]
        clear hi'
        go_wp2
        go_round
        case rel => exact ⟨k + 1, by omega, by go_num, hf⟩
        case measure => simp [intOf]; omega
      · have hf : Hid (findFrom s xs 0 = k) := by rw [← hi']; simp [findFrom, h0, Hid]
        clear hi'
        go_wp2
        go_ret
        rw [hf.out]; exact ⟨rfl, rfl⟩
    · have hf : Hid (findFrom s xs 0 = -1) := by rw [← hi.out, dropEnd (by omega)]; simp [findFrom, Hid]
      clear hi
      go_wp2
      go_ret
      rw [hf.out]; exact ⟨rfl, rfl⟩

set_option maxHeartbeats 400000 in
theorem in04_any (n : Int) (A : Option Addr) (m c : Nat) (xs : List Int) (w : World) (hx : RInts w A m xs) :
    Calls Try.prog 126 #[.slice A m c, .int .i64 n] w (RetQ (.bool (inB n xs)) w) := by
  obtain ⟨hl, hm, b, off, hA, hc⟩ := hx
  go_enter Try.func126, Try.ntmps126
  go_wp2
  go_loop [5] (fun i => ∃ k : Nat, k ≤ m ∧ k ≤ 17 ∧ i = .int .i64 k ∧ Hid (inR n (xs.take k) = true)) (fun i => m - (intOf i).toNat)
  case atStart => exact ⟨0, Nat.zero_le _, by omega, rfl, by simp [Hid, inR]⟩
  case round =>
    obtain ⟨k, hk, hk', rfl, hi⟩ := hrel
    by_cases hlt : k < m
    · by_cases hlt' : k < 17
      · obtain rfl := hA (by omega)
        have c0 := hc k (by omega)
        have ht := takeStep (xs := xs) (k := k) (by omega)
        clear hc hA
        have hmem : xs[k] ∈ xs := List.getElem_mem _
        generalize xs[k] = x at *
        have HT := Lib.hid ht
        clear ht
        by_cases h0 : x < 0
        · have hf : Hid (inB n xs = false) := by
            simp only [inB, inR, Hid, Bool.and_eq_false_iff]; right
            rw [List.all_eq_false]; exact ⟨x, hmem, by simp; omega⟩
          clear hi
          go_wp2
          go_ret
          rw [hf.out]; exact ⟨rfl, rfl⟩
        · by_cases h1 : n ≤ x
          · have hf : Hid (inB n xs = false) := by
              simp only [inB, inR, Hid, Bool.and_eq_false_iff]; right
              rw [List.all_eq_false]; exact ⟨x, hmem, by simp; omega⟩
            clear hi
            go_wp2
            go_ret
            rw [hf.out]; exact ⟨rfl, rfl⟩
          · have hf : Hid (inR n (xs.take (k + 1)) = true) := by
              rw [HT.out]; have := hi.out; simp only [inR, Hid, List.all_append]
              simp [inR] at this ⊢
              exact ⟨this, by omega, by omega⟩
            clear hi
            go_wp2
            go_round
            case rel => exact ⟨k + 1, by omega, by omega, by go_num, hf⟩
            case measure => simp [intOf]; omega
      · have hf : Hid (inB n xs = false) := by simp only [inB, Hid, Bool.and_eq_false_iff]; left; simp; omega
        clear hi hc hA
        go_wp2
        go_ret
        rw [hf.out]; exact ⟨by simp; omega, rfl⟩
    · have hf : Hid (inB n xs = decide (m ≤ 16)) := by
        have := hi.out
        rw [List.take_of_length_le (by omega)] at this
        simp [inB, this, hl, Hid]
      clear hi hc hA
      go_wp2
      go_ret
      rw [hf.out]; exact ⟨rb (by rw [Bool.eq_iff_iff]; simp; omega), rfl⟩

set_option maxHeartbeats 400000 in
theorem count05_any (A : Option Addr) (m c : Nat) (xs : List Int) (n : Int) (w : World) (hx : RInts w A m xs) :
    Calls Try.prog 129 #[.slice A m c, .int .i64 n] w (RetQ (.int .i64 (cntI n xs)) w) := by
  obtain ⟨hl, hm, b, off, hA, hc⟩ := hx
  have hcn := cntI_le n xs
  go_enter Try.func129, Try.ntmps129
  go_wp2
  go_loop [5, 6] (fun q i => ∃ k p : Nat, k ≤ m ∧ i = .int .i64 k ∧ q = .int .i64 p ∧ Hid (p + cntI n (xs.drop k) = cntI n xs)) (fun _ i => m - (intOf i).toNat)
  case atStart => exact ⟨0, 0, Nat.zero_le _, rfl, rfl, by simp [Hid]⟩
  case round =>
    obtain ⟨k, p, hk, rfl, rfl, hi⟩ := hrel
    by_cases hlt : k < m
    · obtain rfl := hA (by omega)
      have c0 := hc k (by omega)
      have hi' := hi.out
      rw [dropStep (by omega)] at hi'
      clear hc hA hi
      generalize xs[k] = x at *
      have hp : p ≤ 140737488355328 := by omega
      cases h0 : (x == n)
      · have hf : Hid (p + cntI n (xs.drop (k + 1)) = cntI n xs) := by rw [← hi']; simp [cntI, h0, Hid]
        clear hi' hcn
        go_wp2
        go_round
        case rel => exact ⟨k + 1, p, by omega, by go_num, rfl, hf⟩
        case measure => simp [intOf]; omega
      · have hf : Hid (p + 1 + cntI n (xs.drop (k + 1)) = cntI n xs) := by rw [← hi']; simp [cntI, h0, Hid]; omega
        clear hi' hcn
        go_wp2
        go_round
        case rel => exact ⟨k + 1, p + 1, by omega, by go_num, by go_num, hf⟩
        case measure => simp [intOf]; omega
    · have hf : Hid (cntI n xs = p) := by have := hi.out; rw [dropEnd (by omega)] at this; simp [cntI] at this; exact this.symm
      clear hi hc hA hcn
      go_wp2
      go_ret
      rw [hf.out]; exact ⟨rfl, rfl⟩

theorem elem_of {P : Program} {t e : TypeId} {z : Value} {size bytes : Nat} (ht : P.underlying t = some (.slice e)) (h : (P.info? e).map (fun i => (i.zero, i.size, i.bytes)) = some (some z, size, bytes)) (hz : z.cells.size = size) (hs : 0 < size) : Elem P t e size bytes := by
  obtain ⟨i, hi, h1, h2, h3⟩ := info_parts h
  exact ⟨i, z, ht, hi, h1, h2, h3, hz, hs⟩
theorem elemInt : Elem Try.prog 61 3 1 8 := elem_of (z := .int .i64 0) Try.underlying61 (by kernel_rfl) rfl (by decide)

set_option maxHeartbeats 400000 in
theorem points05_any (A : Option Addr) (m c : Nat) (xs : List Nd) (w : World) (hx : RNds w A m xs) (hb17 : m ≤ 17592186044416) :
    Calls Try.prog 128 #[.slice A m c] w (RetS (fun W A n => RInts W A n (ptsOf xs)) w) := by
  obtain ⟨hl, hm, b, off, hA, hc⟩ := hx
  go_enter Try.func128, Try.ntmps128
  go_wp2
  go_loopw [3, 4] (fun v i wr => ∃ k : Nat, k ≤ m ∧ i = .int .i64 k ∧ Hid (wr.ownsRow w.heap.size 3 1 v k ((ptsOf (xs.take k)).map (Value.int .i64))) ∧ Below w.heap.size w wr) (fun _ i _ => m - (intOf i).toNat)
  case atStart => exact ⟨0, Nat.zero_le _, rfl, World.ownsRow_nil _ _ _ _, Below.refl _ _⟩
  case round =>
    obtain ⟨k, hk, rfl, hown, hb⟩ := hrel
    by_cases hlt : k < m
    · obtain rfl := hA (by omega)
      have c0 := bcell hb (hc k (by omega)).1
      have HT : Hid (ptsOf (xs.take (k + 1)) = ptsOf (xs.take k) ++ [xs[k].pt]) := by rw [takeStep (by omega)]; unfold ptsOf; rw [List.map_append]; rfl
      have hz := hb.size
      clear hc hA
      generalize xs[k].pt = x at *
      obtain ⟨A1, c1, rfl⟩ := own_form hown.out
      go_wp2_with (at_builtin; go_must (refine wpList_app1 rfl _ _ _ rfl elemInt w.heap.size _ k _ rfl (hown.out.alloc _) 1 ⟨wr.heap.size, 0, none⟩ (.int .i64 x) rfl ?c1 rfl ?c3 ?c4 ?c2 ?_))
      case c1 => go_simp
      case c2 => simp; omega
      case c3 => omega
      case c4 => omega
      intro A2 c2 w1 hown1 hgrow hb1
      have hb2 := ((Below.alloc hb hz _).trans hb1)
      clear hb1 hgrow hown
      have hown2 := Lib.hid hown1
      clear hown1
      go_wp2
      go_roundw
      case rel => exact ⟨k + 1, by omega, by go_num, by rw [HT.out, List.map_append]; exact hown2.out, hb2⟩
      case measure => simp [intOf]; omega
    · obtain ⟨A', c', rfl⟩ := own_form hown.out
      obtain rfl : k = m := by omega
      have hI := ints_of_own hown.out (by omega)
      rw [List.take_of_length_le (by omega)] at hI
      have HI := Lib.hid hI
      clear hI hc hA
      go_wp2
      go_ret
      obtain ⟨A'', c'', he, hle, hr⟩ := HI.out
      cases he
      exact ⟨_, _, _, rfl, hle, hb, hr⟩
end Go.Proofs.Ytmoccpbiogdbgaa
