/-
  The walks of layout.fresh and layout.may.
-/
import Derived.Test.YtmoccpbiogdbgaaW8
import Derived.Test.YtmoccpbiogdbgaaSpec3
import Derived.WalkSpells
namespace Go.Proofs.Ytmoccpbiogdbgaa
open Go.RowKit Go.Shelf

theorem grown_of_below' {w w1 : World} (h : Below w.heap.size w w1) (row : Option Nat) : w.grownBy w1 row := ⟨h.os, h.tape, h.output, h.size, fun i hi _ => h.block i hi⟩
theorem gthen {w w1 w2 : World} {row : Option Nat} (h : w.grownBy w1 row) (k : w1.grownBy w2 row) : w.grownBy w2 row :=
  ⟨k.os.trans h.os, k.tape.trans h.tape, k.output.trans h.output, Nat.le_trans h.size k.size, fun i hi hr => (k.block i (Nat.lt_of_lt_of_le hi h.size) hr).trans (h.block i hi hr)⟩
/-- What kept all but one block that is new keeps what was there. -/
theorem below_of_grown {w w1 w2 : World} {r : Nat} (h : Below w.heap.size w w1) (hr : w.heap.size ≤ r) (k : w1.grownBy w2 (some r)) : Below w.heap.size w w2 :=
  h.trans ⟨k.os, k.tape, k.output, k.size, fun i hi => k.block i (Nat.lt_of_lt_of_le hi h.size) (fun e => by cases e; omega)⟩

set_option maxRecDepth 10000 in
set_option maxHeartbeats 400000 in
theorem fresh_no (B r : Nat) (names : List ByteArray) (s : ByteArray) (v : Value) (w : World) (hc : w.cell? ⟨B, 4, none⟩ = some (.map (some r))) (hn : HasNames w r names) (hs : hasS s names = true) :
    Calls Try.prog 157 #[.pointer (some ⟨B, 0, none⟩), .string s, v] w (RetQ (.bool false) w) := by
  obtain ⟨u, hu⟩ := run_lookup_name (P := Try.prog) (T := 190) Try.underlying190 Try.underlying9 (z := .nilIface) (fun w => by kernel_rfl) hn s
  rw [hs] at hu
  clear hn hs
  go_enter Try.func157, Try.ntmps157
  go_wp2
  go_ret
  exact ⟨rfl, rfl⟩

set_option maxRecDepth 10000 in
set_option maxHeartbeats 400000 in
theorem fresh_yes (B r : Nat) (names : List ByteArray) (s : ByteArray) (v : Value) (w : World) (hc : w.cell? ⟨B, 4, none⟩ = some (.map (some r))) (hn : HasNames w r names) (hs : hasS s names = false) :
    Calls Try.prog 157 #[.pointer (some ⟨B, 0, none⟩), .string s, v] w fun e w' => e = .returned (.bool true) ∧ HasNames w' r (names ++ [s]) ∧ w.grownBy w' (some r) := by
  obtain ⟨u, hu⟩ := run_lookup_name (P := Try.prog) (T := 190) Try.underlying190 Try.underlying9 (z := .nilIface) (fun w => by kernel_rfl) hn s
  obtain ⟨w1, hup, h1, h2, h3⟩ := run_update_name (P := Try.prog) (T := 190) Try.underlying190 Try.underlying9 hn s hs v
  rw [hs] at hu
  have H1 := Lib.hid h1
  have H2 := Lib.hid h2
  clear hn hs h1 h2 h3
  go_enter Try.func157, Try.ntmps157
  go_wp2
  go_ret
  exact ⟨rfl, H1.out, H2.out⟩

set_option maxRecDepth 10000 in
set_option maxHeartbeats 1000000 in
theorem may04_any (n : Int) (A : Option Addr) (m c : Nat) (xs : List Nd) (w : World) (hx : RNds w A m xs) :
    Calls Try.prog 159 #[.slice A m c, .int .i64 n] w (RetB (mayN n xs) w) := by
  obtain ⟨hl, hm, b, off, hA, hc⟩ := hx
  go_enter Try.func159, Try.ntmps159
  go_wp2
  go_loopw [9] (fun i wr => ∃ k : Nat, k ≤ m ∧ k ≤ 16 ∧ i = .int .i64 k ∧ Hid ((xs.take k).all (ndIn n) = true) ∧ Below w.heap.size w wr) (fun i _ => m - (intOf i).toNat)
  case atStart => exact ⟨0, Nat.zero_le _, by omega, rfl, rfl, Below.refl _ _⟩
  case round =>
    obtain ⟨k, hk, hk', rfl, hi, hb⟩ := hrel
    by_cases hlt : k < m
    · obtain rfl := hA (by omega)
      have hkl : k < xs.length := by omega
      have c0 := bcell hb (hc k hkl).1
      have c1 := bcell hb (hc k hkl).2
      have hz := hb.size
      by_cases h16 : 16 ≤ k
      · have hf : Hid (mayN n xs = false) := by simp only [mayN, Hid, Bool.and_eq_false_iff]; left; simp; omega
        clear hi hc hA
        generalize xs[k] = x at *
        go_wp2
        go_ret
        rw [hf.out]; exact ⟨rfl, hb.trans (((Below.refl wr.heap.size wr).alloc (Nat.le_refl _) _).mono hz)⟩
      · have ht := takeStep hkl
        have HT := Lib.hid ht
        have hmem : xs[k] ∈ xs := List.getElem_mem _
        clear hc hA ht
        generalize xs[k] = x at *
        have HB := Lib.hid (fun (W : World) (h : W.cell? ⟨wr.heap.size + 1, 0, none⟩ = some (.int .i64 x.pt)) => below_any n (some ⟨wr.heap.size + 1, 0, none⟩) 1 1 [x.pt] W
          ⟨rfl, by omega, wr.heap.size + 1, 0, fun _ => rfl, fun i hi => by simp at hi; subst hi; exact h⟩)
        have hinx : inR n [x.pt] = ndIn n x := by simp [inR, ndIn]
        rw [hinx] at HB
        cases hin : ndIn n x
        all_goals rw [hin] at HB
        · have hf : Hid (mayN n xs = false) := by
            simp only [mayN, Hid, Bool.and_eq_false_iff]; right
            rw [List.all_eq_false]; exact ⟨x, hmem, by simp only [ndIn] at hin; simp [hin]⟩
          clear hi HT hin hmem hinx
          go_wp2_with (go_at_call 158; refine Calls.mono (HB.out _ ?h0) ?_)
          case h0 => go_simp
          rintro e w1 ⟨rfl, rfl⟩
          go_wp2
          go_ret
          rw [hf.out]; exact ⟨rfl, hb.trans ((((Below.refl wr.heap.size wr).alloc (Nat.le_refl _) _).alloc (by simp) _).mono hz)⟩
        · have hf : Hid ((xs.take (k + 1)).all (ndIn n) = true) := by rw [HT.out]; have := hi.out; simp only [Hid, List.all_append, this]; simp [hin]
          clear hi HT hin hmem hinx
          go_wp2_with (go_at_call 158; refine Calls.mono (HB.out _ ?h0) ?_)
          case h0 => go_simp
          rintro e w1 ⟨rfl, rfl⟩
          go_wp2
          go_roundw
          case rel => exact ⟨k + 1, by omega, by omega, by go_num, hf, hb.trans ((((Below.refl wr.heap.size wr).alloc (Nat.le_refl _) _).alloc (by simp) _).mono hz)⟩
          case measure => simp [intOf]; omega
    · have hf : Hid (mayN n xs = true) := by
        have := hi.out
        rw [List.take_of_length_le (by omega)] at this
        simp only [mayN, Hid, Bool.and_eq_true]; exact ⟨by simp; omega, this⟩
      clear hi hc hA
      go_wp2
      go_ret
      rw [hf.out]; exact ⟨rfl, hb⟩
end Go.Proofs.Ytmoccpbiogdbgaa
