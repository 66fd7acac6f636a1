/-
  The walks of the reference's names and of the points of needs.
-/
import Derived.Test.YtmoccpbiogdbgaaW10
namespace Go.Proofs.Ytmoccpbiogdbgaa
open Go.RowKit Go.Shelf

set_option maxHeartbeats 400000 in
theorem refright_any (s : ByteArray) (w : World) (hs : s.size ≤ 140737488355328) : Calls Try.prog 124 #[.string s] w (RetB (rightB s) w) := by
  go_enter Try.func124, Try.ntmps124
  go_wp2
  go_loopw [3] (fun n w' => ∃ (pos b k : Nat), w' = w.iter s pos ∧ n = .int .i64 k ∧ Hid (rightGo s b pos k = rightB s) ∧ s.size ≤ pos + b ∧ k ≤ pos ∧ k ≤ s.size) (fun _ w' => s.size - w'.iterPos w.heap.size)
  case atStart => exact ⟨0, s.size, 0, rfl, rfl, rfl, by omega, by omega, by omega⟩
  case round =>
    obtain ⟨pos, b, k, rfl, rfl, hc, hb, hk, ht⟩ := hrel
    by_cases hp : pos < s.size
    · have hnx : ∀ ty, (Instr.next (.pointer (some ⟨w.heap.size, 0, none⟩)) true ty).run Try.prog (w.iter s pos) = _ := fun ty => run_next_any w s pos ty hp
      cases hsg : signB ↑(Utf8.decode s pos).1
      · go_wp2_with (go_at_call 168; refine (refsign_any _ _).mono ?_; rintro e w' ⟨rfl, rfl⟩)
        go_ret
        have h : rightB s = false := by
          rw [← hc.out]
          cases b with
          | zero => omega
          | succ b => simp [rightGo, hp, hsg]
        rw [h]
        exact ⟨rfl, (Below.refl _ _).alloc (Nat.le_refl _) _⟩
      · go_wp2_with (go_at_call 168; refine (refsign_any _ _).mono ?_; rintro e w' ⟨rfl, rfl⟩)
        have hw := width_pos s pos hp
        go_roundw
        case rel =>
          cases b with
          | zero => omega
          | succ b => exact ⟨pos + (Utf8.decode s pos).2, b, k + 1, rfl, by go_num, by rw [← hc.out]; simp [Hid, rightGo, hp, hsg], by omega, by omega, by omega⟩
        case measure => simp; omega
    · have hnx : ∀ ty, (Instr.next (.pointer (some ⟨w.heap.size, 0, none⟩)) true ty).run Try.prog (w.iter s pos) = _ := fun ty => run_next_end w s pos ty hp
      have h := hc.out
      rw [rightGo_end s b pos k hp] at h
      have H := Lib.hid h
      clear h hc
      go_wp2
      all_goals go_ret
      all_goals rw [← H.out]
      all_goals refine ⟨?_, (Below.refl _ _).alloc (Nat.le_refl _) _⟩
      all_goals refine congrArg (fun b => Ending.returned (.bool b)) ?_
      all_goals (rw [Bool.eq_iff_iff]; simp; try omega)
set_option maxHeartbeats 400000 in
theorem points04_any (A : Option Addr) (m c : Nat) (xs : List Nd) (w : World) (hx : RNds w A m xs) :
    Calls Try.prog 127 #[.slice A m c] w (RetS (fun W A n => RInts W A n (ptsOf (xs.take 17))) w) := by
  obtain ⟨hl, hm, b, off, hA, hc⟩ := hx
  go_enter Try.func127, Try.ntmps127
  go_wp2
  go_loopw [3, 4] (fun v i wr => ∃ k : Nat, k ≤ m ∧ k ≤ 17 ∧ i = .int .i64 k ∧ Hid (wr.ownsRow w.heap.size 3 1 v k ((ptsOf (xs.take k)).map (Value.int .i64))) ∧ Below w.heap.size w wr) (fun _ i _ => m - (intOf i).toNat)
  case atStart => exact ⟨0, Nat.zero_le _, by omega, rfl, World.ownsRow_nil _ _ _ _, Below.refl _ _⟩
  case round =>
    obtain ⟨k, hk, hk17, rfl, hown, hb⟩ := hrel
    by_cases hlt : k < m ∧ k < 17
    · obtain ⟨hlt, hlt'⟩ := hlt
      obtain rfl := hA (by omega)
      have c0 := bcell hb (hc k (by omega)).1
      have HT : Hid (ptsOf (xs.take (k + 1)) = ptsOf (xs.take k) ++ [xs[k].pt]) := by rw [takeStep (by omega)]; unfold ptsOf; rw [List.map_append]; rfl
      have hz := hb.size
      clear hc hA
      generalize xs[k].pt = x at *
      obtain ⟨A1, c1, rfl⟩ := own_form hown.out
      go_wp2_with (at_builtin; go_must (refine wpList_app1 rfl _ _ _ rfl elemInt w.heap.size _ k _ rfl (hown.out.alloc _) 1 ⟨wr.heap.size, 0, none⟩ (.int .i64 x) rfl ?c1 rfl ?c3 ?c4 ?c2 ?_))
      case c1 => go_simp
      case c2 => simp; omega
      case c3 => omega
      case c4 => omega
      intro A2 c2 w1 hown1 hgrow hb1
      have hb2 := ((Below.alloc hb hz _).trans hb1)
      clear hb1 hgrow hown
      have hown2 := Lib.hid hown1
      clear hown1
      go_wp2
      go_roundw
      case rel => exact ⟨k + 1, by omega, by omega, by go_num, by rw [HT.out, List.map_append]; exact hown2.out, hb2⟩
      case measure => simp [intOf]; omega
    · obtain ⟨A', c', rfl⟩ := own_form hown.out
      have hI := ints_of_own hown.out (by omega)
      have he : xs.take k = xs.take 17 := by
        by_cases h : k < m
        · have : k = 17 := by omega
          rw [this]
        · rw [List.take_of_length_le (by omega), List.take_of_length_le (by omega)]
      rw [he] at hI
      have HI := Lib.hid hI
      clear hI hc hA he
      have hor : ¬ k < m ∨ ¬ k < 17 := by omega
      rcases hor with h | h
      all_goals go_wp2
      all_goals go_ret
      all_goals (
      obtain ⟨A'', c'', he, hle, hr⟩ := HI.out
      cases he
      exact ⟨_, _, _, rfl, hle, hb, hr⟩)
end Go.Proofs.Ytmoccpbiogdbgaa
