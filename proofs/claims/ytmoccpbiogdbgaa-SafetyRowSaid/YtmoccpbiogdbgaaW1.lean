/-
  The walks of layer 3: characters and names.
-/
import Derived.Test.YtmoccpbiogdbgaaProg
import Derived.Test.YtmoccpbiogdbgaaSpec1
import Derived.Outline
import Derived.Deep.DeepCutAuto
import Derived.Deep.LoopGhost
import Derived.Deep.QuietTactic
import Derived.BigQuiet
import Derived.Deep.DeepMust
import Derived.Deep.DeepFit
namespace Go.Proofs.Ytmoccpbiogdbgaa
open Go.RowKit

/-- The call returns v; the world stays. -/
def RetQ (v : Value) (w : World) (e : Ending) (w' : World) : Prop := e = .returned v ∧ w = w'

set_option maxHeartbeats 400000 in
theorem sign_any (r : Int) (w : World) : Calls Try.prog 172 #[.int .i32 r] w (RetQ (.bool (signB r)) w) := by
  go_enter Try.func172, Try.ntmps172
  go_wp2
  all_goals go_ret
  all_goals refine ⟨?_, rfl⟩
  all_goals refine congrArg (fun b => Ending.returned (.bool b)) ?_
  all_goals simp_all [signB]
  all_goals omega

set_option maxHeartbeats 400000 in
theorem refsign_any (r : Int) (w : World) : Calls Try.prog 168 #[.int .i32 r] w (RetQ (.bool (signB r)) w) := by
  go_enter Try.func168, Try.ntmps168
  go_wp2
  all_goals go_ret
  all_goals refine ⟨?_, rfl⟩
  all_goals refine congrArg (fun b => Ending.returned (.bool b)) ?_
  all_goals (rw [Bool.eq_iff_iff]; simp [signB]; try omega)

set_option maxHeartbeats 400000 in
theorem right_any (s : ByteArray) (w : World) (hs : s.size ≤ 140737488355328) : Calls Try.prog 156 #[.string s] w (RetB (rightB s) w) := by
  go_enter Try.func156, Try.ntmps156
  go_wp2
  go_loopw [3] (fun n w' => ∃ (pos b k : Nat), w' = w.iter s pos ∧ n = .int .i64 k ∧ Hid (rightGo s b pos k = rightB s) ∧ s.size ≤ pos + b ∧ k ≤ pos ∧ k ≤ s.size) (fun _ w' => s.size - w'.iterPos w.heap.size)
  case atStart => exact ⟨0, s.size, 0, rfl, rfl, rfl, by omega, by omega, by omega⟩
  case round =>
    obtain ⟨pos, b, k, rfl, rfl, hc, hb, hk, ht⟩ := hrel
    by_cases hp : pos < s.size
    · have hnx : ∀ ty, (Instr.next (.pointer (some ⟨w.heap.size, 0, none⟩)) true ty).run Try.prog (w.iter s pos) = _ := fun ty => run_next_any w s pos ty hp
      cases hsg : signB ↑(Utf8.decode s pos).1
      · go_wp2_with (go_at_call 172; refine (sign_any _ _).mono ?_; rintro e w' ⟨rfl, rfl⟩)
        go_ret
        have h : rightB s = false := by
          rw [← hc.out]
          cases b with
          | zero => omega
          | succ b => simp [rightGo, hp, hsg]
        rw [h]
        exact ⟨rfl, (Below.refl _ _).alloc (Nat.le_refl _) _⟩
      · go_wp2_with (go_at_call 172; refine (sign_any _ _).mono ?_; rintro e w' ⟨rfl, rfl⟩)
        have hw := width_pos s pos hp
        go_roundw
        case rel =>
          cases b with
          | zero => omega
          | succ b => exact ⟨pos + (Utf8.decode s pos).2, b, k + 1, rfl, by go_num, by rw [← hc.out]; simp [Hid, rightGo, hp, hsg], by omega, by omega, by omega⟩
        case measure => simp; omega
    · have hnx : ∀ ty, (Instr.next (.pointer (some ⟨w.heap.size, 0, none⟩)) true ty).run Try.prog (w.iter s pos) = _ := fun ty => run_next_end w s pos ty hp
      have h := hc.out
      rw [rightGo_end s b pos k hp] at h
      have H := Lib.hid h
      clear h hc
      go_wp2
      all_goals go_ret
      all_goals rw [← H.out]
      all_goals refine ⟨?_, (Below.refl _ _).alloc (Nat.le_refl _) _⟩
      all_goals refine congrArg (fun b => Ending.returned (.bool b)) ?_
      all_goals (rw [Bool.eq_iff_iff]; simp; try omega)
end Go.Proofs.Ytmoccpbiogdbgaa
