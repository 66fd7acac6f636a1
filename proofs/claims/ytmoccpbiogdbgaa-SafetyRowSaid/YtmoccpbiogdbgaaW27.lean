/-
  The walk of Weight: some number.
-/
import Derived.Test.YtmoccpbiogdbgaaW2
import Derived.Deep.CutBlock
import Derived.Handy
namespace Go.Proofs.Ytmoccpbiogdbgaa
open Go.RowKit
def SomeInt (w : World) : Ending → World → Prop := fun e w' => ∃ z : Int, e = .returned (.int .i64 z) ∧ Below w.heap.size w w'
set_option maxRecDepth 10000 in
set_option maxHeartbeats 2000000 in
theorem weight_any (s p g rr : Hd) (l : Ly) (top : Int) (w : World) (hl : RLy w s p g rr l) :
    Calls Try.prog 22 #[lyv s p g rr, .int .i64 top] w (SomeInt w) := by
  obtain ⟨_, h1, h2, h3, h4⟩ := hl
  have m1 := h1.2.1
  have m2 := h2.2.1
  have m3 := h3.2.1
  have m4 := h4.2.1
  have l1 := h1.1
  have l2 := h2.1
  have l3 := h3.1
  have l4 := h4.1
  unfold lyv Hd.v at *
  obtain ⟨sA, sn, sc⟩ := s
  obtain ⟨pA, pn, pc⟩ := p
  obtain ⟨gA, gn, gc⟩ := g
  obtain ⟨rA, rn, rc⟩ := rr
  dsimp only at *
  go_enter Try.func22, Try.ntmps22
  go_upto_region 1 with (fail)
  refine name_box (fun W hbW hlt hbox => ?_)
  have B0 : W.cell? ⟨w.heap.size, 0, none⟩ = some (.slice sA sn sc) := hbox 0 _ rfl
  have B1 : W.cell? ⟨w.heap.size, 1, none⟩ = some (.slice pA pn pc) := hbox 1 _ rfl
  have B2 : W.cell? ⟨w.heap.size, 2, none⟩ = some (.slice gA gn gc) := hbox 2 _ rfl
  have B3 : W.cell? ⟨w.heap.size, 3, none⟩ = some (.slice rA rn rc) := hbox 3 _ rfl
  clear hbox
  obtain ⟨z0, hz0⟩ : ∃ z : Int, z = 0 := ⟨_, rfl⟩
  go_upto_block 0 with (fail)
  go_cut [5] (fun n wx => ∃ z : Int, n = .int .i64 z ∧ Below W.heap.size W wx)
  case first =>
    go_wp2_with fail
    go_loopw [5, 6] (fun n i wr => ∃ (k : Nat) (z : Int), k ≤ sn ∧ i = .int .i64 k ∧ n = .int .i64 z ∧ Below W.heap.size W wr) (fun _ i _ => sn - (intOf i).toNat)
    case atStart => exact ⟨0, _, Nat.zero_le _, rfl, rfl, Below.refl _ _⟩
    case round =>
      obtain ⟨k, z, hk, rfl, rfl, hb⟩ := hrel
      have c0 := bcell hb B0
      have hlt2 := Nat.lt_of_lt_of_le hlt hb.size
      by_cases hkn : k < sn
      · by_cases hz : z ≤ top
        · have hy := h1
          obtain ⟨_, _, _, b, off, hA, hc⟩ := hy
          obtain rfl := hA (by omega)
          have e0 := bcell (bnext hbW hb) (hc k (by omega))
          have s0 := h1.2.2.1 _ (List.getElem_mem (show k < l.sections.length by omega))
          generalize l.sections[k] = x at *
          clear hc hA
          go_wp2
          all_goals
            go_roundw
            case rel => exact ⟨k + 1, _, by omega, by go_num, rfl, hb⟩
            case measure => simp [intOf]; omega
        · have hz2 : decide (z ≤ top) = false := by simpa using hz
          go_wp2
          go_meet
          exact ⟨_, rfl, hb⟩
      · go_wp2
        go_meet
        exact ⟨_, rfl, hb⟩
  case rest =>
    obtain ⟨z1, rfl, hbx⟩ := hcut
    go_upto_block 2 with (fail)
    go_cut [5] (fun n wx => ∃ z : Int, n = .int .i64 z ∧ Below W.heap.size W wx)
    case first =>
      go_wp2_with fail
      go_loopw [5, 7] (fun n i wr => ∃ (k : Nat) (z : Int), k ≤ pn ∧ i = .int .i64 k ∧ n = .int .i64 z ∧ Below W.heap.size W wr) (fun _ i _ => pn - (intOf i).toNat)
      case atStart => exact ⟨0, _, Nat.zero_le _, rfl, rfl, hbx⟩
      case round =>
        obtain ⟨k, z, hk, rfl, rfl, hb⟩ := hrel
        have c1 := bcell hb B1
        have hlt2 := Nat.lt_of_lt_of_le hlt hb.size
        by_cases hkn : k < pn
        · by_cases hz : z ≤ top
          · have hy := h2
            obtain ⟨_, _, _, b, off, hA, hc⟩ := hy
            obtain rfl := hA (by omega)
            have e0 := bcell (bnext hbW hb) (hc k (by omega)).1
            have e1 := bcell (bnext hbW hb) (hc k (by omega)).2
            have s0 := h2.2.2.1 _ (List.getElem_mem (show k < l.points.length by omega))
            generalize l.points[k] = x at *
            clear hc hA
            go_wp2
            all_goals
              go_roundw
              case rel => exact ⟨k + 1, _, by omega, by go_num, rfl, hb⟩
              case measure => simp [intOf]; omega
          · have hz2 : decide (z ≤ top) = false := by simpa using hz
            go_wp2
            go_meet
            exact ⟨_, rfl, hb⟩
        · go_wp2
          go_meet
          exact ⟨_, rfl, hb⟩
    case rest =>
      obtain ⟨z2, rfl, hbx⟩ := hcut
      go_upto_block 4 with (fail)
      go_cut [5] (fun n wx => ∃ z : Int, n = .int .i64 z ∧ Below W.heap.size W wx)
      case first =>
        go_wp2_with fail
        go_loopw [5, 8] (fun n i wr => ∃ (k : Nat) (z : Int), k ≤ gn ∧ i = .int .i64 k ∧ n = .int .i64 z ∧ Below W.heap.size W wr) (fun _ i _ => gn - (intOf i).toNat)
        case atStart => exact ⟨0, _, Nat.zero_le _, rfl, rfl, hbx⟩
        case round =>
          obtain ⟨k, z, hk, rfl, rfl, hb⟩ := hrel
          have c2 := bcell hb B2
          have hlt2 := Nat.lt_of_lt_of_le hlt hb.size
          by_cases hkn : k < gn
          · by_cases hz : z ≤ top
            · have hy := h3
              obtain ⟨_, _, _, b, off, hA, hc⟩ := hy
              obtain rfl := hA (by omega)
              have e0 := bcell (bnext hbW hb) (hc k (by omega)).1
              have e1 := bcell (bnext hbW hb) (hc k (by omega)).2
              have s0 := h3.2.2.1 _ (List.getElem_mem (show k < l.signals.length by omega))
              generalize l.signals[k] = x at *
              clear hc hA
              go_wp2
              all_goals
                go_roundw
                case rel => exact ⟨k + 1, _, by omega, by go_num, rfl, hb⟩
                case measure => simp [intOf]; omega
            · have hz2 : decide (z ≤ top) = false := by simpa using hz
              go_wp2
              go_meet
              exact ⟨_, rfl, hb⟩
          · go_wp2
            go_meet
            exact ⟨_, rfl, hb⟩
      case rest =>
        obtain ⟨z3, rfl, hbx⟩ := hcut
        go_upto_block 6 with (fail)
        go_cut [5] (fun n wx => ∃ z : Int, n = .int .i64 z ∧ Below W.heap.size W wx)
        case first =>
          go_wp2_with fail
          go_loopw [5, 9] (fun n i wr => ∃ (k : Nat) (z : Int), k ≤ rn ∧ i = .int .i64 k ∧ n = .int .i64 z ∧ Below W.heap.size W wr) (fun _ i _ => rn - (intOf i).toNat)
          case atStart => exact ⟨0, _, Nat.zero_le _, rfl, rfl, hbx⟩
          case round =>
            obtain ⟨k, z, hk, rfl, rfl, hb⟩ := hrel
            have c3 := bcell hb B3
            have hlt2 := Nat.lt_of_lt_of_le hlt hb.size
            by_cases hkn : k < rn
            · by_cases hz : z ≤ top
              · have hy := h4
                obtain ⟨_, _, b, off, hA, hc⟩ := hy
                obtain rfl := hA (by omega)
                obtain ⟨p1, p2, p3, p4, hRt, e0, e1, e2, e3, e4, e5⟩ := hc k (by omega)
                have e0 := bcell (bnext hbW hb) e0
                have e1 := bcell (bnext hbW hb) e1
                have e2 := bcell (bnext hbW hb) e2
                have e3 := bcell (bnext hbW hb) e3
                have e4 := bcell (bnext hbW hb) e4
                have e5 := bcell (bnext hbW hb) e5
                unfold Hd.v at e2 e3 e4 e5
                have s0 := hRt.2.1
                have s1 := hRt.2.2.1.2.1
                have s2 := hRt.2.2.2.1.2.1
                have s3 := hRt.2.2.2.2.1.2.1
                have s4 := hRt.2.2.2.2.2.2.1
                clear hRt
                generalize l.routes[k] = x at *
                clear hc hA
                go_wp2
                all_goals
                  go_roundw
                  case rel => exact ⟨k + 1, _, by omega, by go_num, rfl, hb.alloc (by have := hb.size; omega) _⟩
                  case measure => simp [intOf]; omega
              · have hz2 : decide (z ≤ top) = false := by simpa using hz
                go_wp2
                go_meet
                exact ⟨_, rfl, hb⟩
            · go_wp2
              go_meet
              exact ⟨_, rfl, hb⟩
        case rest =>
          obtain ⟨z4, rfl, hbx⟩ := hcut
          go_wp2
          go_ret
          exact ⟨_, rfl, bnext hbW hbx⟩
end Go.Proofs.Ytmoccpbiogdbgaa
