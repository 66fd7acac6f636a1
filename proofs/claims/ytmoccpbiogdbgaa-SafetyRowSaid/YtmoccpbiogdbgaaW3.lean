/-
  The walks of layer 4 over a layout: its fullness, its names.
-/
import Derived.Test.YtmoccpbiogdbgaaW2
namespace Go.Proofs.Ytmoccpbiogdbgaa
open Go.RowKit

set_option maxHeartbeats 400000 in
theorem full_any (s p g r : Hd) (l : Ly) (w : World) (hx : RLy w s p g r l) :
    Calls Try.prog 122 #[lyv s p g r] w (RetB (fullB l) w) := by
  obtain ⟨_, ⟨h1, _⟩, ⟨h2, _⟩, ⟨h3, _⟩, ⟨h4, _⟩⟩ := hx
  have hf : Hid (fullB l = (decide (64 < s.n) || (decide (32 < p.n) || (decide (32 < g.n) || decide (64 < r.n))))) := by rw [← h1, ← h2, ← h3, ← h4]; rfl
  clear h1 h2 h3 h4
  unfold lyv Hd.v
  generalize s.n = sn at *
  generalize p.n = pn at *
  generalize g.n = gn at *
  generalize r.n = rn at *
  go_enter Try.func122, Try.ntmps122
  go_wp2
  all_goals go_ret
  all_goals rw [hf.out]
  all_goals refine ⟨rb ?_, (Below.refl _ _).alloc (Nat.le_refl _) _⟩
  all_goals (rw [Bool.eq_iff_iff]; simp; try omega)

theorem elemStr : Elem Try.prog 22 9 1 16 := elem_of (z := .string ⟨#[]⟩) Try.underlying22 (by kernel_rfl) rfl (by decide)
/-- Rows of texts of the call's own. -/
def OStrs (w : World) (base : Nat) (v : Value) (n : Nat) (xs : List ByteArray) : Prop := n = xs.length ∧ w.ownsRow base 9 1 v n (xs.map Value.string)
theorem OStrs.snoc {w : World} {base : Nat} {v : Value} {n : Nat} {xs : List ByteArray} {x : ByteArray} (hn : n = xs.length) (h : w.ownsRow base 9 1 v (n + 1) (xs.map Value.string ++ [.string x])) : OStrs w base v (n + 1) (xs ++ [x]) := by
  refine ⟨by simp [hn], ?_⟩
  rw [List.map_append]; exact h
theorem strs_of_own {w : World} {base : Nat} {v : Value} {n : Nat} {xs : List ByteArray} (h : OStrs w base v n xs) (hn : xs.length ≤ 140737488355328) (hs : ∀ s ∈ xs, s.size ≤ 140737488355328) :
    ∃ A c, v = .slice A n c ∧ n ≤ c ∧ RStrs w A n xs := by
  obtain ⟨rfl, h⟩ := h
  obtain ⟨A, c, rfl, hle, b, off, hA, hc⟩ := cell_of_own h
  exact ⟨A, c, rfl, hle, rfl, hn, hs, b, off, hA, fun i hi => hc i _ (by simp [hi])⟩

set_option maxHeartbeats 2000000 in
theorem names04_any (s p g r : Hd) (l : Ly) (w : World) (hx : RLy w s p g r l) (hs : l.sections.length ≤ 1000 ∧ l.points.length ≤ 1000 ∧ l.signals.length ≤ 1000 ∧ l.routes.length ≤ 1000) :
    Calls Try.prog 123 #[lyv s p g r] w (RetS (fun W A n => RStrs W A n (namesOf l)) w) := by
  obtain ⟨hok, hR1, hR2, hR3, hR4⟩ := hx
  obtain ⟨hs1, hs2, hs3, hs4⟩ := hs
  unfold lyv Hd.v
  go_enter Try.func123, Try.ntmps123
  go_upto_region 2 with (fail)
  refine name_box (fun W hbW hlt hbox => ?_)
  have B0 : W.cell? ⟨w.heap.size, 0, none⟩ = some (.slice s.A s.n s.c) := hbox 0 _ rfl
  have B1 : W.cell? ⟨w.heap.size, 1, none⟩ = some (.slice p.A p.n p.c) := hbox 1 _ rfl
  have B2 : W.cell? ⟨w.heap.size, 2, none⟩ = some (.slice g.A g.n g.c) := hbox 2 _ rfl
  have B3 : W.cell? ⟨w.heap.size, 3, none⟩ = some (.slice r.A r.n r.c) := hbox 3 _ rfl
  clear hbox
  have hn1 := hR1.1
  go_wp2_with (at_builtin; go_must (refine wpList_appAll rfl _ _ _ rfl elemStr W.heap.size _ 0 _ rfl (World.ownsRow_nil W _ _ _) _ _ _ (l.sections.map Value.string) rfl hok.1 ?c0 ?c1 ?c5 ?c3 ?c4 ?c2 ?_))
  case c0 => simp [hn1]
  case c1 =>
    obtain ⟨_, _, _, b, off, hA, hc⟩ := hR1
    refine ⟨b, off, hA, fun j u hj => ?_⟩
    have hj' : j < l.sections.length := by have := (List.getElem?_eq_some_iff.1 hj).1; simpa using this
    rw [bcell hbW (hc j hj')]
    simpa [hj'] using hj
  case c2 => exact Nat.le_refl _
  case c3 => omega
  case c4 => omega
  case c5 => intro u hu; obtain ⟨x, _, rfl⟩ := List.mem_map.1 hu; rfl
  intro A1 c1 w1 ho1 hg1 hb1
  have hw : Hid (OStrs w1 W.heap.size (.slice A1 s.n c1) s.n l.sections) := ⟨hn1.symm, by simpa using ho1⟩
  have hwB : Below W.heap.size W w1 := hb1
  clear ho1 hg1 hb1 B0
  go_wp2_with fail
  go_loopw [3, 4] (fun v i wr => ∃ k n : Nat, k ≤ p.n ∧ i = .int .i64 k ∧ Hid (OStrs wr W.heap.size v n (l.sections ++ (l.points.take k).map Pt.name)) ∧ Below W.heap.size W wr) (fun _ i _ => p.n - (intOf i).toNat)
  case atStart => exact ⟨0, _, Nat.zero_le _, rfl, by simpa using hw, hwB⟩
  case round =>
    obtain ⟨k, n, hk, rfl, hown, hb⟩ := hrel
    obtain ⟨A1, c1, rfl⟩ := own_form hown.out.2
    have hz := hb.size
    have b1 := bcell hb B1
    have b2 := bcell hb B2
    have b3 := bcell hb B3
    have hR := hR2.below (bnext hbW hb)
    have hlen := hR.1
    by_cases hlt : k < p.n
    · have hkl : k < l.points.length := by omega
      obtain ⟨b, off, HA, HC⟩ : ∃ b off, p.A = some ⟨b, off, none⟩ ∧ wr.cell? ⟨b, off + k * 2, none⟩ = some (.string (Pt.name (l.points[k]'hkl))) := by
        obtain ⟨_, _, _, b, off, hA, hc⟩ := hR
        exact ⟨b, off, hA (by omega), (hc k hkl).1⟩
      rw [HA] at b1
      have HT : Hid (l.sections ++ (l.points.take (k + 1)).map Pt.name = (l.sections ++ (l.points.take k).map Pt.name) ++ [Pt.name (l.points[k]'hkl)]) := by rw [takeStep hkl, List.map_append, ← List.append_assoc]; rfl
      have HL : n ≤ 5000 := by have := hown.out.1; simp at this; omega
      have HN := Lib.hid hown.out.1
      clear hR HA hR1 hR2 hR3 hR4 hok B1 B2 B3
      generalize l.sections ++ (l.points.take k).map Pt.name = XS at *
      generalize Pt.name (l.points[k]'hkl) = x at *
      go_wp2_with (at_builtin; go_must (refine wpList_app1 rfl _ _ _ rfl elemStr W.heap.size _ n _ rfl (World.ownsRow.alloc hown.out.2 _) 1 ⟨wr.heap.size, 0, none⟩ (.string x) rfl ?c1 rfl ?c3 ?c4 ?c2 ?_))
      case c1 => go_simp
      case c2 => simp; omega
      case c3 => omega
      case c4 => omega
      intro A2 c2 w1 hown1 hgrow hb1
      have hb2 := ((Below.alloc hb hz _).trans hb1)
      clear hb1 hgrow hown
      have hown2 := Lib.hid hown1
      clear hown1
      go_wp2
      go_roundw
      case rel => exact ⟨k + 1, n + 1, by omega, by go_num, by rw [HT.out]; exact OStrs.snoc HN.out hown2.out, hb2⟩
      case measure => simp [intOf]; omega
    · have hw : Hid (OStrs wr W.heap.size (.slice A1 n c1) n (l.sections ++ l.points.map Pt.name)) := by
        have := hown.out
        rw [List.take_of_length_le (by omega)] at this
        exact this
      have hwB := hb
      clear hR hown hlen
      go_wp2_with fail
      go_loopw [3, 5] (fun v i wr => ∃ k n : Nat, k ≤ g.n ∧ i = .int .i64 k ∧ Hid (OStrs wr W.heap.size v n (l.sections ++ l.points.map Pt.name ++ (l.signals.take k).map Pt.name)) ∧ Below W.heap.size W wr) (fun _ i _ => g.n - (intOf i).toNat)
      case atStart => exact ⟨0, _, Nat.zero_le _, rfl, by simpa using hw, hwB⟩
      case round =>
        obtain ⟨k, n, hk, rfl, hown, hb⟩ := hrel
        obtain ⟨A1, c1, rfl⟩ := own_form hown.out.2
        have hz := hb.size
        have b1 := bcell hb B1
        have b2 := bcell hb B2
        have b3 := bcell hb B3
        have hR := hR3.below (bnext hbW hb)
        have hlen := hR.1
        by_cases hlt : k < g.n
        · have hkl : k < l.signals.length := by omega
          obtain ⟨b, off, HA, HC⟩ : ∃ b off, g.A = some ⟨b, off, none⟩ ∧ wr.cell? ⟨b, off + k * 2, none⟩ = some (.string (Pt.name (l.signals[k]'hkl))) := by
            obtain ⟨_, _, _, b, off, hA, hc⟩ := hR
            exact ⟨b, off, hA (by omega), (hc k hkl).1⟩
          rw [HA] at b2
          have HT : Hid (l.sections ++ l.points.map Pt.name ++ (l.signals.take (k + 1)).map Pt.name = (l.sections ++ l.points.map Pt.name ++ (l.signals.take k).map Pt.name) ++ [Pt.name (l.signals[k]'hkl)]) := by rw [takeStep hkl, List.map_append, ← List.append_assoc]; rfl
          have HL : n ≤ 5000 := by have := hown.out.1; simp at this; omega
          have HN := Lib.hid hown.out.1
          clear hR HA hR1 hR2 hR3 hR4 hok B1 B2 B3
          generalize l.sections ++ l.points.map Pt.name ++ (l.signals.take k).map Pt.name = XS at *
          generalize Pt.name (l.signals[k]'hkl) = x at *
          go_wp2_with (at_builtin; go_must (refine wpList_app1 rfl _ _ _ rfl elemStr W.heap.size _ n _ rfl (World.ownsRow.alloc hown.out.2 _) 1 ⟨wr.heap.size, 0, none⟩ (.string x) rfl ?c1 rfl ?c3 ?c4 ?c2 ?_))
          case c1 => go_simp
          case c2 => simp; omega
          case c3 => omega
          case c4 => omega
          intro A2 c2 w1 hown1 hgrow hb1
          have hb2 := ((Below.alloc hb hz _).trans hb1)
          clear hb1 hgrow hown
          have hown2 := Lib.hid hown1
          clear hown1
          go_wp2
          go_roundw
          case rel => exact ⟨k + 1, n + 1, by omega, by go_num, by rw [HT.out]; exact OStrs.snoc HN.out hown2.out, hb2⟩
          case measure => simp [intOf]; omega
        · have hw : Hid (OStrs wr W.heap.size (.slice A1 n c1) n ((l.sections ++ l.points.map Pt.name) ++ l.signals.map Pt.name)) := by
            have := hown.out
            rw [List.take_of_length_le (by omega)] at this
            exact this
          have hwB := hb
          clear hR hown hlen
          go_wp2_with fail
          go_loopw [3, 6] (fun v i wr => ∃ k n : Nat, k ≤ r.n ∧ i = .int .i64 k ∧ Hid (OStrs wr W.heap.size v n ((l.sections ++ l.points.map Pt.name) ++ l.signals.map Pt.name ++ (l.routes.take k).map Rt.name)) ∧ Below W.heap.size W wr) (fun _ i _ => r.n - (intOf i).toNat)
          case atStart => exact ⟨0, _, Nat.zero_le _, rfl, by simpa using hw, hwB⟩
          case round =>
            obtain ⟨k, n, hk, rfl, hown, hb⟩ := hrel
            obtain ⟨A1, c1, rfl⟩ := own_form hown.out.2
            have hz := hb.size
            have b1 := bcell hb B1
            have b2 := bcell hb B2
            have b3 := bcell hb B3
            have hR := hR4.below (bnext hbW hb)
            have hlen := hR.1
            by_cases hlt : k < r.n
            · have hkl : k < l.routes.length := by omega
              obtain ⟨b, off, HA, HC⟩ : ∃ b off, r.A = some ⟨b, off, none⟩ ∧ wr.cell? ⟨b, off + k * 6, none⟩ = some (.string (Rt.name (l.routes[k]'hkl))) := by
                obtain ⟨_, _, b, off, hA, hc⟩ := hR
                obtain ⟨_, _, _, _, _, c0, _⟩ := hc k hkl
                exact ⟨b, off, hA (by omega), c0⟩
              rw [HA] at b3
              have HT : Hid ((l.sections ++ l.points.map Pt.name) ++ l.signals.map Pt.name ++ (l.routes.take (k + 1)).map Rt.name = ((l.sections ++ l.points.map Pt.name) ++ l.signals.map Pt.name ++ (l.routes.take k).map Rt.name) ++ [Rt.name (l.routes[k]'hkl)]) := by rw [takeStep hkl, List.map_append, ← List.append_assoc]; rfl
              have HL : n ≤ 5000 := by have := hown.out.1; simp at this; omega
              have HN := Lib.hid hown.out.1
              clear hR HA hR1 hR2 hR3 hR4 hok B1 B2 B3
              generalize (l.sections ++ l.points.map Pt.name) ++ l.signals.map Pt.name ++ (l.routes.take k).map Rt.name = XS at *
              generalize Rt.name (l.routes[k]'hkl) = x at *
              go_wp2_with (at_builtin; go_must (refine wpList_app1 rfl _ _ _ rfl elemStr W.heap.size _ n _ rfl (World.ownsRow.alloc hown.out.2 _) 1 ⟨wr.heap.size, 0, none⟩ (.string x) rfl ?c1 rfl ?c3 ?c4 ?c2 ?_))
              case c1 => go_simp
              case c2 => simp; omega
              case c3 => omega
              case c4 => omega
              intro A2 c2 w1 hown1 hgrow hb1
              have hb2 := ((Below.alloc hb hz _).trans hb1)
              clear hb1 hgrow hown
              have hown2 := Lib.hid hown1
              clear hown1
              go_wp2
              go_roundw
              case rel => exact ⟨k + 1, n + 1, by omega, by go_num, by rw [HT.out]; exact OStrs.snoc HN.out hown2.out, hb2⟩
              case measure => simp [intOf]; omega
            · have hw : Hid (OStrs wr W.heap.size (.slice A1 n c1) n (((l.sections ++ l.points.map Pt.name) ++ l.signals.map Pt.name) ++ l.routes.map Rt.name)) := by
                have := hown.out
                rw [List.take_of_length_le (by omega)] at this
                exact this
              have hwB := hb
              clear hR hown hlen
              go_wp2
              go_ret
              have hsz : ∀ s ∈ namesOf l, s.size ≤ 140737488355328 := by
                obtain ⟨_, _, h1, _⟩ := hR1
                obtain ⟨_, _, h2, _⟩ := hR2
                obtain ⟨_, _, h3, _⟩ := hR3
                obtain ⟨_, _, b, off, hA, hc⟩ := hR4
                intro s hs
                simp only [namesOf, List.mem_append, List.mem_map] at hs
                rcases hs with h | ⟨x, h, rfl⟩ | ⟨x, h, rfl⟩ | ⟨x, h, rfl⟩
                · exact h1 s h
                · exact h2 x h
                · exact h3 x h
                · obtain ⟨i, hi, rfl⟩ := List.mem_iff_getElem.1 h
                  obtain ⟨_, _, _, _, hr, _⟩ := hc i hi
                  exact hr.2.1
              have he : ((l.sections ++ l.points.map Pt.name) ++ l.signals.map Pt.name) ++ l.routes.map Rt.name = namesOf l := by simp [namesOf]
              have h := hw.out
              rw [he] at h
              obtain ⟨A', c', hv, hle, hr⟩ := strs_of_own h (by simp [namesOf]; omega) hsz
              rw [hv]
              exact ⟨_, _, _, rfl, hle, bnext hbW hwB, hr⟩
end Go.Proofs.Ytmoccpbiogdbgaa
