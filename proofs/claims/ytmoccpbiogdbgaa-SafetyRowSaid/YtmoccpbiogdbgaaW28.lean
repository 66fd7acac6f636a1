/-
  The walk of the chapter's example.
-/
import Derived.Test.YtmoccpbiogdbgaaW26
import Derived.Test.YtmoccpbiogdbgaaW27
import Derived.Test.YtmoccpbiogdbgaaSpec7
namespace Go.Proofs.Ytmoccpbiogdbgaa
open Go.RowKit
/-- Seven new boxes. -/
theorem name_lay7 {P : Program} {c : Code} {Q : Exit → Act → World → Prop} {a : Act} {w : World} {c0 c1 c2 c3 c4 c5 c6 : Array Value} {T0 T1 T2 T3 T4 T5 T6 : TypeId}
    (h : ∀ W, Below w.heap.size w W → W.heap.size = w.heap.size + 7 → cellsAt W (w.heap.size) c0.toList → cellsAt W (w.heap.size + 1) c1.toList → cellsAt W (w.heap.size + 1 + 1) c2.toList → cellsAt W (w.heap.size + 1 + 1 + 1) c3.toList → cellsAt W (w.heap.size + 1 + 1 + 1 + 1) c4.toList → cellsAt W (w.heap.size + 1 + 1 + 1 + 1 + 1) c5.toList → cellsAt W (w.heap.size + 1 + 1 + 1 + 1 + 1 + 1) c6.toList → c.wp P Q a W) :
    c.wp P Q a (((((((w.alloc (.cells c0 T0)).alloc (.cells c1 T1)).alloc (.cells c2 T2)).alloc (.cells c3 T3)).alloc (.cells c4 T4)).alloc (.cells c5 T5)).alloc (.cells c6 T6)) := by
  have st : ∀ (X : World) (cs : Array Value) (T : TypeId) (B : Nat) (l : List Value), B < X.heap.size → cellsAt X B l → cellsAt (X.alloc (.cells cs T)) B l := fun X cs T B l hB hc j u hj => bcell ((Below.refl _ _).alloc (Nat.le_refl _) _) (hc j u hj)
  refine h _ ((((((((Below.refl _ _).alloc (by simp; try omega) _).alloc (by simp; try omega) _).alloc (by simp; try omega) _).alloc (by simp; try omega) _).alloc (by simp; try omega) _).alloc (by simp; try omega) _).alloc (by simp; try omega) _) (by simp) ?_ ?_ ?_ ?_ ?_ ?_ ?_
  · have h0 := alloc_cells w c0 T0
    try simp only [World.size_alloc] at h0
    exact (st _ _ _ _ _ (by simp; try omega) (st _ _ _ _ _ (by simp; try omega) (st _ _ _ _ _ (by simp; try omega) (st _ _ _ _ _ (by simp; try omega) (st _ _ _ _ _ (by simp; try omega) (st _ _ _ _ _ (by simp; try omega) h0))))))
  · have h0 := alloc_cells (w.alloc (.cells c0 T0)) c1 T1
    try simp only [World.size_alloc] at h0
    exact (st _ _ _ _ _ (by simp; try omega) (st _ _ _ _ _ (by simp; try omega) (st _ _ _ _ _ (by simp; try omega) (st _ _ _ _ _ (by simp; try omega) (st _ _ _ _ _ (by simp; try omega) h0)))))
  · have h0 := alloc_cells ((w.alloc (.cells c0 T0)).alloc (.cells c1 T1)) c2 T2
    try simp only [World.size_alloc] at h0
    exact (st _ _ _ _ _ (by simp; try omega) (st _ _ _ _ _ (by simp; try omega) (st _ _ _ _ _ (by simp; try omega) (st _ _ _ _ _ (by simp; try omega) h0))))
  · have h0 := alloc_cells (((w.alloc (.cells c0 T0)).alloc (.cells c1 T1)).alloc (.cells c2 T2)) c3 T3
    try simp only [World.size_alloc] at h0
    exact (st _ _ _ _ _ (by simp; try omega) (st _ _ _ _ _ (by simp; try omega) (st _ _ _ _ _ (by simp; try omega) h0)))
  · have h0 := alloc_cells ((((w.alloc (.cells c0 T0)).alloc (.cells c1 T1)).alloc (.cells c2 T2)).alloc (.cells c3 T3)) c4 T4
    try simp only [World.size_alloc] at h0
    exact (st _ _ _ _ _ (by simp; try omega) (st _ _ _ _ _ (by simp; try omega) h0))
  · have h0 := alloc_cells (((((w.alloc (.cells c0 T0)).alloc (.cells c1 T1)).alloc (.cells c2 T2)).alloc (.cells c3 T3)).alloc (.cells c4 T4)) c5 T5
    try simp only [World.size_alloc] at h0
    exact (st _ _ _ _ _ (by simp; try omega) h0)
  · have h0 := alloc_cells ((((((w.alloc (.cells c0 T0)).alloc (.cells c1 T1)).alloc (.cells c2 T2)).alloc (.cells c3 T3)).alloc (.cells c4 T4)).alloc (.cells c5 T5)) c6 T6
    try simp only [World.size_alloc] at h0
    exact h0
def hdN (b n : Nat) : Hd := ⟨some ⟨b, 0, none⟩, n, n⟩
theorem lyW_reads (W : World) (b0 b1 b2 b3 b4 b5 : Nat) (h0 : cellsAt W b0 [.string bA, .string bB, .string bC]) (h1 : cellsAt W b1 [.string bP, .int .i64 1]) (h2 : cellsAt W b2 [.string bG, .int .i64 0]) (h3 : cellsAt W b3 [.int .i64 1, .int .i64 2]) (h4 : cellsAt W b4 [.int .i64 0, .bool false])
    (h5 : cellsAt W b5 [.string bR, .int .i64 0, .slice (some ⟨b3, 0, none⟩) 2 2, .slice (some ⟨b4, 0, none⟩) 1 1, .slice none 0 0, .slice none 0 0]) : RLy W (hdN b0 3) (hdN b1 1) (hdN b2 1) (hdN b5 1) lyW := by
  have ok : ∀ b n, (hdN b n).ok := fun b n h => by cases h
  refine ⟨⟨ok _ _, ok _ _, ok _ _, ok _ _⟩, ⟨rfl, Nat.le_of_ble_eq_true rfl, ?_, b0, 0, fun _ => rfl, ?_⟩, ⟨rfl, Nat.le_of_ble_eq_true rfl, ?_, b1, 0, fun _ => rfl, ?_⟩, ⟨rfl, Nat.le_of_ble_eq_true rfl, ?_, b2, 0, fun _ => rfl, ?_⟩, ⟨rfl, Nat.le_of_ble_eq_true rfl, b5, 0, fun _ => rfl, ?_⟩⟩
  · intro s hs
    simp [lyW] at hs
    rcases hs with rfl | rfl | rfl <;> exact Nat.le_of_ble_eq_true rfl
  · intro i hi
    have hi : i < 3 := hi
    rcases i with _ | _ | _ | i
    · exact h0 0 _ rfl
    · exact h0 1 _ rfl
    · exact h0 2 _ rfl
    · omega
  · intro s hs
    simp [lyW] at hs
    subst hs; exact Nat.le_of_ble_eq_true rfl
  · intro i hi
    obtain rfl : i = 0 := by have : i < 1 := hi; omega
    exact ⟨h1 0 _ rfl, h1 1 _ rfl⟩
  · intro s hs
    simp [lyW] at hs
    subst hs; exact Nat.le_of_ble_eq_true rfl
  · intro i hi
    obtain rfl : i = 0 := by have : i < 1 := hi; omega
    exact ⟨h2 0 _ rfl, h2 1 _ rfl⟩
  · intro i hi
    obtain rfl : i = 0 := by have : i < 1 := hi; omega
    refine ⟨hdN b3 2, hdN b4 1, ⟨none, 0, 0⟩, ⟨none, 0, 0⟩, ⟨⟨ok _ _, ok _ _, fun _ => ⟨rfl, rfl⟩, fun _ => ⟨rfl, rfl⟩⟩, Nat.le_of_ble_eq_true rfl, ⟨rfl, Nat.le_of_ble_eq_true rfl, b3, 0, fun _ => rfl, ?_⟩, ⟨rfl, Nat.le_of_ble_eq_true rfl, b4, 0, fun _ => rfl, ?_⟩, ⟨rfl, Nat.le_of_ble_eq_true rfl, 0, 0, fun h => absurd h (by decide), ?_⟩, ⟨rfl, Nat.le_of_ble_eq_true rfl, 0, 0, fun h => absurd h (by decide), ?_⟩⟩, h5 0 _ rfl, h5 1 _ rfl, h5 2 _ rfl, h5 3 _ rfl, h5 4 _ rfl, h5 5 _ rfl⟩
    · intro i hi
      have hi : i < 2 := hi
      rcases i with _ | _ | i
      · exact h3 0 _ rfl
      · exact h3 1 _ rfl
      · omega
    · intro i hi
      obtain rfl : i = 0 := by have : i < 1 := hi; omega
      exact ⟨h4 0 _ rfl, h4 1 _ rfl⟩
    · intro i hi; exact absurd hi (Nat.not_lt_zero _)
    · intro i hi; exact absurd hi (Nat.not_lt_zero _)
set_option maxRecDepth 10000 in
set_option maxHeartbeats 1000000 in
theorem works29_any (w : World) : Calls Try.prog 23 #[] w (RetB true w) := by
  go_enter Try.func23, Try.ntmps23
  go_upto_region 2 with (fail)
  refine name_lay7 (fun W hbW hsz h0 h1 h2 h3 h4 h5 h6 => ?_)
  have HL := Lib.hid (lyW_reads W _ _ _ _ _ _ h0 h1 h2 h3 h4 h5)
  have k0 := h6 0 _ rfl
  have k1 := h6 1 _ rfl
  have k2 := h6 2 _ rfl
  have k3 := h6 3 _ rfl
  clear h0 h1 h2 h3 h4 h5 h6
  have lt6 : w.heap.size + 1 + 1 + 1 + 1 + 1 + 1 < W.heap.size := by omega
  clear hsz
  have H1 : Hid (∀ W', Below W.heap.size W W' → Calls Try.prog 24 #[.agg #[.slice (some ⟨w.heap.size, 0, none⟩) 3 3, .slice (some ⟨w.heap.size + 1, 0, none⟩) 1 1, .slice (some ⟨w.heap.size + 1 + 1, 0, none⟩) 1 1, .slice (some ⟨w.heap.size + 1 + 1 + 1 + 1 + 1, 0, none⟩) 1 1], .agg #[.int .u64 0, .int .u32 1, .int .u32 0, .slice none 0 0], .agg #[.int .u64 1, .int .u32 0]] W' (Ret8 0 W')) := fun W' hb' => by
    have := cycle29_any _ _ _ _ lyW ⟨0, 1, 0, 1, 0⟩ ⟨none, 0, 0⟩ W' (HL.out.below hb') (by unfold Io.ok; decide)
    rw [ck1] at this
    exact this
  have H2 : Hid (∀ W', Below W.heap.size W W' → Calls Try.prog 24 #[.agg #[.slice (some ⟨w.heap.size, 0, none⟩) 3 3, .slice (some ⟨w.heap.size + 1, 0, none⟩) 1 1, .slice (some ⟨w.heap.size + 1 + 1, 0, none⟩) 1 1, .slice (some ⟨w.heap.size + 1 + 1 + 1 + 1 + 1, 0, none⟩) 1 1], .agg #[.int .u64 4, .int .u32 1, .int .u32 0, .slice none 0 0], .agg #[.int .u64 1, .int .u32 0]] W' (Ret8 4 W')) := fun W' hb' => by
    have := cycle29_any _ _ _ _ lyW ⟨4, 1, 0, 1, 0⟩ ⟨none, 0, 0⟩ W' (HL.out.below hb') (by unfold Io.ok; decide)
    rw [ck2] at this
    exact this
  have H3 : Hid (∀ W', Below W.heap.size W W' → Calls Try.prog 24 #[.agg #[.slice (some ⟨w.heap.size, 0, none⟩) 3 3, .slice (some ⟨w.heap.size + 1, 0, none⟩) 1 1, .slice (some ⟨w.heap.size + 1 + 1, 0, none⟩) 1 1, .slice (some ⟨w.heap.size + 1 + 1 + 1 + 1 + 1, 0, none⟩) 1 1], .agg #[.int .u64 0, .int .u32 0, .int .u32 0, .slice none 0 0], .agg #[.int .u64 1, .int .u32 0]] W' (Ret8 5 W')) := fun W' hb' => by
    have := cycle29_any _ _ _ _ lyW ⟨0, 0, 0, 1, 0⟩ ⟨none, 0, 0⟩ W' (HL.out.below hb') (by unfold Io.ok; decide)
    rw [ck3] at this
    exact this
  have H4 : Hid (∀ W', Below W.heap.size W W' → Calls Try.prog 24 #[.agg #[.slice (some ⟨w.heap.size, 0, none⟩) 3 3, .slice (some ⟨w.heap.size + 1, 0, none⟩) 1 1, .slice (some ⟨w.heap.size + 1 + 1, 0, none⟩) 1 1, .slice (some ⟨w.heap.size + 1 + 1 + 1 + 1 + 1, 0, none⟩) 1 1], .agg #[.int .u64 0, .int .u32 1, .int .u32 0, .slice none 0 0], .agg #[.int .u64 1, .int .u32 1]] W' (Ret8 6 W')) := fun W' hb' => by
    have := cycle29_any _ _ _ _ lyW ⟨0, 1, 0, 1, 1⟩ ⟨none, 0, 0⟩ W' (HL.out.below hb') (by unfold Io.ok; decide)
    rw [ck4] at this
    exact this
  have H5 : Hid (∀ W', Below W.heap.size W W' → Calls Try.prog 24 #[.agg #[.slice (some ⟨w.heap.size, 0, none⟩) 3 3, .slice (some ⟨w.heap.size + 1, 0, none⟩) 1 1, .slice (some ⟨w.heap.size + 1 + 1, 0, none⟩) 1 1, .slice (some ⟨w.heap.size + 1 + 1 + 1 + 1 + 1, 0, none⟩) 1 1], .agg #[.int .u64 0, .int .u32 1, .int .u32 0, .slice none 0 0], .agg #[.int .u64 2, .int .u32 0]] W' (Ret8 2 W')) := fun W' hb' => by
    have := cycle29_any _ _ _ _ lyW ⟨0, 1, 0, 2, 0⟩ ⟨none, 0, 0⟩ W' (HL.out.below hb') (by unfold Io.ok; decide)
    rw [ck5] at this
    exact this
  clear HL
  go_upto_region 3 with (fail)
  refine name_box (fun W1 hb1 hlt1 hx => ?_)
  have o0 : W1.cell? ⟨W.heap.size, 0, none⟩ = some (.int .u64 1) := hx 0 _ rfl
  have o1 : W1.cell? ⟨W.heap.size, 1, none⟩ = some (.int .u32 0) := hx 1 _ rfl
  clear hx
  have k0 := bcell hb1 k0
  have k1 := bcell hb1 k1
  have k2 := bcell hb1 k2
  have k3 := bcell hb1 k3
  have lt6 := Nat.lt_of_lt_of_le lt6 hb1.size
  go_wp2_with (go_at_call 24; with_reducible refine Calls.mono (H1.out _ hb1) ?_)
  rintro e w2 ⟨rfl, hy2⟩
  have hz2 : Below W.heap.size W w2 := bnext hb1 hy2
  have k0 := bcell hy2 k0
  have k1 := bcell hy2 k1
  have k2 := bcell hy2 k2
  have k3 := bcell hy2 k3
  have o0 := bcell hy2 o0
  have o1 := bcell hy2 o1
  have lt6 := Nat.lt_of_lt_of_le lt6 hy2.size
  have hlt1 := Nat.lt_of_lt_of_le hlt1 hy2.size
  go_wp2_with (go_at_call 24; with_reducible refine Calls.mono (H2.out _ hz2) ?_)
  rintro e w3 ⟨rfl, hy3⟩
  have hz3 : Below W.heap.size W w3 := bnext hz2 hy3
  have k0 := bcell hy3 k0
  have k1 := bcell hy3 k1
  have k2 := bcell hy3 k2
  have k3 := bcell hy3 k3
  have o0 := bcell hy3 o0
  have o1 := bcell hy3 o1
  have lt6 := Nat.lt_of_lt_of_le lt6 hy3.size
  have hlt1 := Nat.lt_of_lt_of_le hlt1 hy3.size
  go_wp2_with (go_at_call 24; with_reducible refine Calls.mono (H3.out _ hz3) ?_)
  rintro e w4 ⟨rfl, hy4⟩
  have hz4 : Below W.heap.size W w4 := bnext hz3 hy4
  have k0 := bcell hy4 k0
  have k1 := bcell hy4 k1
  have k2 := bcell hy4 k2
  have k3 := bcell hy4 k3
  have o0 := bcell hy4 o0
  have o1 := bcell hy4 o1
  have lt6 := Nat.lt_of_lt_of_le lt6 hy4.size
  have hlt1 := Nat.lt_of_lt_of_le hlt1 hy4.size
  go_wp2_with (go_at_call 24; with_reducible refine Calls.mono (H4.out _ hz4) ?_)
  rintro e w5 ⟨rfl, hy5⟩
  have hz5 : Below W.heap.size W w5 := bnext hz4 hy5
  have k0 := bcell hy5 k0
  have k1 := bcell hy5 k1
  have k2 := bcell hy5 k2
  have k3 := bcell hy5 k3
  have o0 := bcell hy5 o0
  have o1 := bcell hy5 o1
  have lt6 := Nat.lt_of_lt_of_le lt6 hy5.size
  have hlt1 := Nat.lt_of_lt_of_le hlt1 hy5.size
  go_wp2_with (go_at_call 24; with_reducible refine Calls.mono (H5.out _ hz5) ?_)
  rintro e w6 ⟨rfl, hy6⟩
  have hz6 : Below W.heap.size W w6 := bnext hz5 hy6
  have k0 := bcell hy6 k0
  have k1 := bcell hy6 k1
  have k2 := bcell hy6 k2
  have k3 := bcell hy6 k3
  have o0 := bcell hy6 o0
  have o1 := bcell hy6 o1
  have lt6 := Nat.lt_of_lt_of_le lt6 hy6.size
  have hlt1 := Nat.lt_of_lt_of_le hlt1 hy6.size
  go_wp2
  go_ret
  exact ⟨rfl, bnext hbW hz6⟩
end Go.Proofs.Ytmoccpbiogdbgaa
