/-
  The walks of topo.twice: has a row two members of one key?
-/
import Derived.Test.YtmoccpbiogdbgaaW6
import Derived.Deep.RegionWith
namespace Go.Proofs.Ytmoccpbiogdbgaa
open Go.RowKit Go.Shelf

theorem eFormed1 : Enters Try.prog 161 := enters_of' Try.func161 (by kernel_rfl) rfl
theorem eFormed2 : Enters Try.prog 164 := enters_of' Try.func164 (by kernel_rfl) rfl
theorem eTwice1 : Enters Try.prog 173 := enters_of' Try.func173 (by kernel_rfl) rfl
theorem eTwice2 : Enters Try.prog 175 := enters_of' Try.func175 (by kernel_rfl) rfl

set_option maxRecDepth 10000 in
set_option maxHeartbeats 1000000 in
theorem twiceI1_any (x y : Int) (b1 b2 : Nat) (w : World) (c1 : w.cell? ⟨b1, 0, none⟩ = some (.func (.func 161) #[] #[])) (c2 : w.cell? ⟨b2, 0, none⟩ = some (.int .i64 x)) :
    Calls Try.prog 173 #[.int .i64 y, .pointer (some ⟨b1, 0, none⟩), .pointer (some ⟨b2, 0, none⟩)] w (RetB (x == y) w) := by
  have ef : ∀ args w, (callFunc 161 args).run Try.prog w = .ok (.enter 161 args) w := eFormed1
  go_enter Try.func173, Try.ntmps173
  go_wp2
  go_quiet ((go_at_call 161; exact Calls.quiet_of_same (formed1_q _ _)))
  go_wp2
  go_ret
  exact ⟨rfl, bdrewN (Below.refl _ _) _⟩

set_option maxRecDepth 10000 in
set_option maxHeartbeats 1000000 in
theorem twiceN1_any (x y : Nd) (b1 b2 : Nat) (w : World) (c1 : w.cell? ⟨b1, 0, none⟩ = some (.func (.func 164) #[] #[])) (c2 : w.cell? ⟨b2, 0, none⟩ = some (.int .i64 x.pt)) (c3 : w.cell? ⟨b2, 1, none⟩ = some (.bool x.rev)) :
    Calls Try.prog 175 #[.agg #[.int .i64 y.pt, .bool y.rev], .pointer (some ⟨b1, 0, none⟩), .pointer (some ⟨b2, 0, none⟩)] w (RetB (x.pt == y.pt) w) := by
  have ef : ∀ args w, (callFunc 164 args).run Try.prog w = .ok (.enter 164 args) w := eFormed2
  go_enter Try.func175, Try.ntmps175
  go_upto_region 1 with (fail)
  refine name_box (fun W hbW hlt hbox => ?_)
  have B0 : W.cell? ⟨w.heap.size, 0, none⟩ = some (.int .i64 y.pt) := hbox 0 _ rfl
  have B1 : W.cell? ⟨w.heap.size, 1, none⟩ = some (.bool y.rev) := hbox 1 _ rfl
  have c1 := bcell hbW c1
  have c2 := bcell hbW c2
  have c3 := bcell hbW c3
  clear hbox
  have HC := Lib.hid (fun (x : Nd) W => formed2_any x W)
  have l1 := World.block_lt_of_cell? W _ c1
  have l2 := World.block_lt_of_cell? W _ c2
  simp only at l1 l2
  refine wp_region_calm (by kernel_rfl) (by kernel_rfl) ?_
  repeat (refine wpQuiet_step (fun K hK => ?_); go_simp; first | (refine hK _ ?_; clear hK K) | (apply Exists.intro; refine ⟨fun W1 hW1 => ?_, hK _ ?_⟩; (have hcc := bcells hW1; first | (go_at_call 164; exact calm_call (HC.out ⟨_, _⟩ _) hW1 (fun _ _ h => h)) | (go_simp; rfl)); clear hK K))
  refine wpQuiet_nil ?_
  intro W2 hW2
  go_wp2
  go_ret
  exact ⟨rfl, bnext hbW hW2⟩

/-- Have two members of a row one key? -/
theorem twiceI_step (xs : List Int) (k : Nat) (h : k < xs.length) : twiceFrom (fun x => x) (xs.take k) (xs.drop k) = (((xs.take k).any fun y => ((fun x => x) xs[k] == (fun x => x) y)) || twiceFrom (fun x => x) (xs.take (k + 1)) (xs.drop (k + 1))) := by
  rw [dropStep h, takeStep h]; rfl
set_option maxRecDepth 10000 in
set_option maxHeartbeats 1000000 in
theorem twiceI_any (A : Option Addr) (m c : Nat) (xs : List Int) (w : World) (hx : RInts w A m xs) (hmc : m ≤ c) :
    Calls Try.prog 160 #[.slice A m c, .func (.func 161) #[] #[]] w (RetB (twiceFrom (fun x => x) [] xs) w) := by
  have hx0 := hx
  obtain ⟨hl, hm, b, off, hA, hc⟩ := hx
  go_enter Try.func160, Try.ntmps160
  go_upto_region 1 with (fail)
  refine name_box (fun W hbW hlt hbox => ?_)
  have hk0 : W.cell? ⟨w.heap.size, 0, none⟩ = some (.func (.func 161) #[] #[]) := hbox 0 _ rfl
  clear hbox
  go_wp2_with fail
  go_loopw [9] (fun i wr => ∃ k : Nat, k ≤ m ∧ i = .int .i64 k ∧ Hid (twiceFrom (fun x => x) (xs.take k) (xs.drop k) = twiceFrom (fun x => x) [] xs) ∧ Below W.heap.size W wr) (fun i _ => m - (intOf i).toNat)
  case atStart => exact ⟨0, Nat.zero_le _, rfl, rfl, Below.refl _ _⟩
  case round =>
    obtain ⟨k, hk, rfl, hi, hb⟩ := hrel
    by_cases hlt : k < m
    · obtain rfl := hA (by omega)
      have hkl : k < xs.length := by omega
      have c0 := bcell (bnext hbW hb) (hc k hkl)
      have hi' := hi.out
      rw [twiceI_step xs k hkl] at hi'
      have hT : RInts wr (some ⟨b, off, none⟩) k (xs.take k) := RInts_take hx0 (bnext hbW hb) k (by omega)
      have hck : k ≤ c := by omega
      have hz := hb.size
      have hk1 := bcell hb hk0
      clear hc hA hi
      generalize xs[k] = x at *
      have HC := Lib.hid (fun W1 (hb1 : Below wr.heap.size wr W1) (hx0 : W1.cell? ⟨wr.heap.size, 0, none⟩ = some (.int .i64 x)) => containsFuncI (some ⟨b, off, none⟩) k c (xs.take k) 173 #[.pointer (some ⟨w.heap.size, 0, none⟩), .pointer (some ⟨wr.heap.size, 0, none⟩)] (fun y => x == y) W1 (hT.below hb1)
        ⟨eTwice1, fun y _ W' hb' => twiceI1_any x y w.heap.size wr.heap.size W' (bcell hb' (bcell hb1 hk1)) (bcell hb' hx0)⟩)
      have hr : (xs.take k).any (fun y => (fun x => x) x == (fun x => x) y) = (xs.take k).any (fun y => x == y) := rfl
      rw [hr] at hi'
      clear hr
      cases hany : (xs.take k).any (fun y => x == y)
      all_goals rw [hany] at hi' HC
      · have hf : Hid (twiceFrom (fun x => x) (xs.take (k + 1)) (xs.drop (k + 1)) = twiceFrom (fun x => x) [] xs) := by rw [← hi']; simp [Hid]
        clear hi' hT hany hx0 hk0
        go_wp2_with (go_at_call 60; refine (HC.out _ ?h0 ?h1).mono ?_)
        case h0 => exact (Below.refl _ _).alloc (Nat.le_refl _) _
        case h1 => go_simp
        rintro e w1 ⟨rfl, hb1⟩
        have hb2 : Below W.heap.size W w1 := hb.trans ((((Below.refl wr.heap.size wr).alloc (Nat.le_refl _) _).trans (hb1.mono (by simp))).mono hz)
        clear hb1 HC
        go_wp2
        go_roundw
        case rel => exact ⟨k + 1, by omega, by go_num, hf, hb2⟩
        case measure => simp [intOf]; omega
      · have hf : Hid (twiceFrom (fun x => x) [] xs = true) := by rw [← hi']; simp [Hid]
        clear hi' hT hany hx0 hk0
        go_wp2_with (go_at_call 60; refine (HC.out _ ?h0 ?h1).mono ?_)
        case h0 => exact (Below.refl _ _).alloc (Nat.le_refl _) _
        case h1 => go_simp
        rintro e w1 ⟨rfl, hb1⟩
        have hb2 : Below W.heap.size W w1 := hb.trans ((((Below.refl wr.heap.size wr).alloc (Nat.le_refl _) _).trans (hb1.mono (by simp))).mono hz)
        clear hb1 HC
        go_wp2
        go_ret
        rw [hf.out]; exact ⟨rfl, bnext hbW hb2⟩
    · have hf : Hid (twiceFrom (fun x => x) [] xs = false) := by rw [← hi.out, dropEnd (by omega)]; rfl
      clear hi hx0 hA hc hk0
      go_wp2
      go_ret
      rw [hf.out]; exact ⟨rfl, bnext hbW hb⟩

/-- Have two members of a row one key? -/
theorem twiceN_step (xs : List Nd) (k : Nat) (h : k < xs.length) : twiceFrom (Nd.pt) (xs.take k) (xs.drop k) = (((xs.take k).any fun y => ((Nd.pt) xs[k] == (Nd.pt) y)) || twiceFrom (Nd.pt) (xs.take (k + 1)) (xs.drop (k + 1))) := by
  rw [dropStep h, takeStep h]; rfl
set_option maxRecDepth 10000 in
set_option maxHeartbeats 1000000 in
theorem twiceN_any (A : Option Addr) (m c : Nat) (xs : List Nd) (w : World) (hx : RNds w A m xs) (hmc : m ≤ c) :
    Calls Try.prog 163 #[.slice A m c, .func (.func 164) #[] #[]] w (RetB (twiceFrom (Nd.pt) [] xs) w) := by
  have hx0 := hx
  obtain ⟨hl, hm, b, off, hA, hc⟩ := hx
  go_enter Try.func163, Try.ntmps163
  go_upto_region 1 with (fail)
  refine name_box (fun W hbW hlt hbox => ?_)
  have hk0 : W.cell? ⟨w.heap.size, 0, none⟩ = some (.func (.func 164) #[] #[]) := hbox 0 _ rfl
  clear hbox
  go_wp2_with fail
  go_loopw [9] (fun i wr => ∃ k : Nat, k ≤ m ∧ i = .int .i64 k ∧ Hid (twiceFrom (Nd.pt) (xs.take k) (xs.drop k) = twiceFrom (Nd.pt) [] xs) ∧ Below W.heap.size W wr) (fun i _ => m - (intOf i).toNat)
  case atStart => exact ⟨0, Nat.zero_le _, rfl, rfl, Below.refl _ _⟩
  case round =>
    obtain ⟨k, hk, rfl, hi, hb⟩ := hrel
    by_cases hlt : k < m
    · obtain rfl := hA (by omega)
      have hkl : k < xs.length := by omega
      have c0 := bcell (bnext hbW hb) (hc k hkl).1
      have c1 := bcell (bnext hbW hb) (hc k hkl).2
      have hi' := hi.out
      rw [twiceN_step xs k hkl] at hi'
      have hT : RNds wr (some ⟨b, off, none⟩) k (xs.take k) := RNds_take hx0 (bnext hbW hb) k (by omega)
      have hck : k ≤ c := by omega
      have hz := hb.size
      have hk1 := bcell hb hk0
      clear hc hA hi
      generalize xs[k] = x at *
      have HC := Lib.hid (fun W1 (hb1 : Below wr.heap.size wr W1) (hx0 : W1.cell? ⟨wr.heap.size, 0, none⟩ = some (.int .i64 x.pt)) (hx1 : W1.cell? ⟨wr.heap.size, 1, none⟩ = some (.bool x.rev)) => containsFuncN (some ⟨b, off, none⟩) k c (xs.take k) 175 #[.pointer (some ⟨w.heap.size, 0, none⟩), .pointer (some ⟨wr.heap.size, 0, none⟩)] (fun y => x.pt == y.pt) W1 (hT.below hb1)
        ⟨eTwice2, fun y _ W' hb' => twiceN1_any x y w.heap.size wr.heap.size W' (bcell hb' (bcell hb1 hk1)) (bcell hb' hx0) (bcell hb' hx1)⟩)
      have hr : (xs.take k).any (fun y => (Nd.pt) x == (Nd.pt) y) = (xs.take k).any (fun y => x.pt == y.pt) := rfl
      rw [hr] at hi'
      clear hr
      cases hany : (xs.take k).any (fun y => x.pt == y.pt)
      all_goals rw [hany] at hi' HC
      · have hf : Hid (twiceFrom (Nd.pt) (xs.take (k + 1)) (xs.drop (k + 1)) = twiceFrom (Nd.pt) [] xs) := by rw [← hi']; simp [Hid]
        clear hi' hT hany hx0 hk0
        go_wp2_with (go_at_call 106; refine (HC.out _ ?h0 ?h1 ?h2).mono ?_)
        case h0 => exact (Below.refl _ _).alloc (Nat.le_refl _) _
        case h1 => go_simp
        case h2 => go_simp
        rintro e w1 ⟨rfl, hb1⟩
        have hb2 : Below W.heap.size W w1 := hb.trans ((((Below.refl wr.heap.size wr).alloc (Nat.le_refl _) _).trans (hb1.mono (by simp))).mono hz)
        clear hb1 HC
        go_wp2
        go_roundw
        case rel => exact ⟨k + 1, by omega, by go_num, hf, hb2⟩
        case measure => simp [intOf]; omega
      · have hf : Hid (twiceFrom (Nd.pt) [] xs = true) := by rw [← hi']; simp [Hid]
        clear hi' hT hany hx0 hk0
        go_wp2_with (go_at_call 106; refine (HC.out _ ?h0 ?h1 ?h2).mono ?_)
        case h0 => exact (Below.refl _ _).alloc (Nat.le_refl _) _
        case h1 => go_simp
        case h2 => go_simp
        rintro e w1 ⟨rfl, hb1⟩
        have hb2 : Below W.heap.size W w1 := hb.trans ((((Below.refl wr.heap.size wr).alloc (Nat.le_refl _) _).trans (hb1.mono (by simp))).mono hz)
        clear hb1 HC
        go_wp2
        go_ret
        rw [hf.out]; exact ⟨rfl, bnext hbW hb2⟩
    · have hf : Hid (twiceFrom (Nd.pt) [] xs = false) := by rw [← hi.out, dropEnd (by omega)]; rfl
      clear hi hx0 hA hc hk0
      go_wp2
      go_ret
      rw [hf.out]; exact ⟨rfl, bnext hbW hb⟩
end Go.Proofs.Ytmoccpbiogdbgaa
