/-
  The walks of the reference of layer 29: occupied, lies.
-/
import Derived.Test.YtmoccpbiogdbgaaW17
import Derived.Test.YtmoccpbiogdbgaaW24
import Derived.Test.YtmoccpbiogdbgaaSpec6
import Derived.Handy
namespace Go.Proofs.Ytmoccpbiogdbgaa
open Go.RowKit Go.Shelf
theorem any_step {α : Type} (f : α → Bool) (xs : List α) (k : Nat) (h : k < xs.length) : (xs.drop k).any f = (f xs[k] || (xs.drop (k + 1)).any f) := by rw [dropStep h, List.any_cons]
theorem all_step {α : Type} (f : α → Bool) (xs : List α) (k : Nat) (h : k < xs.length) : (xs.drop k).all f = (f xs[k] && (xs.drop (k + 1)).all f) := by rw [dropStep h, List.all_cons]
set_option maxRecDepth 10000 in
set_option maxHeartbeats 2000000 in
theorem occ29_any (A : Option Addr) (n c : Nat) (xs : List Rt) (io : Io) (ch : Hd) (w : World) (hx : RRts w A n xs) (hs : RtsOk xs) (hio : io.ok) :
    Calls Try.prog 132 #[.slice A n c, inv io ch] w (RetB (xs.any fun r => r.track.any fun t => hasU io.occ t) w) := by
  have HP := Lib.hid hio.1
  have HSM := Lib.hid (fun (i : Nat) (h : i < xs.length) => (hs _ (List.getElem_mem h)).1)
  have hln := hx.1
  have hmx := hx.2.1
  clear hs hio
  obtain ⟨oc, nr, rv, pro, pts⟩ := io
  unfold inv Hd.v at *
  dsimp only at *
  obtain ⟨F, hF⟩ : ∃ F : Rt → Bool, F = fun r => r.track.any fun t => hasU oc t := ⟨_, rfl⟩
  have HG : Hid (∀ r, F r = r.track.any fun t => hasU oc t) := fun r => by rw [hF]
  rw [show (xs.any fun r => r.track.any fun t => hasU oc t) = xs.any F by rw [hF]]
  clear hF
  go_enter Try.func132, Try.ntmps132
  go_upto_region 1 with (fail)
  refine name_box (fun W hbW hlt0 hbox => ?_)
  have O0 : W.cell? ⟨w.heap.size, 0, none⟩ = some (.int .u64 oc) := hbox 0 _ rfl
  clear hbox
  go_wp2_with fail
  go_loopw [5] (fun i wr => ∃ k : Nat, k ≤ n ∧ i = .int .i64 k ∧ Hid ((xs.drop k).any F = xs.any F) ∧ Below W.heap.size W wr) (fun i _ => n - (intOf i).toNat)
  case atStart => exact ⟨0, Nat.zero_le _, rfl, rfl, Below.refl _ _⟩
  case round =>
    obtain ⟨k, hk, rfl, hi, hb⟩ := hrel
    obtain ⟨wo, rfl⟩ : ∃ wo, wo = wr := ⟨_, rfl⟩
    by_cases hlt : k < n
    · have hkl : k < xs.length := by omega
      have hi' := hi.out
      rw [any_step F xs k hkl] at hi'
      obtain ⟨_, _, b, off, hA, hc⟩ := hx.below (bnext hbW hb)
      obtain rfl := hA (by omega)
      obtain ⟨p1, p2, p3, p4, hRx, e0, e1, e2, e3, e4, e5⟩ := hc k hkl
      have sx := HSM.out k hkl
      have hG := HG.out xs[k]
      clear hc hi HSM hx
      generalize xs[k] = x at *
      have HT := Lib.hid (reftrack_any x p1 p2 p3 p4 wo hRx sx)
      clear hRx sx
      unfold rtv Hd.v at HT
      unfold Hd.v at e2 e3 e4 e5
      obtain ⟨p11, p12, p13⟩ := p1
      obtain ⟨p21, p22, p23⟩ := p2
      obtain ⟨p31, p32, p33⟩ := p3
      obtain ⟨p41, p42, p43⟩ := p4
      dsimp only at *
      have HI := Lib.hid hi'
      clear hi'
      have HGx := Lib.hid hG
      clear hG
      go_wp2_with (go_at_call 86; with_reducible refine Calls.mono HT.out ?_)
      rintro e w1 ⟨At, nt, ct, rfl, hle, hb1, hX⟩
      clear HT e0 e1 e2 e3 e4 e5
      obtain ⟨hl2, hm2, b2, off2, hA2, hc2⟩ := hX
      have hbw1 := bnext hb hb1
      go_wp2_with fail
      go_loopw [7] (fun j wr => ∃ m : Nat, m ≤ nt ∧ j = .int .i64 m ∧ Hid ((x.track.drop m).any (fun t => hasU oc t) = x.track.any fun t => hasU oc t) ∧ Below w1.heap.size w1 wr) (fun j _ => nt - (intOf j).toNat)
      case atStart => exact ⟨0, Nat.zero_le _, rfl, rfl, Below.refl _ _⟩
      case round =>
        obtain ⟨m, hm, rfl, hj, hb2⟩ := hrel
        have hbr := bnext hbw1 hb2
        have o0 := bcell hbr O0
        have hq0 := Nat.lt_of_lt_of_le hlt0 hbr.size
        by_cases hmk : m < nt
        · have hml : m < x.track.length := by omega
          obtain rfl := hA2 (by omega)
          have d0 := bcell hb2 (hc2 m hml)
          have l8 := World.block_lt_of_cell? _ _ d0
          simp only at l8
          have hj' := hj.out
          rw [any_step _ x.track m hml] at hj'
          clear hc2 hA2 hj
          generalize x.track[m] = t at *
          have HH := Lib.hid (fun W => has07_any oc t W HP.out)
          cases hf : hasU oc t
          · have hfin : Hid ((x.track.drop (m + 1)).any (fun t => hasU oc t) = x.track.any fun t => hasU oc t) := by rw [← hj', hf]; rfl
            rw [hf] at HH
            clear hj' hf
            go_upto_region 8 with (fail)
            refine wp_region_calm (by kernel_rfl) (by kernel_rfl) ?_
            repeat (first | go_big_quiet_skip | (go_big_quiet_want; go_big_quiet_op; first | go_big_quiet_on | (apply Exists.intro; refine ⟨fun W1 hW1 => ?_, ?_⟩; (first | exact rfl | (go_at_call 41; exact calm_call (HH.out W1) hW1 (fun _ _ h => ⟨h.1, h.2 ▸ Below.refl _ _⟩)) | (have hcc := bcells hW1; go_simp; rfl)); go_big_quiet_on)))
            refine wpQuiet_nil ?_
            intro W3 hW3
            go_wp2
            go_roundw
            case rel => exact ⟨m + 1, by omega, by go_num, hfin, bnext hb2 hW3⟩
            case measure => simp [intOf]; omega
          · have hfin : Hid (xs.any F = true) := by rw [← HI.out, HGx.out, ← hj', hf]; simp; trivial
            rw [hf] at HH
            clear hj' hf HI HGx
            go_upto_region 8 with (fail)
            refine wp_region_calm (by kernel_rfl) (by kernel_rfl) ?_
            repeat (first | go_big_quiet_skip | (go_big_quiet_want; go_big_quiet_op; first | go_big_quiet_on | (apply Exists.intro; refine ⟨fun W1 hW1 => ?_, ?_⟩; (first | exact rfl | (go_at_call 41; exact calm_call (HH.out W1) hW1 (fun _ _ h => ⟨h.1, h.2 ▸ Below.refl _ _⟩)) | (have hcc := bcells hW1; go_simp; rfl)); go_big_quiet_on)))
            refine wpQuiet_nil ?_
            intro W3 hW3
            go_wp2
            go_ret
            rw [hfin.out]; exact ⟨rfl, bnext hbW (bnext hbr hW3)⟩
        · have hfin : Hid ((xs.drop (k + 1)).any F = xs.any F) := by
            have h1 := hj.out
            rw [dropEnd (by omega), List.any_nil] at h1
            rw [← HI.out, HGx.out, ← h1]; simp; trivial
          clear hj HI HGx hc2 hA2
          go_wp2
          go_roundw
          case rel => exact ⟨k + 1, by omega, by go_num, hfin, hbr⟩
          case measure => simp [intOf]; omega
    · have hfin : Hid (xs.any F = false) := by rw [← hi.out, dropEnd (by omega)]; rfl
      clear hi HSM hx HG
      go_wp2
      go_ret
      rw [hfin.out]; exact ⟨rfl, bnext hbW hb⟩

theorem bit32 (x n : Nat) (hx : x < 4294967296) : (bits .and .u32 ((x : Int) / 2 ^ min n 32) 1 == 0) = !hasU x n := by
  have e : ((x : Int) / 2 ^ min n 32) = ((x / 2 ^ min n 32 : Nat) : Int) := by simp
  have hle : x / 2 ^ min n 32 ≤ x := Nat.div_le_self _ _
  rw [e, show (1 : Int) = ((1 : Nat) : Int) from rfl, u32_and_nat _ _ (by omega) (by omega), hasU_nat]
  rw [Bool.eq_iff_iff]
  simp only [beq_iff_eq, Bool.not_eq_true']
  rw [Nat.and_one_is_mod, Nat.testBit_eq_decide_div_mod_eq, decide_eq_false_iff_not]
  by_cases h : n ≤ 32
  · rw [Nat.min_eq_left h]; omega
  · rw [Nat.min_eq_right (by omega)]
    have h1 : x / 2 ^ 32 = 0 := Nat.div_eq_of_lt hx
    have h2 : x / 2 ^ n = 0 := Nat.div_eq_of_lt (Nat.lt_of_lt_of_le (show x < 2 ^ 32 from hx) (Nat.pow_le_pow_right (by decide) (by omega)))
    rw [h1, h2]; simp
set_option maxRecDepth 10000 in
set_option maxHeartbeats 2000000 in
theorem lies29_any (A : Option Addr) (n c : Nat) (xs : List Rt) (a b : Nat) (w : World) (hx : RRts w A n xs) (hs : RtsOk xs) (ha : a < 4294967296) (hb : b < 4294967296) :
    Calls Try.prog 133 #[.slice A n c, .int .u32 a, .int .u32 b] w (RetB (liesR xs a b) w) := by
  have HBA := Lib.hid (fun k => bit32 a k ha)
  have HBB := Lib.hid (fun k => bit32 b k hb)
  have HSM := Lib.hid (fun (i : Nat) (h : i < xs.length) => hs _ (List.getElem_mem h))
  have hln := hx.1
  have hmx := hx.2.1
  have ha' : (a : Int) < 4294967296 := by omega
  have hb' : (b : Int) < 4294967296 := by omega
  clear hs
  obtain ⟨G, hG⟩ : ∃ G : Nd → Bool, G = fun n => hasU (if n.rev = true then b else a) n.pt := ⟨_, rfl⟩
  obtain ⟨F, hF⟩ : ∃ F : Rt → Bool, F = fun r => r.needs.all G := ⟨_, rfl⟩
  have HG : Hid (∀ n, G n = hasU (if n.rev = true then b else a) n.pt) := fun r => by rw [hG]
  have HF : Hid (∀ r, F r = r.needs.all G) := fun r => by rw [hF]
  have e : liesR xs a b = xs.all F := by unfold liesR; rw [hF, hG]
  rw [e]
  clear hF hG e
  go_enter Try.func133, Try.ntmps133
  go_wp2_with fail
  go_loopw [7] (fun i wr => ∃ k : Nat, k ≤ n ∧ i = .int .i64 k ∧ Hid ((xs.drop k).all F = xs.all F) ∧ Below w.heap.size w wr) (fun i _ => n - (intOf i).toNat)
  case atStart => exact ⟨0, Nat.zero_le _, rfl, rfl, Below.refl _ _⟩
  case round =>
    obtain ⟨k, hk, rfl, hi, hbk⟩ := hrel
    obtain ⟨wo, rfl⟩ : ∃ wo, wo = wr := ⟨_, rfl⟩
    by_cases hlt : k < n
    · have hkl : k < xs.length := by omega
      have hi' := hi.out
      rw [all_step F xs k hkl] at hi'
      obtain ⟨_, _, bx, off, hA, hc⟩ := hx.below hbk
      obtain rfl := hA (by omega)
      obtain ⟨p1, p2, p3, p4, hRx, e0, e1, e2, e3, e4, e5⟩ := hc k hkl
      obtain ⟨sx, _, sn⟩ := HSM.out k hkl
      have hFx := HF.out xs[k]
      clear hc hi HSM hx
      generalize xs[k] = x at *
      have HT := Lib.hid (refneeds_any x p1 p2 p3 p4 wo hRx sx)
      have HSN := Lib.hid (fun (i : Nat) (h : i < x.needs.length) => sn _ (List.getElem_mem h))
      clear hRx sx sn
      unfold rtv Hd.v at HT
      unfold Hd.v at e2 e3 e4 e5
      obtain ⟨p11, p12, p13⟩ := p1
      obtain ⟨p21, p22, p23⟩ := p2
      obtain ⟨p31, p32, p33⟩ := p3
      obtain ⟨p41, p42, p43⟩ := p4
      dsimp only at *
      have HI := Lib.hid hi'
      clear hi'
      have HFx := Lib.hid hFx
      clear hFx
      go_wp2_with (go_at_call 84; with_reducible refine Calls.mono HT.out ?_)
      rintro e w1 ⟨At, nt, ct, rfl, hle, hb1, hX⟩
      clear HT e0 e1 e2 e3 e4 e5
      obtain ⟨hl2, hm2, b2, off2, hA2, hc2⟩ := hX
      have hbw1 := bnext hbk hb1
      go_wp2_with fail
      go_loopw [9] (fun j wr => ∃ m : Nat, m ≤ nt ∧ j = .int .i64 m ∧ Hid ((x.needs.drop m).all G = x.needs.all G) ∧ Below w1.heap.size w1 wr) (fun j _ => nt - (intOf j).toNat)
      case atStart => exact ⟨0, Nat.zero_le _, rfl, rfl, Below.refl _ _⟩
      case round =>
        obtain ⟨m, hm, rfl, hj, hb2⟩ := hrel
        have hbr := bnext hbw1 hb2
        by_cases hmk : m < nt
        · have hml : m < x.needs.length := by omega
          obtain rfl := hA2 (by omega)
          have d0 := bcell hb2 (hc2 m hml).1
          have d1 := bcell hb2 (hc2 m hml).2
          have l8 := World.block_lt_of_cell? _ _ d0
          simp only at l8
          have hj' := hj.out
          have sn := HSN.out m hml
          have hGx := HG.out x.needs[m]
          rw [all_step _ x.needs m hml] at hj'
          clear hc2 hA2 hj
          generalize x.needs[m] = t at *
          obtain ⟨tp, tr⟩ := t
          dsimp only at *
          obtain ⟨q, rfl⟩ := Int.eq_ofNat_of_zero_le sn
          cases tr
          · have hbit := HBA.out q
            rw [show hasU a (q : Int) = G ⟨(q : Int), false⟩ from hGx.symm] at hbit
            clear hGx
            generalize G ⟨(q : Int), false⟩ = g at *
            have HBIT := Lib.hid hbit
            clear hbit HBA HBB HSN
            cases g
            · have hfin : Hid (xs.all F = false) := by rw [← HI.out, HFx.out, ← hj']; simp; trivial
              have hz := HBIT.out
              rw [Bool.not_false] at hz
              have HZ := Lib.hid hz
              clear hj' HI HFx HBIT hz
              go_upto_region 11 with (fail)
              iterate 27 go_step
              rw [HZ.out]
              go_wp2
              go_ret
              rw [hfin.out]; exact ⟨rfl, bnext (bnext hbk hb1) hb2⟩
            · have hfin : Hid ((x.needs.drop (m + 1)).all G = x.needs.all G) := by rw [← hj']; simp; trivial
              have hz := HBIT.out
              rw [Bool.not_true] at hz
              have HZ := Lib.hid hz
              clear hj' HBIT hz
              go_upto_region 11 with (fail)
              iterate 27 go_step
              rw [HZ.out]
              go_wp2
              go_roundw
              case rel => exact ⟨m + 1, by omega, by go_num, hfin, hb2⟩
              case measure => simp [intOf]; omega
          · have hbit := HBB.out q
            rw [show hasU b (q : Int) = G ⟨(q : Int), true⟩ from hGx.symm] at hbit
            clear hGx
            generalize G ⟨(q : Int), true⟩ = g at *
            have HBIT := Lib.hid hbit
            clear hbit HBA HBB HSN
            cases g
            · have hfin : Hid (xs.all F = false) := by rw [← HI.out, HFx.out, ← hj']; simp; trivial
              have hz := HBIT.out
              rw [Bool.not_false] at hz
              have HZ := Lib.hid hz
              clear hj' HI HFx HBIT hz
              go_upto_region 11 with (fail)
              iterate 27 go_step
              rw [HZ.out]
              go_wp2
              go_ret
              rw [hfin.out]; exact ⟨rfl, bnext (bnext hbk hb1) hb2⟩
            · have hfin : Hid ((x.needs.drop (m + 1)).all G = x.needs.all G) := by rw [← hj']; simp; trivial
              have hz := HBIT.out
              rw [Bool.not_true] at hz
              have HZ := Lib.hid hz
              clear hj' HBIT hz
              go_upto_region 11 with (fail)
              iterate 27 go_step
              rw [HZ.out]
              go_wp2
              go_roundw
              case rel => exact ⟨m + 1, by omega, by go_num, hfin, hb2⟩
              case measure => simp [intOf]; omega
        · have hfin : Hid ((xs.drop (k + 1)).all F = xs.all F) := by
            have h1 := hj.out
            rw [dropEnd (by omega), List.all_nil] at h1
            rw [← HI.out, HFx.out, ← h1]; simp; trivial
          clear hj HI HFx hc2 hA2 HSN HBA HBB
          go_wp2
          go_roundw
          case rel => exact ⟨k + 1, by omega, by go_num, hfin, hbr⟩
          case measure => simp [intOf]; omega
    · have hfin : Hid (xs.all F = true) := by rw [← hi.out, dropEnd (by omega)]; rfl
      clear hi HSM hx HG HF HBA HBB
      go_wp2
      go_ret
      rw [hfin.out]; exact ⟨rfl, hbk⟩
end Go.Proofs.Ytmoccpbiogdbgaa
