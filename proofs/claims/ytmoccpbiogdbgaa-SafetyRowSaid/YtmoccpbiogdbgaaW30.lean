/-
  The walks of the reference of layer 29: shown, clash, occupied, lies.
-/
import Derived.Test.YtmoccpbiogdbgaaW17
import Derived.Test.YtmoccpbiogdbgaaW24
import Derived.Test.YtmoccpbiogdbgaaTwo
import Derived.Test.YtmoccpbiogdbgaaRts
import Derived.Test.YtmoccpbiogdbgaaSpec6
import Derived.Handy
namespace Go.Proofs.Ytmoccpbiogdbgaa
open Go.RowKit Go.Shelf
theorem news_of_alloc {W : World} {cs : List Value} {T : TypeId} (j : Nat) (u : Value) (h : cs[j]? = some u) : (W.alloc (.cells cs.toArray T)).cell? ((⟨W.heap.size, 0, none⟩ : Addr).add j) = some u := by
  rw [addr_add, Nat.zero_add]
  exact alloc_cells W cs.toArray T j u (by simpa using h)
set_option maxRecDepth 10000 in
set_option maxHeartbeats 2000000 in
theorem shown29_any (s p g rr : Hd) (l : Ly) (io : Io) (w : World) (hl : RLy w s p g rr l) (hio : io.ok) (h64 : l.routes.length ≤ 64) :
    Calls Try.prog 130 #[lyv s p g rr, outv io] w (RetS (fun W A n => RRts W A n (shownOf l io.pro)) w) := by
  have HP := Lib.hid hio.2.2.2.1
  have HSH : Hid (shownOf l io.pro = pick io.pro l.routes 0) := rfl
  have hR := hl.2.2.2.2
  clear hio
  obtain ⟨oc, nr, rv, pro, pts⟩ := io
  unfold lyv outv Hd.v at *
  obtain ⟨sA, sn, sc⟩ := s
  obtain ⟨pA, pn, pc⟩ := p
  obtain ⟨gA, gn, gc⟩ := g
  obtain ⟨rA, rn, rc⟩ := rr
  dsimp only at *
  have hln := hR.1
  clear hl
  go_enter Try.func130, Try.ntmps130
  go_upto_region 1 with (fail)
  refine name_box2 (fun W hbW hlt0 hlt1 hbox hbox2 => ?_)
  have B3 : W.cell? ⟨w.heap.size, 3, none⟩ = some (.slice rA rn rc) := hbox 3 _ rfl
  have O0 : W.cell? ⟨w.heap.size + 1, 0, none⟩ = some (.int .u64 pro) := hbox2 0 _ rfl
  clear hbox hbox2
  go_wp2_with fail
  go_loopw [5, 6] (fun v i wr => ∃ (k : Nat) (hs : List RtH), k ≤ rn ∧ i = .int .i64 k ∧ Hid (hs.map RtH.rt = pick pro (l.routes.take k) 0 ∧ (∀ x ∈ hs, RRt W x.p x.q x.o x.f x.rt) ∧ wr.ownsRow W.heap.size 64 6 v hs.length (rtCells hs)) ∧ hs.length ≤ k ∧ Below W.heap.size W wr) (fun _ i _ => rn - (intOf i).toNat)
  case atStart => exact ⟨0, [], Nat.zero_le _, rfl, ⟨rfl, fun x hx => (by cases hx), World.ownsRow_nil _ _ _ _⟩, Nat.le_refl _, Below.refl _ _⟩
  case round =>
    obtain ⟨k, hs, hk, rfl, HST, hle, hb⟩ := hrel
    have c3 := bcell hb B3
    have o0 := bcell hb O0
    have hq0 := Nat.lt_of_lt_of_le hlt0 hb.size
    have hq1 := Nat.lt_of_lt_of_le hlt1 hb.size
    obtain ⟨A1, c1, rfl⟩ := own_form HST.out.2.2
    by_cases hlt : k < rn
    · have hkl : k < l.routes.length := by omega
      obtain ⟨_, _, b, off, hA, hc⟩ := hR.below (bnext hbW hb)
      obtain rfl := hA (by omega)
      obtain ⟨p1, p2, p3, p4, _, e0, e1, e2, e3, e4, e5⟩ := hc k hkl
      have HX : Hid (RRt W p1 p2 p3 p4 l.routes[k]) := by
        obtain ⟨_, _, b', off', hA', hc'⟩ := hR.below hbW
        have := hA' (by omega)
        obtain ⟨rfl, rfl⟩ : b = b' ∧ off = off' := by simpa using this
        obtain ⟨p1', p2', p3', p4', hRt, _, _, e2', e3', e4', e5'⟩ := hc' k hkl
        have f2 := (bcell hb e2').symm.trans e2
        have f3 := (bcell hb e3').symm.trans e3
        have f4 := (bcell hb e4').symm.trans e4
        have f5 := (bcell hb e5').symm.trans e5
        simp only [Option.some.injEq, Value.slice.injEq] at f2 f3 f4 f5
        obtain ⟨x1, x2, x3⟩ := p1
        obtain ⟨y1, y2, y3⟩ := p2
        obtain ⟨z1, z2, z3⟩ := p3
        obtain ⟨u1, u2, u3⟩ := p4
        obtain ⟨x1', x2', x3'⟩ := p1'
        obtain ⟨y1', y2', y3'⟩ := p2'
        obtain ⟨z1', z2', z3'⟩ := p3'
        obtain ⟨u1', u2', u3'⟩ := p4'
        simp only at f2 f3 f4 f5
        obtain ⟨rfl, rfl, rfl⟩ := f2
        obtain ⟨rfl, rfl, rfl⟩ := f3
        obtain ⟨rfl, rfl, rfl⟩ := f4
        obtain ⟨rfl, rfl, rfl⟩ := f5
        exact hRt
      have HT := Lib.hid (pick_take pro l.routes k hkl)
      have l9 := World.block_lt_of_cell? _ _ e0
      simp only at l9
      clear hc hA
      generalize l.routes[k] = x at *
      go_wp2_with (go_at_call 41; with_reducible refine Calls.mono (has07_any _ _ _ HP.out) ?_)
      rintro e w1 ⟨rfl, rfl⟩
      cases hh : hasU pro k
      · have HN : Hid (pick pro (l.routes.take (k + 1)) 0 = pick pro (l.routes.take k) 0) := by
          rw [HT.out]; rw [hasU_nat] at hh; simp [hh]; trivial
        clear HT HX
        go_wp2
        go_roundw
        case rel => exact ⟨k + 1, hs, by omega, by go_num, ⟨HN.out ▸ HST.out.1, HST.out.2⟩, by omega, hb⟩
        case measure => simp [intOf]; omega
      · have HN : Hid (pick pro (l.routes.take (k + 1)) 0 = pick pro (l.routes.take k) 0 ++ [x]) := by
          rw [HT.out]; rw [hasU_nat] at hh; simp [hh]; trivial
        clear HT
        unfold Hd.v at e2 e3 e4 e5
        have hcl : (RtH.cells ⟨x, p1, p2, p3, p4⟩).length = 1 * 6 := rfl
        have HOW := Lib.hid HST.out.2.2
        have hzB := hb.size
        go_wp2_with (at_builtin; go_must (refine wpList_app rfl _ _ _ rfl elemRt W.heap.size _ hs.length _ rfl (HOW.out.alloc _) 1 1 ⟨wr.heap.size, 0, none⟩ (RtH.cells ⟨x, p1, p2, p3, p4⟩) rfl hcl ?c1 ?c6 ?c3 ?c4 ?c2 ?_))
        case c1 => exact fun j u hj => news_of_alloc j u hj
        case c6 => intro u hu; simp [RtH.cells] at hu; rcases hu with rfl | rfl | rfl | rfl | rfl | rfl <;> rfl
        case c2 => simp; omega
        case c3 => omega
        case c4 => omega
        intro A2 c2 w2 hown1 hgrow hb1
        have hb2 := ((Below.alloc hb hzB _).trans hb1)
        have HN2 : Hid ((hs ++ [⟨x, p1, p2, p3, p4⟩] : List RtH).map RtH.rt = pick pro (l.routes.take (k + 1)) 0 ∧ (∀ y ∈ hs ++ [⟨x, p1, p2, p3, p4⟩], RRt W y.p y.q y.o y.f y.rt) ∧ w2.ownsRow W.heap.size 64 6 (.slice A2 (hs.length + 1) c2) (hs ++ [⟨x, p1, p2, p3, p4⟩] : List RtH).length (rtCells (hs ++ [⟨x, p1, p2, p3, p4⟩]))) := by
          refine ⟨by rw [HN.out, List.map_append, HST.out.1]; rfl, fun y hy => ?_, ?_⟩
          · rcases List.mem_append.1 hy with h | h
            · exact HST.out.2.1 y h
            · obtain rfl := List.mem_singleton.1 h
              exact HX.out
          · rw [List.length_append]
            have : rtCells (hs ++ [⟨x, p1, p2, p3, p4⟩]) = rtCells hs ++ RtH.cells ⟨x, p1, p2, p3, p4⟩ := by simp [rtCells]
            rw [this]
            exact hown1
        clear hb1 hgrow hown1 HST HN HX HOW
        go_wp2
        go_roundw
        case rel => exact ⟨k + 1, hs ++ [⟨x, p1, p2, p3, p4⟩], by omega, by go_num, HN2, (by simp; omega), hb2⟩
        case measure => simp [intOf]; omega
    · obtain rfl : rn = k := by omega
      have hI := rts_of_own HST.out.2.2 (fun x hx => (HST.out.2.1 x hx).below hb) (by omega)
      rw [HST.out.1, List.take_of_length_le (by omega)] at hI
      have HI := Lib.hid hI
      clear hI HST
      go_wp2
      go_ret
      obtain ⟨A'', c'', he, hle, hr⟩ := HI.out
      cases he
      exact ⟨_, _, _, rfl, hle, bnext hbW hb, by rw [HSH.out]; exact hr⟩

theorem clashR_take (l : Ly) (xs : List Rt) (k : Nat) (h : k < xs.length) : clashR l (xs.take k) (xs.drop k) = (((xs.take k).any fun y => refConflictB l xs[k] y) || clashR l (xs.take (k + 1)) (xs.drop (k + 1))) := by
  rw [dropStep h]
  rw [clashR, takeStep h]
set_option maxRecDepth 10000 in
set_option maxHeartbeats 2000000 in
theorem clash29_any (s p g rr : Hd) (l : Ly) (A : Option Addr) (n c : Nat) (xs : List Rt) (w : World) (hl : RLy w s p g rr l) (hx : RRts w A n xs) (hs : RtsOk xs) :
    Calls Try.prog 131 #[lyv s p g rr, .slice A n c] w (RetB (clashR l [] xs) w) := by
  have HC := Lib.hid (fun W (hb : Below w.heap.size w W) x y a1 a2 a3 a4 b1 b2 b3 b4 (hx : RRt W a1 a2 a3 a4 x) (hy : RRt W b1 b2 b3 b4 y) (hsx : x.small) (hsy : y.small) => refconflict_any s p g rr l x y a1 a2 a3 a4 b1 b2 b3 b4 W (hl.below hb) hx hy hsx hsy)
  have HSM := Lib.hid (fun (i : Nat) (h : i < xs.length) => (hs _ (List.getElem_mem h)).1)
  have hln := hx.1
  have hmx := hx.2.1
  clear hl hs
  unfold lyv Hd.v at *
  obtain ⟨sA, sn, sc⟩ := s
  obtain ⟨pA, pn, pc⟩ := p
  obtain ⟨gA, gn, gc⟩ := g
  obtain ⟨rA, rn, rc⟩ := rr
  dsimp only at *
  go_enter Try.func131, Try.ntmps131
  go_upto_region 1 with (fail)
  refine name_box (fun W hbW hlt0 hbox => ?_)
  have B0 : W.cell? ⟨w.heap.size, 0, none⟩ = some (.slice sA sn sc) := hbox 0 _ rfl
  have B1 : W.cell? ⟨w.heap.size, 1, none⟩ = some (.slice pA pn pc) := hbox 1 _ rfl
  have B2 : W.cell? ⟨w.heap.size, 2, none⟩ = some (.slice gA gn gc) := hbox 2 _ rfl
  have B3 : W.cell? ⟨w.heap.size, 3, none⟩ = some (.slice rA rn rc) := hbox 3 _ rfl
  clear hbox
  go_wp2_with fail
  go_loopw [5] (fun i wr => ∃ k : Nat, k ≤ n ∧ i = .int .i64 k ∧ Hid (clashR l (xs.take k) (xs.drop k) = clashR l [] xs) ∧ Below W.heap.size W wr) (fun i _ => n - (intOf i).toNat)
  case atStart => exact ⟨0, Nat.zero_le _, rfl, rfl, Below.refl _ _⟩
  case round =>
    obtain ⟨k, hk, rfl, hi, hb⟩ := hrel
    obtain ⟨wo, rfl⟩ : ∃ wo, wo = wr := ⟨_, rfl⟩
    by_cases hlt : k < n
    · have hkl : k < xs.length := by omega
      have hi' := hi.out
      rw [clashR_take l xs k hkl] at hi'
      have HI := Lib.hid hi'
      clear hi hi'
      obtain ⟨_, _, b, off, hA, hc⟩ := hx.below (bnext hbW hb)
      obtain rfl := hA (by omega)
      go_wp2_with fail
      go_loopw [6] (fun j wr => ∃ m : Nat, m ≤ k ∧ j = .int .i64 m ∧ Hid (((xs.take k).drop m).any (fun y => refConflictB l xs[k] y) = (xs.take k).any fun y => refConflictB l xs[k] y) ∧ Below wo.heap.size wo wr) (fun j _ => k - (intOf j).toNat)
      case atStart => exact ⟨0, Nat.zero_le _, rfl, rfl, Below.refl _ _⟩
      case round =>
        obtain ⟨m, hm, rfl, hj, hb2⟩ := hrel
        have hbr := bnext hb hb2
        have c0 := bcell hbr B0
        have c1 := bcell hbr B1
        have c2 := bcell hbr B2
        have c3 := bcell hbr B3
        have hq0 := Nat.lt_of_lt_of_le hlt0 hbr.size
        by_cases hmk : m < k
        · have hml : m < xs.length := by omega
          obtain ⟨p1, p2, p3, p4, hRx, e0, e1, e2, e3, e4, e5⟩ := hc k hkl
          obtain ⟨q1, q2, q3, q4, hRy, f0, f1, f2, f3, f4, f5⟩ := hc m hml
          have hrx := hRx.below hb2
          have hry := hRy.below hb2
          have e0 := bcell hb2 e0
          have e1 := bcell hb2 e1
          have e2 := bcell hb2 e2
          have e3 := bcell hb2 e3
          have e4 := bcell hb2 e4
          have e5 := bcell hb2 e5
          have f0 := bcell hb2 f0
          have f1 := bcell hb2 f1
          have f2 := bcell hb2 f2
          have f3 := bcell hb2 f3
          have f4 := bcell hb2 f4
          have f5 := bcell hb2 f5
          have sx := HSM.out k hkl
          have sy := HSM.out m hml
          have hj' := hj.out
          rw [dropStep (by simp; omega), List.any_cons, List.getElem_take] at hj'
          clear hc hRx hRy hj HSM hx
          generalize xs[m] = y at *
          generalize hxk : xs[k] = x at *
          have HC2 := Lib.hid (fun W2 (hb3 : Below wr.heap.size wr W2) => HC.out W2 (bnext (bnext hbW hbr) hb3) x y p1 p2 p3 p4 q1 q2 q3 q4 (hrx.below hb3) (hry.below hb3) sx sy)
          clear HC hrx hry sx sy
          unfold rtv Hd.v at HC2
          unfold Hd.v at e2 e3 e4 e5 f2 f3 f4 f5
          obtain ⟨p11, p12, p13⟩ := p1
          obtain ⟨p21, p22, p23⟩ := p2
          obtain ⟨p31, p32, p33⟩ := p3
          obtain ⟨p41, p42, p43⟩ := p4
          obtain ⟨q11, q12, q13⟩ := q1
          obtain ⟨q21, q22, q23⟩ := q2
          obtain ⟨q31, q32, q33⟩ := q3
          obtain ⟨q41, q42, q43⟩ := q4
          dsimp only at *
          have l8 := World.block_lt_of_cell? _ _ e0
          have l9 := World.block_lt_of_cell? _ _ f0
          simp only at l8 l9
          cases hf : refConflictB l x y
          · have hfin : Hid (((xs.take k).drop (m + 1)).any (fun y => refConflictB l x y) = (xs.take k).any fun y => refConflictB l x y) := by rw [← hj', hf]; rfl
            rw [hf] at HC2
            clear hj' hf
            go_upto_region 7 with (fail)
            refine wp_region_calm (by kernel_rfl) (by kernel_rfl) ?_
            repeat (first | go_big_quiet_skip | (go_big_quiet_want; go_big_quiet_op; first | go_big_quiet_on | (apply Exists.intro; refine ⟨fun W1 hW1 => ?_, ?_⟩; (first | exact rfl | (go_at_call 108; (with_reducible refine Calls.mono (HC2.out _ hW1) ?_); exact fun e w5 hr => ⟨hr.1, bnext hW1 hr.2⟩) | (have hcc := bcells hW1; go_simp; rfl)); go_big_quiet_on)))
            refine wpQuiet_nil ?_
            intro W3 hW3
            go_wp2
            go_roundw
            case rel => exact ⟨m + 1, by omega, by go_num, hfin, bnext hb2 hW3⟩
            case measure => simp [intOf]; omega
          · have hfin : Hid (clashR l [] xs = true) := by rw [← HI.out, ← hj', hf]; simp; trivial
            rw [hf] at HC2
            clear hj' hf HI
            go_upto_region 7 with (fail)
            refine wp_region_calm (by kernel_rfl) (by kernel_rfl) ?_
            repeat (first | go_big_quiet_skip | (go_big_quiet_want; go_big_quiet_op; first | go_big_quiet_on | (apply Exists.intro; refine ⟨fun W1 hW1 => ?_, ?_⟩; (first | exact rfl | (go_at_call 108; (with_reducible refine Calls.mono (HC2.out _ hW1) ?_); exact fun e w5 hr => ⟨hr.1, bnext hW1 hr.2⟩) | (have hcc := bcells hW1; go_simp; rfl)); go_big_quiet_on)))
            refine wpQuiet_nil ?_
            intro W3 hW3
            go_wp2
            go_ret
            rw [hfin.out]; exact ⟨rfl, bnext hbW (bnext hbr hW3)⟩
        · have hfin : Hid (clashR l (xs.take (k + 1)) (xs.drop (k + 1)) = clashR l [] xs) := by
            have h1 := hj.out
            rw [dropEnd (by simp; omega), List.any_nil] at h1
            rw [← HI.out, ← h1]; simp; trivial
          clear hj HI HC HSM hc hx
          go_wp2
          go_roundw
          case rel => exact ⟨k + 1, by omega, by go_num, hfin, hbr⟩
          case measure => simp [intOf]; omega
    · have hfin : Hid (clashR l [] xs = false) := by rw [← hi.out, dropEnd (by omega)]; rfl
      clear hi HC HSM hx
      go_wp2
      go_ret
      rw [hfin.out]; exact ⟨rfl, bnext hbW hb⟩
end Go.Proofs.Ytmoccpbiogdbgaa
