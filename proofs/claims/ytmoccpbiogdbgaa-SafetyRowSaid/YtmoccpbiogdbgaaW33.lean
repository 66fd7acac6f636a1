/-
  The walks of Row, and of the reference's.
-/
import Derived.Test.YtmoccpbiogdbgaaW32
namespace Go.Proofs.Ytmoccpbiogdbgaa
open Go.RowKit
/-- An input: three sets, and its commands' slice. -/
structure In4 where
  oc : Nat
  nr : Nat
  rv : Nat
  c : Hd
structure Ou2 where
  pr : Nat
  ps : Nat
def In4.ok (x : In4) : Prop := x.oc < 18446744073709551616 ∧ x.nr < 4294967296 ∧ x.rv < 4294967296
def Ou2.ok (x : Ou2) : Prop := x.pr < 18446744073709551616 ∧ x.ps < 4294967296
def RIns (w : World) (A : Option Addr) (n : Nat) (xs : List In4) : Prop :=
  xs.length = n ∧ n ≤ 140737488355328 ∧ (∀ x ∈ xs, x.ok) ∧ ∃ b off, (0 < n → A = some ⟨b, off, none⟩) ∧ ∀ i (h : i < xs.length), w.cell? ⟨b, off + i * 4, none⟩ = some (.int .u64 xs[i].oc) ∧ w.cell? ⟨b, off + i * 4 + 1, none⟩ = some (.int .u32 xs[i].nr) ∧
    w.cell? ⟨b, off + i * 4 + 2, none⟩ = some (.int .u32 xs[i].rv) ∧ w.cell? ⟨b, off + i * 4 + 3, none⟩ = some xs[i].c.v
def ROuts (w : World) (A : Option Addr) (n : Nat) (xs : List Ou2) : Prop :=
  xs.length = n ∧ n ≤ 140737488355328 ∧ (∀ x ∈ xs, x.ok) ∧ ∃ b off, (0 < n → A = some ⟨b, off, none⟩) ∧ ∀ i (h : i < xs.length), w.cell? ⟨b, off + i * 2, none⟩ = some (.int .u64 xs[i].pr) ∧ w.cell? ⟨b, off + i * 2 + 1, none⟩ = some (.int .u32 xs[i].ps)
theorem RIns.below {w W : World} {A : Option Addr} {n : Nat} {xs : List In4} (h : RIns w A n xs) (hb : Below w.heap.size w W) : RIns W A n xs := by
  obtain ⟨h1, h2, h3, b, off, hA, hc⟩ := h
  exact ⟨h1, h2, h3, b, off, hA, fun i hi => ⟨bcell hb (hc i hi).1, bcell hb (hc i hi).2.1, bcell hb (hc i hi).2.2.1, bcell hb (hc i hi).2.2.2⟩⟩
theorem ROuts.below {w W : World} {A : Option Addr} {n : Nat} {xs : List Ou2} (h : ROuts w A n xs) (hb : Below w.heap.size w W) : ROuts W A n xs := by
  obtain ⟨h1, h2, h3, b, off, hA, hc⟩ := h
  exact ⟨h1, h2, h3, b, off, hA, fun i hi => ⟨bcell hb (hc i hi).1, bcell hb (hc i hi).2⟩⟩
def ioOf (x : In4) (y : Ou2) : Io := ⟨x.oc, x.nr, x.rv, y.pr, y.ps⟩
def rowFrom (f : Io → Nat) : List Io → Nat → Int × Nat
  | [], _ => (-1, 0)
  | x :: xs, k => if f x = 0 then rowFrom f xs (k + 1) else ((k : Int), f x)
def rowP (f : Io → Nat) (xs : List In4) (ys : List Ou2) : Int × Nat := rowFrom f (List.zipWith ioOf xs ys) 0
def RetRow (q : Int × Nat) (w : World) : Ending → World → Prop := fun e w' => e = .returned (.tuple #[.int .i64 q.1, .int .u8 q.2]) ∧ Below w.heap.size w w'
theorem zip_at {xs : List In4} {ys : List Ou2} {k : Nat} (h : k < (List.zipWith ioOf xs ys).length) (h1 : k < xs.length) (h2 : k < ys.length) : (List.zipWith ioOf xs ys)[k] = ioOf xs[k] ys[k] := by simp
set_option maxRecDepth 10000 in
set_option maxHeartbeats 2000000 in
theorem row29_any (s p g rr : Hd) (l : Ly) (I O : Hd) (xs : List In4) (ys : List Ou2) (w : World) (hl : RLy w s p g rr l) (hx : RIns w I.A I.n xs) (hy : ROuts w O.A O.n ys) :
    Calls Try.prog 27 #[lyv s p g rr, I.v, O.v] w (RetRow (rowP (cycleP l) xs ys) w) := by
  have HC := Lib.hid (fun W (hb : Below w.heap.size w W) io ch hio => cycle29_any s p g rr l io ch W (hl.below hb) hio)
  clear hl
  obtain ⟨zs, hzs⟩ : ∃ zs, zs = List.zipWith ioOf xs ys := ⟨_, rfl⟩
  obtain ⟨F, hF⟩ : ∃ F : Io → Nat, F = cycleP l := ⟨_, rfl⟩
  obtain ⟨res, hres⟩ : ∃ res, res = rowP (cycleP l) xs ys := ⟨_, rfl⟩
  have HZ0 : Hid (rowFrom F (zs.drop 0) 0 = res) := by rw [hF, hzs, hres, List.drop_zero]; rfl
  rw [← hres]
  have HF : Hid (∀ io, cycleP l io = F io) := fun io => by rw [hF]
  have hzl : zs.length = min I.n O.n := by rw [hzs, List.length_zipWith, hx.1, hy.1]
  have HZ : Hid (∀ k (h : k < zs.length) (h1 : k < xs.length) (h2 : k < ys.length), zs[k] = ioOf xs[k] ys[k]) := fun k h h1 h2 => by subst hzs; exact zip_at h h1 h2
  clear hF hzs hres
  have m1 := hx.2.1
  have m2 := hy.2.1
  have hlx := hx.1
  have hly := hy.1
  unfold lyv Hd.v at *
  obtain ⟨sA, sn, sc⟩ := s
  obtain ⟨pA, pn, pc⟩ := p
  obtain ⟨gA, gn, gc⟩ := g
  obtain ⟨rA, rn, rc⟩ := rr
  obtain ⟨IA, n1, Ic⟩ := I
  obtain ⟨OA, n2, Oc⟩ := O
  dsimp only at *
  go_enter Try.func27, Try.ntmps27
  go_upto_region 1 with (fail)
  refine name_box (fun W hbW hlt0 hbox => ?_)
  have B0 : W.cell? ⟨w.heap.size, 0, none⟩ = some (.slice sA sn sc) := hbox 0 _ rfl
  have B1 : W.cell? ⟨w.heap.size, 1, none⟩ = some (.slice pA pn pc) := hbox 1 _ rfl
  have B2 : W.cell? ⟨w.heap.size, 2, none⟩ = some (.slice gA gn gc) := hbox 2 _ rfl
  have B3 : W.cell? ⟨w.heap.size, 3, none⟩ = some (.slice rA rn rc) := hbox 3 _ rfl
  clear hbox
  obtain ⟨N, hN⟩ : ∃ N, N = min n1 n2 := ⟨_, rfl⟩
  have HN := Lib.hid hN
  have hN1 : N ≤ n1 := by omega
  have hN2 : N ≤ n2 := by omega
  rw [← hN] at hzl
  clear hN
  go_upto_region 1 with (fail)
  go_cut [14, 15] (fun v14 v15 wx => v14 = .int .i64 N ∧ v15 = .int .i64 0 ∧ wx = W)
  case first =>
    rcases Nat.lt_or_ge n2 n1 with h | h
    · have e : N = n2 := by have := HN.out; omega
      subst e
      clear HN hzl HZ0 HZ
      go_wp2
      go_meet
      exact ⟨rfl, rfl, rfl⟩
    · have e : N = n1 := by have := HN.out; omega
      subst e
      clear HN hzl HZ0 HZ
      have h' : ¬ n2 < N := by omega
      go_wp2
      go_meet
      exact ⟨rfl, rfl, rfl⟩
  case rest =>
  obtain ⟨rfl, rfl, hw⟩ := hcut
  rw [hw]
  clear hw
  go_wp2_with fail
  go_loopw [15] (fun i wr => ∃ k : Nat, k ≤ N ∧ i = .int .i64 k ∧ Hid (rowFrom F (zs.drop k) k = res) ∧ Below W.heap.size W wr) (fun i _ => N - (intOf i).toNat)
  case atStart => exact ⟨0, Nat.zero_le _, rfl, HZ0.out, Below.refl _ _⟩
  case round =>
    obtain ⟨k, hk, rfl, hi, hb⟩ := hrel
    have c0 := bcell hb B0
    have c1 := bcell hb B1
    have c2 := bcell hb B2
    have c3 := bcell hb B3
    have hq0 := Nat.lt_of_lt_of_le hlt0 hb.size
    by_cases hlt : k < N
    · have hkx : k < xs.length := by omega
      have hky : k < ys.length := by omega
      have hkz : k < zs.length := by omega
      obtain ⟨_, _, hxo, b, off, hA, hc⟩ := hx.below (bnext hbW hb)
      obtain ⟨_, _, hyo, b2, off2, hA2, hc2⟩ := hy.below (bnext hbW hb)
      obtain rfl := hA (by omega)
      obtain rfl := hA2 (by omega)
      obtain ⟨d0, d1, d2, d3⟩ := hc k hkx
      obtain ⟨f0, f1⟩ := hc2 k hky
      have hok1 := hxo _ (List.getElem_mem hkx)
      have hok2 := hyo _ (List.getElem_mem hky)
      have hi' := hi.out
      rw [dropStep hkz, HZ.out k hkz hkx hky] at hi'
      clear hc hc2 hA hA2 hxo hyo hi HZ
      generalize xs[k] = x at *
      generalize ys[k] = y at *
      have HC2 := Lib.hid (fun W2 (hb2 : Below wr.heap.size wr W2) => HC.out W2 (bnext (bnext hbW hb) hb2) (ioOf x y) x.c ⟨hok1.1, hok1.2.1, hok1.2.2, hok2.1, hok2.2⟩)
      rw [HF.out] at HC2
      clear HC hok1 hok2 hx hy
      generalize hFq : F (ioOf x y) = q at *
      obtain ⟨xo, xn, xr, xA, xm, xc⟩ := x
      obtain ⟨yp, yt⟩ := y
      unfold ioOf inv outv Hd.v at HC2
      unfold Hd.v at d3
      unfold ioOf at hFq hi'
      dsimp only at *
      have l8 := World.block_lt_of_cell? _ _ d0
      have l9 := World.block_lt_of_cell? _ _ f0
      simp only at l8 l9
      by_cases hq : q = 0
      · have hfin : Hid (rowFrom F (zs.drop (k + 1)) (k + 1) = res) := by rw [← hi']; simp [rowFrom, hFq, hq]; trivial
        subst hq
        clear hi'
        go_upto_region 4 with (fail)
        refine wp_region_calm (by kernel_rfl) (by kernel_rfl) ?_
        repeat (first | go_big_quiet_skip | (go_big_quiet_want; go_big_quiet_op; first | go_big_quiet_on | (apply Exists.intro; refine ⟨fun W1 hW1 => ?_, ?_⟩; (first | exact rfl | (go_at_call 24; (with_reducible refine Calls.mono (HC2.out W1 hW1) ?_); exact fun e w5 hr => ⟨hr.1, bnext hW1 hr.2⟩) | (have hcc := bcells hW1; go_simp; rfl)); go_big_quiet_on)))
        refine wpQuiet_nil ?_
        intro W3 hW3
        go_wp2
        go_roundw
        case rel => exact ⟨k + 1, by omega, by go_num, hfin, bnext hb hW3⟩
        case measure => simp [intOf]; omega
      · have hfin : Hid (res = ((k : Int), q)) := by rw [← hi']; simp [rowFrom, hFq, hq]; trivial
        have hq' : ((q : Int) != 0) = true := by simp [hq]
        clear hi'
        go_upto_region 4 with (fail)
        refine wp_region_calm (by kernel_rfl) (by kernel_rfl) ?_
        repeat (first | go_big_quiet_skip | (go_big_quiet_want; go_big_quiet_op; first | go_big_quiet_on | (apply Exists.intro; refine ⟨fun W1 hW1 => ?_, ?_⟩; (first | exact rfl | (go_at_call 24; (with_reducible refine Calls.mono (HC2.out W1 hW1) ?_); exact fun e w5 hr => ⟨hr.1, bnext hW1 hr.2⟩) | (have hcc := bcells hW1; go_simp; rfl)); go_big_quiet_on)))
        refine wpQuiet_nil ?_
        intro W3 hW3
        go_wp2
        go_ret2
        rw [hfin.out]; exact ⟨rfl, bnext hbW (bnext hb hW3)⟩
    · have hfin : Hid (res = (-1, 0)) := by rw [← hi.out, dropEnd (by omega)]; rfl
      clear hi HC hx hy
      go_wp2
      go_ret2
      rw [hfin.out]; exact ⟨rfl, bnext hbW hb⟩
set_option maxRecDepth 10000 in
set_option maxHeartbeats 2000000 in
theorem refrow29_any (s p g rr : Hd) (l : Ly) (I O : Hd) (xs : List In4) (ys : List Ou2) (w : World) (hl : RLy w s p g rr l) (hx : RIns w I.A I.n xs) (hy : ROuts w O.A O.n ys) :
    Calls Try.prog 28 #[lyv s p g rr, I.v, O.v] w (RetRow (rowP (cycleR l) xs ys) w) := by
  have HC := Lib.hid (fun W (hb : Below w.heap.size w W) io ch hio => refcycle29_any s p g rr l io ch W (hl.below hb) hio)
  clear hl
  obtain ⟨zs, hzs⟩ : ∃ zs, zs = List.zipWith ioOf xs ys := ⟨_, rfl⟩
  obtain ⟨F, hF⟩ : ∃ F : Io → Nat, F = cycleR l := ⟨_, rfl⟩
  obtain ⟨res, hres⟩ : ∃ res, res = rowP (cycleR l) xs ys := ⟨_, rfl⟩
  have HZ0 : Hid (rowFrom F (zs.drop 0) 0 = res) := by rw [hF, hzs, hres, List.drop_zero]; rfl
  rw [← hres]
  have HF : Hid (∀ io, cycleR l io = F io) := fun io => by rw [hF]
  have hzl : zs.length = min I.n O.n := by rw [hzs, List.length_zipWith, hx.1, hy.1]
  have HZ : Hid (∀ k (h : k < zs.length) (h1 : k < xs.length) (h2 : k < ys.length), zs[k] = ioOf xs[k] ys[k]) := fun k h h1 h2 => by subst hzs; exact zip_at h h1 h2
  clear hF hzs hres
  have m1 := hx.2.1
  have m2 := hy.2.1
  have hlx := hx.1
  have hly := hy.1
  unfold lyv Hd.v at *
  obtain ⟨sA, sn, sc⟩ := s
  obtain ⟨pA, pn, pc⟩ := p
  obtain ⟨gA, gn, gc⟩ := g
  obtain ⟨rA, rn, rc⟩ := rr
  obtain ⟨IA, n1, Ic⟩ := I
  obtain ⟨OA, n2, Oc⟩ := O
  dsimp only at *
  go_enter Try.func28, Try.ntmps28
  go_upto_region 1 with (fail)
  refine name_box (fun W hbW hlt0 hbox => ?_)
  have B0 : W.cell? ⟨w.heap.size, 0, none⟩ = some (.slice sA sn sc) := hbox 0 _ rfl
  have B1 : W.cell? ⟨w.heap.size, 1, none⟩ = some (.slice pA pn pc) := hbox 1 _ rfl
  have B2 : W.cell? ⟨w.heap.size, 2, none⟩ = some (.slice gA gn gc) := hbox 2 _ rfl
  have B3 : W.cell? ⟨w.heap.size, 3, none⟩ = some (.slice rA rn rc) := hbox 3 _ rfl
  clear hbox
  obtain ⟨N, hN⟩ : ∃ N, N = min n1 n2 := ⟨_, rfl⟩
  have HN := Lib.hid hN
  have hN1 : N ≤ n1 := by omega
  have hN2 : N ≤ n2 := by omega
  rw [← hN] at hzl
  clear hN
  go_wp2_with fail
  go_loopw [8] (fun i wr => ∃ k : Nat, k ≤ N ∧ i = .int .i64 k ∧ Hid (rowFrom F (zs.drop k) k = res) ∧ Below W.heap.size W wr) (fun i _ => N - (intOf i).toNat)
  case atStart => exact ⟨0, Nat.zero_le _, rfl, HZ0.out, Below.refl _ _⟩
  case round =>
    obtain ⟨k, hk, rfl, hi, hb⟩ := hrel
    have c0 := bcell hb B0
    have c1 := bcell hb B1
    have c2 := bcell hb B2
    have c3 := bcell hb B3
    have hq0 := Nat.lt_of_lt_of_le hlt0 hb.size
    by_cases hlt : k < N
    · have hkx : k < xs.length := by omega
      have hky : k < ys.length := by omega
      have hkz : k < zs.length := by omega
      obtain ⟨_, _, hxo, b, off, hA, hc⟩ := hx.below (bnext hbW hb)
      obtain ⟨_, _, hyo, b2, off2, hA2, hc2⟩ := hy.below (bnext hbW hb)
      obtain rfl := hA (by omega)
      obtain rfl := hA2 (by omega)
      obtain ⟨d0, d1, d2, d3⟩ := hc k hkx
      obtain ⟨f0, f1⟩ := hc2 k hky
      have hok1 := hxo _ (List.getElem_mem hkx)
      have hok2 := hyo _ (List.getElem_mem hky)
      have hi' := hi.out
      rw [dropStep hkz, HZ.out k hkz hkx hky] at hi'
      clear hc hc2 hA hA2 hxo hyo hi HZ
      generalize xs[k] = x at *
      generalize ys[k] = y at *
      have HC2 := Lib.hid (fun W2 (hb2 : Below wr.heap.size wr W2) => HC.out W2 (bnext (bnext hbW hb) hb2) (ioOf x y) x.c ⟨hok1.1, hok1.2.1, hok1.2.2, hok2.1, hok2.2⟩)
      rw [HF.out] at HC2
      clear HC hok1 hok2 hx hy
      generalize hFq : F (ioOf x y) = q at *
      obtain ⟨xo, xn, xr, xA, xm, xc⟩ := x
      obtain ⟨yp, yt⟩ := y
      unfold ioOf inv outv Hd.v at HC2
      unfold Hd.v at d3
      unfold ioOf at hFq hi'
      dsimp only at *
      have l8 := World.block_lt_of_cell? _ _ d0
      have l9 := World.block_lt_of_cell? _ _ f0
      simp only at l8 l9
      have hk1 : k < n1 := by omega
      have hk2 : k < n2 := by omega
      by_cases hq : q = 0
      · have hfin : Hid (rowFrom F (zs.drop (k + 1)) (k + 1) = res) := by rw [← hi']; simp [rowFrom, hFq, hq]; trivial
        subst hq
        clear hi'
        go_upto_region 4 with (fail)
        refine wp_region_calm (by kernel_rfl) (by kernel_rfl) ?_
        repeat (first | go_big_quiet_skip | (go_big_quiet_want; go_big_quiet_op; first | go_big_quiet_on | (apply Exists.intro; refine ⟨fun W1 hW1 => ?_, ?_⟩; (first | exact rfl | (go_at_call 77; (with_reducible refine Calls.mono (HC2.out W1 hW1) ?_); exact fun e w5 hr => ⟨hr.1, bnext hW1 hr.2⟩) | (have hcc := bcells hW1; go_simp; rfl)); go_big_quiet_on)))
        refine wpQuiet_nil ?_
        intro W3 hW3
        go_wp2
        go_roundw
        case rel => exact ⟨k + 1, by omega, by go_num, hfin, bnext hb hW3⟩
        case measure => simp [intOf]; omega
      · have hfin : Hid (res = ((k : Int), q)) := by rw [← hi']; simp [rowFrom, hFq, hq]; trivial
        have hq' : ((q : Int) != 0) = true := by simp [hq]
        clear hi'
        go_upto_region 4 with (fail)
        refine wp_region_calm (by kernel_rfl) (by kernel_rfl) ?_
        repeat (first | go_big_quiet_skip | (go_big_quiet_want; go_big_quiet_op; first | go_big_quiet_on | (apply Exists.intro; refine ⟨fun W1 hW1 => ?_, ?_⟩; (first | exact rfl | (go_at_call 77; (with_reducible refine Calls.mono (HC2.out W1 hW1) ?_); exact fun e w5 hr => ⟨hr.1, bnext hW1 hr.2⟩) | (have hcc := bcells hW1; go_simp; rfl)); go_big_quiet_on)))
        refine wpQuiet_nil ?_
        intro W3 hW3
        go_wp2
        go_ret2
        rw [hfin.out]; exact ⟨rfl, bnext hbW (bnext hb hW3)⟩
    · have hfin : Hid (res = (-1, 0)) := by rw [← hi.out, dropEnd (by omega)]; rfl
      clear hi HC hx hy
      rcases Nat.lt_or_ge k n1 with h1 | h1
      · have h2 : ¬ k < n2 := by have := HN.out; omega
        go_wp2
        go_ret2
        rw [hfin.out]; exact ⟨rfl, bnext hbW hb⟩
      · have h1' : ¬ k < n1 := by omega
        go_wp2
        go_ret2
        rw [hfin.out]; exact ⟨rfl, bnext hbW hb⟩
end Go.Proofs.Ytmoccpbiogdbgaa
