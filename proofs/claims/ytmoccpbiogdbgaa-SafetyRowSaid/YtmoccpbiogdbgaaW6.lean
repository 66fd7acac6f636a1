/-
  The walks of a route's track and needs, in the program's and in the reference's text.
-/
import Derived.Test.YtmoccpbiogdbgaaW5
namespace Go.Proofs.Ytmoccpbiogdbgaa
open Go.RowKit Go.Shelf


set_option maxRecDepth 10000 in
set_option maxHeartbeats 400000 in
theorem track_any (r : Rt) (p q o f : Hd) (w : World) (hr : RRt w p q o f r) (hs : r.small) :
    Calls Try.prog 67 #[rtv r p q o f] w (RetS (fun W A n => RInts W A n r.track) w) := by
  obtain ⟨⟨okp, okq, oko, okf⟩, hnm, hp, hq, ho, hf⟩ := hr
  obtain ⟨s1, s2, s3, s4⟩ := hs
  have l1 := hp.1
  have l2 := hq.1
  have l3 := ho.1
  have l4 := hf.1
  unfold rtv Hd.v
  have HC := Lib.hid (fun W hb => concatI (w.heap.size + 1) 0 p o r.path r.overlap W (hp.below hb) (ho.below hb) okp oko (by omega) (by omega))
  go_enter Try.func67, Try.ntmps67
  go_wp2_with (go_at_call 120; refine (HC.out _ ?h0 ?h1 ?h2).mono ?_)
  case h0 => exact ((Below.refl _ _).alloc (Nat.le_refl _) _).alloc (by simp) _
  case h1 => go_simp
  case h2 => go_simp
  rintro e w1 ⟨A1, n1, c1, rfl, hle, hb1, hr1⟩
  have hb2 := bnext (((Below.refl w.heap.size w).alloc (Nat.le_refl _) _).alloc (by simp) _) hb1
  have HR := Lib.hid hr1
  clear hr1 hb1
  go_wp2
  go_ret
  exact ⟨_, _, _, rfl, hle, hb2, HR.out⟩

set_option maxRecDepth 10000 in
set_option maxHeartbeats 400000 in
theorem needs_any (r : Rt) (p q o f : Hd) (w : World) (hr : RRt w p q o f r) (hs : r.small) :
    Calls Try.prog 82 #[rtv r p q o f] w (RetS (fun W A n => RNds W A n r.needs) w) := by
  obtain ⟨⟨okp, okq, oko, okf⟩, hnm, hp, hq, ho, hf⟩ := hr
  obtain ⟨s1, s2, s3, s4⟩ := hs
  have l1 := hp.1
  have l2 := hq.1
  have l3 := ho.1
  have l4 := hf.1
  unfold rtv Hd.v
  have HC := Lib.hid (fun W hb => concatN (w.heap.size + 1) 0 q f r.points r.flank W (hq.below hb) (hf.below hb) okq okf (by omega) (by omega))
  go_enter Try.func82, Try.ntmps82
  go_wp2_with (go_at_call 135; refine (HC.out _ ?h0 ?h1 ?h2).mono ?_)
  case h0 => exact ((Below.refl _ _).alloc (Nat.le_refl _) _).alloc (by simp) _
  case h1 => go_simp
  case h2 => go_simp
  rintro e w1 ⟨A1, n1, c1, rfl, hle, hb1, hr1⟩
  have hb2 := bnext (((Below.refl w.heap.size w).alloc (Nat.le_refl _) _).alloc (by simp) _) hb1
  have HR := Lib.hid hr1
  clear hr1 hb1
  go_wp2
  go_ret
  exact ⟨_, _, _, rfl, hle, hb2, HR.out⟩

set_option maxRecDepth 10000 in
set_option maxHeartbeats 400000 in
theorem reftrack_any (r : Rt) (p q o f : Hd) (w : World) (hr : RRt w p q o f r) (hs : r.small) :
    Calls Try.prog 86 #[rtv r p q o f] w (RetS (fun W A n => RInts W A n r.track) w) := by
  obtain ⟨⟨okp, okq, oko, okf⟩, hnm, hp, hq, ho, hf⟩ := hr
  obtain ⟨s1, s2, s3, s4⟩ := hs
  have l1 := hp.1
  have l2 := hq.1
  have l3 := ho.1
  have l4 := hf.1
  unfold rtv Hd.v
  go_enter Try.func86, Try.ntmps86
  go_upto_region 2 with (fail)
  refine name_box (fun W hbW hlt hbox => ?_)
  have B2 : W.cell? ⟨w.heap.size, 2, none⟩ = some (.slice p.A p.n p.c) := hbox 2 _ rfl
  have B3 : W.cell? ⟨w.heap.size, 3, none⟩ = some (.slice q.A q.n q.c) := hbox 3 _ rfl
  have B4 : W.cell? ⟨w.heap.size, 4, none⟩ = some (.slice o.A o.n o.c) := hbox 4 _ rfl
  have B5 : W.cell? ⟨w.heap.size, 5, none⟩ = some (.slice f.A f.n f.c) := hbox 5 _ rfl
  clear hbox
  go_wp2_with (at_builtin; go_must (refine wpList_appAll rfl _ _ _ rfl elemInt W.heap.size _ 0 _ rfl (World.ownsRow_nil W _ _ _) p.A p.n p.c (r.path.map (Value.int .i64)) rfl okp ?d0 ?d1 ?d2 ?d3 ?d4 ?d5 ?_))
  case d0 => simp; omega
  case d1 => exact intCells_src (hp.below hbW)
  case d2 => exact intCells_one _
  case d3 => omega
  case d4 => omega
  case d5 => exact Nat.le_refl _
  intro A2 c2 w2 ho2 hg2 hb2
  have hz2 := hb2.size
  have B2 := bcell hb2 B2
  have B3 := bcell hb2 B3
  have B4 := bcell hb2 B4
  have B5 := bcell hb2 B5
  have HO2 : Hid (w2.ownsRow W.heap.size 3 1 (.slice A2 p.n c2) p.n (r.path.map (Value.int .i64))) := by simpa [Hid] using ho2
  clear ho2 hg2
  go_wp2_with (at_builtin; go_must (refine wpList_appAll rfl _ _ _ rfl elemInt W.heap.size _ p.n _ rfl HO2.out o.A o.n o.c (r.overlap.map (Value.int .i64)) rfl oko ?d0 ?d1 ?d2 ?d3 ?d4 ?d5 ?_))
  case d0 => simp; omega
  case d1 => exact intCells_src (ho.below (bnext hbW hb2))
  case d2 => exact intCells_one _
  case d3 => omega
  case d4 => omega
  case d5 => exact hz2
  intro A3 c3 w3 ho3 hg3 hb3
  have hb3' := bnext hbW (hb2.trans hb3)
  have HO3 := Lib.hid ho3
  clear ho3 hg3 hb3
  go_wp2
  go_ret
  have h := HO3.out
  rw [← List.map_append] at h
  obtain ⟨A', c', he, hle, hr⟩ := ints_of_own h (by omega)
  cases he
  exact ⟨_, _, _, rfl, hle, hb3', hr⟩

set_option maxRecDepth 10000 in
set_option maxHeartbeats 400000 in
theorem refneeds_any (r : Rt) (p q o f : Hd) (w : World) (hr : RRt w p q o f r) (hs : r.small) :
    Calls Try.prog 84 #[rtv r p q o f] w (RetS (fun W A n => RNds W A n r.needs) w) := by
  obtain ⟨⟨okp, okq, oko, okf⟩, hnm, hp, hq, ho, hf⟩ := hr
  obtain ⟨s1, s2, s3, s4⟩ := hs
  have l1 := hp.1
  have l2 := hq.1
  have l3 := ho.1
  have l4 := hf.1
  unfold rtv Hd.v
  go_enter Try.func84, Try.ntmps84
  go_upto_region 2 with (fail)
  refine name_box (fun W hbW hlt hbox => ?_)
  have B2 : W.cell? ⟨w.heap.size, 2, none⟩ = some (.slice p.A p.n p.c) := hbox 2 _ rfl
  have B3 : W.cell? ⟨w.heap.size, 3, none⟩ = some (.slice q.A q.n q.c) := hbox 3 _ rfl
  have B4 : W.cell? ⟨w.heap.size, 4, none⟩ = some (.slice o.A o.n o.c) := hbox 4 _ rfl
  have B5 : W.cell? ⟨w.heap.size, 5, none⟩ = some (.slice f.A f.n f.c) := hbox 5 _ rfl
  clear hbox
  go_wp2_with (at_builtin; go_must (refine wpList_appAll rfl _ _ _ rfl elemNd W.heap.size _ 0 _ rfl (World.ownsRow_nil W _ _ _) q.A q.n q.c (ndCells r.points) rfl okq ?d0 ?d1 ?d2 ?d3 ?d4 ?d5 ?_))
  case d0 => rw [ndCells_length]; omega
  case d1 => exact ndCells_src (hq.below hbW)
  case d2 => exact ndCells_one _
  case d3 => omega
  case d4 => omega
  case d5 => exact Nat.le_refl _
  intro A2 c2 w2 ho2 hg2 hb2
  have hz2 := hb2.size
  have B2 := bcell hb2 B2
  have B3 := bcell hb2 B3
  have B4 := bcell hb2 B4
  have B5 := bcell hb2 B5
  have HO2 : Hid (w2.ownsRow W.heap.size 93 2 (.slice A2 q.n c2) q.n (ndCells r.points)) := by simpa [Hid] using ho2
  clear ho2 hg2
  go_wp2_with (at_builtin; go_must (refine wpList_appAll rfl _ _ _ rfl elemNd W.heap.size _ q.n _ rfl HO2.out f.A f.n f.c (ndCells r.flank) rfl okf ?d0 ?d1 ?d2 ?d3 ?d4 ?d5 ?_))
  case d0 => rw [ndCells_length]; omega
  case d1 => exact ndCells_src (hf.below (bnext hbW hb2))
  case d2 => exact ndCells_one _
  case d3 => omega
  case d4 => omega
  case d5 => exact hz2
  intro A3 c3 w3 ho3 hg3 hb3
  have hb3' := bnext hbW (hb2.trans hb3)
  have HO3 := Lib.hid ho3
  clear ho3 hg3 hb3
  go_wp2
  go_ret
  have h := HO3.out
  rw [← ndCells_append] at h
  obtain ⟨A', c', he, hle, hr⟩ := nds_of_own h (by omega)
  cases he
  exact ⟨_, _, _, rfl, hle, hb3', hr⟩

/-! ### Closures of topo -/
theorem enters_of' {f : FuncId} {fn : Func} {c : Code} (hf : Try.prog.funcs[f]? = some fn) (hname : (fn.name == "runtime.NumGoroutine") = false) (hb : fn.body = some c) : Enters Try.prog f := enters_of hf hname hb

set_option maxHeartbeats 400000 in
theorem formed1_any (x : Int) (w : World) : Calls Try.prog 161 #[.int .i64 x] w (RetI x w) := by
  go_enter Try.func161, Try.ntmps161
  go_wp2
  go_ret
  exact ⟨rfl, Below.refl _ _⟩
set_option maxHeartbeats 400000 in
theorem formed1_q (x : Int) (w : World) : Calls Try.prog 161 #[.int .i64 x] w fun e w' => e = .returned (.int .i64 x) ∧ w' = w := by
  go_enter Try.func161, Try.ntmps161
  go_wp2
  go_ret
  exact ⟨rfl, rfl⟩
set_option maxHeartbeats 400000 in
theorem formed2_any (x : Nd) (w : World) : Calls Try.prog 164 #[.agg #[.int .i64 x.pt, .bool x.rev]] w (RetI x.pt w) := by
  go_enter Try.func164, Try.ntmps164
  go_wp2
  go_ret
  exact ⟨rfl, (Below.refl _ _).alloc (Nat.le_refl _) _⟩
set_option maxHeartbeats 400000 in
theorem has1_any (x : Nd) (n : Int) (b : Nat) (w : World) (hc : w.cell? ⟨b, 0, none⟩ = some (.int .i64 n)) : Calls Try.prog 176 #[.agg #[.int .i64 x.pt, .bool x.rev], .pointer (some ⟨b, 0, none⟩)] w (RetB (x.pt == n) w) := by
  have hlt := World.block_lt_of_cell? w _ hc
  simp only at hlt
  go_enter Try.func176, Try.ntmps176
  go_wp2
  go_ret
  exact ⟨rfl, (Below.refl _ _).alloc (Nat.le_refl _) _⟩
theorem eHas1 : Enters Try.prog 176 := enters_of' Try.func176 (by kernel_rfl) rfl
set_option maxHeartbeats 400000 in
theorem has_any' (A : Option Addr) (m c : Nat) (xs : List Nd) (n : Int) (w : World) (hx : RNds w A m xs) :
    Calls Try.prog 165 #[.slice A m c, .int .i64 n] w (RetB (hasP n xs) w) := by
  have HC := Lib.hid (fun W (hb : Below w.heap.size w W) (hc : W.cell? ⟨w.heap.size, 0, none⟩ = some (.int .i64 n)) => containsFuncN A m c xs 176 #[.pointer (some ⟨w.heap.size, 0, none⟩)] (fun x => x.pt == n) W (hx.below hb)
    ⟨eHas1, fun x _ W' hb' => has1_any x n w.heap.size W' (bcell hb' hc)⟩)
  go_enter Try.func165, Try.ntmps165
  go_wp2_with (go_at_call 106; refine (HC.out _ ?h0 ?h1).mono ?_)
  case h0 => exact (Below.refl _ _).alloc (Nat.le_refl _) _
  case h1 => go_simp
  rintro e w1 ⟨rfl, hb1⟩
  have hb2 := bnext ((Below.refl w.heap.size w).alloc (Nat.le_refl _) _) hb1
  clear hb1
  go_wp2
  go_ret
  exact ⟨rfl, hb2⟩
end Go.Proofs.Ytmoccpbiogdbgaa
