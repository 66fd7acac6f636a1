/-
  The walks of the closures of safety.Cycle that look at needs.
-/
import Derived.Test.YtmoccpbiogdbgaaW24
import Derived.Test.YtmoccpbiogdbgaaLoose
namespace Go.Proofs.Ytmoccpbiogdbgaa
open Go.RowKit Go.Shelf
/-- A slice of needs. -/
def someN (xs : List Nd) : Value → World → Prop := fun v W => ∃ A n c, v = .slice A n c ∧ RNds W A n xs
theorem stab_someN {xs : List Nd} : stab (someN xs) := fun _ _ _ ⟨A, n, c, h1, h2⟩ hb => ⟨A, n, c, h1, h2.below hb⟩
/-- One operation that looks at two slots, the frame a variable. -/
theorem loose_run2 {P : Program} {F : Tmp → Value → World → Prop} {t : Tmp} {o : Oper} {a : Act} {W : World} (f : Value → World → Prop) (s : Operand) (v : Value) (s2 : Operand) (v2 : Value) (hx : a.eval s = v) (hx2 : a.eval s2 = v2) (hf : ∀ v W, f v W → F t v W)
    (h : ∀ ev : Operand → Value, (∀ g, ev (.func g) = a.eval (.func g)) → ev s = v → ev s2 = v2 → aUpon P f W ((execOp ev o).run P W)) : looseUpon P F (some t) W ((execOp a.eval o).run P W) :=
  by
  have h1 := h a.eval (fun _ => rfl) hx hx2
  generalize (execOp a.eval o).run P W = r at *
  cases r with
  | ok n w' =>
    cases n <;> simp only [aUpon] at h1 <;> simp only [looseUpon]
    case value u => exact ⟨h1.1, fun u' hu' => by cases hu'; exact hf _ _ h1.2⟩
    case enter g args => exact h1.mono fun e w'' ⟨u, he, hb, hfu⟩ => ⟨u, he, hb, fun u' hu' => by cases hu'; exact hf _ _ hfu⟩
  | halt x w' => simp only [aUpon] at h1
/-- A box of six cells. -/
theorem name_box6 {P : Program} {c : Code} {Q : Exit → Act → World → Prop} {a : Act} {w : World} {v0 v1 v2 v3 v4 v5 : Value} {T : TypeId}
    (h : ∀ W, Below w.heap.size w W → w.heap.size < W.heap.size → W.cell? ⟨w.heap.size, 0, none⟩ = some v0 → W.cell? ⟨w.heap.size, 1, none⟩ = some v1 → W.cell? ⟨w.heap.size, 2, none⟩ = some v2 → W.cell? ⟨w.heap.size, 3, none⟩ = some v3 → W.cell? ⟨w.heap.size, 4, none⟩ = some v4 → W.cell? ⟨w.heap.size, 5, none⟩ = some v5 → c.wp P Q a W) : c.wp P Q a (w.alloc (.cells #[v0, v1, v2, v3, v4, v5] T)) :=
  name_box fun W hb hlt hbox => h W hb hlt (hbox 0 _ rfl) (hbox 1 _ rfl) (hbox 2 _ rfl) (hbox 3 _ rfl) (hbox 4 _ rfl) (hbox 5 _ rfl)
/-- What a function says of each need. -/
def PredNd (g : FuncId) (caps : Array Value) (q : Nd → Bool) (w : World) : Prop :=
  Enters Try.prog g ∧ ∀ x : Nd, 0 ≤ x.pt → ∀ W, Below w.heap.size w W → Calls Try.prog g (#[.agg #[.int .i64 x.pt, .bool x.rev]] ++ caps) W (RetB (q x) W)
theorem eN1 : Enters Try.prog 121 := enters_of' Try.func121 (by kernel_rfl) rfl
set_option maxRecDepth 10000 in
set_option maxHeartbeats 400000 in
theorem n1_any (r : Rt) (p q o f : Hd) (g : FuncId) (caps : Array Value) (pr : Nd → Bool) (bw : Nat) (w : World) (hr : RRt w p q o f r) (hs : r.small) (hn : ∀ n ∈ r.needs, 0 ≤ n.pt) (hp : PredNd g caps pr w) (hB : w.cell? ⟨bw, 0, none⟩ = some (.func (.func g) #[] caps)) :
    Calls Try.prog 121 #[rtv r p q o f, .pointer (some ⟨bw, 0, none⟩)] w (RetB (r.needs.any pr) w) := by
  have HN := Lib.hid (fun W (hb : Below w.heap.size w W) => needs_any r p q o f W (hr.below hb) hs)
  have HC := Lib.hid (fun W (hb : Below w.heap.size w W) A n c (hX : RNds W A n r.needs) => containsFuncN A n c r.needs g caps pr W hX ⟨hp.1, fun x hxm W' hb' => hp.2 x (hn x hxm) W' (bnext hb hb')⟩)
  have l1 := World.block_lt_of_cell? _ _ hB
  simp only at l1
  clear hr hs hn hp
  unfold rtv Hd.v at *
  go_enter Try.func121, Try.ntmps121
  go_upto_region 1 with (fail)
  refine name_box6 (fun W hbW hlt c0 c1 c2 c3 c4 c5 => ?_)
  have cB := bcell hbW hB
  have l2 := Nat.lt_of_lt_of_le l1 hbW.size
  clear hB l1
  refine wp_region_loose (lk [ex (.bool (r.needs.any pr)), ex (.agg #[.string r.name, .int .i64 r.sig, .slice p.A p.n p.c, .slice q.A q.n q.c, .slice o.A o.n o.c, .slice f.A f.n f.c]), someN r.needs, ex (.func (.func g) #[] caps), ex (.bool (r.needs.any pr))] 3) (by kernel_rfl) (by kernel_rfl) (lk_stab ⟨stab_ex, stab_ex, stab_someN, stab_ex, stab_ex, trivial⟩) (loose_start ?_)
  apply loose_q 4
  · intro W2 hk; have hcc := bcells hk.1; go_big_quiet_op; first | exact rfl | (apply Exists.intro; refine ⟨fun W3 hW3 => ?_, ?_⟩; (first | exact rfl | (have hcc3 := bcells (bnext hk.1 hW3); go_simp; rfl)); exact rfl)
  · exact rfl
  · exact rfl
  · kernel_rfl
  · kernel_rfl
  · exact fun v W => Iff.rfl
  · rfl
  refine loose_f 5 rfl rfl (by kernel_rfl) (by kernel_rfl) (fun W2 hk => ?_) ?_
  · refine loose_run1 (someN r.needs) (.tmp 4) (.agg #[.string r.name, .int .i64 r.sig, .slice p.A p.n p.c, .slice q.A q.n q.c, .slice o.A o.n o.c, .slice f.A f.n f.c]) rfl (fun _ _ h => h) fun ev hev hx => ?_
    simp [go_sem, hx, hev]
    refine (HN.out _ (bnext hbW hk.1)).mono ?_
    rintro e w5 ⟨A5, n5, c5, rfl, hle5, hb5, hr5⟩
    exact ⟨_, rfl, hb5, A5, n5, c5, rfl, hr5⟩
  rintro v5 W2 hv5 a1 ha1
  simp [go_sem] at ha1
  subst ha1
  apply loose_q 6
  · intro W2 hk; have hcc := bcells hk.1; go_big_quiet_op; first | exact rfl | (apply Exists.intro; refine ⟨fun W3 hW3 => ?_, ?_⟩; (first | exact rfl | (have hcc3 := bcells (bnext hk.1 hW3); go_simp; rfl)); exact rfl)
  · exact rfl
  · exact rfl
  · kernel_rfl
  · kernel_rfl
  · exact fun v W => Iff.rfl
  · rfl
  refine loose_f 7 rfl rfl (by kernel_rfl) (by kernel_rfl) (fun W2 hk => ?_) ?_
  · obtain ⟨A5, n5, c5, e5, h5⟩ : someN r.needs v5 W2 := hk.2 5 (by unfold inL; decide) (by decide)
    subst e5
    refine loose_run2 (ex (.bool (r.needs.any pr))) (.tmp 5) (.slice A5 n5 c5) (.tmp 6) (.func (.func g) #[] caps) rfl rfl (fun _ _ h => h) fun ev hev hx hy => ?_
    simp [go_sem, hx, hy, hev]
    refine (HC.out W2 (bnext hbW hk.1) A5 n5 c5 h5).mono ?_
    rintro e w5 ⟨rfl, hb5⟩
    exact ⟨_, rfl, hb5, rfl⟩
  rintro v7 W2 hv7 a1 ha1
  simp [go_sem] at ha1
  subst ha1
  obtain rfl : v7 = .bool (r.needs.any pr) := hv7
  apply loose_q 3
  · intro W2 hk; have hcc := bcells hk.1; go_big_quiet_op; first | exact rfl | (apply Exists.intro; refine ⟨fun W3 hW3 => ?_, ?_⟩; (first | exact rfl | (have hcc3 := bcells (bnext hk.1 hW3); go_simp; rfl)); exact rfl)
  · exact rfl
  · exact rfl
  · kernel_rfl
  · kernel_rfl
  · exact fun v W => Iff.rfl
  · rfl
  refine loose_done fun W3 hW3 hK => ?_
  go_wp2
  go_ret
  exact ⟨rfl, bnext hbW hW3⟩
set_option maxRecDepth 10000 in
set_option maxHeartbeats 400000 in
theorem needs29_any (xs : List Rt) (A : Option Addr) (n c : Nat) (g : FuncId) (caps : Array Value) (pr : Nd → Bool) (w : World) (hk : RtsOk xs) (hX : RRts w A n xs) (hp : PredNd g caps pr w) :
    Calls Try.prog 70 #[.slice A n c, .func (.func g) #[] caps] w (RetB (xs.any fun r => r.needs.any pr) w) := by
  have HC := Lib.hid (fun W (hb : Below w.heap.size w W) (hc : W.cell? ⟨w.heap.size, 0, none⟩ = some (.func (.func g) #[] caps)) => containsFuncR A n c xs 121 #[.pointer (some ⟨w.heap.size, 0, none⟩)] (fun r => r.needs.any pr) W (hX.below hb)
    ⟨eN1, fun r hrm W' p q o f hb' hr => n1_any r p q o f g caps pr w.heap.size W' hr (hk r hrm).1 (hk r hrm).2.2 ⟨hp.1, fun x hx W2 hb2 => hp.2 x hx W2 (bnext (bnext hb hb') hb2)⟩ (bcell hb' hc)⟩)
  clear hk hX hp
  go_enter Try.func70, Try.ntmps70
  go_wp2_with (go_at_call 65; with_reducible refine Calls.mono (HC.out _ ?h0 ?h1) ?_)
  case h0 => exact (Below.refl _ _).alloc (Nat.le_refl _) _
  case h1 => go_simp
  rintro e w1 ⟨rfl, hb1⟩
  have hb2 := bnext ((Below.refl w.heap.size w).alloc (Nat.le_refl _) _) hb1
  clear hb1
  go_wp2
  go_ret
  exact ⟨rfl, hb2⟩
theorem eC31 : Enters Try.prog 71 := enters_of' Try.func71 (by kernel_rfl) rfl
theorem eC41 : Enters Try.prog 73 := enters_of' Try.func73 (by kernel_rfl) rfl
set_option maxRecDepth 10000 in
set_option maxHeartbeats 400000 in
theorem c31_any (x : Nd) (br bn R N : Nat) (w : World) (hx : 0 ≤ x.pt) (hR : R < 4294967296) (hN : N < 4294967296) (cR : w.cell? ⟨br, 0, none⟩ = some (.int .u32 R)) (cN : w.cell? ⟨bn, 0, none⟩ = some (.int .u32 N)) :
    Calls Try.prog 71 #[.agg #[.int .i64 x.pt, .bool x.rev], .pointer (some ⟨br, 0, none⟩), .pointer (some ⟨bn, 0, none⟩)] w (RetB (!hasU (if x.rev = true then R else N) x.pt) w) := by
  obtain ⟨xp, xr⟩ := x
  dsimp only at *
  obtain ⟨k, rfl⟩ := Int.eq_ofNat_of_zero_le hx
  have lR := World.block_lt_of_cell? _ _ cR
  have lN := World.block_lt_of_cell? _ _ cN
  simp only at lR lN
  cases xr
  · have H := Lib.hid (fun W => has29_any N k W (by omega))
    go_enter Try.func71, Try.ntmps71
    go_wp2_with (go_at_call 57; with_reducible refine Calls.mono (H.out _) ?_)
    rintro e w1 ⟨rfl, rfl⟩
    go_wp2
    go_ret
    exact ⟨rfl, (Below.refl _ _).alloc (Nat.le_refl _) _⟩
  · have H := Lib.hid (fun W => has29_any R k W (by omega))
    go_enter Try.func71, Try.ntmps71
    go_wp2_with (go_at_call 57; with_reducible refine Calls.mono (H.out _) ?_)
    rintro e w1 ⟨rfl, rfl⟩
    go_wp2
    go_ret
    exact ⟨rfl, (Below.refl _ _).alloc (Nat.le_refl _) _⟩
set_option maxRecDepth 10000 in
set_option maxHeartbeats 400000 in
theorem c3_any (xs : List Rt) (A : Option Addr) (n c : Nat) (bs br bn R N : Nat) (w : World) (hk : RtsOk xs) (hR : R < 4294967296) (hN : N < 4294967296) (cS : w.cell? ⟨bs, 0, none⟩ = some (.slice A n c)) (hX : RRts w A n xs) (cR : w.cell? ⟨br, 0, none⟩ = some (.int .u32 R)) (cN : w.cell? ⟨bn, 0, none⟩ = some (.int .u32 N)) :
    Calls Try.prog 69 #[.pointer (some ⟨bs, 0, none⟩), .pointer (some ⟨br, 0, none⟩), .pointer (some ⟨bn, 0, none⟩)] w (RetB (xs.any fun r => r.needs.any fun x => !hasU (if x.rev = true then R else N) x.pt) w) := by
  have HC := Lib.hid (needs29_any xs A n c 71 #[.pointer (some ⟨br, 0, none⟩), .pointer (some ⟨bn, 0, none⟩)] (fun x => !hasU (if x.rev = true then R else N) x.pt) w hk hX
    ⟨eC31, fun x hx W' hb' => c31_any x br bn R N W' hx hR hN (bcell hb' cR) (bcell hb' cN)⟩)
  clear hk hX hR hN
  go_enter Try.func69, Try.ntmps69
  go_wp2_with (go_at_call 70; with_reducible refine Calls.mono HC.out ?_)
  rintro e w1 ⟨rfl, hb1⟩
  go_wp2
  go_ret
  exact ⟨rfl, hb1⟩
set_option maxRecDepth 10000 in
set_option maxHeartbeats 400000 in
theorem c41_any (x : Nd) (bo pts : Nat) (w : World) (hx : 0 ≤ x.pt) (hp : pts < 4294967296) (cP : w.cell? ⟨bo, 1, none⟩ = some (.int .u32 pts)) :
    Calls Try.prog 73 #[.agg #[.int .i64 x.pt, .bool x.rev], .pointer (some ⟨bo, 0, none⟩)] w (RetB (hasU pts x.pt != x.rev) w) := by
  obtain ⟨xp, xr⟩ := x
  dsimp only at *
  obtain ⟨k, rfl⟩ := Int.eq_ofNat_of_zero_le hx
  have lP := World.block_lt_of_cell? _ _ cP
  simp only at lP
  have H := Lib.hid (fun W => has29_any pts k W (by omega))
  have hwr : IntKind.u64.wrap (pts : Int) = pts := by rw [IntKind.wrap_u64]; omega
  generalize hasU pts (k : Int) = v at *
  go_enter Try.func73, Try.ntmps73
  go_upto_region 1 with (fail)
  refine name_box (fun W hbW hlt hbox => ?_)
  have c0 : W.cell? ⟨w.heap.size, 0, none⟩ = some (.int .i64 k) := hbox 0 _ rfl
  have c1 : W.cell? ⟨w.heap.size, 1, none⟩ = some (.bool xr) := hbox 1 _ rfl
  have cP := bcell hbW cP
  have lP := Nat.lt_of_lt_of_le lP hbW.size
  clear hbox
  refine wp_region_calm (by kernel_rfl) (by kernel_rfl) ?_
  repeat (first | go_big_quiet_skip | (go_big_quiet_want; go_big_quiet_op; first | go_big_quiet_on | (apply Exists.intro; refine ⟨fun W1 hW1 => ?_, ?_⟩; (first | exact rfl | (go_at_call 57; exact calm_call (H.out W1) hW1 (fun _ _ h => ⟨h.1, h.2 ▸ Below.refl _ _⟩)) | (have hcc := bcells hW1; go_simp; rfl)); go_big_quiet_on)))
  refine wpQuiet_nil ?_
  intro W5 hW5
  go_wp2
  go_ret
  exact ⟨rfl, bnext hbW hW5⟩
set_option maxRecDepth 10000 in
set_option maxHeartbeats 400000 in
theorem c4_any (xs : List Rt) (A : Option Addr) (n c : Nat) (bs bo pts : Nat) (w : World) (hk : RtsOk xs) (hp : pts < 4294967296) (cS : w.cell? ⟨bs, 0, none⟩ = some (.slice A n c)) (hX : RRts w A n xs) (cP : w.cell? ⟨bo, 1, none⟩ = some (.int .u32 pts)) :
    Calls Try.prog 72 #[.pointer (some ⟨bs, 0, none⟩), .pointer (some ⟨bo, 0, none⟩)] w (RetB (xs.any fun r => r.needs.any fun x => hasU pts x.pt != x.rev) w) := by
  have HC := Lib.hid (needs29_any xs A n c 73 #[.pointer (some ⟨bo, 0, none⟩)] (fun x => hasU pts x.pt != x.rev) w hk hX
    ⟨eC41, fun x hx W' hb' => c41_any x bo pts W' hx hp (bcell hb' cP)⟩)
  clear hk hX hp
  go_enter Try.func72, Try.ntmps72
  go_wp2_with (go_at_call 70; with_reducible refine Calls.mono HC.out ?_)
  rintro e w1 ⟨rfl, hb1⟩
  go_wp2
  go_ret
  exact ⟨rfl, hb1⟩
end Go.Proofs.Ytmoccpbiogdbgaa
