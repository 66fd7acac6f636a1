/-
  'a, b = append(a, x), append(b, y)', a and b variables in boxes, in whatever order Go may take.
-/
import Derived.Test.YtmoccpbiogdbgaaPar
import Derived.Test.YtmoccpbiogdbgaaW6
import Derived.Deep.AppendLies
import Derived.RangeFuncWrites
import Derived.RangeFuncBox
namespace Go.Proofs.Ytmoccpbiogdbgaa
open Go.RowKit
/-- All blocks lie as they lay, but those of M. -/
structure KB (M : Nat → Prop) (W W' : World) : Prop where
  size : W.heap.size ≤ W'.heap.size
  same : ∀ k, k < W.heap.size → ¬ M k → W'.heap[k]? = W.heap[k]?
theorem KB.of_grown {W W' : World} {row : Option Nat} (h : W.grownBy W' row) : KB (fun k => row = some k) W W' := ⟨h.size, fun k hk hne => h.block k hk (fun e => hne e.symm)⟩
theorem KB.alloc (W : World) (o : Obj) : KB (fun _ => False) W (W.alloc o) := ⟨by simp, fun k hk _ => Below.heap_alloc W o k hk⟩
theorem KB.refl (W : World) : KB (fun _ => False) W W := ⟨Nat.le_refl _, fun _ _ _ => rfl⟩
def cellsAt (W : World) (b : Nat) (cs : List Value) : Prop := ∀ j u, cs[j]? = some u → W.cell? ⟨b, j, none⟩ = some u
theorem cell_same {X Y : World} {b o : Nat} {v : Value} (h : Y.heap[b]? = X.heap[b]?) (hc : X.cell? ⟨b, o, none⟩ = some v) : Y.cell? ⟨b, o, none⟩ = some v := by
  unfold World.cell? at *; simp only [h]; exact hc
theorem frozen_same {X Y : World} {b o : Nat} {v : Bool} (h : Y.heap[b]? = X.heap[b]?) (hc : X.frozen? ⟨b, o, none⟩ = v) : Y.frozen? ⟨b, o, none⟩ = v := by
  unfold World.frozen? at *; simp only [h]; exact hc
theorem KB.cell {M : Nat → Prop} {W W' : World} (h : KB M W W') {b o : Nat} {v : Value} (hc : W.cell? ⟨b, o, none⟩ = some v) (hb : ¬ M b) : W'.cell? ⟨b, o, none⟩ = some v :=
  cell_same (h.same b (World.block_lt_of_cell? _ _ hc) hb) hc
theorem KB.cells {M : Nat → Prop} {W W' : World} (h : KB M W W') {b : Nat} {cs : List Value} (hc : cellsAt W b cs) (hb : ¬ M b) : cellsAt W' b cs := fun j u hj => h.cell (hc j u hj) hb
theorem KB.own {M : Nat → Prop} {W W' : World} (h : KB M W W') {base : Nat} {e : TypeId} {s n : Nat} {v : Value} {xs : List Value} (ho : W.ownsRow base e s v n xs) (hb : ∀ g, v.ownBlock = some g → ¬ M g) : W'.ownsRow base e s v n xs := by
  obtain ⟨h1, h2⟩ := ho
  refine ⟨h1, ?_⟩
  rcases h2 with h2 | ⟨g, cap, cur, rfl, hbg, hh, rest⟩
  · exact .inl h2
  · exact .inr ⟨g, cap, cur, rfl, hbg, (h.same g (Array.getElem?_eq_some_iff.1 hh).1 (hb g rfl)).trans hh, rest⟩
theorem own_lt {W : World} {base : Nat} {e : TypeId} {s n : Nat} {v : Value} {xs : List Value} (h : W.ownsRow base e s v n xs) {g : Nat} (hg : v.ownBlock = some g) : base ≤ g ∧ g < W.heap.size := by
  rcases h.2 with ⟨rfl, _⟩ | ⟨k, cap, cur, rfl, hb, hh, _⟩
  · cases hg
  · have : k = g := by simpa [Value.ownBlock] using hg
    subst this
    exact ⟨hb, (Array.getElem?_eq_some_iff.1 hh).1⟩
theorem own_apart {W : World} {base : Nat} {e e' : TypeId} {s s' n n' : Nat} {v v' : Value} {xs xs' : List Value} (h : W.ownsRow base e s v n xs) (h' : W.ownsRow base e' s' v' n' xs') (hne : e ≠ e') {g : Nat} (hg : v.ownBlock = some g) : v'.ownBlock ≠ some g := by
  intro hg'
  rcases h.2 with ⟨rfl, _⟩ | ⟨k, cap, cur, rfl, _, hh, _⟩
  · cases hg
  · rcases h'.2 with ⟨rfl, _⟩ | ⟨k', cap', cur', rfl, _, hh', _⟩
    · cases hg'
    · have e1 : k = g := by simpa [Value.ownBlock] using hg
      have e2 : k' = g := by simpa [Value.ownBlock] using hg'
      subst e1; subst e2
      rw [hh] at hh'; cases hh'; exact hne rfl
/-- The facts. -/
def fNew (base : Nat) (v1 v2 : Value) (cs : List Value) (v : Value) (W : World) : Prop := ∃ b, v = .slice (some ⟨b, 0, none⟩) 1 1 ∧ base ≤ b ∧ v1.ownBlock ≠ some b ∧ v2.ownBlock ≠ some b ∧ cellsAt W b cs
def fRow (base : Nat) (e : TypeId) (s n : Nat) (xs : List Value) (v : Value) (W : World) : Prop := ∃ g c, v = .slice (some ⟨g, 0, none⟩) n c ∧ W.ownsRow base e s v n xs
def fCF (D : Nat) (W : World) : Prop := (∃ u, W.cell? ⟨D, 0, none⟩ = some u) ∧ W.frozen? ⟨D, 0, none⟩ = false
def fSt (D base : Nat) (e : TypeId) (s n : Nat) (xs : List Value) (W : World) : Prop := ∃ v, W.cell? ⟨D, 0, none⟩ = some v ∧ W.frozen? ⟨D, 0, none⟩ = false ∧ fRow base e s n xs v W
theorem fNew.kept {M : Nat → Prop} {W W' : World} (h : KB M W W') {base : Nat} {v1 v2 : Value} {cs : List Value} {v : Value} (hf : fNew base v1 v2 cs v W) (hM : ∀ b, base ≤ b → v1.ownBlock ≠ some b → v2.ownBlock ≠ some b → ¬ M b) : fNew base v1 v2 cs v W' := by
  obtain ⟨b, h1, h2, h3, h4, h5⟩ := hf
  exact ⟨b, h1, h2, h3, h4, h.cells h5 (hM b h2 h3 h4)⟩
theorem fRow.kept {M : Nat → Prop} {W W' : World} (h : KB M W W') {base : Nat} {e : TypeId} {s n : Nat} {xs : List Value} {v : Value} (hf : fRow base e s n xs v W) (hM : ∀ g, v.ownBlock = some g → ¬ M g) : fRow base e s n xs v W' := by
  obtain ⟨g, c, h1, h2⟩ := hf
  exact ⟨g, c, h1, h.own h2 hM⟩
theorem fCF.kept {M : Nat → Prop} {W W' : World} (h : KB M W W') {D : Nat} (hf : fCF D W) (hM : ¬ M D) : fCF D W' := by
  obtain ⟨⟨u, h1⟩, h2⟩ := hf
  exact ⟨⟨u, h.cell h1 hM⟩, frozen_same (h.same D (World.block_lt_of_cell? _ _ h1) hM) h2⟩
theorem fSt.kept {M : Nat → Prop} {W W' : World} (h : KB M W W') {D base : Nat} {e : TypeId} {s n : Nat} {xs : List Value} (hf : fSt D base e s n xs W) (hD : ¬ M D) (hM : ∀ v g, fRow base e s n xs v W → v.ownBlock = some g → ¬ M g) : fSt D base e s n xs W' := by
  obtain ⟨v, h1, h2, h3⟩ := hf
  exact ⟨v, h.cell h1 hD, frozen_same (h.same D (World.block_lt_of_cell? _ _ h1) hD) h2, h3.kept h (fun g hg => hM v g h3 hg)⟩
def preB (ops : Array Oper) (k i : Nat) : Bool := match ops[i]? with
  | some (o : Oper) => o.after.any fun e => Region.binds .any e && Nat.beq e.on k
  | none => false
theorem pre_of {ops : Array Oper} {k i : Nat} (h : preB ops k i = true) : Pre ops k i := by
  unfold preB at h
  cases ho : ops[i]? with
  | none => rw [ho] at h; cases h
  | some o =>
    rw [ho] at h
    simp only [Array.any_eq_true', Bool.and_eq_true] at h
    obtain ⟨e, he, h1, h2⟩ := h
    exact ⟨o, ho, e, he, h1, Nat.eq_of_beq_eq_true h2⟩
def notDst (ops : Array Oper) (r : Tmp) : Bool := (List.range ops.size).all fun i => match dstOf ops i with
  | some t => !Nat.beq t r
  | none => true
theorem notDst_spec {ops : Array Oper} {r : Tmp} (h : notDst ops r = true) : ∀ (i : Nat) (o : Oper), ops[i]? = some o → o.dst ≠ some r := by
  intro i o ho hr
  unfold notDst at h
  rw [List.all_eq_true] at h
  have h := h i (List.mem_range.2 (Array.getElem?_eq_some_iff.1 ho).1)
  rw [dstOf_eq ho, hr] at h
  simp at h

/-- A statement of ten operations: two loads of slices, what is appended, two appends, two stores. -/
structure TwoOps (P : Program) (ops : Array Oper) (s0 s1 s2 s3 s4 s5 s6 s7 r9 r12 r10 r11 : Tmp) (T1 T2 e1 e2 : TypeId) : Prop where
  o0 : ∃ ty po af, ops[0]? = some { dst := some s0, op := .load T1 (.tmp r9), type := ty, pos := po, after := af, guard := none }
  o1 : ∃ ty po af, ops[1]? = some { dst := some s1, op := .load e1 (.tmp r12), type := ty, pos := po, after := af, guard := none }
  o2 : ∃ ty po af, ops[2]? = some { dst := some s2, op := .buildSlice T1 1 #[(0, .tmp s1)], type := ty, pos := po, after := af, guard := none }
  o3 : ∃ ty po af, ops[3]? = some { dst := some s3, op := .call { callee := .builtin .append, args := #[.tmp s0, .tmp s2], argTypes := #[T1, T1] }, type := ty, pos := po, after := af, guard := none }
  o4 : ∃ ty po af, ops[4]? = some { dst := some s4, op := .load T2 (.tmp r10), type := ty, pos := po, after := af, guard := none }
  o5 : ∃ ty po af, ops[5]? = some { dst := some s5, op := .move (.tmp r11), type := ty, pos := po, after := af, guard := none }
  o6 : ∃ ty po af, ops[6]? = some { dst := some s6, op := .buildSlice T2 1 #[(0, .tmp s5)], type := ty, pos := po, after := af, guard := none }
  o7 : ∃ ty po af, ops[7]? = some { dst := some s7, op := .call { callee := .builtin .append, args := #[.tmp s4, .tmp s6], argTypes := #[T2, T2] }, type := ty, pos := po, after := af, guard := none }
  o8 : ∃ ty po af, ops[8]? = some { dst := none, op := .store T1 (.tmp r9) (.tmp s3), type := ty, pos := po, after := af, guard := none }
  o9 : ∃ ty po af, ops[9]? = some { dst := none, op := .store T2 (.tmp r10) (.tmp s7), type := ty, pos := po, after := af, guard := none }
  n9 : notDst ops r9 = true
  n10 : notDst ops r10 = true
  n11 : notDst ops r11 = true
  n12 : notDst ops r12 = true
  p12 : preB ops 1 2 = true
  p03 : preB ops 0 3 = true
  p23 : preB ops 2 3 = true
  p56 : preB ops 5 6 = true
  p47 : preB ops 4 7 = true
  p67 : preB ops 6 7 = true
  p37 : preB ops 3 7 = true
  p38 : preB ops 3 8 = true
  p08 : preB ops 0 8 = true
  p78 : preB ops 7 8 = true
  p79 : preB ops 7 9 = true
  p49 : preB ops 4 9 = true
  p89 : preB ops 8 9 = true
  sz : ops.size = 10

def tF (base D9 D10 : Nat) (e1 e2 : TypeId) (z1 n : Nat) (v1 v2 y1 y2 : Value) (cs1 xs1 xs2 : List Value) (i : Nat) (v : Value) (W : World) : Prop := (List.getD ([fun v _ => v = v1, fun v _ => v = y1, fun v W => fNew base v1 v2 cs1 v W, fun v W => fRow base e1 z1 (n + 1) (xs1 ++ cs1) v W, fun v _ => v = v2, fun v _ => v = y2, fun v W => fNew base v1 v2 [y2] v W, fun v W => fRow base e2 1 (n + 1) (xs2 ++ [y2]) v W, fun _ W => fSt D9 base e1 z1 (n + 1) (xs1 ++ cs1) W, fun _ W => fSt D10 base e2 1 (n + 1) (xs2 ++ [y2]) W] : List (Value → World → Prop)) i (fun _ _ => True)) v W
def tG (base D9 D10 B12 : Nat) (e1 e2 : TypeId) (z1 n : Nat) (v1 v2 : Value) (cs1 xs1 xs2 : List Value) (i : Nat) (W : World) : Prop := (List.getD ([fun W => W.cell? ⟨D9, 0, none⟩ = some v1, fun W => cellsAt W B12 cs1, fun _ => True, fun W => W.ownsRow base e1 z1 v1 n xs1, fun W => W.cell? ⟨D10, 0, none⟩ = some v2, fun _ => True, fun _ => True, fun W => W.ownsRow base e2 1 v2 n xs2, fun W => fCF D9 W, fun W => fCF D10 W] : List (World → Prop)) i (fun _ => True)) W
/-- ONE VALUE. -/
theorem wp_val {P : Program} {o : Oper} {a : Act} {W W' : World} {v : Value} {K : Act → World → Prop} {Q : Exit → Act → World → Prop} (h : (execOp a.eval o).run P W = .ok (.value v) W') (hk : K (a.put o.dst v) W') : o.wp P a W K Q := by
  unfold Oper.wp; rw [h]; exact hk
theorem wp_skp {P : Program} {o : Oper} {a : Act} {W W' : World} {K : Act → World → Prop} {Q : Exit → Act → World → Prop} (h : (execOp a.eval o).run P W = .ok .skip W') (hk : K (a.put o.dst undef) W') : o.wp P a W K Q := by
  unfold Oper.wp; rw [h]; exact hk
theorem act_eq (a a0 : Act) (hs : a.tmps.size = a0.tmps.size) (hd : a.defers = a0.defers) (ds : List Tmp) (h : ∀ t, t ∉ ds → tm a t = tm a0 t) : a = ds.foldl (fun b t => b.put (some t) (tm a t)) a0 := by
  have key : ∀ (ds : List Tmp) (b : Act), b.tmps.size = a.tmps.size → b.defers = a.defers → (∀ t, t ∉ ds → tm a t = tm b t) → a = ds.foldl (fun b t => b.put (some t) (tm a t)) b := by
    intro ds
    induction ds with
    | nil =>
      intro b h1 h2 h3
      obtain ⟨at1, ad⟩ := a
      obtain ⟨bt, bd⟩ := b
      simp only at h1 h2
      subst h2
      congr 1
      apply Array.ext h1.symm
      intro i hi1 hi2
      have := h3 i (by simp)
      simpa [tm, hi1, hi2] using this
    | cons t ts ih =>
      intro b h1 h2 h3
      refine ih _ (by rw [size_put]; exact h1) h2 (fun u hu => ?_)
      by_cases e : u = t
      · subst e
        by_cases hlt : u < b.tmps.size
        · rw [tm_put_same hlt]
        · have h4 : ¬ u < a.tmps.size := by rw [← h1]; exact hlt
          have e1 : tm a u = undef := by unfold tm; simp [h4]
          have e2 : tm (b.put (some u) (tm a u)) u = undef := by unfold tm; simp [Act.put, hlt]
          exact e1.trans e2.symm
      · rw [tm_put_other (fun e' => e (Option.some.inj e').symm)]
        exact h3 u (by simp [e, hu])
  exact key ds a0 hs.symm hd.symm h
theorem alloc_cells (W : World) (cs : Array Value) (T : TypeId) : cellsAt (W.alloc (.cells cs T)) W.heap.size cs.toList := fun j u hj => by
  have h2 : (W.alloc (.cells cs T)).heap[W.heap.size]? = some (.cells cs T) := heap_alloc_new W _
  unfold World.cell?; rw [h2]; simpa using hj
theorem elemRt : Elem Try.prog 25 64 6 120 := elem_of (z := .agg #[.string ⟨#[]⟩, .int .i64 0, .slice none 0 0, .slice none 0 0, .slice none 0 0, .slice none 0 0]) Try.underlying25 (by kernel_rfl) rfl (by decide)
set_option maxRecDepth 10000 in
set_option maxHeartbeats 2000000 in
theorem two_appends {ops : Array Oper} {a0 : Act} {id : Nat} {Q : Exit → Act → World → Prop} {w w1 : World} {s0 s1 s2 s3 s4 s5 s6 s7 r9 r12 r10 r11 : Tmp} (hT : TwoOps Try.prog ops s0 s1 s2 s3 s4 s5 s6 s7 r9 r12 r10 r11 25 61 64 3) (hm : Try.prog.follows .mixedOrders = true) (hbk : backB ops = true) (hsl : slotB ops a0.tmps.size = true) (hds : distB ops = true)
    (base D9 D10 B12 n n0 : Nat) (v1 v2 : Value) (y : Rt) (p q o f : Hd) (x : Int) (xs1 xs2 : List Value) (h9 : D9 < base) (h10 : D10 < base) (hd : D9 ≠ D10) (hn9 : n0 ≤ D9) (hn10 : n0 ≤ D10) (_hnb : n0 ≤ base) (hnn : n ≤ 100)
    (e9 : tm a0 r9 = .pointer (some ⟨D9, 0, none⟩)) (e10 : tm a0 r10 = .pointer (some ⟨D10, 0, none⟩)) (e12 : tm a0 r12 = .pointer (some ⟨B12, 0, none⟩)) (e11 : tm a0 r11 = .int .i64 x)
    (c9 : w.cell? ⟨D9, 0, none⟩ = some v1) (f9 : w.frozen? ⟨D9, 0, none⟩ = false) (c10 : w.cell? ⟨D10, 0, none⟩ = some v2) (f10 : w.frozen? ⟨D10, 0, none⟩ = false)
    (own1 : w.ownsRow base 64 6 v1 n xs1) (own2 : w.ownsRow base 3 1 v2 n xs2) (hB : cellsAt w B12 [.string y.name, .int .i64 y.sig, p.v, q.v, o.v, f.v]) (hB12 : base ≤ B12) (hT1 : v1.ownBlock ≠ some B12) (hT2 : v2.ownBlock ≠ some B12) (hbw : base ≤ w.heap.size) (hw1 : Below n0 w1 w)
    (hQ : ∀ x0 x1 x2 x3 x4 x5 x6 x7 W', Below n0 w1 W' → w.heap.size ≤ W'.heap.size → fSt D9 base 64 6 (n + 1) (xs1 ++ [.string y.name, .int .i64 y.sig, p.v, q.v, o.v, f.v]) W' → fSt D10 base 3 1 (n + 1) (xs2 ++ [.int .i64 x]) W' →
      ∀ a', a' = ((((((((a0.put (some s0) x0).put (some s1) x1).put (some s2) x2).put (some s3) x3).put (some s4) x4).put (some s5) x5).put (some s6) x6).put (some s7) x7) → Q .normal a' W') :
    (Code.region id ops true).wp Try.prog Q a0 w := by
  have hb1 : ∀ g, v1.ownBlock = some g → base ≤ g ∧ g < w.heap.size := fun g hg => own_lt own1 hg
  have hb2 : ∀ g, v2.ownBlock = some g → base ≤ g ∧ g < w.heap.size := fun g hg => own_lt own2 hg
  have hb1D9 : v1.ownBlock ≠ some D9 := fun h => by have := hb1 _ h; omega
  have hb1D10 : v1.ownBlock ≠ some D10 := fun h => by have := hb1 _ h; omega
  have hb2D9 : v2.ownBlock ≠ some D9 := fun h => by have := hb2 _ h; omega
  have hb2D10 : v2.ownBlock ≠ some D10 := fun h => by have := hb2 _ h; omega
  have hne : (64 : TypeId) ≠ 3 := by decide
  refine wp_region_par (H := fun W => Below n0 w1 W ∧ w.heap.size ≤ W.heap.size) (F := tF base D9 D10 64 3 6 n v1 v2 (rtv y p q o f) (.int .i64 x) [.string y.name, .int .i64 y.sig, p.v, q.v, o.v, f.v] xs1 xs2) (G := tG base D9 D10 B12 64 3 6 n v1 v2 [.string y.name, .int .i64 y.sig, p.v, q.v, o.v, f.v] xs1 xs2) hm hbk hsl hds ⟨hw1.drew, Nat.le_refl _⟩ ?hG ?hstep ?hQ
  case hG =>
    intro i hi
    rw [hT.sz] at hi
    rcases i with _ | _ | _ | _ | _ | _ | _ | _ | _ | _ | i
    · exact c9
    · exact hB
    · trivial
    · exact own1
    · exact c10
    · trivial
    · trivial
    · exact own2
    · exact ⟨⟨_, c9⟩, f9⟩
    · exact ⟨⟨_, c10⟩, f10⟩
    · omega
  case hstep =>
    intro i op hop a W hH hF hO hsz hdf hG
    rcases i with _ | _ | _ | _ | _ | _ | _ | _ | _ | _ | i
    · obtain ⟨ty, po, af, ho⟩ := hT.o0
      rw [ho] at hop
      cases hop
      have hx : a.eval (.tmp r9) = _ := (hO r9 (notDst_spec hT.n9)).trans e9
      have hc : W.cell? ⟨D9, 0, none⟩ = some v1 := hG
      refine ⟨rfl, wp_val (v := v1) (W' := W) ?_ ⟨_, rfl, (fun h => by cases h), hH, rfl, ?_, ?_⟩⟩
      · generalize a.eval = ev at *; simp [go_sem, hx, hc]
      · intro j hj hji hp v h
        rcases j with _ | _ | _ | _ | _ | _ | _ | _ | _ | _ | j
        · exact absurd rfl hji
        · exact h
        · exact h
        · exact absurd (pre_of hT.p03) hp
        · exact h
        · exact h
        · exact h
        · exact h
        · exact absurd (pre_of hT.p08) hp
        · exact h
        · exact absurd hj (by rw [hT.sz]; omega)
      · intro k hk hki hp h
        rcases k with _ | _ | _ | _ | _ | _ | _ | _ | _ | _ | k
        · exact absurd rfl hki
        · exact h
        · exact h
        · exact h
        · exact h
        · exact h
        · exact h
        · exact h
        · exact h
        · exact h
        · exact absurd hk (by rw [hT.sz]; omega)
    · obtain ⟨ty, po, af, ho⟩ := hT.o1
      rw [ho] at hop
      cases hop
      have hx : a.eval (.tmp r12) = _ := (hO r12 (notDst_spec hT.n12)).trans e12
      have hc : cellsAt W B12 [.string y.name, .int .i64 y.sig, p.v, q.v, o.v, f.v] := hG
      have k0 := hc 0 _ rfl
      have k1 := hc 1 _ rfl
      have k2 := hc 2 _ rfl
      have k3 := hc 3 _ rfl
      have k4 := hc 4 _ rfl
      have k5 := hc 5 _ rfl
      unfold Hd.v at k2 k3 k4 k5
      refine ⟨rfl, wp_val (v := rtv y p q o f) (W' := W) ?_ ⟨_, rfl, (fun h => by cases h), hH, rfl, ?_, ?_⟩⟩
      · unfold rtv Hd.v; generalize a.eval = ev at *; simp [go_sem, hx, k0, k1, k2, k3, k4, k5]
      · intro j hj hji hp v h
        rcases j with _ | _ | _ | _ | _ | _ | _ | _ | _ | _ | j
        · exact h
        · exact absurd rfl hji
        · exact absurd (pre_of hT.p12) hp
        · exact h
        · exact h
        · exact h
        · exact h
        · exact h
        · exact h
        · exact h
        · exact absurd hj (by rw [hT.sz]; omega)
      · intro k hk hki hp h
        rcases k with _ | _ | _ | _ | _ | _ | _ | _ | _ | _ | k
        · exact h
        · exact absurd rfl hki
        · exact h
        · exact h
        · exact h
        · exact h
        · exact h
        · exact h
        · exact h
        · exact h
        · exact absurd hk (by rw [hT.sz]; omega)
    · obtain ⟨ty, po, af, ho⟩ := hT.o2
      rw [ho] at hop
      cases hop
      obtain ⟨ty1, po1, af1, ho1⟩ := hT.o1
      have hx : a.eval (.tmp s1) = rtv y p q o f := hF 1 _ ho1 (pre_of hT.p12)
      have hs := hH.2
      have hkb : KB (fun _ => False) W (W.alloc (.cells #[.string y.name, .int .i64 y.sig, .slice p.A p.n p.c, .slice q.A q.n q.c, .slice o.A o.n o.c, .slice f.A f.n f.c] 64)) := KB.alloc _ _
      have hbA : Below n0 w1 (W.alloc (.cells #[.string y.name, .int .i64 y.sig, .slice p.A p.n p.c, .slice q.A q.n q.c, .slice o.A o.n o.c, .slice f.A f.n f.c] 64)) := hH.1.alloc (by omega) _
      refine ⟨rfl, wp_val (v := .slice (some ⟨W.heap.size, 0, none⟩) 1 1) (W' := W.alloc (.cells #[.string y.name, .int .i64 y.sig, .slice p.A p.n p.c, .slice q.A q.n q.c, .slice o.A o.n o.c, .slice f.A f.n f.c] 64)) ?_ ⟨_, rfl, (fun h => by cases h), ⟨hbA, by simp; omega⟩, ?_, ?_, ?_⟩⟩
      · unfold rtv Hd.v at hx; generalize a.eval = ev at *; simp [go_sem, hx]
      · exact ⟨_, rfl, by omega, fun h => by have := hb1 _ h; omega, fun h => by have := hb2 _ h; omega, alloc_cells W #[.string y.name, .int .i64 y.sig, .slice p.A p.n p.c, .slice q.A q.n q.c, .slice o.A o.n o.c, .slice f.A f.n f.c] 64⟩
      · intro j hj hji hp v h
        rcases j with _ | _ | _ | _ | _ | _ | _ | _ | _ | _ | j
        · exact h
        · exact h
        · exact absurd rfl hji
        · exact absurd (pre_of hT.p23) hp
        · exact h
        · exact h
        · exact fNew.kept hkb h (fun _ _ _ _ h => h)
        · exact fRow.kept hkb h (fun _ _ h => h)
        · exact fSt.kept hkb h (fun h => h) (fun _ _ _ _ h => h)
        · exact fSt.kept hkb h (fun h => h) (fun _ _ _ _ h => h)
        · exact absurd hj (by rw [hT.sz]; omega)
      · intro k hk hki hp h
        rcases k with _ | _ | _ | _ | _ | _ | _ | _ | _ | _ | k
        · exact hkb.cell h (fun h => h)
        · exact absurd (pre_of hT.p12) hp
        · exact absurd rfl hki
        · exact hkb.own h (fun _ _ h => h)
        · exact hkb.cell h (fun h => h)
        · exact trivial
        · exact trivial
        · exact hkb.own h (fun _ _ h => h)
        · exact fCF.kept hkb h (fun h => h)
        · exact fCF.kept hkb h (fun h => h)
        · exact absurd hk (by rw [hT.sz]; omega)
    · obtain ⟨ty, po, af, ho⟩ := hT.o3
      rw [ho] at hop
      cases hop
      obtain ⟨tyA, poA, afA, hoA⟩ := hT.o0
      obtain ⟨tyB, poB, afB, hoB⟩ := hT.o2
      have hx : a.eval (.tmp s0) = v1 := hF 0 _ hoA (pre_of hT.p03)
      obtain ⟨b, hb, hbb, hbv1, hbv2, hbc⟩ : fNew base v1 v2 [.string y.name, .int .i64 y.sig, p.v, q.v, o.v, f.v] (a.eval (.tmp s2)) W := hF 2 _ hoB (pre_of hT.p23)
      have hG : W.ownsRow base 64 6 v1 n xs1 := hG
      have hs := hH.2
      obtain ⟨ii, zz, t1, t2, t3, t4, t5, t6, t7⟩ := elemRt
      refine ⟨rfl, wp_append_lies W (.tmp s0) (.tmp s2) 25 rfl base 64 ii zz 6 _ t1 t2 t3 t4 t5 t6 t7 v1 n xs1 hx hG ⟨b, 0, none⟩ 1 1 [.string y.name, .int .i64 y.sig, p.v, q.v, o.v, f.v] hb (by simp) (fun j u hj => by rw [addr_add, Nat.zero_add]; exact hbc j u hj) (by simp [Value.oneCell']) (by omega) (by unfold maxLen; omega) (by omega) (by omega) W.heap.size rfl ?_⟩
      intro g cap w' hown hg hat hlt
      have hkb : KB (fun k => v1.ownBlock = some k) W w' := KB.of_grown hg
      refine ⟨_, rfl, (fun h => by cases h), ⟨hH.1.grown hg (by omega) (fun k hk => by have := hb1 k hk; omega), Nat.le_trans hs hg.size⟩, ⟨g, cap, rfl, hown⟩, ?_, ?_⟩
      · intro j hj hji hp v h
        rcases j with _ | _ | _ | _ | _ | _ | _ | _ | _ | _ | j
        · exact h
        · exact h
        · exact fNew.kept hkb h (fun _ _ h2 _ => h2)
        · exact absurd rfl hji
        · exact h
        · exact h
        · exact fNew.kept hkb h (fun _ _ h2 _ => h2)
        · exact absurd (pre_of hT.p37) hp
        · exact absurd (pre_of hT.p38) hp
        · exact fSt.kept hkb h hb1D10 (fun v g hr hg hM => by obtain ⟨_, _, _, ho⟩ := hr; exact own_apart hG ho hne hM hg)
        · exact absurd hj (by rw [hT.sz]; omega)
      · intro k hk hki hp h
        rcases k with _ | _ | _ | _ | _ | _ | _ | _ | _ | _ | k
        · exact absurd (pre_of hT.p03) hp
        · exact hkb.cells h hT1
        · exact absurd (pre_of hT.p23) hp
        · exact absurd rfl hki
        · exact hkb.cell h hb1D10
        · exact trivial
        · exact trivial
        · exact hkb.own h (fun g hg hM => own_apart hG h hne hM hg)
        · exact fCF.kept hkb h hb1D9
        · exact fCF.kept hkb h hb1D10
        · exact absurd hk (by rw [hT.sz]; omega)
    · obtain ⟨ty, po, af, ho⟩ := hT.o4
      rw [ho] at hop
      cases hop
      have hx : a.eval (.tmp r10) = _ := (hO r10 (notDst_spec hT.n10)).trans e10
      have hc : W.cell? ⟨D10, 0, none⟩ = some v2 := hG
      refine ⟨rfl, wp_val (v := v2) (W' := W) ?_ ⟨_, rfl, (fun h => by cases h), hH, rfl, ?_, ?_⟩⟩
      · generalize a.eval = ev at *; simp [go_sem, hx, hc]
      · intro j hj hji hp v h
        rcases j with _ | _ | _ | _ | _ | _ | _ | _ | _ | _ | j
        · exact h
        · exact h
        · exact h
        · exact h
        · exact absurd rfl hji
        · exact h
        · exact h
        · exact absurd (pre_of hT.p47) hp
        · exact h
        · exact absurd (pre_of hT.p49) hp
        · exact absurd hj (by rw [hT.sz]; omega)
      · intro k hk hki hp h
        rcases k with _ | _ | _ | _ | _ | _ | _ | _ | _ | _ | k
        · exact h
        · exact h
        · exact h
        · exact h
        · exact absurd rfl hki
        · exact h
        · exact h
        · exact h
        · exact h
        · exact h
        · exact absurd hk (by rw [hT.sz]; omega)
    · obtain ⟨ty, po, af, ho⟩ := hT.o5
      rw [ho] at hop
      cases hop
      have hx : a.eval (.tmp r11) = _ := (hO r11 (notDst_spec hT.n11)).trans e11
      refine ⟨rfl, wp_val (v := .int .i64 x) (W' := W) ?_ ⟨_, rfl, (fun h => by cases h), hH, rfl, ?_, ?_⟩⟩
      · generalize a.eval = ev at *; simp [go_sem, hx]
      · intro j hj hji hp v h
        rcases j with _ | _ | _ | _ | _ | _ | _ | _ | _ | _ | j
        · exact h
        · exact h
        · exact h
        · exact h
        · exact h
        · exact absurd rfl hji
        · exact absurd (pre_of hT.p56) hp
        · exact h
        · exact h
        · exact h
        · exact absurd hj (by rw [hT.sz]; omega)
      · intro k hk hki hp h
        rcases k with _ | _ | _ | _ | _ | _ | _ | _ | _ | _ | k
        · exact h
        · exact h
        · exact h
        · exact h
        · exact h
        · exact absurd rfl hki
        · exact h
        · exact h
        · exact h
        · exact h
        · exact absurd hk (by rw [hT.sz]; omega)
    · obtain ⟨ty, po, af, ho⟩ := hT.o6
      rw [ho] at hop
      cases hop
      obtain ⟨ty1, po1, af1, ho1⟩ := hT.o5
      have hx : a.eval (.tmp s5) = .int .i64 x := hF 5 _ ho1 (pre_of hT.p56)
      have hs := hH.2
      have hkb : KB (fun _ => False) W (W.alloc (.cells #[.int .i64 x] 3)) := KB.alloc _ _
      have hbA : Below n0 w1 (W.alloc (.cells #[.int .i64 x] 3)) := hH.1.alloc (by omega) _
      refine ⟨rfl, wp_val (v := .slice (some ⟨W.heap.size, 0, none⟩) 1 1) (W' := W.alloc (.cells #[.int .i64 x] 3)) ?_ ⟨_, rfl, (fun h => by cases h), ⟨hbA, by simp; omega⟩, ?_, ?_, ?_⟩⟩
      · generalize a.eval = ev at *; simp [go_sem, hx]
      · exact ⟨_, rfl, by omega, fun h => by have := hb1 _ h; omega, fun h => by have := hb2 _ h; omega, alloc_cells W #[.int .i64 x] 3⟩
      · intro j hj hji hp v h
        rcases j with _ | _ | _ | _ | _ | _ | _ | _ | _ | _ | j
        · exact h
        · exact h
        · exact fNew.kept hkb h (fun _ _ _ _ h => h)
        · exact fRow.kept hkb h (fun _ _ h => h)
        · exact h
        · exact h
        · exact absurd rfl hji
        · exact absurd (pre_of hT.p67) hp
        · exact fSt.kept hkb h (fun h => h) (fun _ _ _ _ h => h)
        · exact fSt.kept hkb h (fun h => h) (fun _ _ _ _ h => h)
        · exact absurd hj (by rw [hT.sz]; omega)
      · intro k hk hki hp h
        rcases k with _ | _ | _ | _ | _ | _ | _ | _ | _ | _ | k
        · exact hkb.cell h (fun h => h)
        · exact hkb.cells h (fun h => h)
        · exact trivial
        · exact hkb.own h (fun _ _ h => h)
        · exact hkb.cell h (fun h => h)
        · exact absurd (pre_of hT.p56) hp
        · exact absurd rfl hki
        · exact hkb.own h (fun _ _ h => h)
        · exact fCF.kept hkb h (fun h => h)
        · exact fCF.kept hkb h (fun h => h)
        · exact absurd hk (by rw [hT.sz]; omega)
    · obtain ⟨ty, po, af, ho⟩ := hT.o7
      rw [ho] at hop
      cases hop
      obtain ⟨tyA, poA, afA, hoA⟩ := hT.o4
      obtain ⟨tyB, poB, afB, hoB⟩ := hT.o6
      have hx : a.eval (.tmp s4) = v2 := hF 4 _ hoA (pre_of hT.p47)
      obtain ⟨b, hb, hbb, hbv1, hbv2, hbc⟩ : fNew base v1 v2 [.int .i64 x] (a.eval (.tmp s6)) W := hF 6 _ hoB (pre_of hT.p67)
      have hG : W.ownsRow base 3 1 v2 n xs2 := hG
      have hs := hH.2
      obtain ⟨ii, zz, t1, t2, t3, t4, t5, t6, t7⟩ := elemInt
      refine ⟨rfl, wp_append_lies W (.tmp s4) (.tmp s6) 61 rfl base 3 ii zz 1 _ t1 t2 t3 t4 t5 t6 t7 v2 n xs2 hx hG ⟨b, 0, none⟩ 1 1 [.int .i64 x] hb (by simp) (fun j u hj => by rw [addr_add, Nat.zero_add]; exact hbc j u hj) (by simp [Value.oneCell']) (by omega) (by unfold maxLen; omega) (by omega) (by omega) W.heap.size rfl ?_⟩
      intro g cap w' hown hg hat hlt
      have hkb : KB (fun k => v2.ownBlock = some k) W w' := KB.of_grown hg
      refine ⟨_, rfl, (fun h => by cases h), ⟨hH.1.grown hg (by omega) (fun k hk => by have := hb2 k hk; omega), Nat.le_trans hs hg.size⟩, ⟨g, cap, rfl, hown⟩, ?_, ?_⟩
      · intro j hj hji hp v h
        rcases j with _ | _ | _ | _ | _ | _ | _ | _ | _ | _ | j
        · exact h
        · exact h
        · exact fNew.kept hkb h (fun _ _ _ h3 => h3)
        · exact fRow.kept hkb h (fun g hg hM => by obtain ⟨_, _, _, ho⟩ := h; exact own_apart ho hG hne hg hM)
        · exact h
        · exact h
        · exact fNew.kept hkb h (fun _ _ _ h3 => h3)
        · exact absurd rfl hji
        · exact absurd (pre_of hT.p78) hp
        · exact absurd (pre_of hT.p79) hp
        · exact absurd hj (by rw [hT.sz]; omega)
      · intro k hk hki hp h
        rcases k with _ | _ | _ | _ | _ | _ | _ | _ | _ | _ | k
        · exact hkb.cell h hb2D9
        · exact hkb.cells h hT2
        · exact trivial
        · exact absurd (pre_of hT.p37) hp
        · exact absurd (pre_of hT.p47) hp
        · exact trivial
        · exact absurd (pre_of hT.p67) hp
        · exact absurd rfl hki
        · exact fCF.kept hkb h hb2D9
        · exact fCF.kept hkb h hb2D10
        · exact absurd hk (by rw [hT.sz]; omega)
    · obtain ⟨ty, po, af, ho⟩ := hT.o8
      rw [ho] at hop
      cases hop
      obtain ⟨tyA, poA, afA, hoA⟩ := hT.o3
      have hy : a.eval (.tmp r9) = _ := (hO r9 (notDst_spec hT.n9)).trans e9
      obtain ⟨g, c, hx, hown⟩ : fRow base 64 6 (n + 1) (xs1 ++ [.string y.name, .int .i64 y.sig, p.v, q.v, o.v, f.v]) (a.eval (.tmp s3)) W := hF 3 _ hoA (pre_of hT.p38)
      obtain ⟨⟨u, hcu⟩, hfu⟩ : fCF D9 W := hG
      have hlt := World.block_lt_of_cell? _ _ hcu
      simp only at hlt
      have hg := grownBy_setCell' W D9 (.slice (some ⟨g, 0, none⟩) (n + 1) c)
      have hkb : KB (fun k => some D9 = some k) W (W.setCell ⟨D9, 0, none⟩ (.slice (some ⟨g, 0, none⟩) (n + 1) c)) := KB.of_grown hg
      rw [hx] at hown
      refine ⟨rfl, wp_skp (W' := W.setCell ⟨D9, 0, none⟩ (.slice (some ⟨g, 0, none⟩) (n + 1) c)) ?_ ⟨undef, rfl, (fun _ => rfl), ⟨hH.1.setCell (p := ⟨D9, 0, none⟩) (by simp; omega) _, Nat.le_trans hH.2 hg.size⟩, ?_, ?_, ?_⟩⟩
      · generalize a.eval = ev at *; simp [go_sem, hx, hy, hcu, hfu]
      · exact ⟨_, World.cell?_setCell_same' _ _ _ (by rw [hcu]; rfl), by rw [World.frozen?_setCell]; exact hfu, g, c, rfl, hkb.own hown (fun k hk e => by have := own_lt hown hk; have := Option.some.inj e; omega)⟩
      · intro j hj hji hp v h
        rcases j with _ | _ | _ | _ | _ | _ | _ | _ | _ | _ | j
        · exact h
        · exact h
        · exact fNew.kept hkb h (fun b h1 _ _ e => by have := Option.some.inj e; omega)
        · exact fRow.kept hkb h (fun g hg e => by obtain ⟨_, _, _, ho⟩ := h; have := own_lt ho hg; have := Option.some.inj e; omega)
        · exact h
        · exact h
        · exact fNew.kept hkb h (fun b h1 _ _ e => by have := Option.some.inj e; omega)
        · exact fRow.kept hkb h (fun g hg e => by obtain ⟨_, _, _, ho⟩ := h; have := own_lt ho hg; have := Option.some.inj e; omega)
        · exact absurd rfl hji
        · exact absurd (pre_of hT.p89) hp
        · exact absurd hj (by rw [hT.sz]; omega)
      · intro k hk hki hp h
        rcases k with _ | _ | _ | _ | _ | _ | _ | _ | _ | _ | k
        · exact absurd (pre_of hT.p08) hp
        · exact hkb.cells h (fun e => by have := Option.some.inj e; omega)
        · exact trivial
        · exact absurd (pre_of hT.p38) hp
        · exact hkb.cell h (fun e => by have := Option.some.inj e; omega)
        · exact trivial
        · exact trivial
        · exact absurd (pre_of hT.p78) hp
        · exact absurd rfl hki
        · exact fCF.kept hkb h (fun e => by have := Option.some.inj e; omega)
        · exact absurd hk (by rw [hT.sz]; omega)
    · obtain ⟨ty, po, af, ho⟩ := hT.o9
      rw [ho] at hop
      cases hop
      obtain ⟨tyA, poA, afA, hoA⟩ := hT.o7
      have hy : a.eval (.tmp r10) = _ := (hO r10 (notDst_spec hT.n10)).trans e10
      obtain ⟨g, c, hx, hown⟩ : fRow base 3 1 (n + 1) (xs2 ++ [Value.int .i64 x]) (a.eval (.tmp s7)) W := hF 7 _ hoA (pre_of hT.p79)
      obtain ⟨⟨u, hcu⟩, hfu⟩ : fCF D10 W := hG
      have hlt := World.block_lt_of_cell? _ _ hcu
      simp only at hlt
      have hg := grownBy_setCell' W D10 (.slice (some ⟨g, 0, none⟩) (n + 1) c)
      have hkb : KB (fun k => some D10 = some k) W (W.setCell ⟨D10, 0, none⟩ (.slice (some ⟨g, 0, none⟩) (n + 1) c)) := KB.of_grown hg
      rw [hx] at hown
      refine ⟨rfl, wp_skp (W' := W.setCell ⟨D10, 0, none⟩ (.slice (some ⟨g, 0, none⟩) (n + 1) c)) ?_ ⟨undef, rfl, (fun _ => rfl), ⟨hH.1.setCell (p := ⟨D10, 0, none⟩) (by simp; omega) _, Nat.le_trans hH.2 hg.size⟩, ?_, ?_, ?_⟩⟩
      · generalize a.eval = ev at *; simp [go_sem, hx, hy, hcu, hfu]
      · exact ⟨_, World.cell?_setCell_same' _ _ _ (by rw [hcu]; rfl), by rw [World.frozen?_setCell]; exact hfu, g, c, rfl, hkb.own hown (fun k hk e => by have := own_lt hown hk; have := Option.some.inj e; omega)⟩
      · intro j hj hji hp v h
        rcases j with _ | _ | _ | _ | _ | _ | _ | _ | _ | _ | j
        · exact h
        · exact h
        · exact fNew.kept hkb h (fun b h1 _ _ e => by have := Option.some.inj e; omega)
        · exact fRow.kept hkb h (fun g hg e => by obtain ⟨_, _, _, ho⟩ := h; have := own_lt ho hg; have := Option.some.inj e; omega)
        · exact h
        · exact h
        · exact fNew.kept hkb h (fun b h1 _ _ e => by have := Option.some.inj e; omega)
        · exact fRow.kept hkb h (fun g hg e => by obtain ⟨_, _, _, ho⟩ := h; have := own_lt ho hg; have := Option.some.inj e; omega)
        · exact fSt.kept hkb h (fun e => by have := Option.some.inj e; omega) (fun v g hr hg e => by obtain ⟨_, _, _, ho⟩ := hr; have := own_lt ho hg; have := Option.some.inj e; omega)
        · exact absurd rfl hji
        · exact absurd hj (by rw [hT.sz]; omega)
      · intro k hk hki hp h
        rcases k with _ | _ | _ | _ | _ | _ | _ | _ | _ | _ | k
        · exact hkb.cell h (fun e => by have := Option.some.inj e; omega)
        · exact hkb.cells h (fun e => by have := Option.some.inj e; omega)
        · exact trivial
        · exact hkb.own h (fun g hg e => by have := own_lt h hg; have := Option.some.inj e; omega)
        · exact absurd (pre_of hT.p49) hp
        · exact trivial
        · exact trivial
        · exact absurd (pre_of hT.p79) hp
        · exact absurd (pre_of hT.p89) hp
        · exact absurd rfl hki
        · exact absurd hk (by rw [hT.sz]; omega)
    · exact absurd (Array.getElem?_eq_some_iff.1 hop).1 (by rw [hT.sz]; omega)
  case hQ =>
    intro a W hH hF hO hsz hdf
    obtain ⟨_, _, _, ho8⟩ := hT.o8
    obtain ⟨_, _, _, ho9⟩ := hT.o9
    refine hQ (tm a s0) (tm a s1) (tm a s2) (tm a s3) (tm a s4) (tm a s5) (tm a s6) (tm a s7) W hH.1 hH.2 (hF 8 _ ho8) (hF 9 _ ho9) a ?_
    refine act_eq a a0 hsz hdf [s0, s1, s2, s3, s4, s5, s6, s7] (fun t ht => hO t fun i op hop hd => ?_)
    simp only [List.mem_cons, List.not_mem_nil, or_false, not_or] at ht
    rcases i with _ | _ | _ | _ | _ | _ | _ | _ | _ | _ | i
    · obtain ⟨_, _, _, ho⟩ := hT.o0
      rw [ho] at hop; cases hop; cases hd; exact ht.1 rfl
    · obtain ⟨_, _, _, ho⟩ := hT.o1
      rw [ho] at hop; cases hop; cases hd; exact ht.2.1 rfl
    · obtain ⟨_, _, _, ho⟩ := hT.o2
      rw [ho] at hop; cases hop; cases hd; exact ht.2.2.1 rfl
    · obtain ⟨_, _, _, ho⟩ := hT.o3
      rw [ho] at hop; cases hop; cases hd; exact ht.2.2.2.1 rfl
    · obtain ⟨_, _, _, ho⟩ := hT.o4
      rw [ho] at hop; cases hop; cases hd; exact ht.2.2.2.2.1 rfl
    · obtain ⟨_, _, _, ho⟩ := hT.o5
      rw [ho] at hop; cases hop; cases hd; exact ht.2.2.2.2.2.1 rfl
    · obtain ⟨_, _, _, ho⟩ := hT.o6
      rw [ho] at hop; cases hop; cases hd; exact ht.2.2.2.2.2.2.1 rfl
    · obtain ⟨_, _, _, ho⟩ := hT.o7
      rw [ho] at hop; cases hop; cases hd; exact ht.2.2.2.2.2.2.2 rfl
    · obtain ⟨_, _, _, ho⟩ := hT.o8
      rw [ho] at hop; cases hop; cases hd
    · obtain ⟨_, _, _, ho⟩ := hT.o9
      rw [ho] at hop; cases hop; cases hd
    · exact absurd (Array.getElem?_eq_some_iff.1 hop).1 (by rw [hT.sz]; omega)
end Go.Proofs.Ytmoccpbiogdbgaa
