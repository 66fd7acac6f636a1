/-
  The walks of Go's slices package at the program's types: IndexFunc, ContainsFunc, Index, Contains, Grow, Concat.
-/
import Derived.Test.YtmoccpbiogdbgaaW3
import Derived.Test.YtmoccpbiogdbgaaSpec2
import Derived.Shelf.Abstract
namespace Go.Proofs.Ytmoccpbiogdbgaa
open Go.RowKit Go.Shelf

/-! ### Predicates -/
def PredI (g : FuncId) (caps : Array Value) (p : Int → Bool) (w : World) (xs : List Int) : Prop :=
  Enters Try.prog g ∧ ∀ x ∈ xs, ∀ W, Below w.heap.size w W → Calls Try.prog g (#[.int .i64 x] ++ caps) W (RetB (p x) W)
def PredN (g : FuncId) (caps : Array Value) (p : Nd → Bool) (w : World) (xs : List Nd) : Prop :=
  Enters Try.prog g ∧ ∀ x ∈ xs, ∀ W, Below w.heap.size w W → Calls Try.prog g (#[.agg #[.int .i64 x.pt, .bool x.rev]] ++ caps) W (RetB (p x) W)
def PredR (g : FuncId) (caps : Array Value) (q : Rt → Bool) (w : World) (xs : List Rt) : Prop :=
  Enters Try.prog g ∧ ∀ x ∈ xs, ∀ W p v o f, Below w.heap.size w W → RRt W p v o f x → Calls Try.prog g (#[rtv x p v o f] ++ caps) W (RetB (q x) W)
theorem PredI.later {g : FuncId} {caps : Array Value} {p : Int → Bool} {w W : World} {xs : List Int} (h : PredI g caps p w xs) (hb : Below w.heap.size w W) : PredI g caps p W xs :=
  ⟨h.1, fun x hx W' hb' => h.2 x hx W' (bnext hb hb')⟩
theorem PredN.later {g : FuncId} {caps : Array Value} {p : Nd → Bool} {w W : World} {xs : List Nd} (h : PredN g caps p w xs) (hb : Below w.heap.size w W) : PredN g caps p W xs :=
  ⟨h.1, fun x hx W' hb' => h.2 x hx W' (bnext hb hb')⟩
theorem PredR.later {g : FuncId} {caps : Array Value} {p : Rt → Bool} {w W : World} {xs : List Rt} (h : PredR g caps p w xs) (hb : Below w.heap.size w W) : PredR g caps p W xs :=
  ⟨h.1, fun x hx W' a b c d hb' => h.2 x hx W' a b c d (bnext hb hb')⟩

set_option maxRecDepth 10000 in
set_option maxHeartbeats 400000 in
theorem indexFuncI (A : Option Addr) (m c : Nat) (xs : List Int) (g : FuncId) (caps : Array Value) (p : Int → Bool) (w : World) (hx : RInts w A m xs) (hp : PredI g caps p w xs) :
    Calls Try.prog 118 #[.slice A m c, .func (.func g) #[] caps] w (RetI (idxFrom p xs 0) w) := by
  obtain ⟨hl, hm, b, off, hA, hc⟩ := hx
  have eg : ∀ args w, (callFunc g args).run Try.prog w = .ok (.enter g args) w := hp.1
  go_enter Try.func118, Try.ntmps118
  go_wp2
  go_loopw [8] (fun i wr => ∃ k : Nat, k ≤ m ∧ i = .int .i64 k ∧ Hid (idxFrom p (xs.drop k) k = idxFrom p xs 0) ∧ Below w.heap.size w wr) (fun i _ => m - (intOf i).toNat)
  case atStart => exact ⟨0, Nat.zero_le _, rfl, rfl, Below.refl _ _⟩
  case round =>
    obtain ⟨k, hk, rfl, hi, hb⟩ := hrel
    by_cases hlt : k < m
    · obtain rfl := hA (by omega)
      have hkl : k < xs.length := by omega
      have c0 := bcell hb (hc k hkl)
      have hi' := hi.out
      rw [dropStep hkl] at hi'
      have hmem : xs[k] ∈ xs := List.getElem_mem _
      clear hc hA hi
      generalize xs[k] = x at *
      have hcall := hp.2 x hmem _ hb
      cases h0 : p x
      · have hf : Hid (idxFrom p (xs.drop (k + 1)) (k + 1) = idxFrom p xs 0) := by rw [← hi']; simp [idxFrom, h0, Hid]
        rw [h0] at hcall
        have HC := Lib.hid hcall
        clear hi' hcall hp h0
        go_wp2_with (go_at_fn g; refine HC.out.mono ?_; rintro e w1 ⟨rfl, hb1⟩)
        have hb2 := bnext hb hb1
        go_roundw
        case rel => exact ⟨k + 1, by omega, by go_num, hf, hb2⟩
        case measure => simp [intOf]; omega
      · have hf : Hid (idxFrom p xs 0 = k) := by rw [← hi']; simp [idxFrom, h0, Hid]
        rw [h0] at hcall
        have HC := Lib.hid hcall
        clear hi' hcall hp h0
        go_wp2_with (go_at_fn g; refine HC.out.mono ?_; rintro e w1 ⟨rfl, hb1⟩)
        go_ret
        rw [hf.out]; exact ⟨rfl, bnext hb hb1⟩
    · have hf : Hid (idxFrom p xs 0 = -1) := by rw [← hi.out, dropEnd (by omega)]; simp [idxFrom, Hid]
      clear hi hp hc hA
      go_wp2
      go_ret
      rw [hf.out]; exact ⟨rfl, hb⟩

set_option maxRecDepth 10000 in
set_option maxHeartbeats 400000 in
theorem containsFuncI (A : Option Addr) (m c : Nat) (xs : List Int) (g : FuncId) (caps : Array Value) (p : Int → Bool) (w : World) (hx : RInts w A m xs) (hp : PredI g caps p w xs) :
    Calls Try.prog 60 #[.slice A m c, .func (.func g) #[] caps] w (RetB (xs.any p) w) := by
  have H := Lib.hid (indexFuncI A m c xs g caps p w hx hp)
  have h0 := idxFrom_any p xs 0
  generalize idxFrom p xs 0 = r at *
  go_enter Try.func60, Try.ntmps60
  go_wp2_with (go_at_call 118; refine H.out.mono ?_; rintro e w1 ⟨rfl, hb1⟩)
  go_ret
  exact ⟨rfl, hb1⟩

set_option maxRecDepth 10000 in
set_option maxHeartbeats 400000 in
theorem indexFuncN (A : Option Addr) (m c : Nat) (xs : List Nd) (g : FuncId) (caps : Array Value) (p : Nd → Bool) (w : World) (hx : RNds w A m xs) (hp : PredN g caps p w xs) :
    Calls Try.prog 151 #[.slice A m c, .func (.func g) #[] caps] w (RetI (idxFrom p xs 0) w) := by
  obtain ⟨hl, hm, b, off, hA, hc⟩ := hx
  have eg : ∀ args w, (callFunc g args).run Try.prog w = .ok (.enter g args) w := hp.1
  go_enter Try.func151, Try.ntmps151
  go_wp2
  go_loopw [8] (fun i wr => ∃ k : Nat, k ≤ m ∧ i = .int .i64 k ∧ Hid (idxFrom p (xs.drop k) k = idxFrom p xs 0) ∧ Below w.heap.size w wr) (fun i _ => m - (intOf i).toNat)
  case atStart => exact ⟨0, Nat.zero_le _, rfl, rfl, Below.refl _ _⟩
  case round =>
    obtain ⟨k, hk, rfl, hi, hb⟩ := hrel
    by_cases hlt : k < m
    · obtain rfl := hA (by omega)
      have hkl : k < xs.length := by omega
      have c0 := bcell hb (hc k hkl).1
      have c1 := bcell hb (hc k hkl).2
      have hi' := hi.out
      rw [dropStep hkl] at hi'
      have hmem : xs[k] ∈ xs := List.getElem_mem _
      clear hc hA hi
      generalize xs[k] = x at *
      have hcall := hp.2 x hmem _ hb
      cases h0 : p x
      · have hf : Hid (idxFrom p (xs.drop (k + 1)) (k + 1) = idxFrom p xs 0) := by rw [← hi']; simp [idxFrom, h0, Hid]
        rw [h0] at hcall
        have HC := Lib.hid hcall
        clear hi' hcall hp h0
        go_wp2_with (go_at_fn g; refine HC.out.mono ?_; rintro e w1 ⟨rfl, hb1⟩)
        have hb2 := bnext hb hb1
        go_roundw
        case rel => exact ⟨k + 1, by omega, by go_num, hf, hb2⟩
        case measure => simp [intOf]; omega
      · have hf : Hid (idxFrom p xs 0 = k) := by rw [← hi']; simp [idxFrom, h0, Hid]
        rw [h0] at hcall
        have HC := Lib.hid hcall
        clear hi' hcall hp h0
        go_wp2_with (go_at_fn g; refine HC.out.mono ?_; rintro e w1 ⟨rfl, hb1⟩)
        go_ret
        rw [hf.out]; exact ⟨rfl, bnext hb hb1⟩
    · have hf : Hid (idxFrom p xs 0 = -1) := by rw [← hi.out, dropEnd (by omega)]; simp [idxFrom, Hid]
      clear hi hp hc hA
      go_wp2
      go_ret
      rw [hf.out]; exact ⟨rfl, hb⟩

set_option maxRecDepth 10000 in
set_option maxHeartbeats 400000 in
theorem containsFuncN (A : Option Addr) (m c : Nat) (xs : List Nd) (g : FuncId) (caps : Array Value) (p : Nd → Bool) (w : World) (hx : RNds w A m xs) (hp : PredN g caps p w xs) :
    Calls Try.prog 106 #[.slice A m c, .func (.func g) #[] caps] w (RetB (xs.any p) w) := by
  have H := Lib.hid (indexFuncN A m c xs g caps p w hx hp)
  have h0 := idxFrom_any p xs 0
  generalize idxFrom p xs 0 = r at *
  go_enter Try.func106, Try.ntmps106
  go_wp2_with (go_at_call 151; refine H.out.mono ?_; rintro e w1 ⟨rfl, hb1⟩)
  go_ret
  exact ⟨rfl, hb1⟩

set_option maxRecDepth 10000 in
set_option maxHeartbeats 400000 in
theorem indexFuncR (A : Option Addr) (m c : Nat) (xs : List Rt) (g : FuncId) (caps : Array Value) (p : Rt → Bool) (w : World) (hx : RRts w A m xs) (hp : PredR g caps p w xs) :
    Calls Try.prog 115 #[.slice A m c, .func (.func g) #[] caps] w (RetI (idxFrom p xs 0) w) := by
  obtain ⟨hl, hm, b, off, hA, hc⟩ := hx
  have eg : ∀ args w, (callFunc g args).run Try.prog w = .ok (.enter g args) w := hp.1
  go_enter Try.func115, Try.ntmps115
  go_wp2
  go_loopw [8] (fun i wr => ∃ k : Nat, k ≤ m ∧ i = .int .i64 k ∧ Hid (idxFrom p (xs.drop k) k = idxFrom p xs 0) ∧ Below w.heap.size w wr) (fun i _ => m - (intOf i).toNat)
  case atStart => exact ⟨0, Nat.zero_le _, rfl, rfl, Below.refl _ _⟩
  case round =>
    obtain ⟨k, hk, rfl, hi, hb⟩ := hrel
    by_cases hlt : k < m
    · obtain rfl := hA (by omega)
      have hkl : k < xs.length := by omega
      obtain ⟨p1, p2, p3, p4, hR, c0, c1, c2, c3, c4, c5⟩ := hc k hkl
      have hR1 := hR.below hb
      have c0 := bcell hb c0
      have c1 := bcell hb c1
      have c2 := bcell hb c2
      have c3 := bcell hb c3
      have c4 := bcell hb c4
      have c5 := bcell hb c5
      unfold Hd.v at c2 c3 c4 c5
      clear hR
      have hi' := hi.out
      rw [dropStep hkl] at hi'
      have hmem : xs[k] ∈ xs := List.getElem_mem _
      clear hc hA hi
      generalize xs[k] = x at *
      have hcall := hp.2 x hmem _ _ _ _ _ hb hR1
      cases h0 : p x
      · have hf : Hid (idxFrom p (xs.drop (k + 1)) (k + 1) = idxFrom p xs 0) := by rw [← hi']; simp [idxFrom, h0, Hid]
        rw [h0] at hcall
        have HC := Lib.hid hcall
        clear hi' hcall hp h0
        go_wp2_with (go_at_fn g; refine HC.out.mono ?_; rintro e w1 ⟨rfl, hb1⟩)
        have hb2 := bnext hb hb1
        go_roundw
        case rel => exact ⟨k + 1, by omega, by go_num, hf, hb2⟩
        case measure => simp [intOf]; omega
      · have hf : Hid (idxFrom p xs 0 = k) := by rw [← hi']; simp [idxFrom, h0, Hid]
        rw [h0] at hcall
        have HC := Lib.hid hcall
        clear hi' hcall hp h0
        go_wp2_with (go_at_fn g; refine HC.out.mono ?_; rintro e w1 ⟨rfl, hb1⟩)
        go_ret
        rw [hf.out]; exact ⟨rfl, bnext hb hb1⟩
    · have hf : Hid (idxFrom p xs 0 = -1) := by rw [← hi.out, dropEnd (by omega)]; simp [idxFrom, Hid]
      clear hi hp hc hA
      go_wp2
      go_ret
      rw [hf.out]; exact ⟨rfl, hb⟩

set_option maxRecDepth 10000 in
set_option maxHeartbeats 400000 in
theorem containsFuncR (A : Option Addr) (m c : Nat) (xs : List Rt) (g : FuncId) (caps : Array Value) (p : Rt → Bool) (w : World) (hx : RRts w A m xs) (hp : PredR g caps p w xs) :
    Calls Try.prog 65 #[.slice A m c, .func (.func g) #[] caps] w (RetB (xs.any p) w) := by
  have H := Lib.hid (indexFuncR A m c xs g caps p w hx hp)
  have h0 := idxFrom_any p xs 0
  generalize idxFrom p xs 0 = r at *
  go_enter Try.func65, Try.ntmps65
  go_wp2_with (go_at_call 115; refine H.out.mono ?_; rintro e w1 ⟨rfl, hb1⟩)
  go_ret
  exact ⟨rfl, hb1⟩

set_option maxHeartbeats 400000 in
theorem index_any (A : Option Addr) (m c : Nat) (xs : List Int) (n : Int) (w : World) (hx : RInts w A m xs) :
    Calls Try.prog 174 #[.slice A m c, .int .i64 n] w (RetQ (.int .i64 (idxFrom (fun x => n == x) xs 0)) w) := by
  obtain ⟨hl, hm, b, off, hA, hc⟩ := hx
  go_enter Try.func174, Try.ntmps174
  go_wp2
  go_loop [8] (fun i => ∃ k : Nat, k ≤ m ∧ i = .int .i64 k ∧ Hid (idxFrom (fun x => n == x) (xs.drop k) k = idxFrom (fun x => n == x) xs 0)) (fun i => m - (intOf i).toNat)
  case atStart => exact ⟨0, Nat.zero_le _, rfl, rfl⟩
  case round =>
    obtain ⟨k, hk, rfl, hi⟩ := hrel
    by_cases hlt : k < m
    · obtain rfl := hA (by omega)
      have c0 := hc k (by omega)
      have hi' := hi.out
      rw [dropStep (by omega)] at hi'
      clear hc hA hi
      generalize xs[k] = x at *
      cases h0 : (n == x)
      · have hf : Hid (idxFrom (fun x => n == x) (xs.drop (k + 1)) (k + 1) = idxFrom (fun x => n == x) xs 0) := by rw [← hi']; simp [idxFrom, h0, Hid]
        clear hi'
        go_wp2
        go_round
        case rel => exact ⟨k + 1, by omega, by go_num, hf⟩
        case measure => simp [intOf]; omega
      · have hf : Hid (idxFrom (fun x => n == x) xs 0 = k) := by rw [← hi']; simp [idxFrom, h0, Hid]
        clear hi'
        go_wp2
        go_ret
        rw [hf.out]; exact ⟨rfl, rfl⟩
    · have hf : Hid (idxFrom (fun x => n == x) xs 0 = -1) := by rw [← hi.out, dropEnd (by omega)]; simp [idxFrom, Hid]
      clear hi
      go_wp2
      go_ret
      rw [hf.out]; exact ⟨rfl, rfl⟩

set_option maxHeartbeats 400000 in
theorem contains_any (A : Option Addr) (m c : Nat) (xs : List Int) (n : Int) (w : World) (hx : RInts w A m xs) :
    Calls Try.prog 162 #[.slice A m c, .int .i64 n] w (RetQ (.bool (hasI n xs)) w) := by
  have H := Lib.hid (index_any A m c xs n w hx)
  have h0 := idxFrom_any (fun x => n == x) xs 0
  generalize idxFrom (fun x => n == x) xs 0 = r at *
  go_enter Try.func162, Try.ntmps162
  go_wp2_with (go_at_call 174; refine H.out.mono ?_; rintro e w1 ⟨rfl, rfl⟩)
  go_ret
  exact ⟨rfl, rfl⟩

/-! ### Rows of needs of the call's own -/
def ndCells (xs : List Nd) : List Value := xs.flatMap fun x => [.int .i64 x.pt, .bool x.rev]
theorem ndCells_length (xs : List Nd) : (ndCells xs).length = xs.length * 2 := by
  induction xs with
  | nil => rfl
  | cons x xs ih => simp only [ndCells, List.flatMap_cons, List.length_append] at *; rw [ih]; simp; omega
theorem ndCells_append (xs ys : List Nd) : ndCells (xs ++ ys) = ndCells xs ++ ndCells ys := by simp [ndCells]
theorem ndCells_at (xs : List Nd) : ∀ (i : Nat) (h : i < xs.length), (ndCells xs)[i * 2]? = some (.int .i64 xs[i].pt) ∧ (ndCells xs)[i * 2 + 1]? = some (.bool xs[i].rev) := by
  induction xs with
  | nil => intro i h; simp at h
  | cons x xs ih =>
    intro i h
    cases i with
    | zero => simp [ndCells]
    | succ i =>
      have := ih i (by simpa using h)
      simp only [ndCells, List.flatMap_cons] at *
      rw [List.getElem?_append_right (by simp; omega), List.getElem?_append_right (by simp; omega)]
      simpa [Nat.add_mul, Nat.add_sub_cancel, show i * 2 + 2 + 1 - 2 = i * 2 + 1 from by omega] using this
theorem ndCells_src {w : World} {A : Option Addr} {n : Nat} {xs : List Nd} (h : RNds w A n xs) : ∃ b off, (0 < n → A = some ⟨b, off, none⟩) ∧ ∀ j u, (ndCells xs)[j]? = some u → w.cell? ⟨b, off + j, none⟩ = some u := by
  obtain ⟨hl, hm, b, off, hA, hc⟩ := h
  refine ⟨b, off, hA, fun j u hj => ?_⟩
  have hj1 := (List.getElem?_eq_some_iff.1 hj).1
  rw [ndCells_length] at hj1
  have h2 : j / 2 < xs.length := by omega
  have hat := ndCells_at xs (j / 2) h2
  have hcc := hc (j / 2) h2
  rcases Nat.mod_two_eq_zero_or_one j with h | h
  · have e : j / 2 * 2 = j := by omega
    rw [e] at hat hcc
    rw [hcc.1, ← hat.1, hj]
  · have e : j / 2 * 2 + 1 = j := by omega
    have e' : off + j / 2 * 2 + 1 = off + j := by omega
    rw [e'] at hcc
    rw [e] at hat
    rw [hcc.2, ← hat.2, hj]
theorem nds_of_own {w : World} {base : Nat} {e : TypeId} {v : Value} {n : Nat} {xs : List Nd} (h : w.ownsRow base e 2 v n (ndCells xs)) (hn : n ≤ 140737488355328) :
    ∃ A c, v = .slice A n c ∧ n ≤ c ∧ RNds w A n xs := by
  have hl := h.1
  rw [ndCells_length] at hl
  obtain ⟨A, c, rfl, hle, b, off, hA, hc⟩ := cell_of_own h
  refine ⟨A, c, rfl, hle, by omega, hn, b, off, hA, fun i hi => ?_⟩
  have hat := ndCells_at xs i hi
  exact ⟨hc _ _ hat.1, by have := hc _ _ hat.2; rwa [← Nat.add_assoc] at this⟩
theorem ndCells_one (xs : List Nd) : ∀ u ∈ ndCells xs, u.oneCell' = true := by
  intro u hu
  simp only [ndCells, List.mem_flatMap] at hu
  obtain ⟨x, _, hu⟩ := hu
  simp at hu
  rcases hu with rfl | rfl <;> rfl
theorem intCells_src {w : World} {A : Option Addr} {n : Nat} {xs : List Int} (h : RInts w A n xs) : ∃ b off, (0 < n → A = some ⟨b, off, none⟩) ∧ ∀ j u, (xs.map (Value.int .i64))[j]? = some u → w.cell? ⟨b, off + j, none⟩ = some u := by
  obtain ⟨hl, hm, b, off, hA, hc⟩ := h
  refine ⟨b, off, hA, fun j u hj => ?_⟩
  have hj' : j < xs.length := by have := (List.getElem?_eq_some_iff.1 hj).1; simpa using this
  rw [hc j hj']
  simpa [hj'] using hj
theorem intCells_one (xs : List Int) : ∀ u ∈ xs.map (Value.int .i64), u.oneCell' = true := by
  intro u hu; obtain ⟨x, _, rfl⟩ := List.mem_map.1 hu; rfl
theorem elemNd : Elem Try.prog 62 93 2 16 := elem_of (z := .agg #[.int .i64 0, .bool false]) Try.underlying62 (by kernel_rfl) rfl (by decide)
end Go.Proofs.Ytmoccpbiogdbgaa
