/-
  A region that draws its order, whose operations read what lay there, lay blocks, and call what lays blocks: the lexical walk serves every order, though a value may hang on the order (an address): what is known of it is a fact that lasts.
-/
import Derived.Test.YtmoccpbiogdbgaaData
import Derived.Still
namespace Go.Proofs.Ytmoccpbiogdbgaa
open Go.RowKit

section
variable {P : Program} {ops : Array Oper} {md : Region.Mode} {w0 : World} {F : Tmp → Value → World → Prop} {Q : Act → World → Prop}

def tm (a : Act) (t : Tmp) : Value := a.tmps.getD t undef
theorem tm_put_same {a : Act} {t : Tmp} {v : Value} (h : t < a.tmps.size) : tm (a.put (some t) v) t = v := by simp [tm, Act.put, h]
theorem tm_put_other {a : Act} {d : Option Tmp} {t : Tmp} {v : Value} (h : d ≠ some t) : tm (a.put d v) t = tm a t := by
  cases d with
  | none => rfl
  | some u =>
    have hne : u ≠ t := fun e => h (by rw [e])
    simp [tm, Act.put, Array.getElem?_setIfInBounds_ne hne]
theorem size_put {a : Act} {d : Option Tmp} {v : Value} : (a.put d v).tmps.size = a.tmps.size := by
  cases d with
  | none => rfl
  | some u => simp [Act.put]

/-- What is known: the world is one behind w0; each slot of K holds what it should. -/
def Known (w0 : World) (F : Tmp → Value → World → Prop) (K : Tmp → Prop) (a : Act) (W : World) : Prop := Below w0.heap.size w0 W ∧ ∀ t, K t → F t (tm a t) W
/-- .. of the slots that an operation looks at. -/
def KnownFor (ops : Array Oper) (w0 : World) (F : Tmp → Value → World → Prop) (o : Oper) (K : Tmp → Prop) (a : Act) (W : World) : Prop := Below w0.heap.size w0 W ∧ ∀ t, K t → t ∈ o.looksAt ops → F t (tm a t) W
def Out (F : Tmp → Value → World → Prop) (d : Option Tmp) (W : World) (u : Value) (w' : World) : Prop := Below W.heap.size W w' ∧ ∀ t, d = some t → F t u w'
def looseUpon (P : Program) (F : Tmp → Value → World → Prop) (d : Option Tmp) (W : World) : Result Next → Prop
  | .ok (.value u) w' => Out F d W u w'
  | .ok .skip w' => Out F d W undef w'
  | .ok (.enter f args) w' => Calls P f args w' (fun e w'' => ∃ u, e = .returned u ∧ Out F d W u w'')
  | _ => False
def looseOp (P : Program) (ops : Array Oper) (w0 : World) (F : Tmp → Value → World → Prop) (o : Oper) (K : Tmp → Prop) (a : Act) : Prop :=
  ∀ W, KnownFor ops w0 F o K a W → looseUpon P F o.dst W ((execOp a.eval o).run P W)
def addK (d : Option Tmp) (K : Tmp → Prop) : Tmp → Prop := fun t => d = some t ∨ K t
theorem addK_comm (d e : Option Tmp) (K : Tmp → Prop) : addK d (addK e K) = addK e (addK d K) := by
  funext t; exact propext ⟨fun h => by rcases h with h | h | h <;> simp [addK, h], fun h => by rcases h with h | h | h <;> simp [addK, h]⟩
/-- One operation. -/
def opLo (P : Program) (ops : Array Oper) (w0 : World) (F : Tmp → Value → World → Prop) (o : Oper) (Kont : (Tmp → Prop) → Act → Prop) (K : Tmp → Prop) (a : Act) : Prop :=
  (∀ t, o.dst = some t → ¬ K t) ∧
  if Region.wanted o (yielded ops a.tmps) then looseOp P ops w0 F o K a ∧ (∀ t, o.dst = some t → t < a.tmps.size) ∧ ∀ v, (∀ t, o.dst = some t → ∃ W, F t v W) → Kont (addK o.dst K) (a.put o.dst v)
  else Kont K (a.put o.dst undef)
def opL (P : Program) (ops : Array Oper) (w0 : World) (F : Tmp → Value → World → Prop) (i : Nat) (Kont : (Tmp → Prop) → Act → Prop) (K : Tmp → Prop) (a : Act) : Prop :=
  match ops[i]? with
  | none => Kont K a
  | some o => opLo P ops w0 F o Kont K a
def anyL (P : Program) (md : Region.Mode) (ops : Array Oper) (w0 : World) (F : Tmp → Value → World → Prop) (Q : Act → World → Prop) : Nat → Array Bool → (Tmp → Prop) → Act → Prop
  | 0, listed, K, a => (∃ W, Known w0 F K a W) → Region.ready md ops listed = [] ∧ ∀ W, Known w0 F K a W → Q a W
  | f + 1, listed, K, a => (∃ W, Known w0 F K a W) → (Region.ready md ops listed = [] → ∀ W, Known w0 F K a W → Q a W) ∧
      ∀ i ∈ Region.ready md ops listed, opL P ops w0 F i (anyL P md ops w0 F Q f (listed.setIfInBounds i true)) K a
theorem anyL_intro {f : Nat} {listed : Array Bool} {K : Tmp → Prop} {a : Act} (h : (∃ W, Known w0 F K a W) → anyL P md ops w0 F Q f listed K a) : anyL P md ops w0 F Q f listed K a := by
  cases f with
  | zero => exact fun hx => h hx hx
  | succ f => exact fun hx => h hx hx

variable (hF : ∀ t v W W', F t v W → Below W.heap.size W W' → F t v W')
include hF
theorem known_put {o : Oper} {K : Tmp → Prop} {a : Act} {W W' : World} {u : Value} (hk : Known w0 F K a W) (_hfr : ∀ t, o.dst = some t → ¬ K t) (hin : ∀ t, o.dst = some t → t < a.tmps.size) (ho : Out F o.dst W u W') :
    Known w0 F (addK o.dst K) (a.put o.dst u) W' := by
  refine ⟨bnext hk.1 ho.1, fun t ht => ?_⟩
  by_cases hd : o.dst = some t
  · rw [hd, tm_put_same (hin t hd)]; exact ho.2 t hd
  · rw [tm_put_other hd]
    rcases ht with ht | ht
    · exact absurd ht hd
    · exact hF t _ _ _ (hk.2 t ht) ho.1
omit hF in
theorem known_skip {o : Oper} {K : Tmp → Prop} {a : Act} {W : World} {u : Value} (hk : Known w0 F K a W) (hfr : ∀ t, o.dst = some t → ¬ K t) : Known w0 F K (a.put o.dst u) W :=
  ⟨hk.1, fun t ht => by rw [tm_put_other (fun e => hfr t e ht)]; exact hk.2 t ht⟩
omit hF in
theorem knownFor {o : Oper} {K : Tmp → Prop} {a : Act} {W : World} (hk : Known w0 F K a W) : KnownFor ops w0 F o K a W := ⟨hk.1, fun t ht _ => hk.2 t ht⟩
omit hF in
theorem loose_gives {o : Oper} {W : World} {r : Result Next} (h : looseUpon P F o.dst W r) : ∃ u w', Out F o.dst W u w' := by
  cases r with
  | ok n w' =>
    cases n <;> simp only [looseUpon] at h
    case value u => exact ⟨u, w', h⟩
    case skip => exact ⟨undef, w', h⟩
    case enter f args =>
      obtain ⟨e, w'', fr, ⟨u, _, hu⟩, _⟩ := h []
      exact ⟨u, w'', hu⟩
  | halt x w' => simp only [looseUpon] at h
/-- It serves: from every world that is known. -/
theorem anyL_sound {Q' : Exit → Act → World → Prop} (hQ : ∀ a W, Q a W → Q' .normal a W) : ∀ (f : Nat) (listed : Array Bool) (K : Tmp → Prop) (a : Act) (W : World), anyL P md ops w0 F Q f listed K a → Known w0 F K a W → wpAny P md ops Q' f listed a W := by
  intro f
  induction f with
  | zero => intro listed K a W h hk; exact ⟨(h ⟨W, hk⟩).1, hQ _ _ ((h ⟨W, hk⟩).2 W hk)⟩
  | succ f ih =>
    intro listed K a W h hk
    refine ⟨fun h0 => hQ _ _ ((h ⟨W, hk⟩).1 h0 W hk), fun i hi => ?_⟩
    have hop := (h ⟨W, hk⟩).2 i hi
    unfold opL at hop
    unfold wpOp
    split
    · rename_i ho
      simp only [ho] at hop
      exact ih _ _ _ _ hop hk
    · rename_i o ho
      simp only [ho] at hop
      obtain ⟨hfr, hop⟩ := hop
      split
      · rename_i hw
        rw [if_pos hw] at hop
        obtain ⟨hl, hin, hkont⟩ := hop
        have hu := hl W (knownFor hk)
        left
        unfold Oper.wp
        generalize (execOp a.eval o).run P W = r at *
        cases r with
        | ok n w' =>
          cases n <;> simp only [looseUpon] at hu <;> simp only [Oper.upon]
          case value u => exact ih _ _ _ _ (hkont u fun t ht => ⟨w', hu.2 t ht⟩) (known_put hF hk hfr hin hu)
          case skip => exact ih _ _ _ _ (hkont undef fun t ht => ⟨w', hu.2 t ht⟩) (known_put hF hk hfr hin hu)
          case enter g args =>
            refine Calls.mono hu fun e w'' he => ?_
            obtain ⟨u, rfl, hu'⟩ := he
            exact ih _ _ _ _ (hkont u fun t ht => ⟨w'', hu'.2 t ht⟩) (known_put hF hk hfr hin hu')
        | halt x w' => simp only [looseUpon] at hu
      · rename_i hw
        rw [if_neg hw] at hop
        exact ih _ _ _ _ hop (known_skip hk hfr)
omit hF in
theorem loose_apart {oi oj : Oper} {v : Value} {K : Tmp → Prop} {a : Act} (hsj : ∀ cs b, oj.op ≠ .select cs b) (h1 : ∀ d, oi.dst = some d → d ∉ oj.looksAt ops) (h : looseOp P ops w0 F oj (addK oi.dst K) (a.put oi.dst v)) : looseOp P ops w0 F oj K a := by
  intro W hk
  have := h W ⟨hk.1, fun t ht hl => by
    have hd : oi.dst ≠ some t := fun e => h1 t e hl
    rw [tm_put_other hd]
    rcases ht with ht | ht
    · exact absurd ht hd
    · exact hk.2 t ht hl⟩
  rwa [execOp_put oj hsj a oi.dst v h1] at this
omit hF in
theorem loose_apart' {oi oj : Oper} {v : Value} {K : Tmp → Prop} {a : Act} (hsj : ∀ cs b, oj.op ≠ .select cs b) (h1 : ∀ d, oi.dst = some d → d ∉ oj.looksAt ops) (h : looseOp P ops w0 F oj K (a.put oi.dst v)) : looseOp P ops w0 F oj K a := by
  intro W hk
  have := h W ⟨hk.1, fun t ht hl => by rw [tm_put_other (fun e => h1 t e hl)]; exact hk.2 t ht hl⟩
  rwa [execOp_put oj hsj a oi.dst v h1] at this
omit hF in
theorem loose_put {oi oj : Oper} {v : Value} {K : Tmp → Prop} {a : Act} (hsj : ∀ cs b, oj.op ≠ .select cs b) (h1 : ∀ d, oi.dst = some d → d ∉ oj.looksAt ops) (h : looseOp P ops w0 F oj K a) : looseOp P ops w0 F oj (addK oi.dst K) (a.put oi.dst v) := by
  intro W hk
  rw [execOp_put oj hsj a oi.dst v h1]
  exact h W ⟨hk.1, fun t ht hl => by
    have := hk.2 t (.inr ht) hl
    rwa [tm_put_other (fun e => h1 t e hl)] at this⟩
omit hF in
theorem loose_put' {oi oj : Oper} {v : Value} {K : Tmp → Prop} {a : Act} (hsj : ∀ cs b, oj.op ≠ .select cs b) (h1 : ∀ d, oi.dst = some d → d ∉ oj.looksAt ops) (h : looseOp P ops w0 F oj K a) : looseOp P ops w0 F oj K (a.put oi.dst v) := by
  intro W hk
  rw [execOp_put oj hsj a oi.dst v h1]
  exact h W ⟨hk.1, fun t ht hl => by
    have := hk.2 t ht hl
    rwa [tm_put_other (fun e => h1 t e hl)] at this⟩

omit hF in
theorem opLo_fresh {o : Oper} {Kont : (Tmp → Prop) → Act → Prop} {K : Tmp → Prop} {a : Act} (h : opLo P ops w0 F o Kont K a) : ∀ t, o.dst = some t → ¬ K t := h.1
/-- What a value may be, and what is known behind it, by whether the operation runs. -/
def goodV (F : Tmp → Value → World → Prop) (b : Bool) (d : Option Tmp) (v : Value) : Prop := if b then (∀ t, d = some t → ∃ W, F t v W) else v = undef
def nextK (b : Bool) (d : Option Tmp) (K : Tmp → Prop) : Tmp → Prop := if b then addK d K else K
omit hF in
theorem nextK_comm (b c : Bool) (d e : Option Tmp) (K : Tmp → Prop) : nextK b d (nextK c e K) = nextK c e (nextK b d K) := by
  cases b <;> cases c <;> simp [nextK, addK_comm]
omit hF in
theorem nextK_of {b : Bool} {d : Option Tmp} {K : Tmp → Prop} {t : Tmp} (h : nextK b d K t) : d = some t ∨ K t := by
  cases b
  · exact .inr h
  · exact h
omit hF in
theorem nextK_old {b : Bool} {d : Option Tmp} {K : Tmp → Prop} {t : Tmp} (h : K t) : nextK b d K t := by
  cases b
  · exact h
  · exact .inr h
omit hF in
theorem opLo_iff {o : Oper} {Kont : (Tmp → Prop) → Act → Prop} {K : Tmp → Prop} {a : Act} {b : Bool} (hb : Region.wanted o (yielded ops a.tmps) = b) :
    opLo P ops w0 F o Kont K a ↔ (∀ t, o.dst = some t → ¬ K t) ∧ (b = true → looseOp P ops w0 F o K a ∧ ∀ t, o.dst = some t → t < a.tmps.size) ∧ ∀ v, goodV F b o.dst v → Kont (nextK b o.dst K) (a.put o.dst v) := by
  unfold opLo
  cases b
  · rw [if_neg (by rw [hb]; simp)]
    constructor
    · rintro ⟨h1, h2⟩
      refine ⟨h1, (fun h => by cases h), fun v hv => ?_⟩
      have : v = undef := hv
      subst this; exact h2
    · rintro ⟨h1, _, h2⟩; exact ⟨h1, h2 undef rfl⟩
  · rw [if_pos hb]
    constructor
    · rintro ⟨h1, h2, h3, h4⟩; exact ⟨h1, fun _ => ⟨h2, h3⟩, fun v hv => h4 v hv⟩
    · rintro ⟨h1, h2, h4⟩; exact ⟨h1, (h2 rfl).1, (h2 rfl).2, fun v hv => h4 v hv⟩
omit hF in
theorem loose_next {oi oj : Oper} {v : Value} {K : Tmp → Prop} {a : Act} (b : Bool) (hsj : ∀ cs b, oj.op ≠ .select cs b) (h1 : ∀ d, oi.dst = some d → d ∉ oj.looksAt ops) (h : looseOp P ops w0 F oj K a) : looseOp P ops w0 F oj (nextK b oi.dst K) (a.put oi.dst v) := by
  cases b
  · exact loose_put' hsj h1 h
  · exact loose_put hsj h1 h
omit hF in
theorem loose_back {oi oj : Oper} {v : Value} {K : Tmp → Prop} {a : Act} {b : Bool} (hsj : ∀ cs b, oj.op ≠ .select cs b) (h1 : ∀ d, oi.dst = some d → d ∉ oj.looksAt ops) (h : looseOp P ops w0 F oj (nextK b oi.dst K) (a.put oi.dst v)) : looseOp P ops w0 F oj K a := by
  cases b
  · exact loose_apart' hsj h1 h
  · exact loose_apart hsj h1 h
theorem exists_next {o : Oper} {K : Tmp → Prop} {a : Act} {W : World} {b : Bool} (hk : Known w0 F K a W) (hfr : ∀ t, o.dst = some t → ¬ K t) (hl : b = true → looseOp P ops w0 F o K a ∧ ∀ t, o.dst = some t → t < a.tmps.size) :
    ∃ v, goodV F b o.dst v ∧ ∃ W', Known w0 F (nextK b o.dst K) (a.put o.dst v) W' := by
  cases b
  · exact ⟨undef, rfl, W, known_skip hk hfr⟩
  · obtain ⟨h1, h2⟩ := hl rfl
    obtain ⟨u, w', hu⟩ := loose_gives (h1 W (knownFor hk))
    exact ⟨u, fun t ht => ⟨w', hu.2 t ht⟩, w', known_put hF hk hfr h2 hu⟩
omit hF in
theorem known_back {d : Option Tmp} {_b : Bool} {K K' : Tmp → Prop} {a : Act} {u : Value} {W : World} (hfr : ∀ t, d = some t → ¬ K t) (hsub : ∀ t, K t → K' t) (h : Known w0 F K' (a.put d u) W) : Known w0 F K a W :=
  ⟨h.1, fun t ht => by have := h.2 t (hsub t ht); rwa [tm_put_other (fun e => hfr t e ht)] at this⟩
/-- An operation that may come up now may be taken first. -/
theorem anyL_first {i : Nat} {oi : Oper} (hi : ops[i]? = some oi) (hsel : ∀ (j : Nat) (o : Oper) cs b, ops[j]? = some o → o.op ≠ .select cs b) :
    ∀ (fuel : Nat) (listed : Array Bool) (K : Tmp → Prop) (a : Act),
      (∀ j oj, ops[j]? = some oj → j ≠ i → listed.getD j true = false → (∀ e ∈ oj.after, Region.binds md e = true → e.on ≠ i) → oi.apart ops oj = true) →
      i ∈ Region.ready md ops listed → opLo P ops w0 F oi (anyL P md ops w0 F Q fuel (listed.setIfInBounds i true)) K a → anyL P md ops w0 F Q (fuel + 1) listed K a := by
  intro fuel
  induction fuel with
  | zero =>
    intro listed K a _ hr H hex
    refine ⟨fun h => (by rw [h] at hr; cases hr), fun j hj => ?_⟩
    by_cases hji : j = i
    · subst hji; unfold opL; rw [hi]; exact H
    · obtain ⟨W, hk⟩ := hex
      obtain ⟨hfr, hl, hk2⟩ := (opLo_iff rfl).1 H
      obtain ⟨v, hv, hex2⟩ := exists_next hF hk hfr hl
      have := ready_mono hj hji
      rw [(hk2 v hv hex2).1] at this
      cases this
  | succ fuel ih =>
    intro listed K a hfree hr H hex
    refine ⟨fun h => (by rw [h] at hr; cases hr), fun j hj => ?_⟩
    by_cases hji : j = i
    · subst hji; unfold opL; rw [hi]; exact H
    obtain ⟨W, hk⟩ := hex
    obtain ⟨hjun, oj, hoj, hall⟩ := mem_ready.1 hj
    have hnot : ∀ e ∈ oj.after, Region.binds md e = true → e.on ≠ i := fun e he hb heq => by
      have h1 := hall e he hb
      have h0 := (mem_ready.1 hr).1
      rw [heq] at h1
      rcases Nat.lt_or_ge i listed.size with h' | h'
      · simp [h'] at h0 h1; rw [h0] at h1; cases h1
      · simp [Array.getElem?_eq_none h'] at h1
    obtain ⟨a1, a2, a3⟩ := Oper.apart_spec (hfree j oj hoj hji hjun hnot)
    have hsi : ∀ cs b, oi.op ≠ .select cs b := fun cs b => hsel i oi cs b hi
    have hsj : ∀ cs b, oj.op ≠ .select cs b := fun cs b => hsel j oj cs b hoj
    obtain ⟨bi, hbi⟩ : ∃ b, Region.wanted oi (yielded ops a.tmps) = b := ⟨_, rfl⟩
    obtain ⟨bj, hbj⟩ : ∃ b, Region.wanted oj (yielded ops a.tmps) = b := ⟨_, rfl⟩
    obtain ⟨hfr, hl, hk2⟩ := (opLo_iff hbi).1 H
    obtain ⟨v0, hv0, hex0⟩ := exists_next hF hk hfr hl
    have hj0 := (hk2 v0 hv0 hex0).2 j (ready_mono hj hji)
    unfold opL at hj0 ⊢
    rw [hoj] at hj0 ⊢
    simp only at hj0 ⊢
    have hbj' : ∀ v, Region.wanted oj (yielded ops (a.put oi.dst v).tmps) = bj := fun v => by rw [wanted_put oj a oi.dst v a1]; exact hbj
    obtain ⟨hfrj, hlj, _⟩ := (opLo_iff (hbj' v0)).1 hj0
    have hfrj' : ∀ t, oj.dst = some t → ¬ K t := fun t ht hKt => hfrj t ht (nextK_old hKt)
    refine (opLo_iff hbj).2 ⟨hfrj', fun hb => ⟨loose_back hsj a1 (hlj hb).1, fun t ht => by have := (hlj hb).2 t ht; rwa [size_put] at this⟩, fun u hu => ?_⟩
    refine ih (listed.setIfInBounds j true) _ _ ?_ (ready_mono hr (Ne.symm hji)) ?_
    · intro k ok hk' hki hun hno
      refine hfree k ok hk' hki ?_ hno
      by_cases hjk : j = k
      · subst hjk; exact hjun
      · rw [getD_set_ne true hjk] at hun; exact hun
    · have hbi' : Region.wanted oi (yielded ops (a.put oj.dst u).tmps) = bi := by rw [wanted_put oi a oj.dst u a3]; exact hbi
      have hfri : ∀ t, oi.dst = some t → ¬ nextK bj oj.dst K t := fun t ht hn => by
        rcases nextK_of hn with h | h
        · exact a2 t ht h
        · exact hfr t ht h
      refine (opLo_iff hbi').2 ⟨hfri, fun hb => ⟨loose_next bj hsi a3 (hl hb).1, fun t ht => by rw [size_put]; exact (hl hb).2 t ht⟩, fun v hv => ?_⟩
      refine anyL_intro fun hex3 => ?_
      have hcomm : (a.put oj.dst u).put oi.dst v = (a.put oi.dst v).put oj.dst u := (Act.put_comm a v u a2).symm
      obtain ⟨W3, hk3⟩ := hex3
      have hk3' : Known w0 F (nextK bi oi.dst K) (a.put oi.dst v) W3 := by
        refine ⟨hk3.1, fun t ht => ?_⟩
        have h := hk3.2 t (by rw [nextK_comm]; exact nextK_old ht)
        rw [hcomm, tm_put_other (fun e => by
          rcases nextK_of ht with h' | h'
          · exact a2 t h' e
          · exact hfrj' t e h')] at h
        exact h
      have h4 := (hk2 v hv ⟨W3, hk3'⟩).2 j (ready_mono hj hji)
      unfold opL at h4
      rw [hoj] at h4
      simp only at h4
      have h5 := ((opLo_iff (hbj' v)).1 h4).2.2 u hu
      rw [hcomm, nextK_comm, Array.setIfInBounds_comm _ _ hji]
      exact h5
end
section
variable {P : Program} {ops : Array Oper} {md : Region.Mode} {w0 : World} {F : Tmp → Value → World → Prop} {Q : Act → World → Prop}
/-- The lexical walk. -/
def wpLoose (P : Program) (ops : Array Oper) (w0 : World) (F : Tmp → Value → World → Prop) (Q : Act → World → Prop) : List Oper → (Tmp → Prop) → Act → Prop
  | [], K, a => ∀ W, Known w0 F K a W → Q a W
  | o :: rest, K, a => opLo P ops w0 F o (wpLoose P ops w0 F Q rest) K a
theorem anyL_lex (hF : ∀ t v W W', F t v W → Below W.heap.size W W' → F t v W') (hs : Region.noSelect ops = true) : ∀ (l : List Oper) (k : Nat) (listed : Array Bool) (K : Tmp → Prop) (a : Act), (∀ j, l[j]? = ops[k + j]?) →
    Region.lexFrom md ops l.length k listed = true → wpLoose P ops w0 F Q l K a → anyL P md ops w0 F Q l.length listed K a
  | [], _, _, _, _, _, hB, h => fun _ => ⟨by simpa [Region.lexFrom] using hB, h⟩
  | o :: l, k, listed, K, a, hl, hB, h => by
    have h0 : ops[k]? = some o := by simpa using (hl 0).symm
    simp only [List.length_cons, Region.lexFrom, Bool.and_eq_true] at hB
    obtain ⟨⟨hr, hf⟩, hB'⟩ := hB
    refine anyL_first hF h0 (Region.noSelect_spec hs) l.length listed K a (Region.free_spec h0 hf) (by simpa using hr) ?_
    have h' : opLo P ops w0 F o (wpLoose P ops w0 F Q l) K a := h
    obtain ⟨h1, h2, h3⟩ := (opLo_iff rfl).1 h'
    exact (opLo_iff rfl).2 ⟨h1, h2, fun v hv => anyL_lex hF hs l (k + 1) _ _ _ (fun j => by have := hl (j + 1); simpa [Nat.add_assoc, Nat.add_comm 1 j] using this) hB' (h3 v hv)⟩
theorem wp_region_loose {id : Nat} {Q' : Exit → Act → World → Prop} {a : Act} {l : List Oper} (F : Tmp → Value → World → Prop) (hm : P.follows .mixedOrders = true) (hB : Region.lexB .any l.toArray = true) (hF : ∀ t v W W', F t v W → Below W.heap.size W W' → F t v W')
    (h : wpLoose P l.toArray w0 F (fun a' W => Q' .normal a' W) l (fun _ => False) a) : (Code.region id l.toArray true).wp P Q' a w0 := by
  simp only [Region.lexB, Bool.and_eq_true] at hB
  refine wp_region_any hm (anyL_sound (w0 := w0) (F := F) hF (Q := fun a' W => Q' .normal a' W) (fun _ _ h => h) _ _ (fun _ => False) a _ ?_ ⟨⟨rfl, rfl, rfl, Nat.le_refl _, fun _ _ => rfl⟩, fun t ht => ht.elim⟩)
  have := anyL_lex (P := P) (w0 := w0) (F := F) (Q := fun a' W => Q' .normal a' W) (md := .any) hF hB.1 l 0 (Array.replicate l.toArray.size false) (fun _ => False) a (by simp) (by simpa using hB.2) h
  simpa using this
end
section
variable {P : Program} {ops : Array Oper} {w0 : World} {F : Tmp → Value → World → Prop} {Q : Act → World → Prop}
/-- Lists of what is known. -/
def inL (L : List Nat) : Tmp → Prop := fun t => t ∈ L
theorem addK_inL (t : Nat) (L : List Nat) : addK (some t) (inL L) = inL (t :: L) := by
  funext u; exact propext ⟨fun h => h.elim (fun h => by cases h; exact List.mem_cons_self) (fun h => List.mem_cons_of_mem _ h), fun h => (List.mem_cons.1 h).elim (fun h => .inl (by rw [h])) .inr⟩
theorem loose_start {l : List Oper} {a : Act} (h : wpLoose P ops w0 F Q l (inL []) a) : wpLoose P ops w0 F Q l (fun _ => False) a := by
  have : inL [] = fun _ => False := by funext t; simp [inL]
  rwa [← this]
theorem loose_done {L : List Nat} {a : Act} (h : ∀ W, Below w0.heap.size w0 W → (∀ t, t ∈ L → F t (tm a t) W) → Q a W) : wpLoose P ops w0 F Q [] (inL L) a :=
  fun W hk => h W hk.1 hk.2
/-- An operation that is passed over. -/
theorem loose_no {o : Oper} {rest : List Oper} {L : List Nat} {a : Act} (t : Tmp) (hd : o.dst = some t) (hL : L.contains t = false) (hw : Region.wanted o (yielded ops a.tmps) = false)
    (h : ∀ a', a' = a.put (some t) undef → wpLoose P ops w0 F Q rest (inL L) a') : wpLoose P ops w0 F Q (o :: rest) (inL L) a := by
  refine ⟨fun u hu => ?_, ?_⟩
  · rw [hd] at hu; cases hu; simp [inL]; simpa using hL
  · rw [if_neg (by rw [hw]; simp), hd]; exact h _ rfl
/-- An operation whose value is known whole. -/
theorem loose_q {o : Oper} {rest : List Oper} {L : List Nat} {a : Act} (t : Tmp) {a' : Act}
    (hq : ∀ W1, KnownFor ops w0 F o (inL L) a W1 → o.quiet P a (fun W => Below W1.heap.size W1 W) (fun x => x = a')) (hd : o.dst = some t) (hL : L.contains t = false) (hw : Region.wanted o (yielded ops a.tmps) = true) (hz0 : Nat.blt t a.tmps.size = true)
    (hF : ∀ v W, F t v W ↔ v = tm a' t) (hput : a.put (some t) (tm a' t) = a') (h : wpLoose P ops w0 F Q rest (inL (t :: L)) a') : wpLoose P ops w0 F Q (o :: rest) (inL L) a := by
  have hz : t < a.tmps.size := by simpa [Nat.blt_eq] using hz0
  refine ⟨fun u hu => ?_, ?_⟩
  · rw [hd] at hu; cases hu; simp [inL]; simpa using hL
  · rw [if_pos hw]
    refine ⟨fun W1 hk => ?_, fun u hu => ?_, fun v hv => ?_⟩
    · obtain ⟨v, h1, h2⟩ := hq W1 hk
      have h3 := h1 W1 (Below.refl _ _)
      rw [hd] at h2
      have hv : v = tm a' t := by rw [← h2, tm_put_same hz]
      subst hv
      unfold Oper.quietAt at h3
      rw [hd]
      generalize (execOp a.eval o).run P W1 = r at *
      cases r with
      | ok n w' =>
        cases n <;> simp only [Oper.quietUpon] at h3 <;> simp only [looseUpon]
        case value u => exact ⟨h3.1 ▸ Below.refl _ _, fun u' hu' => by cases hu'; exact (hF _ _).2 h3.2⟩
        case skip => exact ⟨h3.1 ▸ Below.refl _ _, fun u' hu' => by cases hu'; exact (hF _ _).2 h3.2.symm⟩
        case enter f args =>
          obtain ⟨rfl, h3⟩ := h3
          exact h3.mono fun e w'' he => ⟨_, he.1, he.2, fun u' hu' => by cases hu'; exact (hF _ _).2 rfl⟩
      | halt x w' => simp only [Oper.quietUpon] at h3
    · rw [hd] at hu; cases hu; exact hz
    · obtain ⟨W, hvW⟩ := hv t hd
      rw [hd, addK_inL, (hF v W).1 hvW, hput]; exact h
/-- An operation of whose value a fact is known. -/
theorem loose_f {o : Oper} {rest : List Oper} {L : List Nat} {a : Act} (t : Tmp) (hd : o.dst = some t) (hL : L.contains t = false) (hw : Region.wanted o (yielded ops a.tmps) = true) (hz0 : Nat.blt t a.tmps.size = true)
    (hq : ∀ W1, KnownFor ops w0 F o (inL L) a W1 → looseUpon P F (some t) W1 ((execOp a.eval o).run P W1))
    (h : ∀ v W, F t v W → ∀ a', a' = a.put (some t) v → wpLoose P ops w0 F Q rest (inL (t :: L)) a') : wpLoose P ops w0 F Q (o :: rest) (inL L) a := by
  have hz : t < a.tmps.size := by simpa [Nat.blt_eq] using hz0
  refine ⟨fun u hu => ?_, ?_⟩
  · rw [hd] at hu; cases hu; simp [inL]; simpa using hL
  · rw [if_pos hw]
    refine ⟨fun W1 hk => by rw [hd]; exact hq W1 hk, fun u hu => ?_, fun v hv => ?_⟩
    · rw [hd] at hu; cases hu; exact hz
    · obtain ⟨W, hvW⟩ := hv t hd
      rw [hd, addK_inL]; exact h v W hvW _ rfl
end
/-! ### Facts by a list -/
def lk (E : List (Value → World → Prop)) (b t : Nat) (v : Value) (W : World) : Prop := (E.getD (t - b) (fun _ _ => True)) v W
def stab (f : Value → World → Prop) : Prop := ∀ v W W', f v W → Below W.heap.size W W' → f v W'
def stabs : List (Value → World → Prop) → Prop
  | [] => True
  | f :: E => stab f ∧ stabs E
theorem stabs_get : ∀ {E : List (Value → World → Prop)} (k : Nat), stabs E → stab (E.getD k (fun _ _ => True))
  | [], k, _ => by intro v W W' _ _; simp
  | f :: E, 0, h => h.1
  | f :: E, k + 1, h => by simpa using stabs_get k h.2
theorem lk_stab {E : List (Value → World → Prop)} {b : Nat} (h : stabs E) : ∀ t v W W', lk E b t v W → Below W.heap.size W W' → lk E b t v W' := fun t => stabs_get (t - b) h
/-- The value itself. -/
def ex (v0 : Value) : Value → World → Prop := fun v _ => v = v0
/-- Nothing. -/
def nof : Value → World → Prop := fun _ _ => True
/-- A new slice of one number. -/
def oneI (x : Int) : Value → World → Prop := fun v W => ∃ b, v = .slice (some ⟨b, 0, none⟩) 1 1 ∧ W.cell? ⟨b, 0, none⟩ = some (.int .i64 x)
/-- A slice of numbers. -/
def someI (xs : List Int) : Value → World → Prop := fun v W => ∃ A n c, v = .slice A n c ∧ RInts W A n xs
theorem stab_ex {v0 : Value} : stab (ex v0) := fun _ _ _ h _ => h
theorem stab_no : stab nof := fun _ _ _ h _ => h
theorem stab_oneI {x : Int} : stab (oneI x) := fun _ _ _ ⟨b, h1, h2⟩ hb => ⟨b, h1, bcell hb h2⟩
theorem stab_someI {xs : List Int} : stab (someI xs) := fun _ _ _ ⟨A, n, c, h1, h2⟩ hb => ⟨A, n, c, h1, h2.below hb⟩
/-- One operation, the frame a variable. -/
def aUpon (P : Program) (f : Value → World → Prop) (W : World) : Result Next → Prop
  | .ok (.value u) w' => Below W.heap.size W w' ∧ f u w'
  | .ok (.enter g args) w' => Calls P g args w' (fun e w'' => ∃ u, e = .returned u ∧ Below W.heap.size W w'' ∧ f u w'')
  | _ => False
theorem loose_run1 {P : Program} {F : Tmp → Value → World → Prop} {t : Tmp} {o : Oper} {a : Act} {W : World} (f : Value → World → Prop) (s : Operand) (v : Value) (hx : a.eval s = v) (hf : ∀ v W, f v W → F t v W)
    (h : ∀ ev : Operand → Value, (∀ g, ev (.func g) = a.eval (.func g)) → ev s = v → aUpon P f W ((execOp ev o).run P W)) : looseUpon P F (some t) W ((execOp a.eval o).run P W) := by
  have h1 := h a.eval (fun _ => rfl) hx
  generalize (execOp a.eval o).run P W = r at *
  cases r with
  | ok n w' =>
    cases n <;> simp only [aUpon] at h1 <;> simp only [looseUpon]
    case value u => exact ⟨h1.1, fun u' hu' => by cases hu'; exact hf _ _ h1.2⟩
    case enter g args => exact h1.mono fun e w'' ⟨u, he, hb, hfu⟩ => ⟨u, he, hb, fun u' hu' => by cases hu'; exact hf _ _ hfu⟩
  | halt x w' => simp only [aUpon] at h1
end Go.Proofs.Ytmoccpbiogdbgaa
