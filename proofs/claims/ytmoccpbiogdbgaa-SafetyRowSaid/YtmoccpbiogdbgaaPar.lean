/-
  A region that draws its order, whose operations may also write: what each operation needs and leaves is said one by one; whatever is needed or left is kept by all operations that may come up in between.
-/
import Derived.Test.YtmoccpbiogdbgaaLoose
namespace Go.Proofs.Ytmoccpbiogdbgaa
open Go.RowKit
section
variable {P : Program} {ops : Array Oper} {a0 : Act}
/-- k must come up ahead of i. -/
def Pre (ops : Array Oper) (k i : Nat) : Prop := ∃ o, ops[i]? = some o ∧ ∃ e ∈ o.after, Region.binds .any e = true ∧ e.on = k
def slotV (o : Oper) (a : Act) : Value := match o.dst with | some t => tm a t | none => undef
/-- What is known, the operations that are listed having come up. -/
structure Inv (H : World → Prop) (F : Nat → Value → World → Prop) (G : Nat → World → Prop) (ops : Array Oper) (a0 : Act) (listed : Array Bool) (a : Act) (W : World) : Prop where
  all : H W
  don : ∀ i o, ops[i]? = some o → listed.getD i false = true → F i (slotV o a) W
  und : ∀ i o, ops[i]? = some o → listed.getD i false = false → G i W
  oth : ∀ t, (∀ (i : Nat) (o : Oper), ops[i]? = some o → o.dst ≠ some t) → tm a t = tm a0 t
  siz : a.tmps.size = a0.tmps.size
  dfs : a.defers = a0.defers
  clo : ∀ i o, ops[i]? = some o → listed.getD i false = true → ∀ e ∈ o.after, Region.binds .any e = true → listed.getD e.on false = true
/-- What a step leaves. -/
def Left (H : World → Prop) (F : Nat → Value → World → Prop) (G : Nat → World → Prop) (ops : Array Oper) (i : Nat) (o : Oper) (a : Act) (W : World) (a' : Act) (W' : World) : Prop :=
  ∃ v, a' = a.put o.dst v ∧ (o.dst = none → v = undef) ∧ H W' ∧ F i v W' ∧ (∀ j, j < ops.size → j ≠ i → ¬ Pre ops i j → ∀ v', F j v' W → F j v' W') ∧ (∀ k, k < ops.size → k ≠ i → ¬ Pre ops k i → G k W → G k W')
def dstOf (ops : Array Oper) (i : Nat) : Option Tmp := (ops[i]?).bind fun o => o.dst
/-- Checks: each edge leads back; each slot is written once, and is there. -/
def backB (ops : Array Oper) : Bool := (List.range ops.size).all fun i => match ops[i]? with
  | some (o : Oper) => o.after.all fun e => Nat.blt e.on i
  | none => true
def slotB (ops : Array Oper) (n : Nat) : Bool := (List.range ops.size).all fun i => match dstOf ops i with
  | some t => Nat.blt t n
  | none => true
def distB (ops : Array Oper) : Bool := (List.range ops.size).all fun i => (List.range ops.size).all fun j => Nat.beq i j || match dstOf ops i, dstOf ops j with
  | some t, some u => !Nat.beq t u
  | _, _ => true
theorem back_spec {ops : Array Oper} (h : backB ops = true) {i : Nat} {o : Oper} (ho : ops[i]? = some o) : ∀ e ∈ o.after, e.on < i := by
  intro e he
  unfold backB at h
  rw [List.all_eq_true] at h
  have h := h i (List.mem_range.2 (Array.getElem?_eq_some_iff.1 ho).1)
  rw [ho] at h
  simp only [Array.all_eq_true_iff_forall_mem] at h
  simpa [Nat.blt_eq] using h e he
theorem dstOf_eq {ops : Array Oper} {i : Nat} {o : Oper} (ho : ops[i]? = some o) : dstOf ops i = o.dst := by simp [dstOf, ho]
theorem slot_spec {ops : Array Oper} {n : Nat} (h : slotB ops n = true) {i : Nat} {o : Oper} {t : Tmp} (ho : ops[i]? = some o) (ht : o.dst = some t) : t < n := by
  unfold slotB at h
  rw [List.all_eq_true] at h
  have h := h i (List.mem_range.2 (Array.getElem?_eq_some_iff.1 ho).1)
  rw [dstOf_eq ho, ht] at h
  simpa [Nat.blt_eq] using h
theorem dist_spec {ops : Array Oper} (h : distB ops = true) {i j : Nat} {oi oj : Oper} (hi : ops[i]? = some oi) (hj : ops[j]? = some oj) (hij : i ≠ j) {t : Tmp} (ht : oi.dst = some t) : oj.dst ≠ some t := by
  intro hu
  unfold distB at h
  rw [List.all_eq_true] at h
  have h := h i (List.mem_range.2 (Array.getElem?_eq_some_iff.1 hi).1)
  rw [List.all_eq_true] at h
  have h := h j (List.mem_range.2 (Array.getElem?_eq_some_iff.1 hj).1)
  rw [dstOf_eq hi, dstOf_eq hj, ht, hu] at h
  simp at h
  exact hij h
def leftOver (ops : Array Oper) (listed : Array Bool) : Nat := ((List.range ops.size).filter fun i => !listed.getD i true).length
theorem getD_set_same {l : Array Bool} {i : Nat} (h : i < l.size) (d : Bool) : (l.setIfInBounds i true).getD i d = true := by simp [h]
theorem getD_both {l : Array Bool} {i : Nat} (h : i < l.size) : l.getD i true = l.getD i false := by simp [h]
theorem leftOver_set {ops : Array Oper} {listed : Array Bool} {i : Nat} (hs : listed.size = ops.size) (hi : i < ops.size) (hu : listed.getD i true = false) {n : Nat} (h : leftOver ops listed ≤ n + 1) : leftOver ops (listed.setIfInBounds i true) ≤ n := by
  unfold leftOver at *
  have h1 : ((List.range ops.size).filter fun j => !(listed.setIfInBounds i true).getD j true).Sublist (((List.range ops.size).filter fun j => !listed.getD j true).filter fun j => !(j == i)) := by
    rw [List.filter_filter]
    have he : (List.range ops.size).filter (fun j => !(listed.setIfInBounds i true).getD j true) = (List.range ops.size).filter (fun j => (!(j == i)) && !listed.getD j true) := List.filter_congr fun j hj => ?_
    · rw [he]; exact List.Sublist.refl _
    by_cases e : j = i
    · subst e; rw [getD_set_same (by omega)]; simp
    · rw [getD_set_ne true (Ne.symm e)]; simp [e]
  have h2 : (((List.range ops.size).filter fun j => !listed.getD j true).filter fun j => !(j == i)).length < ((List.range ops.size).filter fun j => !listed.getD j true).length := by
    refine List.length_filter_lt_length_iff_exists.2 ⟨i, ?_, by simp⟩
    rw [List.mem_filter]
    exact ⟨List.mem_range.2 hi, by rw [hu]; rfl⟩
  have := h1.length_le
  omega
theorem wp_region_par {H : World → Prop} {F : Nat → Value → World → Prop} {G : Nat → World → Prop} {id : Nat} {Q : Exit → Act → World → Prop} {w : World} (hm : P.follows .mixedOrders = true) (hbk : backB ops = true) (hsl : slotB ops a0.tmps.size = true) (hds : distB ops = true)
    (h0 : H { w with drawn := w.drawn + 1 }) (hG : ∀ i, i < ops.size → G i { w with drawn := w.drawn + 1 })
    (hstep : ∀ i o, ops[i]? = some o → ∀ a W, H W → (∀ j oj, ops[j]? = some oj → Pre ops j i → F j (slotV oj a) W) → (∀ t, (∀ (i : Nat) (o : Oper), ops[i]? = some o → o.dst ≠ some t) → tm a t = tm a0 t) → a.tmps.size = a0.tmps.size → a.defers = a0.defers → G i W →
      Region.wanted o (yielded ops a.tmps) = true ∧ o.wp P a W (Left H F G ops i o a W) (fun _ _ _ => False))
    (hQ : ∀ a W, H W → (∀ i o, ops[i]? = some o → F i (slotV o a) W) → (∀ t, (∀ (i : Nat) (o : Oper), ops[i]? = some o → o.dst ≠ some t) → tm a t = tm a0 t) → a.tmps.size = a0.tmps.size → a.defers = a0.defers → Q .normal a W) :
    (Code.region id ops true).wp P Q a0 w := by
  have main : ∀ (fuel : Nat) (listed : Array Bool) (a : Act) (W : World), Inv H F G ops a0 listed a W → listed.size = ops.size → leftOver ops listed ≤ fuel → wpAny P .any ops Q fuel listed a W := by
    have hall0 : ∀ (listed : Array Bool) (a : Act) (W : World), Inv H F G ops a0 listed a W → listed.size = ops.size → Region.ready .any ops listed = [] → Q .normal a W := by
      intro listed a W hI hs hr
      have hall : ∀ i, i < ops.size → listed.getD i false = true := by
        intro i
        induction i using Nat.strongRecOn with
        | _ i ih =>
          intro hi
          cases hl : listed.getD i false with
          | true => rfl
          | false =>
            exfalso
            have : i ∈ Region.ready .any ops listed := mem_ready.2 ⟨by rw [getD_both (by omega)]; exact hl, ops[i], by simp [hi], fun e he _ => by
              have hlt := back_spec hbk (i := i) (o := ops[i]) (by simp [hi]) e he
              exact ih e.on hlt (by omega)⟩
            rw [hr] at this; cases this
      exact hQ a W hI.all (fun i o ho => hI.don i o ho (hall i (Array.getElem?_eq_some_iff.1 ho).1)) hI.oth hI.siz hI.dfs
    intro fuel
    induction fuel with
    | zero =>
      intro listed a W hI hs hc
      have hr : Region.ready .any ops listed = [] := by
        rw [List.eq_nil_iff_forall_not_mem]
        intro j hj
        obtain ⟨hun, o, ho, _⟩ := mem_ready.1 hj
        have hnil := List.length_eq_zero_iff.1 (Nat.le_zero.1 hc)
        have : j ∈ (List.range ops.size).filter fun i => !listed.getD i true := List.mem_filter.2 ⟨List.mem_range.2 (Array.getElem?_eq_some_iff.1 ho).1, by rw [hun]; rfl⟩
        rw [hnil] at this; cases this
      exact ⟨hr, hall0 listed a W hI hs hr⟩
    | succ fuel ih =>
      intro listed a W hI hs hc
      refine ⟨hall0 listed a W hI hs, fun i hi => ?_⟩
      obtain ⟨hun, o, ho, hpr⟩ := mem_ready.1 hi
      have hi' : i < ops.size := (Array.getElem?_eq_some_iff.1 ho).1
      have hunf : listed.getD i false = false := by rw [← getD_both (by omega)]; exact hun
      obtain ⟨hw, hstp⟩ := hstep i o ho a W hI.all (fun j oj hj ⟨o2, ho2, e, he, hb, hon⟩ => by
        rw [ho] at ho2; cases ho2
        exact hI.don j oj hj (by rw [← hon]; exact hpr e he hb)) hI.oth hI.siz hI.dfs (hI.und i o ho hunf)
      unfold wpOp
      simp only [ho]
      rw [if_pos hw]
      left
      refine Oper.wp_mono (Q := Q) (K := Left H F G ops i o a W) ?_ ?_
      · rintro a' W' ⟨v, rfl, hv, hH, hF, hsF, hsG⟩
        refine ih _ _ _ ⟨hH, ?_, ?_, ?_, ?_, ?_, ?_⟩ (by simpa using hs) (leftOver_set hs hi' hun hc)
        · intro j oj hj hl
          by_cases hji : j = i
          · subst hji
            rw [ho] at hj; cases hj
            unfold slotV
            cases hd : o.dst with
            | none => rw [hv hd] at hF; exact hF
            | some t => simp only; rw [tm_put_same (by rw [hI.siz]; exact slot_spec hsl ho hd)]; exact hF
          · have hl' : listed.getD j false = true := by rwa [getD_set_ne false (Ne.symm hji)] at hl
            have hold := hI.don j oj hj hl'
            have hsv : slotV oj (a.put o.dst v) = slotV oj a := by
              unfold slotV
              cases hd : oj.dst with
              | none => rfl
              | some t => exact tm_put_other (fun e => dist_spec hds ho hj (Ne.symm hji) e hd)
            rw [hsv]
            refine hsF j (Array.getElem?_eq_some_iff.1 hj).1 hji (fun ⟨o2, ho2, e, he, hb, hon⟩ => ?_) _ hold
            rw [hj] at ho2; cases ho2
            have := hI.clo j oj hj hl' e he hb
            rw [hon, hunf] at this; cases this
        · intro k ok hk hl
          by_cases hki : k = i
          · subst hki; rw [getD_set_same (by omega)] at hl; cases hl
          · have hl' : listed.getD k false = false := by rwa [getD_set_ne false (Ne.symm hki)] at hl
            refine hsG k (Array.getElem?_eq_some_iff.1 hk).1 hki (fun ⟨o2, ho2, e, he, hb, hon⟩ => ?_) (hI.und k ok hk hl')
            rw [ho] at ho2; cases ho2
            have := hpr e he hb
            rw [hon, hl'] at this; cases this
        · intro t ht
          rw [tm_put_other (fun e => ht i o ho e)]
          exact hI.oth t ht
        · rw [size_put]; exact hI.siz
        · cases o.dst <;> exact hI.dfs
        · intro j oj hj hl e he hb
          by_cases hji : j = i
          · subst hji
            rw [ho] at hj; cases hj
            have hlt := back_spec hbk ho e he
            rw [getD_set_ne false (by omega)]
            exact hpr e he hb
          · have hl' : listed.getD j false = true := by rwa [getD_set_ne false (Ne.symm hji)] at hl
            have := hI.clo j oj hj hl' e he hb
            by_cases hei : e.on = i
            · rw [hei, getD_set_same (by omega)]
            · rw [getD_set_ne false (Ne.symm hei)]; exact this
      · unfold Oper.wp at *
        generalize (execOp a.eval o).run P W = r at *
        cases r with
        | ok n w' =>
          cases n <;> simp only [Oper.upon] at hstp ⊢ <;> first | exact hstp | exact Calls.mono hstp (fun e w'' h => by cases e <;> first | exact h | exact h.elim | exact (by obtain ⟨_, _, h⟩ := h; exact h.elim))
        | halt x w' => cases x <;> simp only [Oper.upon] at hstp ⊢ <;> first | exact hstp.elim | exact hstp
  refine wp_region_any hm (main _ _ _ _ ⟨h0, ?_, ?_, fun _ _ => rfl, rfl, rfl, ?_⟩ (by simp) ?_)
  · intro i o ho hl
    have := (Array.getElem?_eq_some_iff.1 ho).1
    simp [this] at hl
  · intro i o ho _
    exact hG i (Array.getElem?_eq_some_iff.1 ho).1
  · intro i o ho hl
    have := (Array.getElem?_eq_some_iff.1 ho).1
    simp [this] at hl
  · unfold leftOver
    exact Nat.le_trans (List.length_filter_le _ _) (by simp)
end
end Go.Proofs.Ytmoccpbiogdbgaa
