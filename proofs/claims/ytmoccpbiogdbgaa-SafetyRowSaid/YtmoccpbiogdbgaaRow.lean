/-
  SafetyRow, proved.
-/
import Derived.Test.YtmoccpbiogdbgaaRows
import Derived.WalkKit
import Derived.ProofKit
import Derived.OpenShut
import Derived.SizedLaws
import Derived.Carry
import Derived.Test.YtmoccpbiogdbgaaOpen2
import Derived.Test.YtmoccpbiogdbgaaW34
namespace Go.Proofs.Ytmoccpbiogdbgaa
open Go.RowKit Go.ChangeShapes Go.WideShapes Go.ChangeAt

theorem own_row : ownKnob Try.prog.godebug = none := by kernel_rfl
theorem laidOut_row : laidOutB Try.prog = true := by kernel_rfl
set_option linter.constructorNameAsVariable false
set_option maxHeartbeats 800000 in
set_option maxRecDepth 100000 in
theorem row_lifted (os : Os) (started : os.Started) (H : Type) (enc : TypeId × Value → H) :
    ReturnsInHanded {} Try.checked os 5 .any (Rows.safetyRowSpec.pre6 enc Try.prog Try.f5 Rows.safetyRowRow.domain false) (Rows.safetyRowSpec.post enc Try.prog Try.f5 false true false false) := by
  refine returnsInHanded_of_change_sized (C := Try.checked) own_row started (by kernel_rfl) Try.func5
    (ChangeSpec.witness6 (enc := enc) (C := Try.checked) false ⟨#[], #[.agg #[.slice none 0 0, .slice none 0 0, .slice none 0 0, .slice none 0 0], .slice none 0 0, .slice none 0 0], []⟩ 8 (by kernel_rfl) (by kernel_rfl) (by kernel_rfl) (by kernel_rfl)) ?_
  intro W base args ds gs before hval0 hW _ hwt0 _
  have hval : ∀ (j : Nat) t v, Try.f5.params[j]? = some t → args[j]? = some v → Value.okWide Try.prog W .any base t v := hval0
  have hwt : (DataW.weightsEach Try.prog (Try.f5.params.toList ++ []) (ds ++ gs)).all (· ≤ reachBytes) = true := hwt0
  have hW' := hW
  obtain ⟨p, q, hA0, hV, rfl, _, _⟩ := hW
  have hA : DataW.TrodAll enc Try.prog W 0 (fun _ => true) true Try.f5.params.toList args.toList ds p := hA0
  rw [Try.params5] at hA hval hwt
  obtain ⟨v0, v1, v2, d0, d1, d2, p0, p1, p2, rfl, rfl, rfl, h0, h1, h2⟩ := trodAll_three hA
  obtain ⟨rfl, rfl⟩ := trodVars_none hV
  clear hA0 hval0 hwt0
  simp only [List.append_nil, List.append_assoc] at hW'
  have hlt : ∀ x ∈ p0 ++ (p1 ++ p2), x.block < W.heap.size := fun x hx => by simpa using hW'.lt x hx
  have hw0 : Wt Try.prog 27 d0 := Wt.each hwt (j := 0) rfl rfl
  have hw1 : Wt Try.prog 28 d1 := Wt.each hwt (j := 1) rfl rfl
  have hw2 : Wt Try.prog 39 d2 := Wt.each hwt (j := 2) rfl rfl
  obtain ⟨s, p, g, rr, l, rfl, hl⟩ := open_ly (hval 0 _ v0 rfl rfl) hw0 h0
  obtain ⟨I, xs, rfl, hx⟩ := open_ins (hval 1 _ v1 rfl rfl) hw1 h1
  obtain ⟨O, ys, rfl, hy⟩ := open_outs (hval 2 _ v2 rfl rfl) hw2 h2
  refine (safetyRow_any s p g rr l I O xs ys W hl hx hy).mono fun e W' he => ?_
  obtain ⟨rfl, hb⟩ := he
  have g0 := Below.trod laidOut_row (by kernel_rfl) (of_decide_eq_true (by kernel_rfl)) h0 hb (fun x hx => hlt x (List.mem_append.2 (.inl hx)))
  have g1 := Below.trod laidOut_row (by kernel_rfl) (of_decide_eq_true (by kernel_rfl)) h1 hb (fun x hx => hlt x (List.mem_append.2 (.inr (List.mem_append.2 (.inl hx)))))
  have g2 := Below.trod laidOut_row (by kernel_rfl) (of_decide_eq_true (by kernel_rfl)) h2 hb (fun x hx => hlt x (List.mem_append.2 (.inr (List.mem_append.2 (.inr hx)))))
  refine ⟨_, rfl, _, _, _, [], _, [], hW', ?_, trodAll_mk3 g0 g1 g2, rfl, hb.frame _, fun h => by cases h⟩
  exact trodAll_mk1 (shut_bool Try.underlying4 _)

theorem safetyRow_holds : Rows.SafetyRowSaid :=
  OpenClaim.holds_of_wide 5 Try.f5 rfl rfl rfl rfl rfl rfl rfl ⟨rfl, rfl, rfl, rfl, rfl⟩ rfl rfl rfl rfl rfl (by kernel_rfl) Try.func5 (by kernel_rfl)
    (of_decide_eq_true (by kernel_rfl)) (by unfold Func.isWrapper; first | (rw [if_pos (by decide +kernel)]; kernel_rfl) | (rw [if_neg (by decide +kernel)]; exact ⟨rfl, rfl⟩))
    (fun os started H enc _ => row_lifted os started H enc)
#print axioms safetyRow_holds
end Go.Proofs.Ytmoccpbiogdbgaa
