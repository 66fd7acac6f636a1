/-
  SafetyLess, proved.
-/
import Derived.Test.YtmoccpbiogdbgaaRows
import Derived.WalkKit
import Derived.ProofKit
import Derived.OpenShut
import Derived.SizedLaws
import Derived.Carry
import Derived.Test.YtmoccpbiogdbgaaOpen
import Derived.Test.YtmoccpbiogdbgaaW29
namespace Go.Proofs.Ytmoccpbiogdbgaa
open Go.RowKit Go.ChangeShapes Go.WideShapes Go.ChangeAt

theorem Try.own : ownKnob Try.prog.godebug = none := by kernel_rfl
theorem Try.laidOut : laidOutB Try.prog = true := by kernel_rfl
set_option linter.constructorNameAsVariable false
set_option maxHeartbeats 800000 in
set_option maxRecDepth 100000 in
theorem less_lifted (os : Os) (started : os.Started) (H : Type) (enc : TypeId × Value → H) :
    ReturnsInHanded {} Try.checked os 4 .any (Rows.safetyLessSpec.pre6 enc Try.prog Try.f4 Rows.safetyLessRow.domain false) (Rows.safetyLessSpec.post enc Try.prog Try.f4 false true false false) := by
  refine returnsInHanded_of_change_sized (C := Try.checked) Try.own started (by kernel_rfl) Try.func4
    (ChangeSpec.witness6 (enc := enc) (C := Try.checked) false ⟨#[], #[.agg #[.slice none 0 0, .slice none 0 0, .slice none 0 0, .slice none 0 0], .agg #[.int .u64 0, .int .u32 0, .int .u32 0, .slice none 0 0], .agg #[.int .u64 0, .int .u32 0], .int .u64 0], []⟩ 8 (by kernel_rfl) (by kernel_rfl) (by kernel_rfl) (by kernel_rfl)) ?_
  intro W base args ds gs before hval0 hW _ hwt0 _
  have hval : ∀ (j : Nat) t v, Try.f4.params[j]? = some t → args[j]? = some v → Value.okWide Try.prog W .any base t v := hval0
  have hwt : (DataW.weightsEach Try.prog (Try.f4.params.toList ++ []) (ds ++ gs)).all (· ≤ reachBytes) = true := hwt0
  have hW' := hW
  obtain ⟨p, q, hA0, hV, rfl, _, _⟩ := hW
  have hA : DataW.TrodAll enc Try.prog W 0 (fun _ => true) true Try.f4.params.toList args.toList ds p := hA0
  rw [Try.params4] at hA hval hwt
  obtain ⟨v0, v1, v2, v3, d0, d1, d2, d3, p0, p1, p2, p3, rfl, rfl, rfl, h0, h1, h2, h3⟩ := trodAll_four hA
  obtain ⟨rfl, rfl⟩ := trodVars_none hV
  clear hA0 hval0 hwt0
  simp only [List.append_nil, List.append_assoc] at hW'
  have hlt : ∀ x ∈ p0 ++ (p1 ++ (p2 ++ p3)), x.block < W.heap.size := fun x hx => by simpa using hW'.lt x hx
  have hw0 : Wt Try.prog 27 d0 := Wt.each hwt (j := 0) rfl rfl
  have hw1 : Wt Try.prog 48 d1 := Wt.each hwt (j := 1) rfl rfl
  obtain ⟨s, p, g, rr, l, rfl, hl⟩ := open_ly (hval 0 _ v0 rfl rfl) hw0 h0
  obtain ⟨oc, nr, rv, ch, rfl, ho, hn, hr, hch⟩ := open_in (hval 1 _ v1 rfl rfl) hw1 h1
  obtain ⟨pr, ps, rfl, hpr, hps⟩ := open_out (hval 2 _ v2 rfl rfl) h2
  obtain ⟨fuel, h3'⟩ := h3
  obtain ⟨f0, hx, hxe, w3⟩ := DataW.trod_int Try.underlying32 h3'
  simp only [Prod.mk.injEq] at hxe
  obtain ⟨rfl, rfl⟩ := hxe
  obtain ⟨f, rfl, hf⟩ := nat_u64 w3
  have hv3 : v3 = .int .u64 f := by
    obtain ⟨m, rfl⟩ := okWide_int Try.underlying32 (hval 3 _ v3 rfl rfl)
    simpa [Value.cells] using hx
  subst hv3
  refine (less29_any s p g rr l ⟨oc, nr, rv, pr, ps⟩ ch f W hl ⟨ho, hn, hr, hpr, hps⟩ hf hch).mono fun e W' he => ?_
  obtain ⟨rfl, hb⟩ := he
  have g0 := Below.trod Try.laidOut (by kernel_rfl) (of_decide_eq_true (by kernel_rfl)) h0 hb (fun x hx => hlt x (List.mem_append.2 (.inl hx)))
  have g1 := Below.trod Try.laidOut (by kernel_rfl) (of_decide_eq_true (by kernel_rfl)) h1 hb (fun x hx => hlt x (List.mem_append.2 (.inr (List.mem_append.2 (.inl hx)))))
  have g2 := Below.trod Try.laidOut (by kernel_rfl) (of_decide_eq_true (by kernel_rfl)) h2 hb (fun x hx => hlt x (List.mem_append.2 (.inr (List.mem_append.2 (.inr (List.mem_append.2 (.inl hx)))))))
  have g3 := Below.trod Try.laidOut (by kernel_rfl) (of_decide_eq_true (by kernel_rfl)) ⟨fuel, h3'⟩ hb (fun x hx => hlt x (List.mem_append.2 (.inr (List.mem_append.2 (.inr (List.mem_append.2 (.inr hx)))))))
  refine ⟨_, rfl, _, _, _, [], _, [], hW', ?_, trodAll_mk4 g0 g1 g2 g3, rfl, hb.frame _, fun h => by cases h⟩
  exact trodAll_mk1 (shut_bool Try.underlying4 _)

theorem safetyLess_holds : Rows.SafetyLessSaid :=
  OpenClaim.holds_of_wide 4 Try.f4 rfl rfl rfl rfl rfl rfl rfl ⟨rfl, rfl, rfl, rfl, rfl⟩ rfl rfl rfl rfl rfl (by kernel_rfl) Try.func4 (by kernel_rfl)
    (of_decide_eq_true (by kernel_rfl)) (by unfold Func.isWrapper; first | (rw [if_pos (by decide +kernel)]; kernel_rfl) | (rw [if_neg (by decide +kernel)]; exact ⟨rfl, rfl⟩))
    (fun os started H enc _ => less_lifted os started H enc)
#print axioms safetyLess_holds
end Go.Proofs.Ytmoccpbiogdbgaa
