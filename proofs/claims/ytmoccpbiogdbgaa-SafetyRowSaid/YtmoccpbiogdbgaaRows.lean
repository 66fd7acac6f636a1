/-
  No cell of these rows narrows 'for every input' (looked for: loops, veiled, ifaces, maps, wideKeys, modest, calm, conditions, laid).
  DERIVED. THE GIVEN ROWS OF THIS SEAT. 14 by the template 'for every input the law returns true; each argument reads behind the call as it read before'; 0 by the template 'total and deterministic' (their statements: YtmoccpbiogdbgaaTotals.lean).
  GIVEN WITH THE SEED: the statements are not yours to turn. If you find one false, say at which input.
  Laid BY PROGRAM, IN A SANDBOX (cutbox-rows.mjs): the forced cells as the released guide's own fill.sh prints them over the translation 681a9447b7cba2cd… (all of the seat's roots in one cut). By AI agents, Wed Nov 11 2026. No macro, syntax, notation, axiom, sorry.
-/
import Derived.Test.YtmoccpbiogdbgaaChecked
import GoSem.Claim
import GoSem.ClaimJoined
import GoSem.ClaimMapViews
import Derived.JoinedTies
import Derived.KernelRfl
namespace Go.Proofs.Ytmoccpbiogdbgaa
/- THE CELL 'sum', in the pinned program and in every row, IS THE sha256 OF THE DUMP (.gsa) THAT YtmoccpbiogdbgaaProg.lean LOADS. Nothing in Lean hashes anything: it is a label: what it is worth is what the hold of that sum in a sandbox is worth. -/
noncomputable def Try.pinned : Pinned := { name := "ytmoccpbiogdbgaa", sum := "681a9447b7cba2cdd06d8d1174b4eb3c11e4ec87065c16433a89171a2dcd1579", checked := Try.checked }
namespace Rows
def none {H : Type} : Left H := { results := [], args := [] }

/-- 'semaphorelaw28.ModelBegins': WHATEVER THE INPUT: true; the input reads as it did. -/
def modelBeginsSpec : ChangeSpec := { name := "modelBegins", fn := fun _ => fun
  | [d1, d2, d3, d4] => { results := [.lit (.bool true)], args := [d1, d2, d3, d4] }
  | _ => none }
def modelBeginsRow : OpenClaim := { program := "ytmoccpbiogdbgaa", sum := "681a9447b7cba2cdd06d8d1174b4eb3c11e4ec87065c16433a89171a2dcd1579", func := "semaphore/semaphorelaw28.ModelBegins", spec := "modelBegins", unfollowed := true, recurses := true, plainKeys := false, apart := false }
def ModelBeginsSaid : Prop := modelBeginsRow.holds Try.pinned (OpenSpec.ofChange modelBeginsSpec)

/-- ITS FALSE NEIGHBOUR: 'it returns false'. Refute it at one input. -/
def modelBeginsWrong : ChangeSpec := { name := "modelBegins", fn := fun _ => fun
  | [d1, d2, d3, d4] => { results := [.lit (.bool false)], args := [d1, d2, d3, d4] }
  | _ => none }
def ModelBeginsWrongFalsely : Prop := modelBeginsRow.holds Try.pinned (OpenSpec.ofChange modelBeginsWrong)

/-- 'semaphorelaw29.SafetyLess': WHATEVER THE INPUT: true; the input reads as it did. -/
def safetyLessSpec : ChangeSpec := { name := "safetyLess", fn := fun _ => fun
  | [d1, d2, d3, d4] => { results := [.lit (.bool true)], args := [d1, d2, d3, d4] }
  | _ => none }
def safetyLessRow : OpenClaim := { program := "ytmoccpbiogdbgaa", sum := "681a9447b7cba2cdd06d8d1174b4eb3c11e4ec87065c16433a89171a2dcd1579", func := "semaphore/semaphorelaw29.SafetyLess", spec := "safetyLess", unfollowed := true, recurses := true, plainKeys := false, apart := false }
def SafetyLessSaid : Prop := safetyLessRow.holds Try.pinned (OpenSpec.ofChange safetyLessSpec)

/-- ITS FALSE NEIGHBOUR: 'it returns false'. Refute it at one input. -/
def safetyLessWrong : ChangeSpec := { name := "safetyLess", fn := fun _ => fun
  | [d1, d2, d3, d4] => { results := [.lit (.bool false)], args := [d1, d2, d3, d4] }
  | _ => none }
def SafetyLessWrongFalsely : Prop := safetyLessRow.holds Try.pinned (OpenSpec.ofChange safetyLessWrong)

/-- 'semaphorelaw29.SafetyRow': WHATEVER THE INPUT: true; the input reads as it did. -/
def safetyRowSpec : ChangeSpec := { name := "safetyRow", fn := fun _ => fun
  | [d1, d2, d3] => { results := [.lit (.bool true)], args := [d1, d2, d3] }
  | _ => none }
def safetyRowRow : OpenClaim := { program := "ytmoccpbiogdbgaa", sum := "681a9447b7cba2cdd06d8d1174b4eb3c11e4ec87065c16433a89171a2dcd1579", func := "semaphore/semaphorelaw29.SafetyRow", spec := "safetyRow", unfollowed := true, recurses := true, plainKeys := false, apart := false }
def SafetyRowSaid : Prop := safetyRowRow.holds Try.pinned (OpenSpec.ofChange safetyRowSpec)

/-- ITS FALSE NEIGHBOUR: 'it returns false'. Refute it at one input. -/
def safetyRowWrong : ChangeSpec := { name := "safetyRow", fn := fun _ => fun
  | [d1, d2, d3] => { results := [.lit (.bool false)], args := [d1, d2, d3] }
  | _ => none }
def SafetyRowWrongFalsely : Prop := safetyRowRow.holds Try.pinned (OpenSpec.ofChange safetyRowWrong)

/-- 'semaphorelaw29.SafetyKnown': WHATEVER THE INPUT: true; the input reads as it did. -/
def safetyKnownSpec : ChangeSpec := { name := "safetyKnown", fn := fun _ => fun
  | [] => { results := [.lit (.bool true)], args := [] }
  | _ => none }
def safetyKnownRow : OpenClaim := { program := "ytmoccpbiogdbgaa", sum := "681a9447b7cba2cdd06d8d1174b4eb3c11e4ec87065c16433a89171a2dcd1579", func := "semaphore/semaphorelaw29.SafetyKnown", spec := "safetyKnown", unfollowed := true, recurses := true, plainKeys := false, apart := false }
def SafetyKnownSaid : Prop := safetyKnownRow.holds Try.pinned (OpenSpec.ofChange safetyKnownSpec)

/-- ITS FALSE NEIGHBOUR: 'it returns false'. Refute it at one input. -/
def safetyKnownWrong : ChangeSpec := { name := "safetyKnown", fn := fun _ => fun
  | [] => { results := [.lit (.bool false)], args := [] }
  | _ => none }
def SafetyKnownWrongFalsely : Prop := safetyKnownRow.holds Try.pinned (OpenSpec.ofChange safetyKnownWrong)

/-- 'semaphorelaw08.MasksMake': WHATEVER THE INPUT: true; the input reads as it did. -/
def masksMakeSpec : ChangeSpec := { name := "masksMake", fn := fun _ => fun
  | [d] => { results := [.lit (.bool true)], args := [d] }
  | _ => none }
def masksMakeRow : OpenClaim := { program := "ytmoccpbiogdbgaa", sum := "681a9447b7cba2cdd06d8d1174b4eb3c11e4ec87065c16433a89171a2dcd1579", func := "semaphore/semaphorelaw08.MasksMake", spec := "masksMake", unfollowed := true, recurses := true, plainKeys := false, apart := false }
def MasksMakeSaid : Prop := masksMakeRow.holds Try.pinned (OpenSpec.ofChange masksMakeSpec)

/-- ITS FALSE NEIGHBOUR: 'it returns false'. Refute it at one input. -/
def masksMakeWrong : ChangeSpec := { name := "masksMake", fn := fun _ => fun
  | [d] => { results := [.lit (.bool false)], args := [d] }
  | _ => none }
def MasksMakeWrongFalsely : Prop := masksMakeRow.holds Try.pinned (OpenSpec.ofChange masksMakeWrong)

/-- 'semaphorelaw08.MasksNeed': WHATEVER THE INPUT: true; the input reads as it did. -/
def masksNeedSpec : ChangeSpec := { name := "masksNeed", fn := fun _ => fun
  | [d1, d2] => { results := [.lit (.bool true)], args := [d1, d2] }
  | _ => none }
def masksNeedRow : OpenClaim := { program := "ytmoccpbiogdbgaa", sum := "681a9447b7cba2cdd06d8d1174b4eb3c11e4ec87065c16433a89171a2dcd1579", func := "semaphore/semaphorelaw08.MasksNeed", spec := "masksNeed", unfollowed := true, recurses := true, plainKeys := false, apart := false }
def MasksNeedSaid : Prop := masksNeedRow.holds Try.pinned (OpenSpec.ofChange masksNeedSpec)

/-- ITS FALSE NEIGHBOUR: 'it returns false'. Refute it at one input. -/
def masksNeedWrong : ChangeSpec := { name := "masksNeed", fn := fun _ => fun
  | [d1, d2] => { results := [.lit (.bool false)], args := [d1, d2] }
  | _ => none }
def MasksNeedWrongFalsely : Prop := masksNeedRow.holds Try.pinned (OpenSpec.ofChange masksNeedWrong)

/-- 'semaphorelaw08.MasksPeace': WHATEVER THE INPUT: true; the input reads as it did. -/
def masksPeaceSpec : ChangeSpec := { name := "masksPeace", fn := fun _ => fun
  | [d1, d2] => { results := [.lit (.bool true)], args := [d1, d2] }
  | _ => none }
def masksPeaceRow : OpenClaim := { program := "ytmoccpbiogdbgaa", sum := "681a9447b7cba2cdd06d8d1174b4eb3c11e4ec87065c16433a89171a2dcd1579", func := "semaphore/semaphorelaw08.MasksPeace", spec := "masksPeace", unfollowed := true, recurses := true, plainKeys := false, apart := false }
def MasksPeaceSaid : Prop := masksPeaceRow.holds Try.pinned (OpenSpec.ofChange masksPeaceSpec)

/-- ITS FALSE NEIGHBOUR: 'it returns false'. Refute it at one input. -/
def masksPeaceWrong : ChangeSpec := { name := "masksPeace", fn := fun _ => fun
  | [d1, d2] => { results := [.lit (.bool false)], args := [d1, d2] }
  | _ => none }
def MasksPeaceWrongFalsely : Prop := masksPeaceRow.holds Try.pinned (OpenSpec.ofChange masksPeaceWrong)

/-- 'semaphorelaw08.MasksKnown': WHATEVER THE INPUT: true; the input reads as it did. -/
def masksKnownSpec : ChangeSpec := { name := "masksKnown", fn := fun _ => fun
  | [] => { results := [.lit (.bool true)], args := [] }
  | _ => none }
def masksKnownRow : OpenClaim := { program := "ytmoccpbiogdbgaa", sum := "681a9447b7cba2cdd06d8d1174b4eb3c11e4ec87065c16433a89171a2dcd1579", func := "semaphore/semaphorelaw08.MasksKnown", spec := "masksKnown", unfollowed := true, recurses := true, plainKeys := false, apart := false }
def MasksKnownSaid : Prop := masksKnownRow.holds Try.pinned (OpenSpec.ofChange masksKnownSpec)

/-- ITS FALSE NEIGHBOUR: 'it returns false'. Refute it at one input. -/
def masksKnownWrong : ChangeSpec := { name := "masksKnown", fn := fun _ => fun
  | [] => { results := [.lit (.bool false)], args := [] }
  | _ => none }
def MasksKnownWrongFalsely : Prop := masksKnownRow.holds Try.pinned (OpenSpec.ofChange masksKnownWrong)

/-- 'semaphorelaw10.IlxaStep': WHATEVER THE INPUT: true; the input reads as it did. -/
def ilxaStepSpec : ChangeSpec := { name := "ilxaStep", fn := fun _ => fun
  | [d1, d2, d3] => { results := [.lit (.bool true)], args := [d1, d2, d3] }
  | _ => none }
def ilxaStepRow : OpenClaim := { program := "ytmoccpbiogdbgaa", sum := "681a9447b7cba2cdd06d8d1174b4eb3c11e4ec87065c16433a89171a2dcd1579", func := "semaphore/semaphorelaw10.IlxaStep", spec := "ilxaStep", unfollowed := true, recurses := true, plainKeys := false, apart := false }
def IlxaStepSaid : Prop := ilxaStepRow.holds Try.pinned (OpenSpec.ofChange ilxaStepSpec)

/-- ITS FALSE NEIGHBOUR: 'it returns false'. Refute it at one input. -/
def ilxaStepWrong : ChangeSpec := { name := "ilxaStep", fn := fun _ => fun
  | [d1, d2, d3] => { results := [.lit (.bool false)], args := [d1, d2, d3] }
  | _ => none }
def IlxaStepWrongFalsely : Prop := ilxaStepRow.holds Try.pinned (OpenSpec.ofChange ilxaStepWrong)

/-- 'semaphorelaw10.IlxaNew': WHATEVER THE INPUT: true; the input reads as it did. -/
def ilxaNewSpec : ChangeSpec := { name := "ilxaNew", fn := fun _ => fun
  | [d1, d2] => { results := [.lit (.bool true)], args := [d1, d2] }
  | _ => none }
def ilxaNewRow : OpenClaim := { program := "ytmoccpbiogdbgaa", sum := "681a9447b7cba2cdd06d8d1174b4eb3c11e4ec87065c16433a89171a2dcd1579", func := "semaphore/semaphorelaw10.IlxaNew", spec := "ilxaNew", unfollowed := true, recurses := true, plainKeys := false, apart := false }
def IlxaNewSaid : Prop := ilxaNewRow.holds Try.pinned (OpenSpec.ofChange ilxaNewSpec)

/-- ITS FALSE NEIGHBOUR: 'it returns false'. Refute it at one input. -/
def ilxaNewWrong : ChangeSpec := { name := "ilxaNew", fn := fun _ => fun
  | [d1, d2] => { results := [.lit (.bool false)], args := [d1, d2] }
  | _ => none }
def IlxaNewWrongFalsely : Prop := ilxaNewRow.holds Try.pinned (OpenSpec.ofChange ilxaNewWrong)

/-- 'semaphorelaw10.IlxaTidy': WHATEVER THE INPUT: true; the input reads as it did. -/
def ilxaTidySpec : ChangeSpec := { name := "ilxaTidy", fn := fun _ => fun
  | [d1, d2] => { results := [.lit (.bool true)], args := [d1, d2] }
  | _ => none }
def ilxaTidyRow : OpenClaim := { program := "ytmoccpbiogdbgaa", sum := "681a9447b7cba2cdd06d8d1174b4eb3c11e4ec87065c16433a89171a2dcd1579", func := "semaphore/semaphorelaw10.IlxaTidy", spec := "ilxaTidy", unfollowed := true, recurses := true, plainKeys := false, apart := false }
def IlxaTidySaid : Prop := ilxaTidyRow.holds Try.pinned (OpenSpec.ofChange ilxaTidySpec)

/-- ITS FALSE NEIGHBOUR: 'it returns false'. Refute it at one input. -/
def ilxaTidyWrong : ChangeSpec := { name := "ilxaTidy", fn := fun _ => fun
  | [d1, d2] => { results := [.lit (.bool false)], args := [d1, d2] }
  | _ => none }
def IlxaTidyWrongFalsely : Prop := ilxaTidyRow.holds Try.pinned (OpenSpec.ofChange ilxaTidyWrong)

/-- 'semaphorelaw10.IlxaSafe': WHATEVER THE INPUT: true; the input reads as it did. -/
def ilxaSafeSpec : ChangeSpec := { name := "ilxaSafe", fn := fun _ => fun
  | [d1, d2, d3] => { results := [.lit (.bool true)], args := [d1, d2, d3] }
  | _ => none }
def ilxaSafeRow : OpenClaim := { program := "ytmoccpbiogdbgaa", sum := "681a9447b7cba2cdd06d8d1174b4eb3c11e4ec87065c16433a89171a2dcd1579", func := "semaphore/semaphorelaw10.IlxaSafe", spec := "ilxaSafe", unfollowed := true, recurses := true, plainKeys := false, apart := false }
def IlxaSafeSaid : Prop := ilxaSafeRow.holds Try.pinned (OpenSpec.ofChange ilxaSafeSpec)

/-- ITS FALSE NEIGHBOUR: 'it returns false'. Refute it at one input. -/
def ilxaSafeWrong : ChangeSpec := { name := "ilxaSafe", fn := fun _ => fun
  | [d1, d2, d3] => { results := [.lit (.bool false)], args := [d1, d2, d3] }
  | _ => none }
def IlxaSafeWrongFalsely : Prop := ilxaSafeRow.holds Try.pinned (OpenSpec.ofChange ilxaSafeWrong)

/-- 'semaphorelaw10.IlxaRun': WHATEVER THE INPUT: true; the input reads as it did. -/
def ilxaRunSpec : ChangeSpec := { name := "ilxaRun", fn := fun _ => fun
  | [d1, d2] => { results := [.lit (.bool true)], args := [d1, d2] }
  | _ => none }
def ilxaRunRow : OpenClaim := { program := "ytmoccpbiogdbgaa", sum := "681a9447b7cba2cdd06d8d1174b4eb3c11e4ec87065c16433a89171a2dcd1579", func := "semaphore/semaphorelaw10.IlxaRun", spec := "ilxaRun", unfollowed := true, recurses := true, plainKeys := false, apart := false }
def IlxaRunSaid : Prop := ilxaRunRow.holds Try.pinned (OpenSpec.ofChange ilxaRunSpec)

/-- ITS FALSE NEIGHBOUR: 'it returns false'. Refute it at one input. -/
def ilxaRunWrong : ChangeSpec := { name := "ilxaRun", fn := fun _ => fun
  | [d1, d2] => { results := [.lit (.bool false)], args := [d1, d2] }
  | _ => none }
def IlxaRunWrongFalsely : Prop := ilxaRunRow.holds Try.pinned (OpenSpec.ofChange ilxaRunWrong)

/-- 'semaphorelaw29.SafetyHolds': WHATEVER THE INPUT: true; the input reads as it did. -/
def safetyHoldsSpec : ChangeSpec := { name := "safetyHolds", fn := fun _ => fun
  | [d1, d2] => { results := [.lit (.bool true)], args := [d1, d2] }
  | _ => none }
def safetyHoldsRow : OpenClaim := { program := "ytmoccpbiogdbgaa", sum := "681a9447b7cba2cdd06d8d1174b4eb3c11e4ec87065c16433a89171a2dcd1579", func := "semaphore/semaphorelaw29.SafetyHolds", spec := "safetyHolds", unfollowed := true, recurses := true, plainKeys := false, apart := false }
def SafetyHoldsSaid : Prop := safetyHoldsRow.holds Try.pinned (OpenSpec.ofChange safetyHoldsSpec)

/-- ITS FALSE NEIGHBOUR: 'it returns false'. Refute it at one input. -/
def safetyHoldsWrong : ChangeSpec := { name := "safetyHolds", fn := fun _ => fun
  | [d1, d2] => { results := [.lit (.bool false)], args := [d1, d2] }
  | _ => none }
def SafetyHoldsWrongFalsely : Prop := safetyHoldsRow.holds Try.pinned (OpenSpec.ofChange safetyHoldsWrong)

/- THE SECOND FORM. 'bulk': how many values and letters a reading holds, each counted each time it is reached (what is shared counts as often as it is met; a slice's spare places count too). A statement '..UptoSaid' is the law's where the arguments, and the package variables that the reading takes, are together of bulk at most 1048576: NARROWER than '..Said'. Prove '..Said' where nothing that the law and all that it calls make is longer than what came in: it says more and counts as full. Else prove '..UptoSaid'. A law counts once. -/
mutual
def uptoBulk {H : Type} : DataW H → Nat
  | .lit (.string bytes) => bytes.length + 1
  | .lit _ => 1
  | .nil => 1
  | .ptr d => uptoBulk d + 1
  | .slice elems spare => uptoBulkAll elems + uptoBulkAll spare + 1
  | .agg parts => uptoBulkAll parts + 1
  | .iface _ d => uptoBulk d + 1
  | .map entries => uptoBulkEntries entries + 1
  | .held _ => 1
def uptoBulkAll {H : Type} : List (DataW H) → Nat
  | [] => 0
  | d :: r => uptoBulk d + uptoBulkAll r
def uptoBulkEntries {H : Type} : List (Lit × DataW H) → Nat
  | [] => 0
  | x :: r => uptoBulkEntry x + uptoBulkEntries r
def uptoBulkEntry {H : Type} : Lit × DataW H → Nat
  | (.string bytes, d) => bytes.length + uptoBulk d + 1
  | (_, d) => uptoBulk d + 1
 end
def uptoSmall : (H : Type) → List (DataW H) → Bool := fun _ ds => decide (uptoBulkAll ds ≤ 1048576)
def OpenSpec.upto (s : _root_.Go.ChangeSpec) : _root_.Go.OpenSpec := { _root_.Go.OpenSpec.ofChange s with cond := some uptoSmall }

/-- 'semaphorelaw28.ModelBegins', WHERE WHAT IT READS IS OF BULK AT MOST 1048576: true; the input reads as it did. -/
def modelBeginsUptoRow : OpenClaim := { program := "ytmoccpbiogdbgaa", sum := "681a9447b7cba2cdd06d8d1174b4eb3c11e4ec87065c16433a89171a2dcd1579", func := "semaphore/semaphorelaw28.ModelBegins", spec := "modelBegins", unfollowed := true, recurses := true, plainKeys := false, apart := false, narrowed := true }
def ModelBeginsUptoSaid : Prop := modelBeginsUptoRow.holds Try.pinned (OpenSpec.upto modelBeginsSpec)

/-- 'semaphorelaw29.SafetyLess', WHERE WHAT IT READS IS OF BULK AT MOST 1048576: true; the input reads as it did. -/
def safetyLessUptoRow : OpenClaim := { program := "ytmoccpbiogdbgaa", sum := "681a9447b7cba2cdd06d8d1174b4eb3c11e4ec87065c16433a89171a2dcd1579", func := "semaphore/semaphorelaw29.SafetyLess", spec := "safetyLess", unfollowed := true, recurses := true, plainKeys := false, apart := false, narrowed := true }
def SafetyLessUptoSaid : Prop := safetyLessUptoRow.holds Try.pinned (OpenSpec.upto safetyLessSpec)

/-- 'semaphorelaw29.SafetyRow', WHERE WHAT IT READS IS OF BULK AT MOST 1048576: true; the input reads as it did. -/
def safetyRowUptoRow : OpenClaim := { program := "ytmoccpbiogdbgaa", sum := "681a9447b7cba2cdd06d8d1174b4eb3c11e4ec87065c16433a89171a2dcd1579", func := "semaphore/semaphorelaw29.SafetyRow", spec := "safetyRow", unfollowed := true, recurses := true, plainKeys := false, apart := false, narrowed := true }
def SafetyRowUptoSaid : Prop := safetyRowUptoRow.holds Try.pinned (OpenSpec.upto safetyRowSpec)

/-- 'semaphorelaw29.SafetyKnown', WHERE WHAT IT READS IS OF BULK AT MOST 1048576: true; the input reads as it did. -/
def safetyKnownUptoRow : OpenClaim := { program := "ytmoccpbiogdbgaa", sum := "681a9447b7cba2cdd06d8d1174b4eb3c11e4ec87065c16433a89171a2dcd1579", func := "semaphore/semaphorelaw29.SafetyKnown", spec := "safetyKnown", unfollowed := true, recurses := true, plainKeys := false, apart := false, narrowed := true }
def SafetyKnownUptoSaid : Prop := safetyKnownUptoRow.holds Try.pinned (OpenSpec.upto safetyKnownSpec)

/-- 'semaphorelaw08.MasksMake', WHERE WHAT IT READS IS OF BULK AT MOST 1048576: true; the input reads as it did. -/
def masksMakeUptoRow : OpenClaim := { program := "ytmoccpbiogdbgaa", sum := "681a9447b7cba2cdd06d8d1174b4eb3c11e4ec87065c16433a89171a2dcd1579", func := "semaphore/semaphorelaw08.MasksMake", spec := "masksMake", unfollowed := true, recurses := true, plainKeys := false, apart := false, narrowed := true }
def MasksMakeUptoSaid : Prop := masksMakeUptoRow.holds Try.pinned (OpenSpec.upto masksMakeSpec)

/-- 'semaphorelaw08.MasksNeed', WHERE WHAT IT READS IS OF BULK AT MOST 1048576: true; the input reads as it did. -/
def masksNeedUptoRow : OpenClaim := { program := "ytmoccpbiogdbgaa", sum := "681a9447b7cba2cdd06d8d1174b4eb3c11e4ec87065c16433a89171a2dcd1579", func := "semaphore/semaphorelaw08.MasksNeed", spec := "masksNeed", unfollowed := true, recurses := true, plainKeys := false, apart := false, narrowed := true }
def MasksNeedUptoSaid : Prop := masksNeedUptoRow.holds Try.pinned (OpenSpec.upto masksNeedSpec)

/-- 'semaphorelaw08.MasksPeace', WHERE WHAT IT READS IS OF BULK AT MOST 1048576: true; the input reads as it did. -/
def masksPeaceUptoRow : OpenClaim := { program := "ytmoccpbiogdbgaa", sum := "681a9447b7cba2cdd06d8d1174b4eb3c11e4ec87065c16433a89171a2dcd1579", func := "semaphore/semaphorelaw08.MasksPeace", spec := "masksPeace", unfollowed := true, recurses := true, plainKeys := false, apart := false, narrowed := true }
def MasksPeaceUptoSaid : Prop := masksPeaceUptoRow.holds Try.pinned (OpenSpec.upto masksPeaceSpec)

/-- 'semaphorelaw08.MasksKnown', WHERE WHAT IT READS IS OF BULK AT MOST 1048576: true; the input reads as it did. -/
def masksKnownUptoRow : OpenClaim := { program := "ytmoccpbiogdbgaa", sum := "681a9447b7cba2cdd06d8d1174b4eb3c11e4ec87065c16433a89171a2dcd1579", func := "semaphore/semaphorelaw08.MasksKnown", spec := "masksKnown", unfollowed := true, recurses := true, plainKeys := false, apart := false, narrowed := true }
def MasksKnownUptoSaid : Prop := masksKnownUptoRow.holds Try.pinned (OpenSpec.upto masksKnownSpec)

/-- 'semaphorelaw10.IlxaStep', WHERE WHAT IT READS IS OF BULK AT MOST 1048576: true; the input reads as it did. -/
def ilxaStepUptoRow : OpenClaim := { program := "ytmoccpbiogdbgaa", sum := "681a9447b7cba2cdd06d8d1174b4eb3c11e4ec87065c16433a89171a2dcd1579", func := "semaphore/semaphorelaw10.IlxaStep", spec := "ilxaStep", unfollowed := true, recurses := true, plainKeys := false, apart := false, narrowed := true }
def IlxaStepUptoSaid : Prop := ilxaStepUptoRow.holds Try.pinned (OpenSpec.upto ilxaStepSpec)

/-- 'semaphorelaw10.IlxaNew', WHERE WHAT IT READS IS OF BULK AT MOST 1048576: true; the input reads as it did. -/
def ilxaNewUptoRow : OpenClaim := { program := "ytmoccpbiogdbgaa", sum := "681a9447b7cba2cdd06d8d1174b4eb3c11e4ec87065c16433a89171a2dcd1579", func := "semaphore/semaphorelaw10.IlxaNew", spec := "ilxaNew", unfollowed := true, recurses := true, plainKeys := false, apart := false, narrowed := true }
def IlxaNewUptoSaid : Prop := ilxaNewUptoRow.holds Try.pinned (OpenSpec.upto ilxaNewSpec)

/-- 'semaphorelaw10.IlxaTidy', WHERE WHAT IT READS IS OF BULK AT MOST 1048576: true; the input reads as it did. -/
def ilxaTidyUptoRow : OpenClaim := { program := "ytmoccpbiogdbgaa", sum := "681a9447b7cba2cdd06d8d1174b4eb3c11e4ec87065c16433a89171a2dcd1579", func := "semaphore/semaphorelaw10.IlxaTidy", spec := "ilxaTidy", unfollowed := true, recurses := true, plainKeys := false, apart := false, narrowed := true }
def IlxaTidyUptoSaid : Prop := ilxaTidyUptoRow.holds Try.pinned (OpenSpec.upto ilxaTidySpec)

/-- 'semaphorelaw10.IlxaSafe', WHERE WHAT IT READS IS OF BULK AT MOST 1048576: true; the input reads as it did. -/
def ilxaSafeUptoRow : OpenClaim := { program := "ytmoccpbiogdbgaa", sum := "681a9447b7cba2cdd06d8d1174b4eb3c11e4ec87065c16433a89171a2dcd1579", func := "semaphore/semaphorelaw10.IlxaSafe", spec := "ilxaSafe", unfollowed := true, recurses := true, plainKeys := false, apart := false, narrowed := true }
def IlxaSafeUptoSaid : Prop := ilxaSafeUptoRow.holds Try.pinned (OpenSpec.upto ilxaSafeSpec)

/-- 'semaphorelaw10.IlxaRun', WHERE WHAT IT READS IS OF BULK AT MOST 1048576: true; the input reads as it did. -/
def ilxaRunUptoRow : OpenClaim := { program := "ytmoccpbiogdbgaa", sum := "681a9447b7cba2cdd06d8d1174b4eb3c11e4ec87065c16433a89171a2dcd1579", func := "semaphore/semaphorelaw10.IlxaRun", spec := "ilxaRun", unfollowed := true, recurses := true, plainKeys := false, apart := false, narrowed := true }
def IlxaRunUptoSaid : Prop := ilxaRunUptoRow.holds Try.pinned (OpenSpec.upto ilxaRunSpec)

/-- 'semaphorelaw29.SafetyHolds', WHERE WHAT IT READS IS OF BULK AT MOST 1048576: true; the input reads as it did. -/
def safetyHoldsUptoRow : OpenClaim := { program := "ytmoccpbiogdbgaa", sum := "681a9447b7cba2cdd06d8d1174b4eb3c11e4ec87065c16433a89171a2dcd1579", func := "semaphore/semaphorelaw29.SafetyHolds", spec := "safetyHolds", unfollowed := true, recurses := true, plainKeys := false, apart := false, narrowed := true }
def SafetyHoldsUptoSaid : Prop := safetyHoldsUptoRow.holds Try.pinned (OpenSpec.upto safetyHoldsSpec)

end Rows
end Go.Proofs.Ytmoccpbiogdbgaa
