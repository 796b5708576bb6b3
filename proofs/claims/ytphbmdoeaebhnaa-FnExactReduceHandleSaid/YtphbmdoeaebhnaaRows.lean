/-
  No cell of these rows narrows 'for every input' (looked for: loops, veiled, ifaces, maps, wideKeys, modest, calm, conditions, laid).
  DERIVED. THE GIVEN ROWS OF THIS SEAT. 12 by the template 'for every input the law returns true; each argument reads behind the call as it read before'; 0 by the template 'total and deterministic' (their statements: YtphbmdoeaebhnaaTotals.lean).
  GIVEN WITH THE SEED: the statements are not yours to turn. If you find one false, say at which input.
  Laid BY PROGRAM, IN A SANDBOX (cutbox-rows.mjs): the forced cells as the released guide's own fill.sh prints them over the translation 8ff728b83191b6f6… (all of the seat's roots in one cut). By AI agents, Wed Nov 11 2026. No macro, syntax, notation, axiom, sorry.
-/
import Derived.Test.YtphbmdoeaebhnaaChecked
import GoSem.Claim
import GoSem.ClaimJoined
import GoSem.ClaimMapViews
import Derived.JoinedTies
import Derived.KernelRfl
namespace Go.Proofs.Ytphbmdoeaebhnaa
/- THE CELL 'sum', in the pinned program and in every row, IS THE sha256 OF THE DUMP (.gsa) THAT YtphbmdoeaebhnaaProg.lean LOADS. Nothing in Lean hashes anything: it is a label: what it is worth is what the hold of that sum in a sandbox is worth. -/
noncomputable def Try.pinned : Pinned := { name := "ytphbmdoeaebhnaa", sum := "8ff728b83191b6f6b0e0dc689a6ff1305fb54996bd5ec394b2986ab8c1f507ec", checked := Try.checked }
namespace Rows
def none {H : Type} : Left H := { results := [], args := [] }

/-- 'laws.FnExactFreeInverse': WHATEVER THE INPUT: true; the input reads as it did. -/
def fnExactFreeInverseSpec : ChangeSpec := { name := "fnExactFreeInverse", fn := fun _ => fun
  | [d1, d2] => { results := [.lit (.bool true)], args := [d1, d2] }
  | _ => none }
def fnExactFreeInverseRow : OpenClaim := { program := "ytphbmdoeaebhnaa", sum := "8ff728b83191b6f6b0e0dc689a6ff1305fb54996bd5ec394b2986ab8c1f507ec", func := "loop.example/g00856/laws.FnExactFreeInverse", spec := "fnExactFreeInverse", unfollowed := true, recurses := true, apart := false }
def FnExactFreeInverseSaid : Prop := fnExactFreeInverseRow.holds Try.pinned (OpenSpec.ofChange fnExactFreeInverseSpec)

/-- ITS FALSE NEIGHBOUR: 'it returns false'. Refute it at one input. -/
def fnExactFreeInverseWrong : ChangeSpec := { name := "fnExactFreeInverse", fn := fun _ => fun
  | [d1, d2] => { results := [.lit (.bool false)], args := [d1, d2] }
  | _ => none }
def FnExactFreeInverseWrongFalsely : Prop := fnExactFreeInverseRow.holds Try.pinned (OpenSpec.ofChange fnExactFreeInverseWrong)

/-- 'laws.FnExactFreeCore': WHATEVER THE INPUT: true; the input reads as it did. -/
def fnExactFreeCoreSpec : ChangeSpec := { name := "fnExactFreeCore", fn := fun _ => fun
  | [d1, d2] => { results := [.lit (.bool true)], args := [d1, d2] }
  | _ => none }
def fnExactFreeCoreRow : OpenClaim := { program := "ytphbmdoeaebhnaa", sum := "8ff728b83191b6f6b0e0dc689a6ff1305fb54996bd5ec394b2986ab8c1f507ec", func := "loop.example/g00856/laws.FnExactFreeCore", spec := "fnExactFreeCore", unfollowed := true, recurses := true, apart := false }
def FnExactFreeCoreSaid : Prop := fnExactFreeCoreRow.holds Try.pinned (OpenSpec.ofChange fnExactFreeCoreSpec)

/-- ITS FALSE NEIGHBOUR: 'it returns false'. Refute it at one input. -/
def fnExactFreeCoreWrong : ChangeSpec := { name := "fnExactFreeCore", fn := fun _ => fun
  | [d1, d2] => { results := [.lit (.bool false)], args := [d1, d2] }
  | _ => none }
def FnExactFreeCoreWrongFalsely : Prop := fnExactFreeCoreRow.holds Try.pinned (OpenSpec.ofChange fnExactFreeCoreWrong)

/-- 'laws.FnExactFreeJoin': WHATEVER THE INPUT: true; the input reads as it did. -/
def fnExactFreeJoinSpec : ChangeSpec := { name := "fnExactFreeJoin", fn := fun _ => fun
  | [d1, d2, d3] => { results := [.lit (.bool true)], args := [d1, d2, d3] }
  | _ => none }
def fnExactFreeJoinRow : OpenClaim := { program := "ytphbmdoeaebhnaa", sum := "8ff728b83191b6f6b0e0dc689a6ff1305fb54996bd5ec394b2986ab8c1f507ec", func := "loop.example/g00856/laws.FnExactFreeJoin", spec := "fnExactFreeJoin", unfollowed := true, recurses := true, apart := false }
def FnExactFreeJoinSaid : Prop := fnExactFreeJoinRow.holds Try.pinned (OpenSpec.ofChange fnExactFreeJoinSpec)

/-- ITS FALSE NEIGHBOUR: 'it returns false'. Refute it at one input. -/
def fnExactFreeJoinWrong : ChangeSpec := { name := "fnExactFreeJoin", fn := fun _ => fun
  | [d1, d2, d3] => { results := [.lit (.bool false)], args := [d1, d2, d3] }
  | _ => none }
def FnExactFreeJoinWrongFalsely : Prop := fnExactFreeJoinRow.holds Try.pinned (OpenSpec.ofChange fnExactFreeJoinWrong)

/-- 'laws.FnExactIsHandle': WHATEVER THE INPUT: true; the input reads as it did. -/
def fnExactIsHandleSpec : ChangeSpec := { name := "fnExactIsHandle", fn := fun _ => fun
  | [d1, d2] => { results := [.lit (.bool true)], args := [d1, d2] }
  | _ => none }
def fnExactIsHandleRow : OpenClaim := { program := "ytphbmdoeaebhnaa", sum := "8ff728b83191b6f6b0e0dc689a6ff1305fb54996bd5ec394b2986ab8c1f507ec", func := "loop.example/g00856/laws.FnExactIsHandle", spec := "fnExactIsHandle", unfollowed := true, recurses := true, apart := false }
def FnExactIsHandleSaid : Prop := fnExactIsHandleRow.holds Try.pinned (OpenSpec.ofChange fnExactIsHandleSpec)

/-- ITS FALSE NEIGHBOUR: 'it returns false'. Refute it at one input. -/
def fnExactIsHandleWrong : ChangeSpec := { name := "fnExactIsHandle", fn := fun _ => fun
  | [d1, d2] => { results := [.lit (.bool false)], args := [d1, d2] }
  | _ => none }
def FnExactIsHandleWrongFalsely : Prop := fnExactIsHandleRow.holds Try.pinned (OpenSpec.ofChange fnExactIsHandleWrong)

/-- 'laws.FnExactMainLetter': WHATEVER THE INPUT: true; the input reads as it did. -/
def fnExactMainLetterSpec : ChangeSpec := { name := "fnExactMainLetter", fn := fun _ => fun
  | [d] => { results := [.lit (.bool true)], args := [d] }
  | _ => none }
def fnExactMainLetterRow : OpenClaim := { program := "ytphbmdoeaebhnaa", sum := "8ff728b83191b6f6b0e0dc689a6ff1305fb54996bd5ec394b2986ab8c1f507ec", func := "loop.example/g00856/laws.FnExactMainLetter", spec := "fnExactMainLetter", unfollowed := true, recurses := true, apart := false }
def FnExactMainLetterSaid : Prop := fnExactMainLetterRow.holds Try.pinned (OpenSpec.ofChange fnExactMainLetterSpec)

/-- ITS FALSE NEIGHBOUR: 'it returns false'. Refute it at one input. -/
def fnExactMainLetterWrong : ChangeSpec := { name := "fnExactMainLetter", fn := fun _ => fun
  | [d] => { results := [.lit (.bool false)], args := [d] }
  | _ => none }
def FnExactMainLetterWrongFalsely : Prop := fnExactMainLetterRow.holds Try.pinned (OpenSpec.ofChange fnExactMainLetterWrong)

/-- 'laws.FnExactFirstHandle': WHATEVER THE INPUT: true; the input reads as it did. -/
def fnExactFirstHandleSpec : ChangeSpec := { name := "fnExactFirstHandle", fn := fun _ => fun
  | [d] => { results := [.lit (.bool true)], args := [d] }
  | _ => none }
def fnExactFirstHandleRow : OpenClaim := { program := "ytphbmdoeaebhnaa", sum := "8ff728b83191b6f6b0e0dc689a6ff1305fb54996bd5ec394b2986ab8c1f507ec", func := "loop.example/g00856/laws.FnExactFirstHandle", spec := "fnExactFirstHandle", unfollowed := true, recurses := true, apart := false }
def FnExactFirstHandleSaid : Prop := fnExactFirstHandleRow.holds Try.pinned (OpenSpec.ofChange fnExactFirstHandleSpec)

/-- ITS FALSE NEIGHBOUR: 'it returns false'. Refute it at one input. -/
def fnExactFirstHandleWrong : ChangeSpec := { name := "fnExactFirstHandle", fn := fun _ => fun
  | [d] => { results := [.lit (.bool false)], args := [d] }
  | _ => none }
def FnExactFirstHandleWrongFalsely : Prop := fnExactFirstHandleRow.holds Try.pinned (OpenSpec.ofChange fnExactFirstHandleWrong)

/-- 'laws.FnExactReduceHandle': WHATEVER THE INPUT: true; the input reads as it did. -/
def fnExactReduceHandleSpec : ChangeSpec := { name := "fnExactReduceHandle", fn := fun _ => fun
  | [d1, d2] => { results := [.lit (.bool true)], args := [d1, d2] }
  | _ => none }
def fnExactReduceHandleRow : OpenClaim := { program := "ytphbmdoeaebhnaa", sum := "8ff728b83191b6f6b0e0dc689a6ff1305fb54996bd5ec394b2986ab8c1f507ec", func := "loop.example/g00856/laws.FnExactReduceHandle", spec := "fnExactReduceHandle", unfollowed := true, recurses := true, apart := false }
def FnExactReduceHandleSaid : Prop := fnExactReduceHandleRow.holds Try.pinned (OpenSpec.ofChange fnExactReduceHandleSpec)

/-- ITS FALSE NEIGHBOUR: 'it returns false'. Refute it at one input. -/
def fnExactReduceHandleWrong : ChangeSpec := { name := "fnExactReduceHandle", fn := fun _ => fun
  | [d1, d2] => { results := [.lit (.bool false)], args := [d1, d2] }
  | _ => none }
def FnExactReduceHandleWrongFalsely : Prop := fnExactReduceHandleRow.holds Try.pinned (OpenSpec.ofChange fnExactReduceHandleWrong)

/-- 'laws.FnExactHandleForm': WHATEVER THE INPUT: true; the input reads as it did. -/
def fnExactHandleFormSpec : ChangeSpec := { name := "fnExactHandleForm", fn := fun _ => fun
  | [d1, d2] => { results := [.lit (.bool true)], args := [d1, d2] }
  | _ => none }
def fnExactHandleFormRow : OpenClaim := { program := "ytphbmdoeaebhnaa", sum := "8ff728b83191b6f6b0e0dc689a6ff1305fb54996bd5ec394b2986ab8c1f507ec", func := "loop.example/g00856/laws.FnExactHandleForm", spec := "fnExactHandleForm", unfollowed := true, recurses := true, apart := false }
def FnExactHandleFormSaid : Prop := fnExactHandleFormRow.holds Try.pinned (OpenSpec.ofChange fnExactHandleFormSpec)

/-- ITS FALSE NEIGHBOUR: 'it returns false'. Refute it at one input. -/
def fnExactHandleFormWrong : ChangeSpec := { name := "fnExactHandleForm", fn := fun _ => fun
  | [d1, d2] => { results := [.lit (.bool false)], args := [d1, d2] }
  | _ => none }
def FnExactHandleFormWrongFalsely : Prop := fnExactHandleFormRow.holds Try.pinned (OpenSpec.ofChange fnExactHandleFormWrong)

/-- 'laws.FnExactHandleTrivial': WHATEVER THE INPUT: true; the input reads as it did. -/
def fnExactHandleTrivialSpec : ChangeSpec := { name := "fnExactHandleTrivial", fn := fun _ => fun
  | [d1, d2] => { results := [.lit (.bool true)], args := [d1, d2] }
  | _ => none }
def fnExactHandleTrivialRow : OpenClaim := { program := "ytphbmdoeaebhnaa", sum := "8ff728b83191b6f6b0e0dc689a6ff1305fb54996bd5ec394b2986ab8c1f507ec", func := "loop.example/g00856/laws.FnExactHandleTrivial", spec := "fnExactHandleTrivial", unfollowed := true, recurses := true, apart := false }
def FnExactHandleTrivialSaid : Prop := fnExactHandleTrivialRow.holds Try.pinned (OpenSpec.ofChange fnExactHandleTrivialSpec)

/-- ITS FALSE NEIGHBOUR: 'it returns false'. Refute it at one input. -/
def fnExactHandleTrivialWrong : ChangeSpec := { name := "fnExactHandleTrivial", fn := fun _ => fun
  | [d1, d2] => { results := [.lit (.bool false)], args := [d1, d2] }
  | _ => none }
def FnExactHandleTrivialWrongFalsely : Prop := fnExactHandleTrivialRow.holds Try.pinned (OpenSpec.ofChange fnExactHandleTrivialWrong)

/-- 'laws.FnExactHandleEqual': WHATEVER THE INPUT: true; the input reads as it did. -/
def fnExactHandleEqualSpec : ChangeSpec := { name := "fnExactHandleEqual", fn := fun _ => fun
  | [d1, d2, d3] => { results := [.lit (.bool true)], args := [d1, d2, d3] }
  | _ => none }
def fnExactHandleEqualRow : OpenClaim := { program := "ytphbmdoeaebhnaa", sum := "8ff728b83191b6f6b0e0dc689a6ff1305fb54996bd5ec394b2986ab8c1f507ec", func := "loop.example/g00856/laws.FnExactHandleEqual", spec := "fnExactHandleEqual", unfollowed := true, recurses := true, apart := false }
def FnExactHandleEqualSaid : Prop := fnExactHandleEqualRow.holds Try.pinned (OpenSpec.ofChange fnExactHandleEqualSpec)

/-- ITS FALSE NEIGHBOUR: 'it returns false'. Refute it at one input. -/
def fnExactHandleEqualWrong : ChangeSpec := { name := "fnExactHandleEqual", fn := fun _ => fun
  | [d1, d2, d3] => { results := [.lit (.bool false)], args := [d1, d2, d3] }
  | _ => none }
def FnExactHandleEqualWrongFalsely : Prop := fnExactHandleEqualRow.holds Try.pinned (OpenSpec.ofChange fnExactHandleEqualWrong)

/-- 'laws.FnExactSignOfBraid': WHATEVER THE INPUT: true; the input reads as it did. -/
def fnExactSignOfBraidSpec : ChangeSpec := { name := "fnExactSignOfBraid", fn := fun _ => fun
  | [d1, d2] => { results := [.lit (.bool true)], args := [d1, d2] }
  | _ => none }
def fnExactSignOfBraidRow : OpenClaim := { program := "ytphbmdoeaebhnaa", sum := "8ff728b83191b6f6b0e0dc689a6ff1305fb54996bd5ec394b2986ab8c1f507ec", func := "loop.example/g00856/laws.FnExactSignOfBraid", spec := "fnExactSignOfBraid", unfollowed := true, recurses := true, apart := false }
def FnExactSignOfBraidSaid : Prop := fnExactSignOfBraidRow.holds Try.pinned (OpenSpec.ofChange fnExactSignOfBraidSpec)

/-- ITS FALSE NEIGHBOUR: 'it returns false'. Refute it at one input. -/
def fnExactSignOfBraidWrong : ChangeSpec := { name := "fnExactSignOfBraid", fn := fun _ => fun
  | [d1, d2] => { results := [.lit (.bool false)], args := [d1, d2] }
  | _ => none }
def FnExactSignOfBraidWrongFalsely : Prop := fnExactSignOfBraidRow.holds Try.pinned (OpenSpec.ofChange fnExactSignOfBraidWrong)

/-- 'laws.FnExactCompareBraids': WHATEVER THE INPUT: true; the input reads as it did. -/
def fnExactCompareBraidsSpec : ChangeSpec := { name := "fnExactCompareBraids", fn := fun _ => fun
  | [d1, d2, d3] => { results := [.lit (.bool true)], args := [d1, d2, d3] }
  | _ => none }
def fnExactCompareBraidsRow : OpenClaim := { program := "ytphbmdoeaebhnaa", sum := "8ff728b83191b6f6b0e0dc689a6ff1305fb54996bd5ec394b2986ab8c1f507ec", func := "loop.example/g00856/laws.FnExactCompareBraids", spec := "fnExactCompareBraids", unfollowed := true, recurses := true, apart := false }
def FnExactCompareBraidsSaid : Prop := fnExactCompareBraidsRow.holds Try.pinned (OpenSpec.ofChange fnExactCompareBraidsSpec)

/-- ITS FALSE NEIGHBOUR: 'it returns false'. Refute it at one input. -/
def fnExactCompareBraidsWrong : ChangeSpec := { name := "fnExactCompareBraids", fn := fun _ => fun
  | [d1, d2, d3] => { results := [.lit (.bool false)], args := [d1, d2, d3] }
  | _ => none }
def FnExactCompareBraidsWrongFalsely : Prop := fnExactCompareBraidsRow.holds Try.pinned (OpenSpec.ofChange fnExactCompareBraidsWrong)

/- THE SECOND FORM. 'bulk': how many values and letters a reading holds, each counted each time it is reached (what is shared counts as often as it is met; a slice's spare places count too). A statement '..UptoSaid' is the law's where the arguments, and the package variables that the reading takes, are together of bulk at most 1048576: NARROWER than '..Said'. Prove '..Said' where nothing that the law and all that it calls make is longer than what came in: it says more and counts as full. Else prove '..UptoSaid'. A law counts once. -/
mutual
def uptoBulk {H : Type} : DataW H → Nat
  | .lit (.string bytes) => bytes.length + 1
  | .lit _ => 1
  | .nil => 1
  | .ptr d => uptoBulk d + 1
  | .slice elems spare => uptoBulkAll elems + uptoBulkAll spare + 1
  | .agg parts => uptoBulkAll parts + 1
  | .iface _ d => uptoBulk d + 1
  | .map entries => uptoBulkEntries entries + 1
  | .held _ => 1
def uptoBulkAll {H : Type} : List (DataW H) → Nat
  | [] => 0
  | d :: r => uptoBulk d + uptoBulkAll r
def uptoBulkEntries {H : Type} : List (Lit × DataW H) → Nat
  | [] => 0
  | x :: r => uptoBulkEntry x + uptoBulkEntries r
def uptoBulkEntry {H : Type} : Lit × DataW H → Nat
  | (.string bytes, d) => bytes.length + uptoBulk d + 1
  | (_, d) => uptoBulk d + 1
 end
def uptoSmall : (H : Type) → List (DataW H) → Bool := fun _ ds => decide (uptoBulkAll ds ≤ 1048576)
def OpenSpec.upto (s : _root_.Go.ChangeSpec) : _root_.Go.OpenSpec := { _root_.Go.OpenSpec.ofChange s with cond := some uptoSmall }

/-- 'laws.FnExactFreeInverse', WHERE WHAT IT READS IS OF BULK AT MOST 1048576: true; the input reads as it did. -/
def fnExactFreeInverseUptoRow : OpenClaim := { program := "ytphbmdoeaebhnaa", sum := "8ff728b83191b6f6b0e0dc689a6ff1305fb54996bd5ec394b2986ab8c1f507ec", func := "loop.example/g00856/laws.FnExactFreeInverse", spec := "fnExactFreeInverse", unfollowed := true, recurses := true, apart := false, narrowed := true }
def FnExactFreeInverseUptoSaid : Prop := fnExactFreeInverseUptoRow.holds Try.pinned (OpenSpec.upto fnExactFreeInverseSpec)

/-- 'laws.FnExactFreeCore', WHERE WHAT IT READS IS OF BULK AT MOST 1048576: true; the input reads as it did. -/
def fnExactFreeCoreUptoRow : OpenClaim := { program := "ytphbmdoeaebhnaa", sum := "8ff728b83191b6f6b0e0dc689a6ff1305fb54996bd5ec394b2986ab8c1f507ec", func := "loop.example/g00856/laws.FnExactFreeCore", spec := "fnExactFreeCore", unfollowed := true, recurses := true, apart := false, narrowed := true }
def FnExactFreeCoreUptoSaid : Prop := fnExactFreeCoreUptoRow.holds Try.pinned (OpenSpec.upto fnExactFreeCoreSpec)

/-- 'laws.FnExactFreeJoin', WHERE WHAT IT READS IS OF BULK AT MOST 1048576: true; the input reads as it did. -/
def fnExactFreeJoinUptoRow : OpenClaim := { program := "ytphbmdoeaebhnaa", sum := "8ff728b83191b6f6b0e0dc689a6ff1305fb54996bd5ec394b2986ab8c1f507ec", func := "loop.example/g00856/laws.FnExactFreeJoin", spec := "fnExactFreeJoin", unfollowed := true, recurses := true, apart := false, narrowed := true }
def FnExactFreeJoinUptoSaid : Prop := fnExactFreeJoinUptoRow.holds Try.pinned (OpenSpec.upto fnExactFreeJoinSpec)

/-- 'laws.FnExactIsHandle', WHERE WHAT IT READS IS OF BULK AT MOST 1048576: true; the input reads as it did. -/
def fnExactIsHandleUptoRow : OpenClaim := { program := "ytphbmdoeaebhnaa", sum := "8ff728b83191b6f6b0e0dc689a6ff1305fb54996bd5ec394b2986ab8c1f507ec", func := "loop.example/g00856/laws.FnExactIsHandle", spec := "fnExactIsHandle", unfollowed := true, recurses := true, apart := false, narrowed := true }
def FnExactIsHandleUptoSaid : Prop := fnExactIsHandleUptoRow.holds Try.pinned (OpenSpec.upto fnExactIsHandleSpec)

/-- 'laws.FnExactMainLetter', WHERE WHAT IT READS IS OF BULK AT MOST 1048576: true; the input reads as it did. -/
def fnExactMainLetterUptoRow : OpenClaim := { program := "ytphbmdoeaebhnaa", sum := "8ff728b83191b6f6b0e0dc689a6ff1305fb54996bd5ec394b2986ab8c1f507ec", func := "loop.example/g00856/laws.FnExactMainLetter", spec := "fnExactMainLetter", unfollowed := true, recurses := true, apart := false, narrowed := true }
def FnExactMainLetterUptoSaid : Prop := fnExactMainLetterUptoRow.holds Try.pinned (OpenSpec.upto fnExactMainLetterSpec)

/-- 'laws.FnExactFirstHandle', WHERE WHAT IT READS IS OF BULK AT MOST 1048576: true; the input reads as it did. -/
def fnExactFirstHandleUptoRow : OpenClaim := { program := "ytphbmdoeaebhnaa", sum := "8ff728b83191b6f6b0e0dc689a6ff1305fb54996bd5ec394b2986ab8c1f507ec", func := "loop.example/g00856/laws.FnExactFirstHandle", spec := "fnExactFirstHandle", unfollowed := true, recurses := true, apart := false, narrowed := true }
def FnExactFirstHandleUptoSaid : Prop := fnExactFirstHandleUptoRow.holds Try.pinned (OpenSpec.upto fnExactFirstHandleSpec)

/-- 'laws.FnExactReduceHandle', WHERE WHAT IT READS IS OF BULK AT MOST 1048576: true; the input reads as it did. -/
def fnExactReduceHandleUptoRow : OpenClaim := { program := "ytphbmdoeaebhnaa", sum := "8ff728b83191b6f6b0e0dc689a6ff1305fb54996bd5ec394b2986ab8c1f507ec", func := "loop.example/g00856/laws.FnExactReduceHandle", spec := "fnExactReduceHandle", unfollowed := true, recurses := true, apart := false, narrowed := true }
def FnExactReduceHandleUptoSaid : Prop := fnExactReduceHandleUptoRow.holds Try.pinned (OpenSpec.upto fnExactReduceHandleSpec)

/-- 'laws.FnExactHandleForm', WHERE WHAT IT READS IS OF BULK AT MOST 1048576: true; the input reads as it did. -/
def fnExactHandleFormUptoRow : OpenClaim := { program := "ytphbmdoeaebhnaa", sum := "8ff728b83191b6f6b0e0dc689a6ff1305fb54996bd5ec394b2986ab8c1f507ec", func := "loop.example/g00856/laws.FnExactHandleForm", spec := "fnExactHandleForm", unfollowed := true, recurses := true, apart := false, narrowed := true }
def FnExactHandleFormUptoSaid : Prop := fnExactHandleFormUptoRow.holds Try.pinned (OpenSpec.upto fnExactHandleFormSpec)

/-- 'laws.FnExactHandleTrivial', WHERE WHAT IT READS IS OF BULK AT MOST 1048576: true; the input reads as it did. -/
def fnExactHandleTrivialUptoRow : OpenClaim := { program := "ytphbmdoeaebhnaa", sum := "8ff728b83191b6f6b0e0dc689a6ff1305fb54996bd5ec394b2986ab8c1f507ec", func := "loop.example/g00856/laws.FnExactHandleTrivial", spec := "fnExactHandleTrivial", unfollowed := true, recurses := true, apart := false, narrowed := true }
def FnExactHandleTrivialUptoSaid : Prop := fnExactHandleTrivialUptoRow.holds Try.pinned (OpenSpec.upto fnExactHandleTrivialSpec)

/-- 'laws.FnExactHandleEqual', WHERE WHAT IT READS IS OF BULK AT MOST 1048576: true; the input reads as it did. -/
def fnExactHandleEqualUptoRow : OpenClaim := { program := "ytphbmdoeaebhnaa", sum := "8ff728b83191b6f6b0e0dc689a6ff1305fb54996bd5ec394b2986ab8c1f507ec", func := "loop.example/g00856/laws.FnExactHandleEqual", spec := "fnExactHandleEqual", unfollowed := true, recurses := true, apart := false, narrowed := true }
def FnExactHandleEqualUptoSaid : Prop := fnExactHandleEqualUptoRow.holds Try.pinned (OpenSpec.upto fnExactHandleEqualSpec)

/-- 'laws.FnExactSignOfBraid', WHERE WHAT IT READS IS OF BULK AT MOST 1048576: true; the input reads as it did. -/
def fnExactSignOfBraidUptoRow : OpenClaim := { program := "ytphbmdoeaebhnaa", sum := "8ff728b83191b6f6b0e0dc689a6ff1305fb54996bd5ec394b2986ab8c1f507ec", func := "loop.example/g00856/laws.FnExactSignOfBraid", spec := "fnExactSignOfBraid", unfollowed := true, recurses := true, apart := false, narrowed := true }
def FnExactSignOfBraidUptoSaid : Prop := fnExactSignOfBraidUptoRow.holds Try.pinned (OpenSpec.upto fnExactSignOfBraidSpec)

/-- 'laws.FnExactCompareBraids', WHERE WHAT IT READS IS OF BULK AT MOST 1048576: true; the input reads as it did. -/
def fnExactCompareBraidsUptoRow : OpenClaim := { program := "ytphbmdoeaebhnaa", sum := "8ff728b83191b6f6b0e0dc689a6ff1305fb54996bd5ec394b2986ab8c1f507ec", func := "loop.example/g00856/laws.FnExactCompareBraids", spec := "fnExactCompareBraids", unfollowed := true, recurses := true, apart := false, narrowed := true }
def FnExactCompareBraidsUptoSaid : Prop := fnExactCompareBraidsUptoRow.holds Try.pinned (OpenSpec.upto fnExactCompareBraidsSpec)

end Rows
end Go.Proofs.Ytphbmdoeaebhnaa
