/-
  No cell of these rows narrows 'for every input' (looked for: loops, veiled, ifaces, maps, wideKeys, modest, calm, conditions, laid).
  DERIVED. THE GIVEN ROWS OF THIS SEAT. 7 by the template 'for every input the law returns true; each argument reads behind the call as it read before'; 0 by the template 'total and deterministic' (their statements: YtcoocjdkppdlmaaTotals.lean).
  GIVEN WITH THE SEED: the statements are not yours to turn. If you find one false, say at which input.
  Laid BY PROGRAM, IN A SANDBOX (cutbox-rows.mjs): the forced cells as the released guide's own fill.sh prints them over the translation 6c60d09541a8b7cd… (all of the seat's roots in one cut). By AI agents, Wed Nov 11 2026. No macro, syntax, notation, axiom, sorry.
-/
import Derived.Test.YtcoocjdkppdlmaaChecked
import GoSem.Claim
import GoSem.ClaimJoined
import GoSem.ClaimMapViews
import Derived.JoinedTies
import Derived.KernelRfl
namespace Go.Proofs.Ytcoocjdkppdlmaa
/- THE CELL 'sum', in the pinned program and in every row, IS THE sha256 OF THE DUMP (.gsa) THAT YtcoocjdkppdlmaaProg.lean LOADS. Nothing in Lean hashes anything: it is a label: what it is worth is what the hold of that sum in a sandbox is worth. -/
noncomputable def Try.pinned : Pinned := { name := "ytcoocjdkppdlmaa", sum := "6c60d09541a8b7cd9a89c5dfe4a1a15e57daf50a0f4bc45f8a4cea79b7d1475e", checked := Try.checked }
namespace Rows
def none {H : Type} : Left H := { results := [], args := [] }

/-- 'laws.FnExactApplyAction': WHATEVER THE INPUT: true; the input reads as it did. -/
def fnExactApplyActionSpec : ChangeSpec := { name := "fnExactApplyAction", fn := fun _ => fun
  | [d1, d2] => { results := [.lit (.bool true)], args := [d1, d2] }
  | _ => none }
def fnExactApplyActionRow : OpenClaim := { program := "ytcoocjdkppdlmaa", sum := "6c60d09541a8b7cd9a89c5dfe4a1a15e57daf50a0f4bc45f8a4cea79b7d1475e", func := "loop.example/g00856/laws.FnExactApplyAction", spec := "fnExactApplyAction", unfollowed := true, recurses := true, apart := false }
def FnExactApplyActionSaid : Prop := fnExactApplyActionRow.holds Try.pinned (OpenSpec.ofChange fnExactApplyActionSpec)

/-- ITS FALSE NEIGHBOUR: 'it returns false'. Refute it at one input. -/
def fnExactApplyActionWrong : ChangeSpec := { name := "fnExactApplyAction", fn := fun _ => fun
  | [d1, d2] => { results := [.lit (.bool false)], args := [d1, d2] }
  | _ => none }
def FnExactApplyActionWrongFalsely : Prop := fnExactApplyActionRow.holds Try.pinned (OpenSpec.ofChange fnExactApplyActionWrong)

/-- 'laws.FnExactActionPermutation': WHATEVER THE INPUT: true; the input reads as it did. -/
def fnExactActionPermutationSpec : ChangeSpec := { name := "fnExactActionPermutation", fn := fun _ => fun
  | [d] => { results := [.lit (.bool true)], args := [d] }
  | _ => none }
def fnExactActionPermutationRow : OpenClaim := { program := "ytcoocjdkppdlmaa", sum := "6c60d09541a8b7cd9a89c5dfe4a1a15e57daf50a0f4bc45f8a4cea79b7d1475e", func := "loop.example/g00856/laws.FnExactActionPermutation", spec := "fnExactActionPermutation", unfollowed := true, recurses := true, apart := false }
def FnExactActionPermutationSaid : Prop := fnExactActionPermutationRow.holds Try.pinned (OpenSpec.ofChange fnExactActionPermutationSpec)

/-- ITS FALSE NEIGHBOUR: 'it returns false'. Refute it at one input. -/
def fnExactActionPermutationWrong : ChangeSpec := { name := "fnExactActionPermutation", fn := fun _ => fun
  | [d] => { results := [.lit (.bool false)], args := [d] }
  | _ => none }
def FnExactActionPermutationWrongFalsely : Prop := fnExactActionPermutationRow.holds Try.pinned (OpenSpec.ofChange fnExactActionPermutationWrong)

/-- 'laws.FnExactArtinAction': WHATEVER THE INPUT: true; the input reads as it did. -/
def fnExactArtinActionSpec : ChangeSpec := { name := "fnExactArtinAction", fn := fun _ => fun
  | [d] => { results := [.lit (.bool true)], args := [d] }
  | _ => none }
def fnExactArtinActionRow : OpenClaim := { program := "ytcoocjdkppdlmaa", sum := "6c60d09541a8b7cd9a89c5dfe4a1a15e57daf50a0f4bc45f8a4cea79b7d1475e", func := "loop.example/g00856/laws.FnExactArtinAction", spec := "fnExactArtinAction", unfollowed := true, recurses := true, apart := false }
def FnExactArtinActionSaid : Prop := fnExactArtinActionRow.holds Try.pinned (OpenSpec.ofChange fnExactArtinActionSpec)

/-- ITS FALSE NEIGHBOUR: 'it returns false'. Refute it at one input. -/
def fnExactArtinActionWrong : ChangeSpec := { name := "fnExactArtinAction", fn := fun _ => fun
  | [d] => { results := [.lit (.bool false)], args := [d] }
  | _ => none }
def FnExactArtinActionWrongFalsely : Prop := fnExactArtinActionRow.holds Try.pinned (OpenSpec.ofChange fnExactArtinActionWrong)

/-- 'laws.FnExactIsAction': WHATEVER THE INPUT: true; the input reads as it did. -/
def fnExactIsActionSpec : ChangeSpec := { name := "fnExactIsAction", fn := fun _ => fun
  | [d] => { results := [.lit (.bool true)], args := [d] }
  | _ => none }
def fnExactIsActionRow : OpenClaim := { program := "ytcoocjdkppdlmaa", sum := "6c60d09541a8b7cd9a89c5dfe4a1a15e57daf50a0f4bc45f8a4cea79b7d1475e", func := "loop.example/g00856/laws.FnExactIsAction", spec := "fnExactIsAction", unfollowed := true, recurses := true, apart := false }
def FnExactIsActionSaid : Prop := fnExactIsActionRow.holds Try.pinned (OpenSpec.ofChange fnExactIsActionSpec)

/-- ITS FALSE NEIGHBOUR: 'it returns false'. Refute it at one input. -/
def fnExactIsActionWrong : ChangeSpec := { name := "fnExactIsAction", fn := fun _ => fun
  | [d] => { results := [.lit (.bool false)], args := [d] }
  | _ => none }
def FnExactIsActionWrongFalsely : Prop := fnExactIsActionRow.holds Try.pinned (OpenSpec.ofChange fnExactIsActionWrong)

/-- 'laws.FnExactArtinEqual': WHATEVER THE INPUT: true; the input reads as it did. -/
def fnExactArtinEqualSpec : ChangeSpec := { name := "fnExactArtinEqual", fn := fun _ => fun
  | [d1, d2] => { results := [.lit (.bool true)], args := [d1, d2] }
  | _ => none }
def fnExactArtinEqualRow : OpenClaim := { program := "ytcoocjdkppdlmaa", sum := "6c60d09541a8b7cd9a89c5dfe4a1a15e57daf50a0f4bc45f8a4cea79b7d1475e", func := "loop.example/g00856/laws.FnExactArtinEqual", spec := "fnExactArtinEqual", unfollowed := true, recurses := true, apart := false }
def FnExactArtinEqualSaid : Prop := fnExactArtinEqualRow.holds Try.pinned (OpenSpec.ofChange fnExactArtinEqualSpec)

/-- ITS FALSE NEIGHBOUR: 'it returns false'. Refute it at one input. -/
def fnExactArtinEqualWrong : ChangeSpec := { name := "fnExactArtinEqual", fn := fun _ => fun
  | [d1, d2] => { results := [.lit (.bool false)], args := [d1, d2] }
  | _ => none }
def FnExactArtinEqualWrongFalsely : Prop := fnExactArtinEqualRow.holds Try.pinned (OpenSpec.ofChange fnExactArtinEqualWrong)

/-- 'laws.FnFree': WHATEVER THE INPUT: true; the input reads as it did. -/
def fnFreeSpec : ChangeSpec := { name := "fnFree", fn := fun _ => fun
  | [d] => { results := [.lit (.bool true)], args := [d] }
  | _ => none }
def fnFreeRow : OpenClaim := { program := "ytcoocjdkppdlmaa", sum := "6c60d09541a8b7cd9a89c5dfe4a1a15e57daf50a0f4bc45f8a4cea79b7d1475e", func := "loop.example/g00856/laws.FnFree", spec := "fnFree", unfollowed := true, recurses := true, apart := false }
def FnFreeSaid : Prop := fnFreeRow.holds Try.pinned (OpenSpec.ofChange fnFreeSpec)

/-- ITS FALSE NEIGHBOUR: 'it returns false'. Refute it at one input. -/
def fnFreeWrong : ChangeSpec := { name := "fnFree", fn := fun _ => fun
  | [d] => { results := [.lit (.bool false)], args := [d] }
  | _ => none }
def FnFreeWrongFalsely : Prop := fnFreeRow.holds Try.pinned (OpenSpec.ofChange fnFreeWrong)

/-- 'laws.FnActions': WHATEVER THE INPUT: true; the input reads as it did. -/
def fnActionsSpec : ChangeSpec := { name := "fnActions", fn := fun _ => fun
  | [d] => { results := [.lit (.bool true)], args := [d] }
  | _ => none }
def fnActionsRow : OpenClaim := { program := "ytcoocjdkppdlmaa", sum := "6c60d09541a8b7cd9a89c5dfe4a1a15e57daf50a0f4bc45f8a4cea79b7d1475e", func := "loop.example/g00856/laws.FnActions", spec := "fnActions", unfollowed := true, recurses := true, apart := false }
def FnActionsSaid : Prop := fnActionsRow.holds Try.pinned (OpenSpec.ofChange fnActionsSpec)

/-- ITS FALSE NEIGHBOUR: 'it returns false'. Refute it at one input. -/
def fnActionsWrong : ChangeSpec := { name := "fnActions", fn := fun _ => fun
  | [d] => { results := [.lit (.bool false)], args := [d] }
  | _ => none }
def FnActionsWrongFalsely : Prop := fnActionsRow.holds Try.pinned (OpenSpec.ofChange fnActionsWrong)

/- THE SECOND FORM. 'bulk': how many values and letters a reading holds, each counted each time it is reached (what is shared counts as often as it is met; a slice's spare places count too). A statement '..UptoSaid' is the law's where the arguments, and the package variables that the reading takes, are together of bulk at most 1048576: NARROWER than '..Said'. Prove '..Said' where nothing that the law and all that it calls make is longer than what came in: it says more and counts as full. Else prove '..UptoSaid'. A law counts once. -/
mutual
def uptoBulk {H : Type} : DataW H → Nat
  | .lit (.string bytes) => bytes.length + 1
  | .lit _ => 1
  | .nil => 1
  | .ptr d => uptoBulk d + 1
  | .slice elems spare => uptoBulkAll elems + uptoBulkAll spare + 1
  | .agg parts => uptoBulkAll parts + 1
  | .iface _ d => uptoBulk d + 1
  | .map entries => uptoBulkEntries entries + 1
  | .held _ => 1
def uptoBulkAll {H : Type} : List (DataW H) → Nat
  | [] => 0
  | d :: r => uptoBulk d + uptoBulkAll r
def uptoBulkEntries {H : Type} : List (Lit × DataW H) → Nat
  | [] => 0
  | x :: r => uptoBulkEntry x + uptoBulkEntries r
def uptoBulkEntry {H : Type} : Lit × DataW H → Nat
  | (.string bytes, d) => bytes.length + uptoBulk d + 1
  | (_, d) => uptoBulk d + 1
 end
def uptoSmall : (H : Type) → List (DataW H) → Bool := fun _ ds => decide (uptoBulkAll ds ≤ 1048576)
def OpenSpec.upto (s : _root_.Go.ChangeSpec) : _root_.Go.OpenSpec := { _root_.Go.OpenSpec.ofChange s with cond := some uptoSmall }

/-- 'laws.FnExactApplyAction', WHERE WHAT IT READS IS OF BULK AT MOST 1048576: true; the input reads as it did. -/
def fnExactApplyActionUptoRow : OpenClaim := { program := "ytcoocjdkppdlmaa", sum := "6c60d09541a8b7cd9a89c5dfe4a1a15e57daf50a0f4bc45f8a4cea79b7d1475e", func := "loop.example/g00856/laws.FnExactApplyAction", spec := "fnExactApplyAction", unfollowed := true, recurses := true, apart := false, narrowed := true }
def FnExactApplyActionUptoSaid : Prop := fnExactApplyActionUptoRow.holds Try.pinned (OpenSpec.upto fnExactApplyActionSpec)

/-- 'laws.FnExactActionPermutation', WHERE WHAT IT READS IS OF BULK AT MOST 1048576: true; the input reads as it did. -/
def fnExactActionPermutationUptoRow : OpenClaim := { program := "ytcoocjdkppdlmaa", sum := "6c60d09541a8b7cd9a89c5dfe4a1a15e57daf50a0f4bc45f8a4cea79b7d1475e", func := "loop.example/g00856/laws.FnExactActionPermutation", spec := "fnExactActionPermutation", unfollowed := true, recurses := true, apart := false, narrowed := true }
def FnExactActionPermutationUptoSaid : Prop := fnExactActionPermutationUptoRow.holds Try.pinned (OpenSpec.upto fnExactActionPermutationSpec)

/-- 'laws.FnExactArtinAction', WHERE WHAT IT READS IS OF BULK AT MOST 1048576: true; the input reads as it did. -/
def fnExactArtinActionUptoRow : OpenClaim := { program := "ytcoocjdkppdlmaa", sum := "6c60d09541a8b7cd9a89c5dfe4a1a15e57daf50a0f4bc45f8a4cea79b7d1475e", func := "loop.example/g00856/laws.FnExactArtinAction", spec := "fnExactArtinAction", unfollowed := true, recurses := true, apart := false, narrowed := true }
def FnExactArtinActionUptoSaid : Prop := fnExactArtinActionUptoRow.holds Try.pinned (OpenSpec.upto fnExactArtinActionSpec)

/-- 'laws.FnExactIsAction', WHERE WHAT IT READS IS OF BULK AT MOST 1048576: true; the input reads as it did. -/
def fnExactIsActionUptoRow : OpenClaim := { program := "ytcoocjdkppdlmaa", sum := "6c60d09541a8b7cd9a89c5dfe4a1a15e57daf50a0f4bc45f8a4cea79b7d1475e", func := "loop.example/g00856/laws.FnExactIsAction", spec := "fnExactIsAction", unfollowed := true, recurses := true, apart := false, narrowed := true }
def FnExactIsActionUptoSaid : Prop := fnExactIsActionUptoRow.holds Try.pinned (OpenSpec.upto fnExactIsActionSpec)

/-- 'laws.FnExactArtinEqual', WHERE WHAT IT READS IS OF BULK AT MOST 1048576: true; the input reads as it did. -/
def fnExactArtinEqualUptoRow : OpenClaim := { program := "ytcoocjdkppdlmaa", sum := "6c60d09541a8b7cd9a89c5dfe4a1a15e57daf50a0f4bc45f8a4cea79b7d1475e", func := "loop.example/g00856/laws.FnExactArtinEqual", spec := "fnExactArtinEqual", unfollowed := true, recurses := true, apart := false, narrowed := true }
def FnExactArtinEqualUptoSaid : Prop := fnExactArtinEqualUptoRow.holds Try.pinned (OpenSpec.upto fnExactArtinEqualSpec)

/-- 'laws.FnFree', WHERE WHAT IT READS IS OF BULK AT MOST 1048576: true; the input reads as it did. -/
def fnFreeUptoRow : OpenClaim := { program := "ytcoocjdkppdlmaa", sum := "6c60d09541a8b7cd9a89c5dfe4a1a15e57daf50a0f4bc45f8a4cea79b7d1475e", func := "loop.example/g00856/laws.FnFree", spec := "fnFree", unfollowed := true, recurses := true, apart := false, narrowed := true }
def FnFreeUptoSaid : Prop := fnFreeUptoRow.holds Try.pinned (OpenSpec.upto fnFreeSpec)

/-- 'laws.FnActions', WHERE WHAT IT READS IS OF BULK AT MOST 1048576: true; the input reads as it did. -/
def fnActionsUptoRow : OpenClaim := { program := "ytcoocjdkppdlmaa", sum := "6c60d09541a8b7cd9a89c5dfe4a1a15e57daf50a0f4bc45f8a4cea79b7d1475e", func := "loop.example/g00856/laws.FnActions", spec := "fnActions", unfollowed := true, recurses := true, apart := false, narrowed := true }
def FnActionsUptoSaid : Prop := fnActionsUptoRow.holds Try.pinned (OpenSpec.upto fnActionsSpec)

end Rows
end Go.Proofs.Ytcoocjdkppdlmaa
