/-
  No cell of these rows narrows 'for every input' (looked for: loops, veiled, ifaces, maps, wideKeys, modest, calm, conditions, laid).
  DERIVED. THE GIVEN ROWS OF THIS SEAT. 8 by the template 'for every input the law returns true; each argument reads behind the call as it read before'; 0 by the template 'total and deterministic' (their statements: YtpiodiliifnckaaTotals.lean).
  GIVEN WITH THE SEED: the statements are not yours to turn. If you find one false, say at which input.
  Laid BY PROGRAM, IN A SANDBOX (cutbox-rows.mjs): the forced cells as the released guide's own fill.sh prints them over the translation df7caa15a87b8a9c… (all of the seat's roots in one cut). By AI agents, Wed Nov 11 2026. No macro, syntax, notation, axiom, sorry.
-/
import Derived.Test.YtpiodiliifnckaaChecked
import GoSem.Claim
import GoSem.ClaimJoined
import GoSem.ClaimMapViews
import Derived.JoinedTies
import Derived.KernelRfl
namespace Go.Proofs.Ytpiodiliifnckaa
/- THE CELL 'sum', in the pinned program and in every row, IS THE sha256 OF THE DUMP (.gsa) THAT YtpiodiliifnckaaProg.lean LOADS. Nothing in Lean hashes anything: it is a label: what it is worth is what the hold of that sum in a sandbox is worth. -/
noncomputable def Try.pinned : Pinned := { name := "ytpiodiliifnckaa", sum := "df7caa15a87b8a9c39c7be4386d670f2fa4b3ca87dfadfbdcf915a66e52ba62d", checked := Try.checked }
namespace Rows
def none {H : Type} : Left H := { results := [], args := [] }

/-- 'laws.FnExactLeastWidth': WHATEVER THE INPUT: true; the input reads as it did. -/
def fnExactLeastWidthSpec : ChangeSpec := { name := "fnExactLeastWidth", fn := fun _ => fun
  | [d] => { results := [.lit (.bool true)], args := [d] }
  | _ => none }
def fnExactLeastWidthRow : OpenClaim := { program := "ytpiodiliifnckaa", sum := "df7caa15a87b8a9c39c7be4386d670f2fa4b3ca87dfadfbdcf915a66e52ba62d", func := "loop.example/g00856/laws.FnExactLeastWidth", spec := "fnExactLeastWidth", unfollowed := true, recurses := true, apart := false }
def FnExactLeastWidthSaid : Prop := fnExactLeastWidthRow.holds Try.pinned (OpenSpec.ofChange fnExactLeastWidthSpec)

/-- ITS FALSE NEIGHBOUR: 'it returns false'. Refute it at one input. -/
def fnExactLeastWidthWrong : ChangeSpec := { name := "fnExactLeastWidth", fn := fun _ => fun
  | [d] => { results := [.lit (.bool false)], args := [d] }
  | _ => none }
def FnExactLeastWidthWrongFalsely : Prop := fnExactLeastWidthRow.holds Try.pinned (OpenSpec.ofChange fnExactLeastWidthWrong)

/-- 'laws.FnExactKindCounts': WHATEVER THE INPUT: true; the input reads as it did. -/
def fnExactKindCountsSpec : ChangeSpec := { name := "fnExactKindCounts", fn := fun _ => fun
  | [d] => { results := [.lit (.bool true)], args := [d] }
  | _ => none }
def fnExactKindCountsRow : OpenClaim := { program := "ytpiodiliifnckaa", sum := "df7caa15a87b8a9c39c7be4386d670f2fa4b3ca87dfadfbdcf915a66e52ba62d", func := "loop.example/g00856/laws.FnExactKindCounts", spec := "fnExactKindCounts", unfollowed := true, recurses := true, apart := false }
def FnExactKindCountsSaid : Prop := fnExactKindCountsRow.holds Try.pinned (OpenSpec.ofChange fnExactKindCountsSpec)

/-- ITS FALSE NEIGHBOUR: 'it returns false'. Refute it at one input. -/
def fnExactKindCountsWrong : ChangeSpec := { name := "fnExactKindCounts", fn := fun _ => fun
  | [d] => { results := [.lit (.bool false)], args := [d] }
  | _ => none }
def FnExactKindCountsWrongFalsely : Prop := fnExactKindCountsRow.holds Try.pinned (OpenSpec.ofChange fnExactKindCountsWrong)

/-- 'laws.FnExactMirrorProgram': WHATEVER THE INPUT: true; the input reads as it did. -/
def fnExactMirrorProgramSpec : ChangeSpec := { name := "fnExactMirrorProgram", fn := fun _ => fun
  | [d1, d2] => { results := [.lit (.bool true)], args := [d1, d2] }
  | _ => none }
def fnExactMirrorProgramRow : OpenClaim := { program := "ytpiodiliifnckaa", sum := "df7caa15a87b8a9c39c7be4386d670f2fa4b3ca87dfadfbdcf915a66e52ba62d", func := "loop.example/g00856/laws.FnExactMirrorProgram", spec := "fnExactMirrorProgram", unfollowed := true, recurses := true, apart := false }
def FnExactMirrorProgramSaid : Prop := fnExactMirrorProgramRow.holds Try.pinned (OpenSpec.ofChange fnExactMirrorProgramSpec)

/-- ITS FALSE NEIGHBOUR: 'it returns false'. Refute it at one input. -/
def fnExactMirrorProgramWrong : ChangeSpec := { name := "fnExactMirrorProgram", fn := fun _ => fun
  | [d1, d2] => { results := [.lit (.bool false)], args := [d1, d2] }
  | _ => none }
def FnExactMirrorProgramWrongFalsely : Prop := fnExactMirrorProgramRow.holds Try.pinned (OpenSpec.ofChange fnExactMirrorProgramWrong)

/-- 'laws.FnExactShiftProgram': WHATEVER THE INPUT: true; the input reads as it did. -/
def fnExactShiftProgramSpec : ChangeSpec := { name := "fnExactShiftProgram", fn := fun _ => fun
  | [d1, d2, d3] => { results := [.lit (.bool true)], args := [d1, d2, d3] }
  | _ => none }
def fnExactShiftProgramRow : OpenClaim := { program := "ytpiodiliifnckaa", sum := "df7caa15a87b8a9c39c7be4386d670f2fa4b3ca87dfadfbdcf915a66e52ba62d", func := "loop.example/g00856/laws.FnExactShiftProgram", spec := "fnExactShiftProgram", unfollowed := true, recurses := true, apart := false }
def FnExactShiftProgramSaid : Prop := fnExactShiftProgramRow.holds Try.pinned (OpenSpec.ofChange fnExactShiftProgramSpec)

/-- ITS FALSE NEIGHBOUR: 'it returns false'. Refute it at one input. -/
def fnExactShiftProgramWrong : ChangeSpec := { name := "fnExactShiftProgram", fn := fun _ => fun
  | [d1, d2, d3] => { results := [.lit (.bool false)], args := [d1, d2, d3] }
  | _ => none }
def FnExactShiftProgramWrongFalsely : Prop := fnExactShiftProgramRow.holds Try.pinned (OpenSpec.ofChange fnExactShiftProgramWrong)

/-- 'laws.FnExactCountPasses': WHATEVER THE INPUT: true; the input reads as it did. -/
def fnExactCountPassesSpec : ChangeSpec := { name := "fnExactCountPasses", fn := fun _ => fun
  | [d] => { results := [.lit (.bool true)], args := [d] }
  | _ => none }
def fnExactCountPassesRow : OpenClaim := { program := "ytpiodiliifnckaa", sum := "df7caa15a87b8a9c39c7be4386d670f2fa4b3ca87dfadfbdcf915a66e52ba62d", func := "loop.example/g00856/laws.FnExactCountPasses", spec := "fnExactCountPasses", unfollowed := true, recurses := true, apart := false }
def FnExactCountPassesSaid : Prop := fnExactCountPassesRow.holds Try.pinned (OpenSpec.ofChange fnExactCountPassesSpec)

/-- ITS FALSE NEIGHBOUR: 'it returns false'. Refute it at one input. -/
def fnExactCountPassesWrong : ChangeSpec := { name := "fnExactCountPasses", fn := fun _ => fun
  | [d] => { results := [.lit (.bool false)], args := [d] }
  | _ => none }
def FnExactCountPassesWrongFalsely : Prop := fnExactCountPassesRow.holds Try.pinned (OpenSpec.ofChange fnExactCountPassesWrong)

/-- 'laws.FnExactReturnsOf': WHATEVER THE INPUT: true; the input reads as it did. -/
def fnExactReturnsOfSpec : ChangeSpec := { name := "fnExactReturnsOf", fn := fun _ => fun
  | [d] => { results := [.lit (.bool true)], args := [d] }
  | _ => none }
def fnExactReturnsOfRow : OpenClaim := { program := "ytpiodiliifnckaa", sum := "df7caa15a87b8a9c39c7be4386d670f2fa4b3ca87dfadfbdcf915a66e52ba62d", func := "loop.example/g00856/laws.FnExactReturnsOf", spec := "fnExactReturnsOf", unfollowed := true, recurses := true, apart := false }
def FnExactReturnsOfSaid : Prop := fnExactReturnsOfRow.holds Try.pinned (OpenSpec.ofChange fnExactReturnsOfSpec)

/-- ITS FALSE NEIGHBOUR: 'it returns false'. Refute it at one input. -/
def fnExactReturnsOfWrong : ChangeSpec := { name := "fnExactReturnsOf", fn := fun _ => fun
  | [d] => { results := [.lit (.bool false)], args := [d] }
  | _ => none }
def FnExactReturnsOfWrongFalsely : Prop := fnExactReturnsOfRow.holds Try.pinned (OpenSpec.ofChange fnExactReturnsOfWrong)

/-- 'laws.FnExactPassOf': WHATEVER THE INPUT: true; the input reads as it did. -/
def fnExactPassOfSpec : ChangeSpec := { name := "fnExactPassOf", fn := fun _ => fun
  | [d1, d2] => { results := [.lit (.bool true)], args := [d1, d2] }
  | _ => none }
def fnExactPassOfRow : OpenClaim := { program := "ytpiodiliifnckaa", sum := "df7caa15a87b8a9c39c7be4386d670f2fa4b3ca87dfadfbdcf915a66e52ba62d", func := "loop.example/g00856/laws.FnExactPassOf", spec := "fnExactPassOf", unfollowed := true, recurses := true, apart := false }
def FnExactPassOfSaid : Prop := fnExactPassOfRow.holds Try.pinned (OpenSpec.ofChange fnExactPassOfSpec)

/-- ITS FALSE NEIGHBOUR: 'it returns false'. Refute it at one input. -/
def fnExactPassOfWrong : ChangeSpec := { name := "fnExactPassOf", fn := fun _ => fun
  | [d1, d2] => { results := [.lit (.bool false)], args := [d1, d2] }
  | _ => none }
def FnExactPassOfWrongFalsely : Prop := fnExactPassOfRow.holds Try.pinned (OpenSpec.ofChange fnExactPassOfWrong)

/-- 'laws.FnExactCarriersUsed': WHATEVER THE INPUT: true; the input reads as it did. -/
def fnExactCarriersUsedSpec : ChangeSpec := { name := "fnExactCarriersUsed", fn := fun _ => fun
  | [d] => { results := [.lit (.bool true)], args := [d] }
  | _ => none }
def fnExactCarriersUsedRow : OpenClaim := { program := "ytpiodiliifnckaa", sum := "df7caa15a87b8a9c39c7be4386d670f2fa4b3ca87dfadfbdcf915a66e52ba62d", func := "loop.example/g00856/laws.FnExactCarriersUsed", spec := "fnExactCarriersUsed", unfollowed := true, recurses := true, apart := false }
def FnExactCarriersUsedSaid : Prop := fnExactCarriersUsedRow.holds Try.pinned (OpenSpec.ofChange fnExactCarriersUsedSpec)

/-- ITS FALSE NEIGHBOUR: 'it returns false'. Refute it at one input. -/
def fnExactCarriersUsedWrong : ChangeSpec := { name := "fnExactCarriersUsed", fn := fun _ => fun
  | [d] => { results := [.lit (.bool false)], args := [d] }
  | _ => none }
def FnExactCarriersUsedWrongFalsely : Prop := fnExactCarriersUsedRow.holds Try.pinned (OpenSpec.ofChange fnExactCarriersUsedWrong)

/- THE SECOND FORM. 'bulk': how many values and letters a reading holds, each counted each time it is reached (what is shared counts as often as it is met; a slice's spare places count too). A statement '..UptoSaid' is the law's where the arguments, and the package variables that the reading takes, are together of bulk at most 1048576: NARROWER than '..Said'. Prove '..Said' where nothing that the law and all that it calls make is longer than what came in: it says more and counts as full. Else prove '..UptoSaid'. A law counts once. -/
mutual
def uptoBulk {H : Type} : DataW H → Nat
  | .lit (.string bytes) => bytes.length + 1
  | .lit _ => 1
  | .nil => 1
  | .ptr d => uptoBulk d + 1
  | .slice elems spare => uptoBulkAll elems + uptoBulkAll spare + 1
  | .agg parts => uptoBulkAll parts + 1
  | .iface _ d => uptoBulk d + 1
  | .map entries => uptoBulkEntries entries + 1
  | .held _ => 1
def uptoBulkAll {H : Type} : List (DataW H) → Nat
  | [] => 0
  | d :: r => uptoBulk d + uptoBulkAll r
def uptoBulkEntries {H : Type} : List (Lit × DataW H) → Nat
  | [] => 0
  | x :: r => uptoBulkEntry x + uptoBulkEntries r
def uptoBulkEntry {H : Type} : Lit × DataW H → Nat
  | (.string bytes, d) => bytes.length + uptoBulk d + 1
  | (_, d) => uptoBulk d + 1
 end
def uptoSmall : (H : Type) → List (DataW H) → Bool := fun _ ds => decide (uptoBulkAll ds ≤ 1048576)
def OpenSpec.upto (s : _root_.Go.ChangeSpec) : _root_.Go.OpenSpec := { _root_.Go.OpenSpec.ofChange s with cond := some uptoSmall }

/-- 'laws.FnExactLeastWidth', WHERE WHAT IT READS IS OF BULK AT MOST 1048576: true; the input reads as it did. -/
def fnExactLeastWidthUptoRow : OpenClaim := { program := "ytpiodiliifnckaa", sum := "df7caa15a87b8a9c39c7be4386d670f2fa4b3ca87dfadfbdcf915a66e52ba62d", func := "loop.example/g00856/laws.FnExactLeastWidth", spec := "fnExactLeastWidth", unfollowed := true, recurses := true, apart := false, narrowed := true }
def FnExactLeastWidthUptoSaid : Prop := fnExactLeastWidthUptoRow.holds Try.pinned (OpenSpec.upto fnExactLeastWidthSpec)

/-- 'laws.FnExactKindCounts', WHERE WHAT IT READS IS OF BULK AT MOST 1048576: true; the input reads as it did. -/
def fnExactKindCountsUptoRow : OpenClaim := { program := "ytpiodiliifnckaa", sum := "df7caa15a87b8a9c39c7be4386d670f2fa4b3ca87dfadfbdcf915a66e52ba62d", func := "loop.example/g00856/laws.FnExactKindCounts", spec := "fnExactKindCounts", unfollowed := true, recurses := true, apart := false, narrowed := true }
def FnExactKindCountsUptoSaid : Prop := fnExactKindCountsUptoRow.holds Try.pinned (OpenSpec.upto fnExactKindCountsSpec)

/-- 'laws.FnExactMirrorProgram', WHERE WHAT IT READS IS OF BULK AT MOST 1048576: true; the input reads as it did. -/
def fnExactMirrorProgramUptoRow : OpenClaim := { program := "ytpiodiliifnckaa", sum := "df7caa15a87b8a9c39c7be4386d670f2fa4b3ca87dfadfbdcf915a66e52ba62d", func := "loop.example/g00856/laws.FnExactMirrorProgram", spec := "fnExactMirrorProgram", unfollowed := true, recurses := true, apart := false, narrowed := true }
def FnExactMirrorProgramUptoSaid : Prop := fnExactMirrorProgramUptoRow.holds Try.pinned (OpenSpec.upto fnExactMirrorProgramSpec)

/-- 'laws.FnExactShiftProgram', WHERE WHAT IT READS IS OF BULK AT MOST 1048576: true; the input reads as it did. -/
def fnExactShiftProgramUptoRow : OpenClaim := { program := "ytpiodiliifnckaa", sum := "df7caa15a87b8a9c39c7be4386d670f2fa4b3ca87dfadfbdcf915a66e52ba62d", func := "loop.example/g00856/laws.FnExactShiftProgram", spec := "fnExactShiftProgram", unfollowed := true, recurses := true, apart := false, narrowed := true }
def FnExactShiftProgramUptoSaid : Prop := fnExactShiftProgramUptoRow.holds Try.pinned (OpenSpec.upto fnExactShiftProgramSpec)

/-- 'laws.FnExactCountPasses', WHERE WHAT IT READS IS OF BULK AT MOST 1048576: true; the input reads as it did. -/
def fnExactCountPassesUptoRow : OpenClaim := { program := "ytpiodiliifnckaa", sum := "df7caa15a87b8a9c39c7be4386d670f2fa4b3ca87dfadfbdcf915a66e52ba62d", func := "loop.example/g00856/laws.FnExactCountPasses", spec := "fnExactCountPasses", unfollowed := true, recurses := true, apart := false, narrowed := true }
def FnExactCountPassesUptoSaid : Prop := fnExactCountPassesUptoRow.holds Try.pinned (OpenSpec.upto fnExactCountPassesSpec)

/-- 'laws.FnExactReturnsOf', WHERE WHAT IT READS IS OF BULK AT MOST 1048576: true; the input reads as it did. -/
def fnExactReturnsOfUptoRow : OpenClaim := { program := "ytpiodiliifnckaa", sum := "df7caa15a87b8a9c39c7be4386d670f2fa4b3ca87dfadfbdcf915a66e52ba62d", func := "loop.example/g00856/laws.FnExactReturnsOf", spec := "fnExactReturnsOf", unfollowed := true, recurses := true, apart := false, narrowed := true }
def FnExactReturnsOfUptoSaid : Prop := fnExactReturnsOfUptoRow.holds Try.pinned (OpenSpec.upto fnExactReturnsOfSpec)

/-- 'laws.FnExactPassOf', WHERE WHAT IT READS IS OF BULK AT MOST 1048576: true; the input reads as it did. -/
def fnExactPassOfUptoRow : OpenClaim := { program := "ytpiodiliifnckaa", sum := "df7caa15a87b8a9c39c7be4386d670f2fa4b3ca87dfadfbdcf915a66e52ba62d", func := "loop.example/g00856/laws.FnExactPassOf", spec := "fnExactPassOf", unfollowed := true, recurses := true, apart := false, narrowed := true }
def FnExactPassOfUptoSaid : Prop := fnExactPassOfUptoRow.holds Try.pinned (OpenSpec.upto fnExactPassOfSpec)

/-- 'laws.FnExactCarriersUsed', WHERE WHAT IT READS IS OF BULK AT MOST 1048576: true; the input reads as it did. -/
def fnExactCarriersUsedUptoRow : OpenClaim := { program := "ytpiodiliifnckaa", sum := "df7caa15a87b8a9c39c7be4386d670f2fa4b3ca87dfadfbdcf915a66e52ba62d", func := "loop.example/g00856/laws.FnExactCarriersUsed", spec := "fnExactCarriersUsed", unfollowed := true, recurses := true, apart := false, narrowed := true }
def FnExactCarriersUsedUptoSaid : Prop := fnExactCarriersUsedUptoRow.holds Try.pinned (OpenSpec.upto fnExactCarriersUsedSpec)

end Rows
end Go.Proofs.Ytpiodiliifnckaa
