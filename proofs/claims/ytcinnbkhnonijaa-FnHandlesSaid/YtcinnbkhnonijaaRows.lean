/-
  No cell of these rows narrows 'for every input' (looked for: loops, veiled, ifaces, maps, wideKeys, modest, calm, conditions, laid).
  DERIVED. THE GIVEN ROWS OF THIS SEAT. 4 by the template 'for every input the law returns true; each argument reads behind the call as it read before'; 0 by the template 'total and deterministic' (their statements: YtcinnbkhnonijaaTotals.lean).
  GIVEN WITH THE SEED: the statements are not yours to turn. If you find one false, say at which input.
  Laid BY PROGRAM, IN A SANDBOX (cutbox-rows.mjs): the forced cells as the released guide's own fill.sh prints them over the translation a82d53e6091f6901… (all of the seat's roots in one cut). By AI agents, Wed Nov 11 2026. No macro, syntax, notation, axiom, sorry.
-/
import Derived.Test.YtcinnbkhnonijaaChecked
import GoSem.Claim
import GoSem.ClaimJoined
import GoSem.ClaimMapViews
import Derived.JoinedTies
import Derived.KernelRfl
namespace Go.Proofs.Ytcinnbkhnonijaa
/- THE CELL 'sum', in the pinned program and in every row, IS THE sha256 OF THE DUMP (.gsa) THAT YtcinnbkhnonijaaProg.lean LOADS. Nothing in Lean hashes anything: it is a label: what it is worth is what the hold of that sum in a sandbox is worth. -/
noncomputable def Try.pinned : Pinned := { name := "ytcinnbkhnonijaa", sum := "a82d53e6091f69016d9184f1e9c6c7a7eb5c9a919f587a86a54e761529b15454", checked := Try.checked }
namespace Rows
def none {H : Type} : Left H := { results := [], args := [] }

/-- 'laws.FnArtin': WHATEVER THE INPUT: true; the input reads as it did. -/
def fnArtinSpec : ChangeSpec := { name := "fnArtin", fn := fun _ => fun
  | [d] => { results := [.lit (.bool true)], args := [d] }
  | _ => none }
def fnArtinRow : OpenClaim := { program := "ytcinnbkhnonijaa", sum := "a82d53e6091f69016d9184f1e9c6c7a7eb5c9a919f587a86a54e761529b15454", func := "loop.example/g00856/laws.FnArtin", spec := "fnArtin", unfollowed := true, recurses := true, apart := false }
def FnArtinSaid : Prop := fnArtinRow.holds Try.pinned (OpenSpec.ofChange fnArtinSpec)

/-- ITS FALSE NEIGHBOUR: 'it returns false'. Refute it at one input. -/
def fnArtinWrong : ChangeSpec := { name := "fnArtin", fn := fun _ => fun
  | [d] => { results := [.lit (.bool false)], args := [d] }
  | _ => none }
def FnArtinWrongFalsely : Prop := fnArtinRow.holds Try.pinned (OpenSpec.ofChange fnArtinWrong)

/-- 'laws.FnHandles': WHATEVER THE INPUT: true; the input reads as it did. -/
def fnHandlesSpec : ChangeSpec := { name := "fnHandles", fn := fun _ => fun
  | [d] => { results := [.lit (.bool true)], args := [d] }
  | _ => none }
def fnHandlesRow : OpenClaim := { program := "ytcinnbkhnonijaa", sum := "a82d53e6091f69016d9184f1e9c6c7a7eb5c9a919f587a86a54e761529b15454", func := "loop.example/g00856/laws.FnHandles", spec := "fnHandles", unfollowed := true, recurses := true, apart := false }
def FnHandlesSaid : Prop := fnHandlesRow.holds Try.pinned (OpenSpec.ofChange fnHandlesSpec)

/-- ITS FALSE NEIGHBOUR: 'it returns false'. Refute it at one input. -/
def fnHandlesWrong : ChangeSpec := { name := "fnHandles", fn := fun _ => fun
  | [d] => { results := [.lit (.bool false)], args := [d] }
  | _ => none }
def FnHandlesWrongFalsely : Prop := fnHandlesRow.holds Try.pinned (OpenSpec.ofChange fnHandlesWrong)

/-- 'laws.FnHandleSteps': WHATEVER THE INPUT: true; the input reads as it did. -/
def fnHandleStepsSpec : ChangeSpec := { name := "fnHandleSteps", fn := fun _ => fun
  | [d] => { results := [.lit (.bool true)], args := [d] }
  | _ => none }
def fnHandleStepsRow : OpenClaim := { program := "ytcinnbkhnonijaa", sum := "a82d53e6091f69016d9184f1e9c6c7a7eb5c9a919f587a86a54e761529b15454", func := "loop.example/g00856/laws.FnHandleSteps", spec := "fnHandleSteps", unfollowed := true, recurses := true, apart := false }
def FnHandleStepsSaid : Prop := fnHandleStepsRow.holds Try.pinned (OpenSpec.ofChange fnHandleStepsSpec)

/-- ITS FALSE NEIGHBOUR: 'it returns false'. Refute it at one input. -/
def fnHandleStepsWrong : ChangeSpec := { name := "fnHandleSteps", fn := fun _ => fun
  | [d] => { results := [.lit (.bool false)], args := [d] }
  | _ => none }
def FnHandleStepsWrongFalsely : Prop := fnHandleStepsRow.holds Try.pinned (OpenSpec.ofChange fnHandleStepsWrong)

/-- 'laws.FnOrderBraids': WHATEVER THE INPUT: true; the input reads as it did. -/
def fnOrderBraidsSpec : ChangeSpec := { name := "fnOrderBraids", fn := fun _ => fun
  | [d] => { results := [.lit (.bool true)], args := [d] }
  | _ => none }
def fnOrderBraidsRow : OpenClaim := { program := "ytcinnbkhnonijaa", sum := "a82d53e6091f69016d9184f1e9c6c7a7eb5c9a919f587a86a54e761529b15454", func := "loop.example/g00856/laws.FnOrderBraids", spec := "fnOrderBraids", unfollowed := true, recurses := true, apart := false }
def FnOrderBraidsSaid : Prop := fnOrderBraidsRow.holds Try.pinned (OpenSpec.ofChange fnOrderBraidsSpec)

/-- ITS FALSE NEIGHBOUR: 'it returns false'. Refute it at one input. -/
def fnOrderBraidsWrong : ChangeSpec := { name := "fnOrderBraids", fn := fun _ => fun
  | [d] => { results := [.lit (.bool false)], args := [d] }
  | _ => none }
def FnOrderBraidsWrongFalsely : Prop := fnOrderBraidsRow.holds Try.pinned (OpenSpec.ofChange fnOrderBraidsWrong)

/- THE SECOND FORM. 'bulk': how many values and letters a reading holds, each counted each time it is reached (what is shared counts as often as it is met; a slice's spare places count too). A statement '..UptoSaid' is the law's where the arguments, and the package variables that the reading takes, are together of bulk at most 1048576: NARROWER than '..Said'. Prove '..Said' where nothing that the law and all that it calls make is longer than what came in: it says more and counts as full. Else prove '..UptoSaid'. A law counts once. -/
mutual
def uptoBulk {H : Type} : DataW H → Nat
  | .lit (.string bytes) => bytes.length + 1
  | .lit _ => 1
  | .nil => 1
  | .ptr d => uptoBulk d + 1
  | .slice elems spare => uptoBulkAll elems + uptoBulkAll spare + 1
  | .agg parts => uptoBulkAll parts + 1
  | .iface _ d => uptoBulk d + 1
  | .map entries => uptoBulkEntries entries + 1
  | .held _ => 1
def uptoBulkAll {H : Type} : List (DataW H) → Nat
  | [] => 0
  | d :: r => uptoBulk d + uptoBulkAll r
def uptoBulkEntries {H : Type} : List (Lit × DataW H) → Nat
  | [] => 0
  | x :: r => uptoBulkEntry x + uptoBulkEntries r
def uptoBulkEntry {H : Type} : Lit × DataW H → Nat
  | (.string bytes, d) => bytes.length + uptoBulk d + 1
  | (_, d) => uptoBulk d + 1
 end
def uptoSmall : (H : Type) → List (DataW H) → Bool := fun _ ds => decide (uptoBulkAll ds ≤ 1048576)
def OpenSpec.upto (s : _root_.Go.ChangeSpec) : _root_.Go.OpenSpec := { _root_.Go.OpenSpec.ofChange s with cond := some uptoSmall }

/-- 'laws.FnArtin', WHERE WHAT IT READS IS OF BULK AT MOST 1048576: true; the input reads as it did. -/
def fnArtinUptoRow : OpenClaim := { program := "ytcinnbkhnonijaa", sum := "a82d53e6091f69016d9184f1e9c6c7a7eb5c9a919f587a86a54e761529b15454", func := "loop.example/g00856/laws.FnArtin", spec := "fnArtin", unfollowed := true, recurses := true, apart := false, narrowed := true }
def FnArtinUptoSaid : Prop := fnArtinUptoRow.holds Try.pinned (OpenSpec.upto fnArtinSpec)

/-- 'laws.FnHandles', WHERE WHAT IT READS IS OF BULK AT MOST 1048576: true; the input reads as it did. -/
def fnHandlesUptoRow : OpenClaim := { program := "ytcinnbkhnonijaa", sum := "a82d53e6091f69016d9184f1e9c6c7a7eb5c9a919f587a86a54e761529b15454", func := "loop.example/g00856/laws.FnHandles", spec := "fnHandles", unfollowed := true, recurses := true, apart := false, narrowed := true }
def FnHandlesUptoSaid : Prop := fnHandlesUptoRow.holds Try.pinned (OpenSpec.upto fnHandlesSpec)

/-- 'laws.FnHandleSteps', WHERE WHAT IT READS IS OF BULK AT MOST 1048576: true; the input reads as it did. -/
def fnHandleStepsUptoRow : OpenClaim := { program := "ytcinnbkhnonijaa", sum := "a82d53e6091f69016d9184f1e9c6c7a7eb5c9a919f587a86a54e761529b15454", func := "loop.example/g00856/laws.FnHandleSteps", spec := "fnHandleSteps", unfollowed := true, recurses := true, apart := false, narrowed := true }
def FnHandleStepsUptoSaid : Prop := fnHandleStepsUptoRow.holds Try.pinned (OpenSpec.upto fnHandleStepsSpec)

/-- 'laws.FnOrderBraids', WHERE WHAT IT READS IS OF BULK AT MOST 1048576: true; the input reads as it did. -/
def fnOrderBraidsUptoRow : OpenClaim := { program := "ytcinnbkhnonijaa", sum := "a82d53e6091f69016d9184f1e9c6c7a7eb5c9a919f587a86a54e761529b15454", func := "loop.example/g00856/laws.FnOrderBraids", spec := "fnOrderBraids", unfollowed := true, recurses := true, apart := false, narrowed := true }
def FnOrderBraidsUptoSaid : Prop := fnOrderBraidsUptoRow.holds Try.pinned (OpenSpec.upto fnOrderBraidsSpec)

end Rows
end Go.Proofs.Ytcinnbkhnonijaa
