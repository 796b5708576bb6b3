/-
  No cell of these rows narrows 'for every input' (looked for: loops, veiled, ifaces, maps, wideKeys, modest, calm, conditions, laid).
  DERIVED. THE GIVEN ROWS OF THIS SEAT. 6 by the template 'for every input the law returns true; each argument reads behind the call as it read before'; 0 by the template 'total and deterministic' (their statements: YtabnkmpjhhcadaaTotals.lean).
  GIVEN WITH THE SEED: the statements are not yours to turn. If you find one false, say at which input.
  Laid BY PROGRAM, IN A SANDBOX (cutbox-rows.mjs): the forced cells as the released guide's own fill.sh prints them over the translation 30744900538bdc15… (all of the seat's roots in one cut). By AI agents, Wed Nov 11 2026. No macro, syntax, notation, axiom, sorry.
-/
import Derived.Test.YtabnkmpjhhcadaaChecked
import GoSem.Claim
import GoSem.ClaimJoined
import GoSem.ClaimMapViews
import Derived.JoinedTies
import Derived.KernelRfl
namespace Go.Proofs.Ytabnkmpjhhcadaa
/- THE CELL 'sum', in the pinned program and in every row, IS THE sha256 OF THE DUMP (.gsa) THAT YtabnkmpjhhcadaaProg.lean LOADS. Nothing in Lean hashes anything: it is a label: what it is worth is what the hold of that sum in a sandbox is worth. -/
noncomputable def Try.pinned : Pinned := { name := "ytabnkmpjhhcadaa", sum := "30744900538bdc1588c6805c241ed9831f873cfa8eaeedfc5b8a7feec6fe211c", checked := Try.checked }
namespace Rows
def none {H : Type} : Left H := { results := [], args := [] }

/-- 'laws.FnExactValidPass': WHATEVER THE INPUT: true; the input reads as it did. -/
def fnExactValidPassSpec : ChangeSpec := { name := "fnExactValidPass", fn := fun _ => fun
  | [d] => { results := [.lit (.bool true)], args := [d] }
  | _ => none }
def fnExactValidPassRow : OpenClaim := { program := "ytabnkmpjhhcadaa", sum := "30744900538bdc1588c6805c241ed9831f873cfa8eaeedfc5b8a7feec6fe211c", func := "loop.example/g00856/laws.FnExactValidPass", spec := "fnExactValidPass", apart := false }
def FnExactValidPassSaid : Prop := fnExactValidPassRow.holds Try.pinned (OpenSpec.ofChange fnExactValidPassSpec)

/-- ITS FALSE NEIGHBOUR: 'it returns false'. Refute it at one input. -/
def fnExactValidPassWrong : ChangeSpec := { name := "fnExactValidPass", fn := fun _ => fun
  | [d] => { results := [.lit (.bool false)], args := [d] }
  | _ => none }
def FnExactValidPassWrongFalsely : Prop := fnExactValidPassRow.holds Try.pinned (OpenSpec.ofChange fnExactValidPassWrong)

/-- 'laws.FnExactValidFree': WHATEVER THE INPUT: true; the input reads as it did. -/
def fnExactValidFreeSpec : ChangeSpec := { name := "fnExactValidFree", fn := fun _ => fun
  | [d1, d2] => { results := [.lit (.bool true)], args := [d1, d2] }
  | _ => none }
def fnExactValidFreeRow : OpenClaim := { program := "ytabnkmpjhhcadaa", sum := "30744900538bdc1588c6805c241ed9831f873cfa8eaeedfc5b8a7feec6fe211c", func := "loop.example/g00856/laws.FnExactValidFree", spec := "fnExactValidFree", unfollowed := true, recurses := true, apart := false }
def FnExactValidFreeSaid : Prop := fnExactValidFreeRow.holds Try.pinned (OpenSpec.ofChange fnExactValidFreeSpec)

/-- ITS FALSE NEIGHBOUR: 'it returns false'. Refute it at one input. -/
def fnExactValidFreeWrong : ChangeSpec := { name := "fnExactValidFree", fn := fun _ => fun
  | [d1, d2] => { results := [.lit (.bool false)], args := [d1, d2] }
  | _ => none }
def FnExactValidFreeWrongFalsely : Prop := fnExactValidFreeRow.holds Try.pinned (OpenSpec.ofChange fnExactValidFreeWrong)

/-- 'laws.FnExactValidOp': WHATEVER THE INPUT: true; the input reads as it did. -/
def fnExactValidOpSpec : ChangeSpec := { name := "fnExactValidOp", fn := fun _ => fun
  | [d] => { results := [.lit (.bool true)], args := [d] }
  | _ => none }
def fnExactValidOpRow : OpenClaim := { program := "ytabnkmpjhhcadaa", sum := "30744900538bdc1588c6805c241ed9831f873cfa8eaeedfc5b8a7feec6fe211c", func := "loop.example/g00856/laws.FnExactValidOp", spec := "fnExactValidOp", apart := false }
def FnExactValidOpSaid : Prop := fnExactValidOpRow.holds Try.pinned (OpenSpec.ofChange fnExactValidOpSpec)

/-- ITS FALSE NEIGHBOUR: 'it returns false'. Refute it at one input. -/
def fnExactValidOpWrong : ChangeSpec := { name := "fnExactValidOp", fn := fun _ => fun
  | [d] => { results := [.lit (.bool false)], args := [d] }
  | _ => none }
def FnExactValidOpWrongFalsely : Prop := fnExactValidOpRow.holds Try.pinned (OpenSpec.ofChange fnExactValidOpWrong)

/-- 'laws.FnExactFreeText': WHATEVER THE INPUT: true; the input reads as it did. -/
def fnExactFreeTextSpec : ChangeSpec := { name := "fnExactFreeText", fn := fun _ => fun
  | [d1, d2] => { results := [.lit (.bool true)], args := [d1, d2] }
  | _ => none }
def fnExactFreeTextRow : OpenClaim := { program := "ytabnkmpjhhcadaa", sum := "30744900538bdc1588c6805c241ed9831f873cfa8eaeedfc5b8a7feec6fe211c", func := "loop.example/g00856/laws.FnExactFreeText", spec := "fnExactFreeText", unfollowed := true, recurses := true, apart := false }
def FnExactFreeTextSaid : Prop := fnExactFreeTextRow.holds Try.pinned (OpenSpec.ofChange fnExactFreeTextSpec)

/-- ITS FALSE NEIGHBOUR: 'it returns false'. Refute it at one input. -/
def fnExactFreeTextWrong : ChangeSpec := { name := "fnExactFreeText", fn := fun _ => fun
  | [d1, d2] => { results := [.lit (.bool false)], args := [d1, d2] }
  | _ => none }
def FnExactFreeTextWrongFalsely : Prop := fnExactFreeTextRow.holds Try.pinned (OpenSpec.ofChange fnExactFreeTextWrong)

/-- 'laws.FnExactFreeReduce': WHATEVER THE INPUT: true; the input reads as it did. -/
def fnExactFreeReduceSpec : ChangeSpec := { name := "fnExactFreeReduce", fn := fun _ => fun
  | [d1, d2] => { results := [.lit (.bool true)], args := [d1, d2] }
  | _ => none }
def fnExactFreeReduceRow : OpenClaim := { program := "ytabnkmpjhhcadaa", sum := "30744900538bdc1588c6805c241ed9831f873cfa8eaeedfc5b8a7feec6fe211c", func := "loop.example/g00856/laws.FnExactFreeReduce", spec := "fnExactFreeReduce", unfollowed := true, recurses := true, apart := false }
def FnExactFreeReduceSaid : Prop := fnExactFreeReduceRow.holds Try.pinned (OpenSpec.ofChange fnExactFreeReduceSpec)

/-- ITS FALSE NEIGHBOUR: 'it returns false'. Refute it at one input. -/
def fnExactFreeReduceWrong : ChangeSpec := { name := "fnExactFreeReduce", fn := fun _ => fun
  | [d1, d2] => { results := [.lit (.bool false)], args := [d1, d2] }
  | _ => none }
def FnExactFreeReduceWrongFalsely : Prop := fnExactFreeReduceRow.holds Try.pinned (OpenSpec.ofChange fnExactFreeReduceWrong)

/-- 'laws.FnExactReadFree': WHATEVER THE INPUT: true; the input reads as it did. -/
def fnExactReadFreeSpec : ChangeSpec := { name := "fnExactReadFree", fn := fun _ => fun
  | [d1, d2] => { results := [.lit (.bool true)], args := [d1, d2] }
  | _ => none }
def fnExactReadFreeRow : OpenClaim := { program := "ytabnkmpjhhcadaa", sum := "30744900538bdc1588c6805c241ed9831f873cfa8eaeedfc5b8a7feec6fe211c", func := "loop.example/g00856/laws.FnExactReadFree", spec := "fnExactReadFree", unfollowed := true, recurses := true, apart := false }
def FnExactReadFreeSaid : Prop := fnExactReadFreeRow.holds Try.pinned (OpenSpec.ofChange fnExactReadFreeSpec)

/-- ITS FALSE NEIGHBOUR: 'it returns false'. Refute it at one input. -/
def fnExactReadFreeWrong : ChangeSpec := { name := "fnExactReadFree", fn := fun _ => fun
  | [d1, d2] => { results := [.lit (.bool false)], args := [d1, d2] }
  | _ => none }
def FnExactReadFreeWrongFalsely : Prop := fnExactReadFreeRow.holds Try.pinned (OpenSpec.ofChange fnExactReadFreeWrong)

/- THE SECOND FORM. 'bulk': how many values and letters a reading holds, each counted each time it is reached (what is shared counts as often as it is met; a slice's spare places count too). A statement '..UptoSaid' is the law's where the arguments, and the package variables that the reading takes, are together of bulk at most 1048576: NARROWER than '..Said'. Prove '..Said' where nothing that the law and all that it calls make is longer than what came in: it says more and counts as full. Else prove '..UptoSaid'. A law counts once. -/
mutual
def uptoBulk {H : Type} : DataW H → Nat
  | .lit (.string bytes) => bytes.length + 1
  | .lit _ => 1
  | .nil => 1
  | .ptr d => uptoBulk d + 1
  | .slice elems spare => uptoBulkAll elems + uptoBulkAll spare + 1
  | .agg parts => uptoBulkAll parts + 1
  | .iface _ d => uptoBulk d + 1
  | .map entries => uptoBulkEntries entries + 1
  | .held _ => 1
def uptoBulkAll {H : Type} : List (DataW H) → Nat
  | [] => 0
  | d :: r => uptoBulk d + uptoBulkAll r
def uptoBulkEntries {H : Type} : List (Lit × DataW H) → Nat
  | [] => 0
  | x :: r => uptoBulkEntry x + uptoBulkEntries r
def uptoBulkEntry {H : Type} : Lit × DataW H → Nat
  | (.string bytes, d) => bytes.length + uptoBulk d + 1
  | (_, d) => uptoBulk d + 1
 end
def uptoSmall : (H : Type) → List (DataW H) → Bool := fun _ ds => decide (uptoBulkAll ds ≤ 1048576)
def OpenSpec.upto (s : _root_.Go.ChangeSpec) : _root_.Go.OpenSpec := { _root_.Go.OpenSpec.ofChange s with cond := some uptoSmall }

/-- 'laws.FnExactValidPass', WHERE WHAT IT READS IS OF BULK AT MOST 1048576: true; the input reads as it did. -/
def fnExactValidPassUptoRow : OpenClaim := { program := "ytabnkmpjhhcadaa", sum := "30744900538bdc1588c6805c241ed9831f873cfa8eaeedfc5b8a7feec6fe211c", func := "loop.example/g00856/laws.FnExactValidPass", spec := "fnExactValidPass", apart := false, narrowed := true }
def FnExactValidPassUptoSaid : Prop := fnExactValidPassUptoRow.holds Try.pinned (OpenSpec.upto fnExactValidPassSpec)

/-- 'laws.FnExactValidFree', WHERE WHAT IT READS IS OF BULK AT MOST 1048576: true; the input reads as it did. -/
def fnExactValidFreeUptoRow : OpenClaim := { program := "ytabnkmpjhhcadaa", sum := "30744900538bdc1588c6805c241ed9831f873cfa8eaeedfc5b8a7feec6fe211c", func := "loop.example/g00856/laws.FnExactValidFree", spec := "fnExactValidFree", unfollowed := true, recurses := true, apart := false, narrowed := true }
def FnExactValidFreeUptoSaid : Prop := fnExactValidFreeUptoRow.holds Try.pinned (OpenSpec.upto fnExactValidFreeSpec)

/-- 'laws.FnExactValidOp', WHERE WHAT IT READS IS OF BULK AT MOST 1048576: true; the input reads as it did. -/
def fnExactValidOpUptoRow : OpenClaim := { program := "ytabnkmpjhhcadaa", sum := "30744900538bdc1588c6805c241ed9831f873cfa8eaeedfc5b8a7feec6fe211c", func := "loop.example/g00856/laws.FnExactValidOp", spec := "fnExactValidOp", apart := false, narrowed := true }
def FnExactValidOpUptoSaid : Prop := fnExactValidOpUptoRow.holds Try.pinned (OpenSpec.upto fnExactValidOpSpec)

/-- 'laws.FnExactFreeText', WHERE WHAT IT READS IS OF BULK AT MOST 1048576: true; the input reads as it did. -/
def fnExactFreeTextUptoRow : OpenClaim := { program := "ytabnkmpjhhcadaa", sum := "30744900538bdc1588c6805c241ed9831f873cfa8eaeedfc5b8a7feec6fe211c", func := "loop.example/g00856/laws.FnExactFreeText", spec := "fnExactFreeText", unfollowed := true, recurses := true, apart := false, narrowed := true }
def FnExactFreeTextUptoSaid : Prop := fnExactFreeTextUptoRow.holds Try.pinned (OpenSpec.upto fnExactFreeTextSpec)

/-- 'laws.FnExactFreeReduce', WHERE WHAT IT READS IS OF BULK AT MOST 1048576: true; the input reads as it did. -/
def fnExactFreeReduceUptoRow : OpenClaim := { program := "ytabnkmpjhhcadaa", sum := "30744900538bdc1588c6805c241ed9831f873cfa8eaeedfc5b8a7feec6fe211c", func := "loop.example/g00856/laws.FnExactFreeReduce", spec := "fnExactFreeReduce", unfollowed := true, recurses := true, apart := false, narrowed := true }
def FnExactFreeReduceUptoSaid : Prop := fnExactFreeReduceUptoRow.holds Try.pinned (OpenSpec.upto fnExactFreeReduceSpec)

/-- 'laws.FnExactReadFree', WHERE WHAT IT READS IS OF BULK AT MOST 1048576: true; the input reads as it did. -/
def fnExactReadFreeUptoRow : OpenClaim := { program := "ytabnkmpjhhcadaa", sum := "30744900538bdc1588c6805c241ed9831f873cfa8eaeedfc5b8a7feec6fe211c", func := "loop.example/g00856/laws.FnExactReadFree", spec := "fnExactReadFree", unfollowed := true, recurses := true, apart := false, narrowed := true }
def FnExactReadFreeUptoSaid : Prop := fnExactReadFreeUptoRow.holds Try.pinned (OpenSpec.upto fnExactReadFreeSpec)

end Rows
end Go.Proofs.Ytabnkmpjhhcadaa
