/-
  No cell of these rows narrows 'for every input' (looked for: loops, veiled, ifaces, maps, wideKeys, modest, calm, conditions, laid).
  DERIVED. THE GIVEN ROWS OF THIS SEAT. 9 by the template 'for every input the law returns true; each argument reads behind the call as it read before'; 0 by the template 'total and deterministic' (their statements: YtbefioljddhhpaaTotals.lean).
  GIVEN WITH THE SEED: the statements are not yours to turn. If you find one false, say at which input.
  Laid BY PROGRAM, IN A SANDBOX (cutbox-rows.mjs): the forced cells as the released guide's own fill.sh prints them over the translation f0be32190a7a9848… (all of the seat's roots in one cut). By AI agents, Wed Nov 11 2026. No macro, syntax, notation, axiom, sorry.
-/
import Derived.Test.YtbefioljddhhpaaChecked
import GoSem.Claim
import GoSem.ClaimJoined
import GoSem.ClaimMapViews
import Derived.JoinedTies
import Derived.KernelRfl
namespace Go.Proofs.Ytbefioljddhhpaa
/- THE CELL 'sum', in the pinned program and in every row, IS THE sha256 OF THE DUMP (.gsa) THAT YtbefioljddhhpaaProg.lean LOADS. Nothing in Lean hashes anything: it is a label: what it is worth is what the hold of that sum in a sandbox is worth. -/
noncomputable def Try.pinned : Pinned := { name := "ytbefioljddhhpaa", sum := "f0be32190a7a98489d829d56a8edbb386225d7050554daee43b97f46718db648", checked := Try.checked }
namespace Rows
def none {H : Type} : Left H := { results := [], args := [] }

/-- 'laws.FnExactNewMachine': WHATEVER THE INPUT: true; the input reads as it did. -/
def fnExactNewMachineSpec : ChangeSpec := { name := "fnExactNewMachine", fn := fun _ => fun
  | [d] => { results := [.lit (.bool true)], args := [d] }
  | _ => none }
def fnExactNewMachineRow : OpenClaim := { program := "ytbefioljddhhpaa", sum := "f0be32190a7a98489d829d56a8edbb386225d7050554daee43b97f46718db648", func := "loop.example/g00856/laws.FnExactNewMachine", spec := "fnExactNewMachine", apart := false }
def FnExactNewMachineSaid : Prop := fnExactNewMachineRow.holds Try.pinned (OpenSpec.ofChange fnExactNewMachineSpec)

/-- ITS FALSE NEIGHBOUR: 'it returns false'. Refute it at one input. -/
def fnExactNewMachineWrong : ChangeSpec := { name := "fnExactNewMachine", fn := fun _ => fun
  | [d] => { results := [.lit (.bool false)], args := [d] }
  | _ => none }
def FnExactNewMachineWrongFalsely : Prop := fnExactNewMachineRow.holds Try.pinned (OpenSpec.ofChange fnExactNewMachineWrong)

/-- 'laws.FnExactSameMachine': WHATEVER THE INPUT: true; the input reads as it did. -/
def fnExactSameMachineSpec : ChangeSpec := { name := "fnExactSameMachine", fn := fun _ => fun
  | [d1, d2] => { results := [.lit (.bool true)], args := [d1, d2] }
  | _ => none }
def fnExactSameMachineRow : OpenClaim := { program := "ytbefioljddhhpaa", sum := "f0be32190a7a98489d829d56a8edbb386225d7050554daee43b97f46718db648", func := "loop.example/g00856/laws.FnExactSameMachine", spec := "fnExactSameMachine", unfollowed := true, recurses := true, apart := false }
def FnExactSameMachineSaid : Prop := fnExactSameMachineRow.holds Try.pinned (OpenSpec.ofChange fnExactSameMachineSpec)

/-- ITS FALSE NEIGHBOUR: 'it returns false'. Refute it at one input. -/
def fnExactSameMachineWrong : ChangeSpec := { name := "fnExactSameMachine", fn := fun _ => fun
  | [d1, d2] => { results := [.lit (.bool false)], args := [d1, d2] }
  | _ => none }
def FnExactSameMachineWrongFalsely : Prop := fnExactSameMachineRow.holds Try.pinned (OpenSpec.ofChange fnExactSameMachineWrong)

/-- 'laws.FnExactValidMachine': WHATEVER THE INPUT: true; the input reads as it did. -/
def fnExactValidMachineSpec : ChangeSpec := { name := "fnExactValidMachine", fn := fun _ => fun
  | [d] => { results := [.lit (.bool true)], args := [d] }
  | _ => none }
def fnExactValidMachineRow : OpenClaim := { program := "ytbefioljddhhpaa", sum := "f0be32190a7a98489d829d56a8edbb386225d7050554daee43b97f46718db648", func := "loop.example/g00856/laws.FnExactValidMachine", spec := "fnExactValidMachine", apart := false }
def FnExactValidMachineSaid : Prop := fnExactValidMachineRow.holds Try.pinned (OpenSpec.ofChange fnExactValidMachineSpec)

/-- ITS FALSE NEIGHBOUR: 'it returns false'. Refute it at one input. -/
def fnExactValidMachineWrong : ChangeSpec := { name := "fnExactValidMachine", fn := fun _ => fun
  | [d] => { results := [.lit (.bool false)], args := [d] }
  | _ => none }
def FnExactValidMachineWrongFalsely : Prop := fnExactValidMachineRow.holds Try.pinned (OpenSpec.ofChange fnExactValidMachineWrong)

/-- 'laws.FnExactPlaceOf': WHATEVER THE INPUT: true; the input reads as it did. -/
def fnExactPlaceOfSpec : ChangeSpec := { name := "fnExactPlaceOf", fn := fun _ => fun
  | [d1, d2] => { results := [.lit (.bool true)], args := [d1, d2] }
  | _ => none }
def fnExactPlaceOfRow : OpenClaim := { program := "ytbefioljddhhpaa", sum := "f0be32190a7a98489d829d56a8edbb386225d7050554daee43b97f46718db648", func := "loop.example/g00856/laws.FnExactPlaceOf", spec := "fnExactPlaceOf", apart := false }
def FnExactPlaceOfSaid : Prop := fnExactPlaceOfRow.holds Try.pinned (OpenSpec.ofChange fnExactPlaceOfSpec)

/-- ITS FALSE NEIGHBOUR: 'it returns false'. Refute it at one input. -/
def fnExactPlaceOfWrong : ChangeSpec := { name := "fnExactPlaceOf", fn := fun _ => fun
  | [d1, d2] => { results := [.lit (.bool false)], args := [d1, d2] }
  | _ => none }
def FnExactPlaceOfWrongFalsely : Prop := fnExactPlaceOfRow.holds Try.pinned (OpenSpec.ofChange fnExactPlaceOfWrong)

/-- 'laws.FnExactFacingOf': WHATEVER THE INPUT: true; the input reads as it did. -/
def fnExactFacingOfSpec : ChangeSpec := { name := "fnExactFacingOf", fn := fun _ => fun
  | [d1, d2] => { results := [.lit (.bool true)], args := [d1, d2] }
  | _ => none }
def fnExactFacingOfRow : OpenClaim := { program := "ytbefioljddhhpaa", sum := "f0be32190a7a98489d829d56a8edbb386225d7050554daee43b97f46718db648", func := "loop.example/g00856/laws.FnExactFacingOf", spec := "fnExactFacingOf", apart := false }
def FnExactFacingOfSaid : Prop := fnExactFacingOfRow.holds Try.pinned (OpenSpec.ofChange fnExactFacingOfSpec)

/-- ITS FALSE NEIGHBOUR: 'it returns false'. Refute it at one input. -/
def fnExactFacingOfWrong : ChangeSpec := { name := "fnExactFacingOf", fn := fun _ => fun
  | [d1, d2] => { results := [.lit (.bool false)], args := [d1, d2] }
  | _ => none }
def FnExactFacingOfWrongFalsely : Prop := fnExactFacingOfRow.holds Try.pinned (OpenSpec.ofChange fnExactFacingOfWrong)

/-- 'laws.FnExactLoopsOn': WHATEVER THE INPUT: true; the input reads as it did. -/
def fnExactLoopsOnSpec : ChangeSpec := { name := "fnExactLoopsOn", fn := fun _ => fun
  | [d1, d2] => { results := [.lit (.bool true)], args := [d1, d2] }
  | _ => none }
def fnExactLoopsOnRow : OpenClaim := { program := "ytbefioljddhhpaa", sum := "f0be32190a7a98489d829d56a8edbb386225d7050554daee43b97f46718db648", func := "loop.example/g00856/laws.FnExactLoopsOn", spec := "fnExactLoopsOn", apart := false }
def FnExactLoopsOnSaid : Prop := fnExactLoopsOnRow.holds Try.pinned (OpenSpec.ofChange fnExactLoopsOnSpec)

/-- ITS FALSE NEIGHBOUR: 'it returns false'. Refute it at one input. -/
def fnExactLoopsOnWrong : ChangeSpec := { name := "fnExactLoopsOn", fn := fun _ => fun
  | [d1, d2] => { results := [.lit (.bool false)], args := [d1, d2] }
  | _ => none }
def FnExactLoopsOnWrongFalsely : Prop := fnExactLoopsOnRow.holds Try.pinned (OpenSpec.ofChange fnExactLoopsOnWrong)

/-- 'laws.FnExactLiveLoops': WHATEVER THE INPUT: true; the input reads as it did. -/
def fnExactLiveLoopsSpec : ChangeSpec := { name := "fnExactLiveLoops", fn := fun _ => fun
  | [d] => { results := [.lit (.bool true)], args := [d] }
  | _ => none }
def fnExactLiveLoopsRow : OpenClaim := { program := "ytbefioljddhhpaa", sum := "f0be32190a7a98489d829d56a8edbb386225d7050554daee43b97f46718db648", func := "loop.example/g00856/laws.FnExactLiveLoops", spec := "fnExactLiveLoops", apart := false }
def FnExactLiveLoopsSaid : Prop := fnExactLiveLoopsRow.holds Try.pinned (OpenSpec.ofChange fnExactLiveLoopsSpec)

/-- ITS FALSE NEIGHBOUR: 'it returns false'. Refute it at one input. -/
def fnExactLiveLoopsWrong : ChangeSpec := { name := "fnExactLiveLoops", fn := fun _ => fun
  | [d] => { results := [.lit (.bool false)], args := [d] }
  | _ => none }
def FnExactLiveLoopsWrongFalsely : Prop := fnExactLiveLoopsRow.holds Try.pinned (OpenSpec.ofChange fnExactLiveLoopsWrong)

/-- 'laws.FnExactCheckProgram': WHATEVER THE INPUT: true; the input reads as it did. -/
def fnExactCheckProgramSpec : ChangeSpec := { name := "fnExactCheckProgram", fn := fun _ => fun
  | [d1, d2] => { results := [.lit (.bool true)], args := [d1, d2] }
  | _ => none }
def fnExactCheckProgramRow : OpenClaim := { program := "ytbefioljddhhpaa", sum := "f0be32190a7a98489d829d56a8edbb386225d7050554daee43b97f46718db648", func := "loop.example/g00856/laws.FnExactCheckProgram", spec := "fnExactCheckProgram", unfollowed := true, recurses := true, apart := false }
def FnExactCheckProgramSaid : Prop := fnExactCheckProgramRow.holds Try.pinned (OpenSpec.ofChange fnExactCheckProgramSpec)

/-- ITS FALSE NEIGHBOUR: 'it returns false'. Refute it at one input. -/
def fnExactCheckProgramWrong : ChangeSpec := { name := "fnExactCheckProgram", fn := fun _ => fun
  | [d1, d2] => { results := [.lit (.bool false)], args := [d1, d2] }
  | _ => none }
def FnExactCheckProgramWrongFalsely : Prop := fnExactCheckProgramRow.holds Try.pinned (OpenSpec.ofChange fnExactCheckProgramWrong)

/-- 'laws.FnExactRunMachine': WHATEVER THE INPUT: true; the input reads as it did. -/
def fnExactRunMachineSpec : ChangeSpec := { name := "fnExactRunMachine", fn := fun _ => fun
  | [d1, d2] => { results := [.lit (.bool true)], args := [d1, d2] }
  | _ => none }
def fnExactRunMachineRow : OpenClaim := { program := "ytbefioljddhhpaa", sum := "f0be32190a7a98489d829d56a8edbb386225d7050554daee43b97f46718db648", func := "loop.example/g00856/laws.FnExactRunMachine", spec := "fnExactRunMachine", unfollowed := true, recurses := true, apart := false }
def FnExactRunMachineSaid : Prop := fnExactRunMachineRow.holds Try.pinned (OpenSpec.ofChange fnExactRunMachineSpec)

/-- ITS FALSE NEIGHBOUR: 'it returns false'. Refute it at one input. -/
def fnExactRunMachineWrong : ChangeSpec := { name := "fnExactRunMachine", fn := fun _ => fun
  | [d1, d2] => { results := [.lit (.bool false)], args := [d1, d2] }
  | _ => none }
def FnExactRunMachineWrongFalsely : Prop := fnExactRunMachineRow.holds Try.pinned (OpenSpec.ofChange fnExactRunMachineWrong)

/- THE SECOND FORM. 'bulk': how many values and letters a reading holds, each counted each time it is reached (what is shared counts as often as it is met; a slice's spare places count too). A statement '..UptoSaid' is the law's where the arguments, and the package variables that the reading takes, are together of bulk at most 1048576: NARROWER than '..Said'. Prove '..Said' where nothing that the law and all that it calls make is longer than what came in: it says more and counts as full. Else prove '..UptoSaid'. A law counts once. -/
mutual
def uptoBulk {H : Type} : DataW H → Nat
  | .lit (.string bytes) => bytes.length + 1
  | .lit _ => 1
  | .nil => 1
  | .ptr d => uptoBulk d + 1
  | .slice elems spare => uptoBulkAll elems + uptoBulkAll spare + 1
  | .agg parts => uptoBulkAll parts + 1
  | .iface _ d => uptoBulk d + 1
  | .map entries => uptoBulkEntries entries + 1
  | .held _ => 1
def uptoBulkAll {H : Type} : List (DataW H) → Nat
  | [] => 0
  | d :: r => uptoBulk d + uptoBulkAll r
def uptoBulkEntries {H : Type} : List (Lit × DataW H) → Nat
  | [] => 0
  | x :: r => uptoBulkEntry x + uptoBulkEntries r
def uptoBulkEntry {H : Type} : Lit × DataW H → Nat
  | (.string bytes, d) => bytes.length + uptoBulk d + 1
  | (_, d) => uptoBulk d + 1
 end
def uptoSmall : (H : Type) → List (DataW H) → Bool := fun _ ds => decide (uptoBulkAll ds ≤ 1048576)
def OpenSpec.upto (s : _root_.Go.ChangeSpec) : _root_.Go.OpenSpec := { _root_.Go.OpenSpec.ofChange s with cond := some uptoSmall }

/-- 'laws.FnExactNewMachine', WHERE WHAT IT READS IS OF BULK AT MOST 1048576: true; the input reads as it did. -/
def fnExactNewMachineUptoRow : OpenClaim := { program := "ytbefioljddhhpaa", sum := "f0be32190a7a98489d829d56a8edbb386225d7050554daee43b97f46718db648", func := "loop.example/g00856/laws.FnExactNewMachine", spec := "fnExactNewMachine", apart := false, narrowed := true }
def FnExactNewMachineUptoSaid : Prop := fnExactNewMachineUptoRow.holds Try.pinned (OpenSpec.upto fnExactNewMachineSpec)

/-- 'laws.FnExactSameMachine', WHERE WHAT IT READS IS OF BULK AT MOST 1048576: true; the input reads as it did. -/
def fnExactSameMachineUptoRow : OpenClaim := { program := "ytbefioljddhhpaa", sum := "f0be32190a7a98489d829d56a8edbb386225d7050554daee43b97f46718db648", func := "loop.example/g00856/laws.FnExactSameMachine", spec := "fnExactSameMachine", unfollowed := true, recurses := true, apart := false, narrowed := true }
def FnExactSameMachineUptoSaid : Prop := fnExactSameMachineUptoRow.holds Try.pinned (OpenSpec.upto fnExactSameMachineSpec)

/-- 'laws.FnExactValidMachine', WHERE WHAT IT READS IS OF BULK AT MOST 1048576: true; the input reads as it did. -/
def fnExactValidMachineUptoRow : OpenClaim := { program := "ytbefioljddhhpaa", sum := "f0be32190a7a98489d829d56a8edbb386225d7050554daee43b97f46718db648", func := "loop.example/g00856/laws.FnExactValidMachine", spec := "fnExactValidMachine", apart := false, narrowed := true }
def FnExactValidMachineUptoSaid : Prop := fnExactValidMachineUptoRow.holds Try.pinned (OpenSpec.upto fnExactValidMachineSpec)

/-- 'laws.FnExactPlaceOf', WHERE WHAT IT READS IS OF BULK AT MOST 1048576: true; the input reads as it did. -/
def fnExactPlaceOfUptoRow : OpenClaim := { program := "ytbefioljddhhpaa", sum := "f0be32190a7a98489d829d56a8edbb386225d7050554daee43b97f46718db648", func := "loop.example/g00856/laws.FnExactPlaceOf", spec := "fnExactPlaceOf", apart := false, narrowed := true }
def FnExactPlaceOfUptoSaid : Prop := fnExactPlaceOfUptoRow.holds Try.pinned (OpenSpec.upto fnExactPlaceOfSpec)

/-- 'laws.FnExactFacingOf', WHERE WHAT IT READS IS OF BULK AT MOST 1048576: true; the input reads as it did. -/
def fnExactFacingOfUptoRow : OpenClaim := { program := "ytbefioljddhhpaa", sum := "f0be32190a7a98489d829d56a8edbb386225d7050554daee43b97f46718db648", func := "loop.example/g00856/laws.FnExactFacingOf", spec := "fnExactFacingOf", apart := false, narrowed := true }
def FnExactFacingOfUptoSaid : Prop := fnExactFacingOfUptoRow.holds Try.pinned (OpenSpec.upto fnExactFacingOfSpec)

/-- 'laws.FnExactLoopsOn', WHERE WHAT IT READS IS OF BULK AT MOST 1048576: true; the input reads as it did. -/
def fnExactLoopsOnUptoRow : OpenClaim := { program := "ytbefioljddhhpaa", sum := "f0be32190a7a98489d829d56a8edbb386225d7050554daee43b97f46718db648", func := "loop.example/g00856/laws.FnExactLoopsOn", spec := "fnExactLoopsOn", apart := false, narrowed := true }
def FnExactLoopsOnUptoSaid : Prop := fnExactLoopsOnUptoRow.holds Try.pinned (OpenSpec.upto fnExactLoopsOnSpec)

/-- 'laws.FnExactLiveLoops', WHERE WHAT IT READS IS OF BULK AT MOST 1048576: true; the input reads as it did. -/
def fnExactLiveLoopsUptoRow : OpenClaim := { program := "ytbefioljddhhpaa", sum := "f0be32190a7a98489d829d56a8edbb386225d7050554daee43b97f46718db648", func := "loop.example/g00856/laws.FnExactLiveLoops", spec := "fnExactLiveLoops", apart := false, narrowed := true }
def FnExactLiveLoopsUptoSaid : Prop := fnExactLiveLoopsUptoRow.holds Try.pinned (OpenSpec.upto fnExactLiveLoopsSpec)

/-- 'laws.FnExactCheckProgram', WHERE WHAT IT READS IS OF BULK AT MOST 1048576: true; the input reads as it did. -/
def fnExactCheckProgramUptoRow : OpenClaim := { program := "ytbefioljddhhpaa", sum := "f0be32190a7a98489d829d56a8edbb386225d7050554daee43b97f46718db648", func := "loop.example/g00856/laws.FnExactCheckProgram", spec := "fnExactCheckProgram", unfollowed := true, recurses := true, apart := false, narrowed := true }
def FnExactCheckProgramUptoSaid : Prop := fnExactCheckProgramUptoRow.holds Try.pinned (OpenSpec.upto fnExactCheckProgramSpec)

/-- 'laws.FnExactRunMachine', WHERE WHAT IT READS IS OF BULK AT MOST 1048576: true; the input reads as it did. -/
def fnExactRunMachineUptoRow : OpenClaim := { program := "ytbefioljddhhpaa", sum := "f0be32190a7a98489d829d56a8edbb386225d7050554daee43b97f46718db648", func := "loop.example/g00856/laws.FnExactRunMachine", spec := "fnExactRunMachine", unfollowed := true, recurses := true, apart := false, narrowed := true }
def FnExactRunMachineUptoSaid : Prop := fnExactRunMachineUptoRow.holds Try.pinned (OpenSpec.upto fnExactRunMachineSpec)

end Rows
end Go.Proofs.Ytbefioljddhhpaa
