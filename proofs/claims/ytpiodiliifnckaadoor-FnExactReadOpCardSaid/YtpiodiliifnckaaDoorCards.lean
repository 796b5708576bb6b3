/-
  DERIVED. GIVEN WITH THE SEED: THE CARDS: each row of YtpiodiliifnckaaDoorRows.lean that lists a variable, with what it lists TIED to the program's text (the seventh form; the later family's looks); each row that meets fmt, with fmt's text TOLD by the authors' own Lean function (tested against real Go, not proved from fmt's source: count such statements apart). THE CARD IS WHAT COUNTS. Prove the row's statement (the work); the ties are given (YtpiodiliifnckaaDoorTie.lean); close each card by the builder's one call (the guide's Derived/Test/ToyasCard.lean, 'card_holds'). Laid BY PROGRAM, IN A SANDBOX (cutbox-door.mjs). By AI agents, Wed Nov 11 2026. No macro, syntax, notation, axiom, sorry.
-/
import Derived.Test.YtpiodiliifnckaaDoorRows
import GoSem.ClaimSeven
namespace Go.Proofs.YtpiodiliifnckaaDoor
namespace Rows

/-- THE TIED CARD OF 'laws.FnExactPassText'. -/
def fnExactPassTextCard : Claim7 := { stood := { row := fnExactPassTextRow, standIns := [], harness := (true, "99fc03cb0b473d211328585e0806f8e8d446f5e166bf798ae92649e7be8a05fa"), looks := true }, kinds := [], alts := [], laidByText := true, laidKinds := [.data, .data, .data], laidTests := true, laidLooks := .later }
def FnExactPassTextCardSaid : Prop := Claim7.holds Tryd.pinned (.plain (OpenSpec.ofChange fnExactPassTextSpec)) fnExactPassTextCard

/-- THE TIED CARD OF 'laws.FnExactOpText'. -/
def fnExactOpTextCard : Claim7 := { stood := { row := fnExactOpTextRow, standIns := [], harness := (true, "99fc03cb0b473d211328585e0806f8e8d446f5e166bf798ae92649e7be8a05fa"), looks := true }, kinds := [], alts := [], laidByText := true, laidKinds := [.data, .data, .data], laidTests := true, laidLooks := .later }
def FnExactOpTextCardSaid : Prop := Claim7.holds Tryd.pinned (.plain (OpenSpec.ofChange fnExactOpTextSpec)) fnExactOpTextCard

/-- THE TIED CARD OF 'laws.FnExactProgramText'. -/
def fnExactProgramTextCard : Claim7 := { stood := { row := fnExactProgramTextRow, standIns := [], harness := (true, "99fc03cb0b473d211328585e0806f8e8d446f5e166bf798ae92649e7be8a05fa"), looks := true }, kinds := [], alts := [], laidByText := true, laidKinds := [.data, .data, .data], laidTests := true, laidLooks := .later }
def FnExactProgramTextCardSaid : Prop := Claim7.holds Tryd.pinned (.plain (OpenSpec.ofChange fnExactProgramTextSpec)) fnExactProgramTextCard

/-- THE TIED CARD OF 'laws.FnExactReadOp'. -/
def fnExactReadOpCard : Claim7 := { stood := { row := fnExactReadOpRow, standIns := [], harness := (true, "99fc03cb0b473d211328585e0806f8e8d446f5e166bf798ae92649e7be8a05fa"), looks := true }, kinds := [], alts := [], laidByText := true, laidKinds := [.data, .data, .data, .data, .sentinel, .sentinel, .pinned], laidTests := true, laidLooks := .later }
def FnExactReadOpCardSaid : Prop := Claim7.holds Tryd.pinned (.plain (OpenSpec.ofChange fnExactReadOpSpec)) fnExactReadOpCard

/-- THE SECOND FORM's CARD OF 'laws.FnExactPassText'. -/
def fnExactPassTextUptoCard : Claim7 := { stood := { row := fnExactPassTextUptoRow, standIns := [], harness := (true, "99fc03cb0b473d211328585e0806f8e8d446f5e166bf798ae92649e7be8a05fa"), looks := true }, kinds := [], alts := [], laidByText := true, laidKinds := [.data, .data, .data], laidTests := true, laidLooks := .later }
def FnExactPassTextUptoCardSaid : Prop := Claim7.holds Tryd.pinned (.plain (OpenSpec.upto fnExactPassTextSpec)) fnExactPassTextUptoCard

/-- THE SECOND FORM's CARD OF 'laws.FnExactOpText'. -/
def fnExactOpTextUptoCard : Claim7 := { stood := { row := fnExactOpTextUptoRow, standIns := [], harness := (true, "99fc03cb0b473d211328585e0806f8e8d446f5e166bf798ae92649e7be8a05fa"), looks := true }, kinds := [], alts := [], laidByText := true, laidKinds := [.data, .data, .data], laidTests := true, laidLooks := .later }
def FnExactOpTextUptoCardSaid : Prop := Claim7.holds Tryd.pinned (.plain (OpenSpec.upto fnExactOpTextSpec)) fnExactOpTextUptoCard

/-- THE SECOND FORM's CARD OF 'laws.FnExactProgramText'. -/
def fnExactProgramTextUptoCard : Claim7 := { stood := { row := fnExactProgramTextUptoRow, standIns := [], harness := (true, "99fc03cb0b473d211328585e0806f8e8d446f5e166bf798ae92649e7be8a05fa"), looks := true }, kinds := [], alts := [], laidByText := true, laidKinds := [.data, .data, .data], laidTests := true, laidLooks := .later }
def FnExactProgramTextUptoCardSaid : Prop := Claim7.holds Tryd.pinned (.plain (OpenSpec.upto fnExactProgramTextSpec)) fnExactProgramTextUptoCard

/-- THE SECOND FORM's CARD OF 'laws.FnExactReadOp'. -/
def fnExactReadOpUptoCard : Claim7 := { stood := { row := fnExactReadOpUptoRow, standIns := [], harness := (true, "99fc03cb0b473d211328585e0806f8e8d446f5e166bf798ae92649e7be8a05fa"), looks := true }, kinds := [], alts := [], laidByText := true, laidKinds := [.data, .data, .data, .data, .sentinel, .sentinel, .pinned], laidTests := true, laidLooks := .later }
def FnExactReadOpUptoCardSaid : Prop := Claim7.holds Tryd.pinned (.plain (OpenSpec.upto fnExactReadOpSpec)) fnExactReadOpUptoCard
end Rows
end Go.Proofs.YtpiodiliifnckaaDoor
