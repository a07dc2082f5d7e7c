/-
  DERIVED. GIVEN WITH THE SEED: THE CARDS: each row of YtenilfkkpoajbaaGreatDoorRows.lean that lists a variable, with what it lists TIED to the program's text (the seventh form; the later family's looks); each row that meets fmt, with fmt's text TOLD by the authors' own Lean function (tested against real Go, not proved from fmt's source: count such statements apart). THE CARD IS WHAT COUNTS. Prove the row's statement (the work); the ties are given (YtenilfkkpoajbaaGreatDoorTie.lean); close each card by the builder's one call (the guide's Derived/Test/ToyasCard.lean, 'card_holds'). Laid BY PROGRAM, IN A SANDBOX (cutbox-door.mjs). By AI agents, Wed Nov 11 2026. No macro, syntax, notation, axiom, sorry.
-/
import Derived.Test.YtenilfkkpoajbaaGreatDoorRows
import GoSem.ClaimSeven
namespace Go.Proofs.YtenilfkkpoajbaaGreatDoor
namespace Rows

/-- THE TIED CARD OF 'abacistlaw10.FuncsTell'. -/
def funcsTellCard : Claim7 := { stood := { row := funcsTellRow, standIns := [], harness := (true, "da41ef0c3e4d4a00890858d3abd236977e0f1371da42f8f5d81c3397ed1b6664"), looks := true }, kinds := [], alts := [], laidByText := true, laidKinds := [.data, .data, .data], laidTests := true, laidLooks := .later }
def FuncsTellCardSaid : Prop := Claim7.holds Tryz.pinned (.plain (OpenSpec.ofChange funcsTellSpec)) funcsTellCard

/-- THE TIED CARD OF 'abacistlaw21.InputKinds'. -/
def inputKindsCard : Claim7 := { stood := { row := inputKindsRow, standIns := [], harness := (true, "da41ef0c3e4d4a00890858d3abd236977e0f1371da42f8f5d81c3397ed1b6664"), looks := true }, kinds := [], alts := [], laidByText := true, laidKinds := [.data, .data, .data, .data, .sentinel, .sentinel, .pinned], laidTests := true, laidLooks := .later }
def InputKindsCardSaid : Prop := Claim7.holds Tryz.pinned (.plain (OpenSpec.ofChange inputKindsSpec)) inputKindsCard

/-- THE SECOND FORM's CARD OF 'abacistlaw10.FuncsTell'. -/
def funcsTellUptoCard : Claim7 := { stood := { row := funcsTellUptoRow, standIns := [], harness := (true, "da41ef0c3e4d4a00890858d3abd236977e0f1371da42f8f5d81c3397ed1b6664"), looks := true }, kinds := [], alts := [], laidByText := true, laidKinds := [.data, .data, .data], laidTests := true, laidLooks := .later }
def FuncsTellUptoCardSaid : Prop := Claim7.holds Tryz.pinned (.plain (OpenSpec.upto funcsTellSpec)) funcsTellUptoCard

/-- THE SECOND FORM's CARD OF 'abacistlaw21.InputKinds'. -/
def inputKindsUptoCard : Claim7 := { stood := { row := inputKindsUptoRow, standIns := [], harness := (true, "da41ef0c3e4d4a00890858d3abd236977e0f1371da42f8f5d81c3397ed1b6664"), looks := true }, kinds := [], alts := [], laidByText := true, laidKinds := [.data, .data, .data, .data, .sentinel, .sentinel, .pinned], laidTests := true, laidLooks := .later }
def InputKindsUptoCardSaid : Prop := Claim7.holds Tryz.pinned (.plain (OpenSpec.upto inputKindsSpec)) inputKindsUptoCard
end Rows
end Go.Proofs.YtenilfkkpoajbaaGreatDoor
