/-
  DERIVED. GIVEN WITH THE SEED: THE CARDS: each row of YtenilfkkpoajbaaDoorRows.lean that lists a variable, with what it lists TIED to the program's text (the seventh form; the later family's looks); each row that meets fmt, with fmt's text TOLD by the authors' own Lean function (tested against real Go, not proved from fmt's source: count such statements apart). THE CARD IS WHAT COUNTS. Prove the row's statement (the work); the ties are given (YtenilfkkpoajbaaDoorTie.lean); close each card by the builder's one call (the guide's Derived/Test/ToyasCard.lean, 'card_holds'). Laid BY PROGRAM, IN A SANDBOX (cutbox-door.mjs). By AI agents, Wed Nov 11 2026. No macro, syntax, notation, axiom, sorry.
-/
import Derived.Test.YtenilfkkpoajbaaDoorRows
import GoSem.ClaimSeven
namespace Go.Proofs.YtenilfkkpoajbaaDoor
namespace Rows

/-- THE TIED CARD OF 'abacistlaw2.ArithTells'. -/
def arithTellsCard : Claim7 := { stood := { row := arithTellsRow, standIns := [], harness := (true, "5571bf24430a1d790641f67bf136891a657edd54b0ea751be79342b61dbf54a7"), looks := true }, kinds := [], alts := [], laidByText := true, laidKinds := [.data, .data, .data], laidTests := true, laidLooks := .later }
def ArithTellsCardSaid : Prop := Claim7.holds Tryd.pinned (.plain (OpenSpec.ofChange arithTellsSpec)) arithTellsCard

/-- THE TIED CARD OF 'abacistlaw3.AddrBack'. -/
def addrBackCard : Claim7 := { stood := { row := addrBackRow, standIns := [], harness := (true, "5571bf24430a1d790641f67bf136891a657edd54b0ea751be79342b61dbf54a7"), looks := true }, kinds := [], alts := [], laidByText := true, laidKinds := [.data, .data, .data, .sentinel, .sentinel], laidTests := true, laidLooks := .later }
def AddrBackCardSaid : Prop := Claim7.holds Tryd.pinned (.plain (OpenSpec.ofChange addrBackSpec)) addrBackCard

/-- THE TIED CARD OF 'abacistlaw3.AddrColumns'. -/
def addrColumnsCard : Claim7 := { stood := { row := addrColumnsRow, standIns := [], harness := (true, "5571bf24430a1d790641f67bf136891a657edd54b0ea751be79342b61dbf54a7"), looks := true }, kinds := [], alts := [], laidByText := true, laidKinds := [.data, .data, .data, .sentinel, .sentinel], laidTests := true, laidLooks := .later }
def AddrColumnsCardSaid : Prop := Claim7.holds Tryd.pinned (.plain (OpenSpec.ofChange addrColumnsSpec)) addrColumnsCard

/-- THE TIED CARD OF 'abacistlaw3.AddrTells'. -/
def addrTellsCard : Claim7 := { stood := { row := addrTellsRow, standIns := [], harness := (true, "5571bf24430a1d790641f67bf136891a657edd54b0ea751be79342b61dbf54a7"), looks := true }, kinds := [], alts := [], laidByText := true, laidKinds := [.data, .data, .data, .sentinel, .sentinel], laidTests := true, laidLooks := .later }
def AddrTellsCardSaid : Prop := Claim7.holds Tryd.pinned (.plain (OpenSpec.ofChange addrTellsSpec)) addrTellsCard

/-- THE TIED CARD OF 'abacistlaw3.AddrIn'. -/
def addrInCard : Claim7 := { stood := { row := addrInRow, standIns := [], harness := (true, "5571bf24430a1d790641f67bf136891a657edd54b0ea751be79342b61dbf54a7"), looks := true }, kinds := [], alts := [], laidByText := true, laidKinds := [.data, .data, .data, .sentinel, .sentinel], laidTests := true, laidLooks := .later }
def AddrInCardSaid : Prop := Claim7.holds Tryd.pinned (.plain (OpenSpec.ofChange addrInSpec)) addrInCard

/-- THE TIED CARD OF 'abacistlaw10.FuncsArgs'. -/
def funcsArgsCard : Claim7 := { stood := { row := funcsArgsRow, standIns := [], harness := (true, "5571bf24430a1d790641f67bf136891a657edd54b0ea751be79342b61dbf54a7"), looks := true }, kinds := [], alts := [], laidByText := true, laidKinds := [.data, .data, .data], laidTests := true, laidLooks := .later }
def FuncsArgsCardSaid : Prop := Claim7.holds Tryd.pinned (.plain (OpenSpec.ofChange funcsArgsSpec)) funcsArgsCard

/-- THE TIED CARD OF 'abacistlaw10.FuncsErrors'. -/
def funcsErrorsCard : Claim7 := { stood := { row := funcsErrorsRow, standIns := [], harness := (true, "5571bf24430a1d790641f67bf136891a657edd54b0ea751be79342b61dbf54a7"), looks := true }, kinds := [], alts := [], laidByText := true, laidKinds := [.data, .data, .data], laidTests := true, laidLooks := .later }
def FuncsErrorsCardSaid : Prop := Claim7.holds Tryd.pinned (.plain (OpenSpec.ofChange funcsErrorsSpec)) funcsErrorsCard

/-- THE TIED CARD OF 'abacistlaw10.FuncsNumbers'. -/
def funcsNumbersCard : Claim7 := { stood := { row := funcsNumbersRow, standIns := [], harness := (true, "5571bf24430a1d790641f67bf136891a657edd54b0ea751be79342b61dbf54a7"), looks := true }, kinds := [], alts := [], laidByText := true, laidKinds := [.data, .data, .data], laidTests := true, laidLooks := .later }
def FuncsNumbersCardSaid : Prop := Claim7.holds Tryd.pinned (.plain (OpenSpec.ofChange funcsNumbersSpec)) funcsNumbersCard

/-- THE TIED CARD OF 'abacistlaw6.ParseRanks'. -/
def parseRanksCard : Claim7 := { stood := { row := parseRanksRow, standIns := [], harness := (true, "5571bf24430a1d790641f67bf136891a657edd54b0ea751be79342b61dbf54a7"), looks := true }, kinds := [], alts := [], laidByText := true, laidKinds := [.data, .data, .data, .sentinel, .sentinel], laidTests := true, laidLooks := .later }
def ParseRanksCardSaid : Prop := Claim7.holds Tryd.pinned (.plain (OpenSpec.ofChange parseRanksSpec)) parseRanksCard

/-- THE TIED CARD OF 'abacistlaw6.ParseWrong'. -/
def parseWrongCard : Claim7 := { stood := { row := parseWrongRow, standIns := [], harness := (true, "5571bf24430a1d790641f67bf136891a657edd54b0ea751be79342b61dbf54a7"), looks := true }, kinds := [], alts := [], laidByText := true, laidKinds := [.data, .data, .data, .sentinel, .sentinel], laidTests := true, laidLooks := .later }
def ParseWrongCardSaid : Prop := Claim7.holds Tryd.pinned (.plain (OpenSpec.ofChange parseWrongSpec)) parseWrongCard

/-- THE SECOND FORM's CARD OF 'abacistlaw2.ArithTells'. -/
def arithTellsUptoCard : Claim7 := { stood := { row := arithTellsUptoRow, standIns := [], harness := (true, "5571bf24430a1d790641f67bf136891a657edd54b0ea751be79342b61dbf54a7"), looks := true }, kinds := [], alts := [], laidByText := true, laidKinds := [.data, .data, .data], laidTests := true, laidLooks := .later }
def ArithTellsUptoCardSaid : Prop := Claim7.holds Tryd.pinned (.plain (OpenSpec.upto arithTellsSpec)) arithTellsUptoCard

/-- THE SECOND FORM's CARD OF 'abacistlaw3.AddrBack'. -/
def addrBackUptoCard : Claim7 := { stood := { row := addrBackUptoRow, standIns := [], harness := (true, "5571bf24430a1d790641f67bf136891a657edd54b0ea751be79342b61dbf54a7"), looks := true }, kinds := [], alts := [], laidByText := true, laidKinds := [.data, .data, .data, .sentinel, .sentinel], laidTests := true, laidLooks := .later }
def AddrBackUptoCardSaid : Prop := Claim7.holds Tryd.pinned (.plain (OpenSpec.upto addrBackSpec)) addrBackUptoCard

/-- THE SECOND FORM's CARD OF 'abacistlaw3.AddrColumns'. -/
def addrColumnsUptoCard : Claim7 := { stood := { row := addrColumnsUptoRow, standIns := [], harness := (true, "5571bf24430a1d790641f67bf136891a657edd54b0ea751be79342b61dbf54a7"), looks := true }, kinds := [], alts := [], laidByText := true, laidKinds := [.data, .data, .data, .sentinel, .sentinel], laidTests := true, laidLooks := .later }
def AddrColumnsUptoCardSaid : Prop := Claim7.holds Tryd.pinned (.plain (OpenSpec.upto addrColumnsSpec)) addrColumnsUptoCard

/-- THE SECOND FORM's CARD OF 'abacistlaw3.AddrTells'. -/
def addrTellsUptoCard : Claim7 := { stood := { row := addrTellsUptoRow, standIns := [], harness := (true, "5571bf24430a1d790641f67bf136891a657edd54b0ea751be79342b61dbf54a7"), looks := true }, kinds := [], alts := [], laidByText := true, laidKinds := [.data, .data, .data, .sentinel, .sentinel], laidTests := true, laidLooks := .later }
def AddrTellsUptoCardSaid : Prop := Claim7.holds Tryd.pinned (.plain (OpenSpec.upto addrTellsSpec)) addrTellsUptoCard

/-- THE SECOND FORM's CARD OF 'abacistlaw3.AddrIn'. -/
def addrInUptoCard : Claim7 := { stood := { row := addrInUptoRow, standIns := [], harness := (true, "5571bf24430a1d790641f67bf136891a657edd54b0ea751be79342b61dbf54a7"), looks := true }, kinds := [], alts := [], laidByText := true, laidKinds := [.data, .data, .data, .sentinel, .sentinel], laidTests := true, laidLooks := .later }
def AddrInUptoCardSaid : Prop := Claim7.holds Tryd.pinned (.plain (OpenSpec.upto addrInSpec)) addrInUptoCard

/-- THE SECOND FORM's CARD OF 'abacistlaw10.FuncsArgs'. -/
def funcsArgsUptoCard : Claim7 := { stood := { row := funcsArgsUptoRow, standIns := [], harness := (true, "5571bf24430a1d790641f67bf136891a657edd54b0ea751be79342b61dbf54a7"), looks := true }, kinds := [], alts := [], laidByText := true, laidKinds := [.data, .data, .data], laidTests := true, laidLooks := .later }
def FuncsArgsUptoCardSaid : Prop := Claim7.holds Tryd.pinned (.plain (OpenSpec.upto funcsArgsSpec)) funcsArgsUptoCard

/-- THE SECOND FORM's CARD OF 'abacistlaw10.FuncsErrors'. -/
def funcsErrorsUptoCard : Claim7 := { stood := { row := funcsErrorsUptoRow, standIns := [], harness := (true, "5571bf24430a1d790641f67bf136891a657edd54b0ea751be79342b61dbf54a7"), looks := true }, kinds := [], alts := [], laidByText := true, laidKinds := [.data, .data, .data], laidTests := true, laidLooks := .later }
def FuncsErrorsUptoCardSaid : Prop := Claim7.holds Tryd.pinned (.plain (OpenSpec.upto funcsErrorsSpec)) funcsErrorsUptoCard

/-- THE SECOND FORM's CARD OF 'abacistlaw10.FuncsNumbers'. -/
def funcsNumbersUptoCard : Claim7 := { stood := { row := funcsNumbersUptoRow, standIns := [], harness := (true, "5571bf24430a1d790641f67bf136891a657edd54b0ea751be79342b61dbf54a7"), looks := true }, kinds := [], alts := [], laidByText := true, laidKinds := [.data, .data, .data], laidTests := true, laidLooks := .later }
def FuncsNumbersUptoCardSaid : Prop := Claim7.holds Tryd.pinned (.plain (OpenSpec.upto funcsNumbersSpec)) funcsNumbersUptoCard

/-- THE SECOND FORM's CARD OF 'abacistlaw6.ParseRanks'. -/
def parseRanksUptoCard : Claim7 := { stood := { row := parseRanksUptoRow, standIns := [], harness := (true, "5571bf24430a1d790641f67bf136891a657edd54b0ea751be79342b61dbf54a7"), looks := true }, kinds := [], alts := [], laidByText := true, laidKinds := [.data, .data, .data, .sentinel, .sentinel], laidTests := true, laidLooks := .later }
def ParseRanksUptoCardSaid : Prop := Claim7.holds Tryd.pinned (.plain (OpenSpec.upto parseRanksSpec)) parseRanksUptoCard

/-- THE SECOND FORM's CARD OF 'abacistlaw6.ParseWrong'. -/
def parseWrongUptoCard : Claim7 := { stood := { row := parseWrongUptoRow, standIns := [], harness := (true, "5571bf24430a1d790641f67bf136891a657edd54b0ea751be79342b61dbf54a7"), looks := true }, kinds := [], alts := [], laidByText := true, laidKinds := [.data, .data, .data, .sentinel, .sentinel], laidTests := true, laidLooks := .later }
def ParseWrongUptoCardSaid : Prop := Claim7.holds Tryd.pinned (.plain (OpenSpec.upto parseWrongSpec)) parseWrongUptoCard
end Rows
end Go.Proofs.YtenilfkkpoajbaaDoor
