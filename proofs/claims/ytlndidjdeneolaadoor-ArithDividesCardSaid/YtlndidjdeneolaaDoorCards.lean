/-
  DERIVED. GIVEN WITH THE SEED: THE CARDS: each row of YtlndidjdeneolaaDoorRows.lean that lists a variable, with what it lists TIED to the program's text (the seventh form; the later family's looks); each row that meets fmt, with fmt's text TOLD by the authors' own Lean function (tested against real Go, not proved from fmt's source: count such statements apart). THE CARD IS WHAT COUNTS. Prove the row's statement (the work); the ties are given (YtlndidjdeneolaaDoorTie.lean); close each card by the builder's one call (the guide's Derived/Test/ToyasCard.lean, 'card_holds'). Laid BY PROGRAM, IN A SANDBOX (cutbox-door.mjs). By AI agents, Wed Nov 11 2026. No macro, syntax, notation, axiom, sorry.
-/
import Derived.Test.YtlndidjdeneolaaDoorRows
import GoSem.ClaimSeven
namespace Go.Proofs.YtlndidjdeneolaaDoor
namespace Rows

/-- THE TIED CARD OF 'abacistlaw1.ValueBack'. -/
def valueBackCard : Claim7 := { stood := { row := valueBackRow, standIns := [], harness := (true, "cf75062cbe2c74a3bd9d054e14f13c106bf080a59a1f57e3e367d5465d1bb857"), looks := false }, kinds := [], alts := [], laidByText := true, laidKinds := [.data, .data, .data], laidTests := true, laidLooks := .later }
def ValueBackCardSaid : Prop := Claim7.holds Tryd.pinned (.plain (OpenSpec.ofChange valueBackSpec)) valueBackCard

/-- THE TIED CARD OF 'abacistlaw1.ValueOrder'. -/
def valueOrderCard : Claim7 := { stood := { row := valueOrderRow, standIns := [], harness := (true, "cf75062cbe2c74a3bd9d054e14f13c106bf080a59a1f57e3e367d5465d1bb857"), looks := false }, kinds := [], alts := [], laidByText := true, laidKinds := [.data, .data, .data], laidTests := true, laidLooks := .later }
def ValueOrderCardSaid : Prop := Claim7.holds Tryd.pinned (.plain (OpenSpec.ofChange valueOrderSpec)) valueOrderCard

/-- THE TIED CARD OF 'abacistlaw1.ValueTells'. -/
def valueTellsCard : Claim7 := { stood := { row := valueTellsRow, standIns := [], harness := (true, "cf75062cbe2c74a3bd9d054e14f13c106bf080a59a1f57e3e367d5465d1bb857"), looks := false }, kinds := [], alts := [], laidByText := true, laidKinds := [.data, .data, .data], laidTests := true, laidLooks := .later }
def ValueTellsCardSaid : Prop := Claim7.holds Tryd.pinned (.plain (OpenSpec.ofChange valueTellsSpec)) valueTellsCard

/-- THE TIED CARD OF 'abacistlaw2.ArithOver'. -/
def arithOverCard : Claim7 := { stood := { row := arithOverRow, standIns := [], harness := (true, "cf75062cbe2c74a3bd9d054e14f13c106bf080a59a1f57e3e367d5465d1bb857"), looks := false }, kinds := [], alts := [], laidByText := true, laidKinds := [.data, .data, .data], laidTests := true, laidLooks := .later }
def ArithOverCardSaid : Prop := Claim7.holds Tryd.pinned (.plain (OpenSpec.ofChange arithOverSpec)) arithOverCard

/-- THE TIED CARD OF 'abacistlaw2.ArithDivides'. -/
def arithDividesCard : Claim7 := { stood := { row := arithDividesRow, standIns := [], harness := (true, "cf75062cbe2c74a3bd9d054e14f13c106bf080a59a1f57e3e367d5465d1bb857"), looks := false }, kinds := [], alts := [], laidByText := true, laidKinds := [.data, .data, .data], laidTests := true, laidLooks := .later }
def ArithDividesCardSaid : Prop := Claim7.holds Tryd.pinned (.plain (OpenSpec.ofChange arithDividesSpec)) arithDividesCard

/-- THE TIED CARD OF 'abacistlaw2.ArithCompares'. -/
def arithComparesCard : Claim7 := { stood := { row := arithComparesRow, standIns := [], harness := (true, "cf75062cbe2c74a3bd9d054e14f13c106bf080a59a1f57e3e367d5465d1bb857"), looks := false }, kinds := [], alts := [], laidByText := true, laidKinds := [.data, .data, .data], laidTests := true, laidLooks := .later }
def ArithComparesCardSaid : Prop := Claim7.holds Tryd.pinned (.plain (OpenSpec.ofChange arithComparesSpec)) arithComparesCard

/-- THE SECOND FORM's CARD OF 'abacistlaw1.ValueBack'. -/
def valueBackUptoCard : Claim7 := { stood := { row := valueBackUptoRow, standIns := [], harness := (true, "cf75062cbe2c74a3bd9d054e14f13c106bf080a59a1f57e3e367d5465d1bb857"), looks := false }, kinds := [], alts := [], laidByText := true, laidKinds := [.data, .data, .data], laidTests := true, laidLooks := .later }
def ValueBackUptoCardSaid : Prop := Claim7.holds Tryd.pinned (.plain (OpenSpec.upto valueBackSpec)) valueBackUptoCard

/-- THE SECOND FORM's CARD OF 'abacistlaw1.ValueOrder'. -/
def valueOrderUptoCard : Claim7 := { stood := { row := valueOrderUptoRow, standIns := [], harness := (true, "cf75062cbe2c74a3bd9d054e14f13c106bf080a59a1f57e3e367d5465d1bb857"), looks := false }, kinds := [], alts := [], laidByText := true, laidKinds := [.data, .data, .data], laidTests := true, laidLooks := .later }
def ValueOrderUptoCardSaid : Prop := Claim7.holds Tryd.pinned (.plain (OpenSpec.upto valueOrderSpec)) valueOrderUptoCard

/-- THE SECOND FORM's CARD OF 'abacistlaw1.ValueTells'. -/
def valueTellsUptoCard : Claim7 := { stood := { row := valueTellsUptoRow, standIns := [], harness := (true, "cf75062cbe2c74a3bd9d054e14f13c106bf080a59a1f57e3e367d5465d1bb857"), looks := false }, kinds := [], alts := [], laidByText := true, laidKinds := [.data, .data, .data], laidTests := true, laidLooks := .later }
def ValueTellsUptoCardSaid : Prop := Claim7.holds Tryd.pinned (.plain (OpenSpec.upto valueTellsSpec)) valueTellsUptoCard

/-- THE SECOND FORM's CARD OF 'abacistlaw2.ArithOver'. -/
def arithOverUptoCard : Claim7 := { stood := { row := arithOverUptoRow, standIns := [], harness := (true, "cf75062cbe2c74a3bd9d054e14f13c106bf080a59a1f57e3e367d5465d1bb857"), looks := false }, kinds := [], alts := [], laidByText := true, laidKinds := [.data, .data, .data], laidTests := true, laidLooks := .later }
def ArithOverUptoCardSaid : Prop := Claim7.holds Tryd.pinned (.plain (OpenSpec.upto arithOverSpec)) arithOverUptoCard

/-- THE SECOND FORM's CARD OF 'abacistlaw2.ArithDivides'. -/
def arithDividesUptoCard : Claim7 := { stood := { row := arithDividesUptoRow, standIns := [], harness := (true, "cf75062cbe2c74a3bd9d054e14f13c106bf080a59a1f57e3e367d5465d1bb857"), looks := false }, kinds := [], alts := [], laidByText := true, laidKinds := [.data, .data, .data], laidTests := true, laidLooks := .later }
def ArithDividesUptoCardSaid : Prop := Claim7.holds Tryd.pinned (.plain (OpenSpec.upto arithDividesSpec)) arithDividesUptoCard

/-- THE SECOND FORM's CARD OF 'abacistlaw2.ArithCompares'. -/
def arithComparesUptoCard : Claim7 := { stood := { row := arithComparesUptoRow, standIns := [], harness := (true, "cf75062cbe2c74a3bd9d054e14f13c106bf080a59a1f57e3e367d5465d1bb857"), looks := false }, kinds := [], alts := [], laidByText := true, laidKinds := [.data, .data, .data], laidTests := true, laidLooks := .later }
def ArithComparesUptoCardSaid : Prop := Claim7.holds Tryd.pinned (.plain (OpenSpec.upto arithComparesSpec)) arithComparesUptoCard
end Rows
end Go.Proofs.YtlndidjdeneolaaDoor
