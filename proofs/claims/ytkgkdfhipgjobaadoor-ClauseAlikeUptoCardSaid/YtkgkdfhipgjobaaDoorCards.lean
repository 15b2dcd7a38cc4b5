/-
  DERIVED. GIVEN WITH THE SEED: THE CARDS: each row of YtkgkdfhipgjobaaDoorRows.lean that lists a variable, with what it lists TIED to the program's text (the seventh form; the later family's looks); each row that meets fmt, with fmt's text TOLD by the authors' own Lean function (tested against real Go, not proved from fmt's source: count such statements apart). THE CARD IS WHAT COUNTS. Prove the row's statement (the work); the ties are given (YtkgkdfhipgjobaaDoorTie.lean); close each card by the builder's one call (the guide's Derived/Test/ToyasCard.lean, 'card_holds'). Laid BY PROGRAM, IN A SANDBOX (cutbox-door.mjs). By AI agents, Wed Nov 11 2026. No macro, syntax, notation, axiom, sorry.
-/
import Derived.Test.YtkgkdfhipgjobaaDoorRows
import GoSem.ClaimSeven
namespace Go.Proofs.YtkgkdfhipgjobaaDoor
namespace Rows

/-- THE TIED CARD OF 'syllogismlaw11.ClauseAlike'. -/
def clauseAlikeCard : Claim7 := { stood := { row := clauseAlikeRow, standIns := [], harness := (true, "cfe7a72ce1048383c6ec7b39d088c1490173db00df492070201a24a7b8af3542"), looks := false }, kinds := [], alts := [], laidByText := true, laidKinds := [.data, .data, .data], laidTests := true, laidLooks := .later }
def ClauseAlikeCardSaid : Prop := Claim7.holds Tryd.pinned (.plain (OpenSpec.ofChange clauseAlikeSpec)) clauseAlikeCard

/-- THE TIED CARD OF 'syllogismlaw11.ClauseOrder'. -/
def clauseOrderCard : Claim7 := { stood := { row := clauseOrderRow, standIns := [], harness := (true, "cfe7a72ce1048383c6ec7b39d088c1490173db00df492070201a24a7b8af3542"), looks := false }, kinds := [], alts := [], laidByText := true, laidKinds := [.data, .data, .data], laidTests := true, laidLooks := .later }
def ClauseOrderCardSaid : Prop := Claim7.holds Tryd.pinned (.plain (OpenSpec.ofChange clauseOrderSpec)) clauseOrderCard

/-- THE SECOND FORM's CARD OF 'syllogismlaw11.ClauseAlike'. -/
def clauseAlikeUptoCard : Claim7 := { stood := { row := clauseAlikeUptoRow, standIns := [], harness := (true, "cfe7a72ce1048383c6ec7b39d088c1490173db00df492070201a24a7b8af3542"), looks := false }, kinds := [], alts := [], laidByText := true, laidKinds := [.data, .data, .data], laidTests := true, laidLooks := .later }
def ClauseAlikeUptoCardSaid : Prop := Claim7.holds Tryd.pinned (.plain (OpenSpec.upto clauseAlikeSpec)) clauseAlikeUptoCard

/-- THE SECOND FORM's CARD OF 'syllogismlaw11.ClauseOrder'. -/
def clauseOrderUptoCard : Claim7 := { stood := { row := clauseOrderUptoRow, standIns := [], harness := (true, "cfe7a72ce1048383c6ec7b39d088c1490173db00df492070201a24a7b8af3542"), looks := false }, kinds := [], alts := [], laidByText := true, laidKinds := [.data, .data, .data], laidTests := true, laidLooks := .later }
def ClauseOrderUptoCardSaid : Prop := Claim7.holds Tryd.pinned (.plain (OpenSpec.upto clauseOrderSpec)) clauseOrderUptoCard
end Rows
end Go.Proofs.YtkgkdfhipgjobaaDoor
