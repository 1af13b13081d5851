/-
  DERIVED. GIVEN WITH THE SEED: THE CARDS: each row of YthpanolfgefikaaDoorRows.lean that lists a variable, with what it lists TIED to the program's text (the seventh form; the later family's looks); each row that meets fmt, with fmt's text TOLD by the authors' own Lean function (tested against real Go, not proved from fmt's source: count such statements apart). THE CARD IS WHAT COUNTS. Prove the row's statement (the work); the ties are given (YthpanolfgefikaaDoorTie.lean); close each card by the builder's one call (the guide's Derived/Test/ToyasCard.lean, 'card_holds'). Laid BY PROGRAM, IN A SANDBOX (cutbox-door.mjs). By AI agents, Wed Nov 11 2026. No macro, syntax, notation, axiom, sorry.
-/
import Derived.Test.YthpanolfgefikaaDoorRows
import GoSem.ClaimSeven
namespace Go.Proofs.YthpanolfgefikaaDoor
namespace Rows

/-- THE TIED CARD OF 'keelsonlaw21.WindowOrder'. -/
def windowOrderCard : Claim7 := { stood := { row := windowOrderRow, standIns := [], harness := (true, "7aca3d8096671ffff63f7c917b00966897ed7cfc5658e1e182042a3cd8360c81"), looks := false }, kinds := [], alts := [], laidByText := true, laidKinds := [.data], laidTests := true, laidLooks := .later }
def WindowOrderCardSaid : Prop := Claim7.holds Tryd.pinned (.plain (OpenSpec.ofChange windowOrderSpec)) windowOrderCard

/-- THE TIED CARD OF 'keelsonlaw21.WindowStays'. -/
def windowStaysCard : Claim7 := { stood := { row := windowStaysRow, standIns := [], harness := (true, "7aca3d8096671ffff63f7c917b00966897ed7cfc5658e1e182042a3cd8360c81"), looks := false }, kinds := [], alts := [], laidByText := true, laidKinds := [.data], laidTests := true, laidLooks := .later }
def WindowStaysCardSaid : Prop := Claim7.holds Tryd.pinned (.plain (OpenSpec.ofChange windowStaysSpec)) windowStaysCard

/-- THE TIED CARD OF 'keelsonlaw21.WindowPlays'. -/
def windowPlaysCard : Claim7 := { stood := { row := windowPlaysRow, standIns := [], harness := (true, "7aca3d8096671ffff63f7c917b00966897ed7cfc5658e1e182042a3cd8360c81"), looks := false }, kinds := [], alts := [], laidByText := true, laidKinds := [.data], laidTests := true, laidLooks := .later }
def WindowPlaysCardSaid : Prop := Claim7.holds Tryd.pinned (.plain (OpenSpec.ofChange windowPlaysSpec)) windowPlaysCard

/-- THE TIED CARD OF 'keelsonlaw21.WindowNobody'. -/
def windowNobodyCard : Claim7 := { stood := { row := windowNobodyRow, standIns := [], harness := (true, "7aca3d8096671ffff63f7c917b00966897ed7cfc5658e1e182042a3cd8360c81"), looks := false }, kinds := [], alts := [], laidByText := true, laidKinds := [.data], laidTests := true, laidLooks := .later }
def WindowNobodyCardSaid : Prop := Claim7.holds Tryd.pinned (.plain (OpenSpec.ofChange windowNobodySpec)) windowNobodyCard

/-- THE SECOND FORM's CARD OF 'keelsonlaw21.WindowOrder'. -/
def windowOrderUptoCard : Claim7 := { stood := { row := windowOrderUptoRow, standIns := [], harness := (true, "7aca3d8096671ffff63f7c917b00966897ed7cfc5658e1e182042a3cd8360c81"), looks := false }, kinds := [], alts := [], laidByText := true, laidKinds := [.data], laidTests := true, laidLooks := .later }
def WindowOrderUptoCardSaid : Prop := Claim7.holds Tryd.pinned (.plain (OpenSpec.upto windowOrderSpec)) windowOrderUptoCard

/-- THE SECOND FORM's CARD OF 'keelsonlaw21.WindowStays'. -/
def windowStaysUptoCard : Claim7 := { stood := { row := windowStaysUptoRow, standIns := [], harness := (true, "7aca3d8096671ffff63f7c917b00966897ed7cfc5658e1e182042a3cd8360c81"), looks := false }, kinds := [], alts := [], laidByText := true, laidKinds := [.data], laidTests := true, laidLooks := .later }
def WindowStaysUptoCardSaid : Prop := Claim7.holds Tryd.pinned (.plain (OpenSpec.upto windowStaysSpec)) windowStaysUptoCard

/-- THE SECOND FORM's CARD OF 'keelsonlaw21.WindowPlays'. -/
def windowPlaysUptoCard : Claim7 := { stood := { row := windowPlaysUptoRow, standIns := [], harness := (true, "7aca3d8096671ffff63f7c917b00966897ed7cfc5658e1e182042a3cd8360c81"), looks := false }, kinds := [], alts := [], laidByText := true, laidKinds := [.data], laidTests := true, laidLooks := .later }
def WindowPlaysUptoCardSaid : Prop := Claim7.holds Tryd.pinned (.plain (OpenSpec.upto windowPlaysSpec)) windowPlaysUptoCard

/-- THE SECOND FORM's CARD OF 'keelsonlaw21.WindowNobody'. -/
def windowNobodyUptoCard : Claim7 := { stood := { row := windowNobodyUptoRow, standIns := [], harness := (true, "7aca3d8096671ffff63f7c917b00966897ed7cfc5658e1e182042a3cd8360c81"), looks := false }, kinds := [], alts := [], laidByText := true, laidKinds := [.data], laidTests := true, laidLooks := .later }
def WindowNobodyUptoCardSaid : Prop := Claim7.holds Tryd.pinned (.plain (OpenSpec.upto windowNobodySpec)) windowNobodyUptoCard
end Rows
end Go.Proofs.YthpanolfgefikaaDoor
