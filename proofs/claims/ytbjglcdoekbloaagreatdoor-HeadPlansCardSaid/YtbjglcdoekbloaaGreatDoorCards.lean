/-
  DERIVED. GIVEN WITH THE SEED: THE CARDS: each row of YtbjglcdoekbloaaGreatDoorRows.lean that lists a variable, with what it lists TIED to the program's text (the seventh form; the later family's looks); each row that meets fmt, with fmt's text TOLD by the authors' own Lean function (tested against real Go, not proved from fmt's source: count such statements apart). THE CARD IS WHAT COUNTS. Prove the row's statement (the work); the ties are given (YtbjglcdoekbloaaGreatDoorTie.lean); close each card by the builder's one call (the guide's Derived/Test/ToyasCard.lean, 'card_holds'). Laid BY PROGRAM, IN A SANDBOX (cutbox-door.mjs). By AI agents, Wed Nov 11 2026. No macro, syntax, notation, axiom, sorry.
-/
import Derived.Test.YtbjglcdoekbloaaGreatDoorRows
import GoSem.ClaimSeven
namespace Go.Proofs.YtbjglcdoekbloaaGreatDoor
namespace Rows

/-- THE TIED CARD OF 'manometerlaw14.HeadPlans'. -/
def headPlansCard : Claim7 := { stood := { row := headPlansRow, standIns := [], harness := (true, "d27fb36cd23ee80ad511d2464b586984689aa4e3f4e593c8063967a55196d7a8"), looks := true }, kinds := [], alts := [], laidByText := true, laidKinds := [.data, .pinned], laidTests := true, laidLooks := .later }
def HeadPlansCardSaid : Prop := Claim7.holds Tryz.pinned (.plain (OpenSpec.ofChange headPlansSpec)) headPlansCard

/-- THE TIED CARD OF 'manometerlaw14.HeadNone'. -/
def headNoneCard : Claim7 := { stood := { row := headNoneRow, standIns := [], harness := (true, "d27fb36cd23ee80ad511d2464b586984689aa4e3f4e593c8063967a55196d7a8"), looks := true }, kinds := [], alts := [], laidByText := true, laidKinds := [.data, .pinned], laidTests := true, laidLooks := .later }
def HeadNoneCardSaid : Prop := Claim7.holds Tryz.pinned (.plain (OpenSpec.ofChange headNoneSpec)) headNoneCard

/-- THE TIED CARD OF 'manometerlaw14.HeadQueries'. -/
def headQueriesCard : Claim7 := { stood := { row := headQueriesRow, standIns := [], harness := (true, "d27fb36cd23ee80ad511d2464b586984689aa4e3f4e593c8063967a55196d7a8"), looks := true }, kinds := [], alts := [], laidByText := true, laidKinds := [.data, .pinned], laidTests := true, laidLooks := .later }
def HeadQueriesCardSaid : Prop := Claim7.holds Tryz.pinned (.plain (OpenSpec.ofChange headQueriesSpec)) headQueriesCard

/-- THE TIED CARD OF 'manometerlaw14.HeadWhole'. -/
def headWholeCard : Claim7 := { stood := { row := headWholeRow, standIns := [], harness := (true, "d27fb36cd23ee80ad511d2464b586984689aa4e3f4e593c8063967a55196d7a8"), looks := true }, kinds := [], alts := [], laidByText := true, laidKinds := [.data, .pinned], laidTests := true, laidLooks := .later }
def HeadWholeCardSaid : Prop := Claim7.holds Tryz.pinned (.plain (OpenSpec.ofChange headWholeSpec)) headWholeCard

/-- THE SECOND FORM's CARD OF 'manometerlaw14.HeadPlans'. -/
def headPlansUptoCard : Claim7 := { stood := { row := headPlansUptoRow, standIns := [], harness := (true, "d27fb36cd23ee80ad511d2464b586984689aa4e3f4e593c8063967a55196d7a8"), looks := true }, kinds := [], alts := [], laidByText := true, laidKinds := [.data, .pinned], laidTests := true, laidLooks := .later }
def HeadPlansUptoCardSaid : Prop := Claim7.holds Tryz.pinned (.plain (OpenSpec.upto headPlansSpec)) headPlansUptoCard

/-- THE SECOND FORM's CARD OF 'manometerlaw14.HeadNone'. -/
def headNoneUptoCard : Claim7 := { stood := { row := headNoneUptoRow, standIns := [], harness := (true, "d27fb36cd23ee80ad511d2464b586984689aa4e3f4e593c8063967a55196d7a8"), looks := true }, kinds := [], alts := [], laidByText := true, laidKinds := [.data, .pinned], laidTests := true, laidLooks := .later }
def HeadNoneUptoCardSaid : Prop := Claim7.holds Tryz.pinned (.plain (OpenSpec.upto headNoneSpec)) headNoneUptoCard

/-- THE SECOND FORM's CARD OF 'manometerlaw14.HeadQueries'. -/
def headQueriesUptoCard : Claim7 := { stood := { row := headQueriesUptoRow, standIns := [], harness := (true, "d27fb36cd23ee80ad511d2464b586984689aa4e3f4e593c8063967a55196d7a8"), looks := true }, kinds := [], alts := [], laidByText := true, laidKinds := [.data, .pinned], laidTests := true, laidLooks := .later }
def HeadQueriesUptoCardSaid : Prop := Claim7.holds Tryz.pinned (.plain (OpenSpec.upto headQueriesSpec)) headQueriesUptoCard

/-- THE SECOND FORM's CARD OF 'manometerlaw14.HeadWhole'. -/
def headWholeUptoCard : Claim7 := { stood := { row := headWholeUptoRow, standIns := [], harness := (true, "d27fb36cd23ee80ad511d2464b586984689aa4e3f4e593c8063967a55196d7a8"), looks := true }, kinds := [], alts := [], laidByText := true, laidKinds := [.data, .pinned], laidTests := true, laidLooks := .later }
def HeadWholeUptoCardSaid : Prop := Claim7.holds Tryz.pinned (.plain (OpenSpec.upto headWholeSpec)) headWholeUptoCard
end Rows
end Go.Proofs.YtbjglcdoekbloaaGreatDoor
