/-
  DERIVED. GIVEN WITH THE SEED: THE CARDS: each row of YtcbhdecinfbakaaDoorRows.lean that lists a variable, with what it lists TIED to the program's text (the seventh form; the later family's looks); each row that meets fmt, with fmt's text TOLD by the authors' own Lean function (tested against real Go, not proved from fmt's source: count such statements apart). THE CARD IS WHAT COUNTS. Prove the row's statement (the work); the ties are given (YtcbhdecinfbakaaDoorTie.lean); close each card by the builder's one call (the guide's Derived/Test/ToyasCard.lean, 'card_holds'). Laid BY PROGRAM, IN A SANDBOX (cutbox-door.mjs). By AI agents, Wed Nov 11 2026. No macro, syntax, notation, axiom, sorry.
-/
import Derived.Test.YtcbhdecinfbakaaDoorRows
import GoSem.ClaimSeven
namespace Go.Proofs.YtcbhdecinfbakaaDoor
namespace Rows

/-- THE TIED CARD OF 'manometerlaw10.PostingsNumbers'. -/
def postingsNumbersCard : Claim7 := { stood := { row := postingsNumbersRow, standIns := [], harness := (true, "361adbe6f3a2fffd73547c92017ebf6c5328345b7e6d501327650d4416a7828f"), looks := true }, kinds := [], alts := [], laidByText := true, laidKinds := [.data, .pinned], laidTests := true, laidLooks := .later }
def PostingsNumbersCardSaid : Prop := Claim7.holds Tryd.pinned (.plain (OpenSpec.ofChange postingsNumbersSpec)) postingsNumbersCard

/-- THE SECOND FORM's CARD OF 'manometerlaw10.PostingsNumbers'. -/
def postingsNumbersUptoCard : Claim7 := { stood := { row := postingsNumbersUptoRow, standIns := [], harness := (true, "361adbe6f3a2fffd73547c92017ebf6c5328345b7e6d501327650d4416a7828f"), looks := true }, kinds := [], alts := [], laidByText := true, laidKinds := [.data, .pinned], laidTests := true, laidLooks := .later }
def PostingsNumbersUptoCardSaid : Prop := Claim7.holds Tryd.pinned (.plain (OpenSpec.upto postingsNumbersSpec)) postingsNumbersUptoCard
end Rows
end Go.Proofs.YtcbhdecinfbakaaDoor
