/-
  DERIVED. GIVEN WITH THE SEED: THE CARDS: each row of YtfjlballemibjaaDoorRows.lean that lists a variable, with what it lists TIED to the program's text (the seventh form; the later family's looks); each row that meets fmt, with fmt's text TOLD by the authors' own Lean function (tested against real Go, not proved from fmt's source: count such statements apart). THE CARD IS WHAT COUNTS. Prove the row's statement (the work); the ties are given (YtfjlballemibjaaDoorTie.lean); close each card by the builder's one call (the guide's Derived/Test/ToyasCard.lean, 'card_holds'). Laid BY PROGRAM, IN A SANDBOX (cutbox-door.mjs). By AI agents, Wed Nov 11 2026. No macro, syntax, notation, axiom, sorry.
-/
import Derived.Test.YtfjlballemibjaaDoorRows
import GoSem.ClaimSeven
namespace Go.Proofs.YtfjlballemibjaaDoor
namespace Rows

/-- THE TIED CARD OF 'manometerlaw14.HeadMarks'. -/
def headMarksCard : Claim7 := { stood := { row := headMarksRow, standIns := [], harness := (true, "4adc25ff3b4c1e09da3371776c747cb01cd06cf72e839cbb223c6be23bbcb165"), looks := false }, kinds := [], alts := [], laidByText := true, laidKinds := [.data, .pinned], laidTests := true, laidLooks := .later }
def HeadMarksCardSaid : Prop := Claim7.holds Tryd.pinned (.plain (OpenSpec.ofChange headMarksSpec)) headMarksCard

/-- THE TIED CARD OF 'manometerlaw14.HeadOrder'. -/
def headOrderCard : Claim7 := { stood := { row := headOrderRow, standIns := [], harness := (true, "4adc25ff3b4c1e09da3371776c747cb01cd06cf72e839cbb223c6be23bbcb165"), looks := false }, kinds := [], alts := [], laidByText := true, laidKinds := [.data, .pinned], laidTests := true, laidLooks := .later }
def HeadOrderCardSaid : Prop := Claim7.holds Tryd.pinned (.plain (OpenSpec.ofChange headOrderSpec)) headOrderCard

/-- THE TIED CARD OF 'manometerlaw14.HeadAgain'. -/
def headAgainCard : Claim7 := { stood := { row := headAgainRow, standIns := [], harness := (true, "4adc25ff3b4c1e09da3371776c747cb01cd06cf72e839cbb223c6be23bbcb165"), looks := false }, kinds := [], alts := [], laidByText := true, laidKinds := [.data, .pinned], laidTests := true, laidLooks := .later }
def HeadAgainCardSaid : Prop := Claim7.holds Tryd.pinned (.plain (OpenSpec.ofChange headAgainSpec)) headAgainCard

/-- THE TIED CARD OF 'manometerlaw14.HeadRecords'. -/
def headRecordsCard : Claim7 := { stood := { row := headRecordsRow, standIns := [], harness := (true, "4adc25ff3b4c1e09da3371776c747cb01cd06cf72e839cbb223c6be23bbcb165"), looks := false }, kinds := [], alts := [], laidByText := true, laidKinds := [.data, .pinned], laidTests := true, laidLooks := .later }
def HeadRecordsCardSaid : Prop := Claim7.holds Tryd.pinned (.plain (OpenSpec.ofChange headRecordsSpec)) headRecordsCard

/-- THE SECOND FORM's CARD OF 'manometerlaw14.HeadMarks'. -/
def headMarksUptoCard : Claim7 := { stood := { row := headMarksUptoRow, standIns := [], harness := (true, "4adc25ff3b4c1e09da3371776c747cb01cd06cf72e839cbb223c6be23bbcb165"), looks := false }, kinds := [], alts := [], laidByText := true, laidKinds := [.data, .pinned], laidTests := true, laidLooks := .later }
def HeadMarksUptoCardSaid : Prop := Claim7.holds Tryd.pinned (.plain (OpenSpec.upto headMarksSpec)) headMarksUptoCard

/-- THE SECOND FORM's CARD OF 'manometerlaw14.HeadOrder'. -/
def headOrderUptoCard : Claim7 := { stood := { row := headOrderUptoRow, standIns := [], harness := (true, "4adc25ff3b4c1e09da3371776c747cb01cd06cf72e839cbb223c6be23bbcb165"), looks := false }, kinds := [], alts := [], laidByText := true, laidKinds := [.data, .pinned], laidTests := true, laidLooks := .later }
def HeadOrderUptoCardSaid : Prop := Claim7.holds Tryd.pinned (.plain (OpenSpec.upto headOrderSpec)) headOrderUptoCard

/-- THE SECOND FORM's CARD OF 'manometerlaw14.HeadAgain'. -/
def headAgainUptoCard : Claim7 := { stood := { row := headAgainUptoRow, standIns := [], harness := (true, "4adc25ff3b4c1e09da3371776c747cb01cd06cf72e839cbb223c6be23bbcb165"), looks := false }, kinds := [], alts := [], laidByText := true, laidKinds := [.data, .pinned], laidTests := true, laidLooks := .later }
def HeadAgainUptoCardSaid : Prop := Claim7.holds Tryd.pinned (.plain (OpenSpec.upto headAgainSpec)) headAgainUptoCard

/-- THE SECOND FORM's CARD OF 'manometerlaw14.HeadRecords'. -/
def headRecordsUptoCard : Claim7 := { stood := { row := headRecordsUptoRow, standIns := [], harness := (true, "4adc25ff3b4c1e09da3371776c747cb01cd06cf72e839cbb223c6be23bbcb165"), looks := false }, kinds := [], alts := [], laidByText := true, laidKinds := [.data, .pinned], laidTests := true, laidLooks := .later }
def HeadRecordsUptoCardSaid : Prop := Claim7.holds Tryd.pinned (.plain (OpenSpec.upto headRecordsSpec)) headRecordsUptoCard
end Rows
end Go.Proofs.YtfjlballemibjaaDoor
