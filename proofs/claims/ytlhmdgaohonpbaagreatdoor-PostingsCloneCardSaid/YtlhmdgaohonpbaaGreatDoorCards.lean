/-
  DERIVED. GIVEN WITH THE SEED: THE CARDS: each row of YtlhmdgaohonpbaaGreatDoorRows.lean that lists a variable, with what it lists TIED to the program's text (the seventh form; the later family's looks); each row that meets fmt, with fmt's text TOLD by the authors' own Lean function (tested against real Go, not proved from fmt's source: count such statements apart). THE CARD IS WHAT COUNTS. Prove the row's statement (the work); the ties are given (YtlhmdgaohonpbaaGreatDoorTie.lean); close each card by the builder's one call (the guide's Derived/Test/ToyasCard.lean, 'card_holds'). Laid BY PROGRAM, IN A SANDBOX (cutbox-door.mjs). By AI agents, Wed Nov 11 2026. No macro, syntax, notation, axiom, sorry.
-/
import Derived.Test.YtlhmdgaohonpbaaGreatDoorRows
import GoSem.ClaimSeven
namespace Go.Proofs.YtlhmdgaohonpbaaGreatDoor
namespace Rows

/-- THE TIED CARD OF 'manometerlaw10.PostingsOrder'. -/
def postingsOrderCard : Claim7 := { stood := { row := postingsOrderRow, standIns := [], harness := (true, "0558ffeedc29e80e0e1c0804fa8925771a0a9c3b4b8fa1e941dfdc8ac22ab8af"), looks := true }, kinds := [], alts := [], laidByText := true, laidKinds := [.data, .pinned], laidTests := true, laidLooks := .later }
def PostingsOrderCardSaid : Prop := Claim7.holds Tryz.pinned (.plain (OpenSpec.ofChange postingsOrderSpec)) postingsOrderCard

/-- THE TIED CARD OF 'manometerlaw10.PostingsSelects'. -/
def postingsSelectsCard : Claim7 := { stood := { row := postingsSelectsRow, standIns := [], harness := (true, "0558ffeedc29e80e0e1c0804fa8925771a0a9c3b4b8fa1e941dfdc8ac22ab8af"), looks := true }, kinds := [], alts := [], laidByText := true, laidKinds := [.data, .pinned], laidTests := true, laidLooks := .later }
def PostingsSelectsCardSaid : Prop := Claim7.holds Tryz.pinned (.plain (OpenSpec.ofChange postingsSelectsSpec)) postingsSelectsCard

/-- THE TIED CARD OF 'manometerlaw10.PostingsAdds'. -/
def postingsAddsCard : Claim7 := { stood := { row := postingsAddsRow, standIns := [], harness := (true, "0558ffeedc29e80e0e1c0804fa8925771a0a9c3b4b8fa1e941dfdc8ac22ab8af"), looks := true }, kinds := [], alts := [], laidByText := true, laidKinds := [.data, .pinned], laidTests := true, laidLooks := .later }
def PostingsAddsCardSaid : Prop := Claim7.holds Tryz.pinned (.plain (OpenSpec.ofChange postingsAddsSpec)) postingsAddsCard

/-- THE TIED CARD OF 'manometerlaw10.PostingsNames'. -/
def postingsNamesCard : Claim7 := { stood := { row := postingsNamesRow, standIns := [], harness := (true, "0558ffeedc29e80e0e1c0804fa8925771a0a9c3b4b8fa1e941dfdc8ac22ab8af"), looks := true }, kinds := [], alts := [], laidByText := true, laidKinds := [.data, .pinned], laidTests := true, laidLooks := .later }
def PostingsNamesCardSaid : Prop := Claim7.holds Tryz.pinned (.plain (OpenSpec.ofChange postingsNamesSpec)) postingsNamesCard

/-- THE TIED CARD OF 'manometerlaw10.PostingsTogether'. -/
def postingsTogetherCard : Claim7 := { stood := { row := postingsTogetherRow, standIns := [], harness := (true, "0558ffeedc29e80e0e1c0804fa8925771a0a9c3b4b8fa1e941dfdc8ac22ab8af"), looks := true }, kinds := [], alts := [], laidByText := true, laidKinds := [.data, .pinned], laidTests := true, laidLooks := .later }
def PostingsTogetherCardSaid : Prop := Claim7.holds Tryz.pinned (.plain (OpenSpec.ofChange postingsTogetherSpec)) postingsTogetherCard

/-- THE TIED CARD OF 'manometerlaw10.PostingsTurned'. -/
def postingsTurnedCard : Claim7 := { stood := { row := postingsTurnedRow, standIns := [], harness := (true, "0558ffeedc29e80e0e1c0804fa8925771a0a9c3b4b8fa1e941dfdc8ac22ab8af"), looks := true }, kinds := [], alts := [], laidByText := true, laidKinds := [.data, .pinned], laidTests := true, laidLooks := .later }
def PostingsTurnedCardSaid : Prop := Claim7.holds Tryz.pinned (.plain (OpenSpec.ofChange postingsTurnedSpec)) postingsTurnedCard

/-- THE TIED CARD OF 'manometerlaw10.PostingsClone'. -/
def postingsCloneCard : Claim7 := { stood := { row := postingsCloneRow, standIns := [], harness := (true, "0558ffeedc29e80e0e1c0804fa8925771a0a9c3b4b8fa1e941dfdc8ac22ab8af"), looks := true }, kinds := [], alts := [], laidByText := true, laidKinds := [.data, .pinned], laidTests := true, laidLooks := .later }
def PostingsCloneCardSaid : Prop := Claim7.holds Tryz.pinned (.plain (OpenSpec.ofChange postingsCloneSpec)) postingsCloneCard

/-- THE SECOND FORM's CARD OF 'manometerlaw10.PostingsOrder'. -/
def postingsOrderUptoCard : Claim7 := { stood := { row := postingsOrderUptoRow, standIns := [], harness := (true, "0558ffeedc29e80e0e1c0804fa8925771a0a9c3b4b8fa1e941dfdc8ac22ab8af"), looks := true }, kinds := [], alts := [], laidByText := true, laidKinds := [.data, .pinned], laidTests := true, laidLooks := .later }
def PostingsOrderUptoCardSaid : Prop := Claim7.holds Tryz.pinned (.plain (OpenSpec.upto postingsOrderSpec)) postingsOrderUptoCard

/-- THE SECOND FORM's CARD OF 'manometerlaw10.PostingsSelects'. -/
def postingsSelectsUptoCard : Claim7 := { stood := { row := postingsSelectsUptoRow, standIns := [], harness := (true, "0558ffeedc29e80e0e1c0804fa8925771a0a9c3b4b8fa1e941dfdc8ac22ab8af"), looks := true }, kinds := [], alts := [], laidByText := true, laidKinds := [.data, .pinned], laidTests := true, laidLooks := .later }
def PostingsSelectsUptoCardSaid : Prop := Claim7.holds Tryz.pinned (.plain (OpenSpec.upto postingsSelectsSpec)) postingsSelectsUptoCard

/-- THE SECOND FORM's CARD OF 'manometerlaw10.PostingsAdds'. -/
def postingsAddsUptoCard : Claim7 := { stood := { row := postingsAddsUptoRow, standIns := [], harness := (true, "0558ffeedc29e80e0e1c0804fa8925771a0a9c3b4b8fa1e941dfdc8ac22ab8af"), looks := true }, kinds := [], alts := [], laidByText := true, laidKinds := [.data, .pinned], laidTests := true, laidLooks := .later }
def PostingsAddsUptoCardSaid : Prop := Claim7.holds Tryz.pinned (.plain (OpenSpec.upto postingsAddsSpec)) postingsAddsUptoCard

/-- THE SECOND FORM's CARD OF 'manometerlaw10.PostingsNames'. -/
def postingsNamesUptoCard : Claim7 := { stood := { row := postingsNamesUptoRow, standIns := [], harness := (true, "0558ffeedc29e80e0e1c0804fa8925771a0a9c3b4b8fa1e941dfdc8ac22ab8af"), looks := true }, kinds := [], alts := [], laidByText := true, laidKinds := [.data, .pinned], laidTests := true, laidLooks := .later }
def PostingsNamesUptoCardSaid : Prop := Claim7.holds Tryz.pinned (.plain (OpenSpec.upto postingsNamesSpec)) postingsNamesUptoCard

/-- THE SECOND FORM's CARD OF 'manometerlaw10.PostingsTogether'. -/
def postingsTogetherUptoCard : Claim7 := { stood := { row := postingsTogetherUptoRow, standIns := [], harness := (true, "0558ffeedc29e80e0e1c0804fa8925771a0a9c3b4b8fa1e941dfdc8ac22ab8af"), looks := true }, kinds := [], alts := [], laidByText := true, laidKinds := [.data, .pinned], laidTests := true, laidLooks := .later }
def PostingsTogetherUptoCardSaid : Prop := Claim7.holds Tryz.pinned (.plain (OpenSpec.upto postingsTogetherSpec)) postingsTogetherUptoCard

/-- THE SECOND FORM's CARD OF 'manometerlaw10.PostingsTurned'. -/
def postingsTurnedUptoCard : Claim7 := { stood := { row := postingsTurnedUptoRow, standIns := [], harness := (true, "0558ffeedc29e80e0e1c0804fa8925771a0a9c3b4b8fa1e941dfdc8ac22ab8af"), looks := true }, kinds := [], alts := [], laidByText := true, laidKinds := [.data, .pinned], laidTests := true, laidLooks := .later }
def PostingsTurnedUptoCardSaid : Prop := Claim7.holds Tryz.pinned (.plain (OpenSpec.upto postingsTurnedSpec)) postingsTurnedUptoCard

/-- THE SECOND FORM's CARD OF 'manometerlaw10.PostingsClone'. -/
def postingsCloneUptoCard : Claim7 := { stood := { row := postingsCloneUptoRow, standIns := [], harness := (true, "0558ffeedc29e80e0e1c0804fa8925771a0a9c3b4b8fa1e941dfdc8ac22ab8af"), looks := true }, kinds := [], alts := [], laidByText := true, laidKinds := [.data, .pinned], laidTests := true, laidLooks := .later }
def PostingsCloneUptoCardSaid : Prop := Claim7.holds Tryz.pinned (.plain (OpenSpec.upto postingsCloneSpec)) postingsCloneUptoCard
end Rows
end Go.Proofs.YtlhmdgaohonpbaaGreatDoor
