/-
  NARROWER THAN 'FOR EVERY INPUT', by the rows' own cells (each row's printed sentence says how): PostingsOrder: laid · PostingsSelects: laid · PostingsAdds: laid · PostingsNames: laid · PostingsTogether: laid · PostingsTurned: laid · PostingsClone: laid.
  DERIVED. THE GIVEN ROWS OF THIS SEAT. 7 by the template 'for every input the law returns true; each argument reads behind the call as it read before'; 0 by the template 'total and deterministic' (their statements: YtlhmdgaohonpbaaGreatDoorTotals.lean).
  GIVEN WITH THE SEED: the statements are not yours to turn. If you find one false, say at which input.
  Laid BY PROGRAM, IN A SANDBOX (cutbox-rows.mjs): the forced cells as the released guide's own fill.sh prints them over the translation 70541257a58549e3… (all of the seat's roots in one cut). By AI agents, Wed Nov 11 2026. No macro, syntax, notation, axiom, sorry.
-/
import Derived.Test.YtlhmdgaohonpbaaGreatDoorChecked
import GoSem.PinnedTables
import GoSem.Claim
import GoSem.ClaimJoined
import GoSem.ClaimMapViews
import Derived.JoinedTies
import Derived.KernelRfl
namespace Go.Proofs.YtlhmdgaohonpbaaGreatDoor
/- THE CELL 'sum', in the pinned program and in every row, IS THE sha256 OF THE DUMP (.gsa) THAT YtlhmdgaohonpbaaGreatDoorProg.lean LOADS. Nothing in Lean hashes anything: it is a label: what it is worth is what the hold of that sum in a sandbox is worth. -/
noncomputable def Tryz.pinned : Pinned := { name := "ytlhmdgaohonpbaagreatdoor", sum := "70541257a58549e3ada1033b3d542acf38c2c2a8dbcb80e50045d262c365c4be", checked := Tryz.checked }
namespace Rows
def none {H : Type} : Left H := { results := [], args := [] }

/- WHAT THE LISTED PACKAGE-LEVEL VARIABLES READ AS WHEN THE CALL BEGINS. Each datum BY PROGRAM (the guide's laid-datum.mjs) off the statement by which the dump's own 'gosem.cut.vars' lays the variable. In a bare row this is a premise. The card (YtlhmdgaohonpbaaGreatDoorCards.lean) ties it to the program's text. -/
def laid_unicode_utf8_acceptRanges {H : Type} : DataW H := .agg [.agg [.lit (.int .u8 128), .lit (.int .u8 191)], .agg [.lit (.int .u8 160), .lit (.int .u8 191)], .agg [.lit (.int .u8 128), .lit (.int .u8 159)], .agg [.lit (.int .u8 144), .lit (.int .u8 191)], .agg [.lit (.int .u8 128), .lit (.int .u8 143)], .agg [.lit (.int .u8 0), .lit (.int .u8 0)], .agg [.lit (.int .u8 0), .lit (.int .u8 0)], .agg [.lit (.int .u8 0), .lit (.int .u8 0)], .agg [.lit (.int .u8 0), .lit (.int .u8 0)], .agg [.lit (.int .u8 0), .lit (.int .u8 0)], .agg [.lit (.int .u8 0), .lit (.int .u8 0)], .agg [.lit (.int .u8 0), .lit (.int .u8 0)], .agg [.lit (.int .u8 0), .lit (.int .u8 0)], .agg [.lit (.int .u8 0), .lit (.int .u8 0)], .agg [.lit (.int .u8 0), .lit (.int .u8 0)], .agg [.lit (.int .u8 0), .lit (.int .u8 0)]]
/-- One of Go's own tables, pinned by name: the form's constant. -/
def laid_unicode_utf8_first : DataW Unit := Go.Pinned.utf8First

/-- 'manometerlaw10.PostingsOrder': WHATEVER THE INPUT: true; the input reads as it did. -/
def postingsOrderSpec : ChangeSpec := { name := "postingsOrder", fn := fun _ => fun
  | [d1, d2, d3] => { results := [.lit (.bool true)], args := [d1, d2, d3] }
  | _ => none }
def postingsOrderRow : OpenClaim := { program := "ytlhmdgaohonpbaagreatdoor", sum := "70541257a58549e3ada1033b3d542acf38c2c2a8dbcb80e50045d262c365c4be", func := "manometer/manometerlaw10.PostingsOrder", spec := "postingsOrder", unfollowed := true, recurses := true, named := ["unicode/utf8.first", "unicode/utf8.acceptRanges"], plainKeys := false, apart := false, laid := [("unicode/utf8.acceptRanges", laid_unicode_utf8_acceptRanges), ("unicode/utf8.first", laid_unicode_utf8_first)] }
def PostingsOrderSaid : Prop := postingsOrderRow.holds Tryz.pinned (OpenSpec.ofChange postingsOrderSpec)

/-- ITS FALSE NEIGHBOUR: 'it returns false'. Refute it at one input. -/
def postingsOrderWrong : ChangeSpec := { name := "postingsOrder", fn := fun _ => fun
  | [d1, d2, d3] => { results := [.lit (.bool false)], args := [d1, d2, d3] }
  | _ => none }
def PostingsOrderWrongFalsely : Prop := postingsOrderRow.holds Tryz.pinned (OpenSpec.ofChange postingsOrderWrong)

/-- 'manometerlaw10.PostingsSelects': WHATEVER THE INPUT: true; the input reads as it did. -/
def postingsSelectsSpec : ChangeSpec := { name := "postingsSelects", fn := fun _ => fun
  | [d1, d2] => { results := [.lit (.bool true)], args := [d1, d2] }
  | _ => none }
def postingsSelectsRow : OpenClaim := { program := "ytlhmdgaohonpbaagreatdoor", sum := "70541257a58549e3ada1033b3d542acf38c2c2a8dbcb80e50045d262c365c4be", func := "manometer/manometerlaw10.PostingsSelects", spec := "postingsSelects", unfollowed := true, recurses := true, named := ["unicode/utf8.first", "unicode/utf8.acceptRanges"], plainKeys := false, apart := false, laid := [("unicode/utf8.acceptRanges", laid_unicode_utf8_acceptRanges), ("unicode/utf8.first", laid_unicode_utf8_first)] }
def PostingsSelectsSaid : Prop := postingsSelectsRow.holds Tryz.pinned (OpenSpec.ofChange postingsSelectsSpec)

/-- ITS FALSE NEIGHBOUR: 'it returns false'. Refute it at one input. -/
def postingsSelectsWrong : ChangeSpec := { name := "postingsSelects", fn := fun _ => fun
  | [d1, d2] => { results := [.lit (.bool false)], args := [d1, d2] }
  | _ => none }
def PostingsSelectsWrongFalsely : Prop := postingsSelectsRow.holds Tryz.pinned (OpenSpec.ofChange postingsSelectsWrong)

/-- 'manometerlaw10.PostingsAdds': WHATEVER THE INPUT: true; the input reads as it did. -/
def postingsAddsSpec : ChangeSpec := { name := "postingsAdds", fn := fun _ => fun
  | [d1, d2, d3] => { results := [.lit (.bool true)], args := [d1, d2, d3] }
  | _ => none }
def postingsAddsRow : OpenClaim := { program := "ytlhmdgaohonpbaagreatdoor", sum := "70541257a58549e3ada1033b3d542acf38c2c2a8dbcb80e50045d262c365c4be", func := "manometer/manometerlaw10.PostingsAdds", spec := "postingsAdds", unfollowed := true, recurses := true, named := ["unicode/utf8.first", "unicode/utf8.acceptRanges"], plainKeys := false, apart := false, laid := [("unicode/utf8.acceptRanges", laid_unicode_utf8_acceptRanges), ("unicode/utf8.first", laid_unicode_utf8_first)] }
def PostingsAddsSaid : Prop := postingsAddsRow.holds Tryz.pinned (OpenSpec.ofChange postingsAddsSpec)

/-- ITS FALSE NEIGHBOUR: 'it returns false'. Refute it at one input. -/
def postingsAddsWrong : ChangeSpec := { name := "postingsAdds", fn := fun _ => fun
  | [d1, d2, d3] => { results := [.lit (.bool false)], args := [d1, d2, d3] }
  | _ => none }
def PostingsAddsWrongFalsely : Prop := postingsAddsRow.holds Tryz.pinned (OpenSpec.ofChange postingsAddsWrong)

/-- 'manometerlaw10.PostingsNames': WHATEVER THE INPUT: true; the input reads as it did. -/
def postingsNamesSpec : ChangeSpec := { name := "postingsNames", fn := fun _ => fun
  | [d1, d2] => { results := [.lit (.bool true)], args := [d1, d2] }
  | _ => none }
def postingsNamesRow : OpenClaim := { program := "ytlhmdgaohonpbaagreatdoor", sum := "70541257a58549e3ada1033b3d542acf38c2c2a8dbcb80e50045d262c365c4be", func := "manometer/manometerlaw10.PostingsNames", spec := "postingsNames", unfollowed := true, recurses := true, named := ["unicode/utf8.first", "unicode/utf8.acceptRanges"], plainKeys := false, apart := false, laid := [("unicode/utf8.acceptRanges", laid_unicode_utf8_acceptRanges), ("unicode/utf8.first", laid_unicode_utf8_first)] }
def PostingsNamesSaid : Prop := postingsNamesRow.holds Tryz.pinned (OpenSpec.ofChange postingsNamesSpec)

/-- ITS FALSE NEIGHBOUR: 'it returns false'. Refute it at one input. -/
def postingsNamesWrong : ChangeSpec := { name := "postingsNames", fn := fun _ => fun
  | [d1, d2] => { results := [.lit (.bool false)], args := [d1, d2] }
  | _ => none }
def PostingsNamesWrongFalsely : Prop := postingsNamesRow.holds Tryz.pinned (OpenSpec.ofChange postingsNamesWrong)

/-- 'manometerlaw10.PostingsTogether': WHATEVER THE INPUT: true; the input reads as it did. -/
def postingsTogetherSpec : ChangeSpec := { name := "postingsTogether", fn := fun _ => fun
  | [d1, d2, d3] => { results := [.lit (.bool true)], args := [d1, d2, d3] }
  | _ => none }
def postingsTogetherRow : OpenClaim := { program := "ytlhmdgaohonpbaagreatdoor", sum := "70541257a58549e3ada1033b3d542acf38c2c2a8dbcb80e50045d262c365c4be", func := "manometer/manometerlaw10.PostingsTogether", spec := "postingsTogether", unfollowed := true, recurses := true, named := ["unicode/utf8.first", "unicode/utf8.acceptRanges"], plainKeys := false, apart := false, laid := [("unicode/utf8.acceptRanges", laid_unicode_utf8_acceptRanges), ("unicode/utf8.first", laid_unicode_utf8_first)] }
def PostingsTogetherSaid : Prop := postingsTogetherRow.holds Tryz.pinned (OpenSpec.ofChange postingsTogetherSpec)

/-- ITS FALSE NEIGHBOUR: 'it returns false'. Refute it at one input. -/
def postingsTogetherWrong : ChangeSpec := { name := "postingsTogether", fn := fun _ => fun
  | [d1, d2, d3] => { results := [.lit (.bool false)], args := [d1, d2, d3] }
  | _ => none }
def PostingsTogetherWrongFalsely : Prop := postingsTogetherRow.holds Tryz.pinned (OpenSpec.ofChange postingsTogetherWrong)

/-- 'manometerlaw10.PostingsTurned': WHATEVER THE INPUT: true; the input reads as it did. -/
def postingsTurnedSpec : ChangeSpec := { name := "postingsTurned", fn := fun _ => fun
  | [d1, d2, d3] => { results := [.lit (.bool true)], args := [d1, d2, d3] }
  | _ => none }
def postingsTurnedRow : OpenClaim := { program := "ytlhmdgaohonpbaagreatdoor", sum := "70541257a58549e3ada1033b3d542acf38c2c2a8dbcb80e50045d262c365c4be", func := "manometer/manometerlaw10.PostingsTurned", spec := "postingsTurned", unfollowed := true, recurses := true, named := ["unicode/utf8.first", "unicode/utf8.acceptRanges"], plainKeys := false, apart := false, laid := [("unicode/utf8.acceptRanges", laid_unicode_utf8_acceptRanges), ("unicode/utf8.first", laid_unicode_utf8_first)] }
def PostingsTurnedSaid : Prop := postingsTurnedRow.holds Tryz.pinned (OpenSpec.ofChange postingsTurnedSpec)

/-- ITS FALSE NEIGHBOUR: 'it returns false'. Refute it at one input. -/
def postingsTurnedWrong : ChangeSpec := { name := "postingsTurned", fn := fun _ => fun
  | [d1, d2, d3] => { results := [.lit (.bool false)], args := [d1, d2, d3] }
  | _ => none }
def PostingsTurnedWrongFalsely : Prop := postingsTurnedRow.holds Tryz.pinned (OpenSpec.ofChange postingsTurnedWrong)

/-- 'manometerlaw10.PostingsClone': WHATEVER THE INPUT: true; the input reads as it did. -/
def postingsCloneSpec : ChangeSpec := { name := "postingsClone", fn := fun _ => fun
  | [d1, d2, d3] => { results := [.lit (.bool true)], args := [d1, d2, d3] }
  | _ => none }
def postingsCloneRow : OpenClaim := { program := "ytlhmdgaohonpbaagreatdoor", sum := "70541257a58549e3ada1033b3d542acf38c2c2a8dbcb80e50045d262c365c4be", func := "manometer/manometerlaw10.PostingsClone", spec := "postingsClone", unfollowed := true, recurses := true, named := ["unicode/utf8.first", "unicode/utf8.acceptRanges"], plainKeys := false, apart := false, laid := [("unicode/utf8.acceptRanges", laid_unicode_utf8_acceptRanges), ("unicode/utf8.first", laid_unicode_utf8_first)] }
def PostingsCloneSaid : Prop := postingsCloneRow.holds Tryz.pinned (OpenSpec.ofChange postingsCloneSpec)

/-- ITS FALSE NEIGHBOUR: 'it returns false'. Refute it at one input. -/
def postingsCloneWrong : ChangeSpec := { name := "postingsClone", fn := fun _ => fun
  | [d1, d2, d3] => { results := [.lit (.bool false)], args := [d1, d2, d3] }
  | _ => none }
def PostingsCloneWrongFalsely : Prop := postingsCloneRow.holds Tryz.pinned (OpenSpec.ofChange postingsCloneWrong)

/- THE SECOND FORM. 'bulk': how many values and letters a reading holds, each counted each time it is reached (what is shared counts as often as it is met; a slice's spare places count too). A statement '..UptoSaid' is the law's where the arguments, and the package variables that the reading takes, are together of bulk at most 1048576: NARROWER than '..Said'. Prove '..Said' where nothing that the law and all that it calls make is longer than what came in: it says more and counts as full. Else prove '..UptoSaid'. A law counts once. -/
mutual
def uptoBulk {H : Type} : DataW H → Nat
  | .lit (.string bytes) => bytes.length + 1
  | .lit _ => 1
  | .nil => 1
  | .ptr d => uptoBulk d + 1
  | .slice elems spare => uptoBulkAll elems + uptoBulkAll spare + 1
  | .agg parts => uptoBulkAll parts + 1
  | .iface _ d => uptoBulk d + 1
  | .map entries => uptoBulkEntries entries + 1
  | .held _ => 1
def uptoBulkAll {H : Type} : List (DataW H) → Nat
  | [] => 0
  | d :: r => uptoBulk d + uptoBulkAll r
def uptoBulkEntries {H : Type} : List (Lit × DataW H) → Nat
  | [] => 0
  | x :: r => uptoBulkEntry x + uptoBulkEntries r
def uptoBulkEntry {H : Type} : Lit × DataW H → Nat
  | (.string bytes, d) => bytes.length + uptoBulk d + 1
  | (_, d) => uptoBulk d + 1
 end
def uptoSmall : (H : Type) → List (DataW H) → Bool := fun _ ds => decide (uptoBulkAll ds ≤ 1048576)
def OpenSpec.upto (s : _root_.Go.ChangeSpec) : _root_.Go.OpenSpec := { _root_.Go.OpenSpec.ofChange s with cond := some uptoSmall }

/-- 'manometerlaw10.PostingsOrder', WHERE WHAT IT READS IS OF BULK AT MOST 1048576: true; the input reads as it did. -/
def postingsOrderUptoRow : OpenClaim := { program := "ytlhmdgaohonpbaagreatdoor", sum := "70541257a58549e3ada1033b3d542acf38c2c2a8dbcb80e50045d262c365c4be", func := "manometer/manometerlaw10.PostingsOrder", spec := "postingsOrder", unfollowed := true, recurses := true, named := ["unicode/utf8.first", "unicode/utf8.acceptRanges"], plainKeys := false, apart := false, laid := [("unicode/utf8.acceptRanges", laid_unicode_utf8_acceptRanges), ("unicode/utf8.first", laid_unicode_utf8_first)], narrowed := true }
def PostingsOrderUptoSaid : Prop := postingsOrderUptoRow.holds Tryz.pinned (OpenSpec.upto postingsOrderSpec)

/-- 'manometerlaw10.PostingsSelects', WHERE WHAT IT READS IS OF BULK AT MOST 1048576: true; the input reads as it did. -/
def postingsSelectsUptoRow : OpenClaim := { program := "ytlhmdgaohonpbaagreatdoor", sum := "70541257a58549e3ada1033b3d542acf38c2c2a8dbcb80e50045d262c365c4be", func := "manometer/manometerlaw10.PostingsSelects", spec := "postingsSelects", unfollowed := true, recurses := true, named := ["unicode/utf8.first", "unicode/utf8.acceptRanges"], plainKeys := false, apart := false, laid := [("unicode/utf8.acceptRanges", laid_unicode_utf8_acceptRanges), ("unicode/utf8.first", laid_unicode_utf8_first)], narrowed := true }
def PostingsSelectsUptoSaid : Prop := postingsSelectsUptoRow.holds Tryz.pinned (OpenSpec.upto postingsSelectsSpec)

/-- 'manometerlaw10.PostingsAdds', WHERE WHAT IT READS IS OF BULK AT MOST 1048576: true; the input reads as it did. -/
def postingsAddsUptoRow : OpenClaim := { program := "ytlhmdgaohonpbaagreatdoor", sum := "70541257a58549e3ada1033b3d542acf38c2c2a8dbcb80e50045d262c365c4be", func := "manometer/manometerlaw10.PostingsAdds", spec := "postingsAdds", unfollowed := true, recurses := true, named := ["unicode/utf8.first", "unicode/utf8.acceptRanges"], plainKeys := false, apart := false, laid := [("unicode/utf8.acceptRanges", laid_unicode_utf8_acceptRanges), ("unicode/utf8.first", laid_unicode_utf8_first)], narrowed := true }
def PostingsAddsUptoSaid : Prop := postingsAddsUptoRow.holds Tryz.pinned (OpenSpec.upto postingsAddsSpec)

/-- 'manometerlaw10.PostingsNames', WHERE WHAT IT READS IS OF BULK AT MOST 1048576: true; the input reads as it did. -/
def postingsNamesUptoRow : OpenClaim := { program := "ytlhmdgaohonpbaagreatdoor", sum := "70541257a58549e3ada1033b3d542acf38c2c2a8dbcb80e50045d262c365c4be", func := "manometer/manometerlaw10.PostingsNames", spec := "postingsNames", unfollowed := true, recurses := true, named := ["unicode/utf8.first", "unicode/utf8.acceptRanges"], plainKeys := false, apart := false, laid := [("unicode/utf8.acceptRanges", laid_unicode_utf8_acceptRanges), ("unicode/utf8.first", laid_unicode_utf8_first)], narrowed := true }
def PostingsNamesUptoSaid : Prop := postingsNamesUptoRow.holds Tryz.pinned (OpenSpec.upto postingsNamesSpec)

/-- 'manometerlaw10.PostingsTogether', WHERE WHAT IT READS IS OF BULK AT MOST 1048576: true; the input reads as it did. -/
def postingsTogetherUptoRow : OpenClaim := { program := "ytlhmdgaohonpbaagreatdoor", sum := "70541257a58549e3ada1033b3d542acf38c2c2a8dbcb80e50045d262c365c4be", func := "manometer/manometerlaw10.PostingsTogether", spec := "postingsTogether", unfollowed := true, recurses := true, named := ["unicode/utf8.first", "unicode/utf8.acceptRanges"], plainKeys := false, apart := false, laid := [("unicode/utf8.acceptRanges", laid_unicode_utf8_acceptRanges), ("unicode/utf8.first", laid_unicode_utf8_first)], narrowed := true }
def PostingsTogetherUptoSaid : Prop := postingsTogetherUptoRow.holds Tryz.pinned (OpenSpec.upto postingsTogetherSpec)

/-- 'manometerlaw10.PostingsTurned', WHERE WHAT IT READS IS OF BULK AT MOST 1048576: true; the input reads as it did. -/
def postingsTurnedUptoRow : OpenClaim := { program := "ytlhmdgaohonpbaagreatdoor", sum := "70541257a58549e3ada1033b3d542acf38c2c2a8dbcb80e50045d262c365c4be", func := "manometer/manometerlaw10.PostingsTurned", spec := "postingsTurned", unfollowed := true, recurses := true, named := ["unicode/utf8.first", "unicode/utf8.acceptRanges"], plainKeys := false, apart := false, laid := [("unicode/utf8.acceptRanges", laid_unicode_utf8_acceptRanges), ("unicode/utf8.first", laid_unicode_utf8_first)], narrowed := true }
def PostingsTurnedUptoSaid : Prop := postingsTurnedUptoRow.holds Tryz.pinned (OpenSpec.upto postingsTurnedSpec)

/-- 'manometerlaw10.PostingsClone', WHERE WHAT IT READS IS OF BULK AT MOST 1048576: true; the input reads as it did. -/
def postingsCloneUptoRow : OpenClaim := { program := "ytlhmdgaohonpbaagreatdoor", sum := "70541257a58549e3ada1033b3d542acf38c2c2a8dbcb80e50045d262c365c4be", func := "manometer/manometerlaw10.PostingsClone", spec := "postingsClone", unfollowed := true, recurses := true, named := ["unicode/utf8.first", "unicode/utf8.acceptRanges"], plainKeys := false, apart := false, laid := [("unicode/utf8.acceptRanges", laid_unicode_utf8_acceptRanges), ("unicode/utf8.first", laid_unicode_utf8_first)], narrowed := true }
def PostingsCloneUptoSaid : Prop := postingsCloneUptoRow.holds Tryz.pinned (OpenSpec.upto postingsCloneSpec)

end Rows
end Go.Proofs.YtlhmdgaohonpbaaGreatDoor
