/-
  NARROWER THAN 'FOR EVERY INPUT', by the rows' own cells (each row's printed sentence says how): LayoutSupers: laid · LayoutNames: laid · LayoutEntries: laid · LayoutPlaces: laid · LayoutSame: laid · LayoutInodes: laid · LayoutBack: laid · LayoutTurned: laid.
  DERIVED. THE GIVEN ROWS OF THIS SEAT. 8 by the template 'for every input the law returns true; each argument reads behind the call as it read before'; 0 by the template 'total and deterministic' (their statements: YtkmonkemkhigfaaDoorTotals.lean).
  GIVEN WITH THE SEED: the statements are not yours to turn. If you find one false, say at which input.
  Laid BY PROGRAM, IN A SANDBOX (cutbox-rows.mjs): the forced cells as the released guide's own fill.sh prints them over the translation 888e0ff546874360… (all of the seat's roots in one cut). By AI agents, Wed Nov 11 2026. No macro, syntax, notation, axiom, sorry.
-/
import Derived.Test.YtkmonkemkhigfaaDoorChecked
import GoSem.PinnedTables
import GoSem.Claim
import GoSem.ClaimJoined
import GoSem.ClaimMapViews
import Derived.JoinedTies
import Derived.KernelRfl
namespace Go.Proofs.YtkmonkemkhigfaaDoor
/- THE CELL 'sum', in the pinned program and in every row, IS THE sha256 OF THE DUMP (.gsa) THAT YtkmonkemkhigfaaDoorProg.lean LOADS. Nothing in Lean hashes anything: it is a label: what it is worth is what the hold of that sum in a sandbox is worth. -/
noncomputable def Tryd.pinned : Pinned := { name := "ytkmonkemkhigfaadoor", sum := "888e0ff546874360e1c9e15961167f3f144cd285cac09413495744205a639af3", checked := Tryd.checked }
namespace Rows
def none {H : Type} : Left H := { results := [], args := [] }

/- WHAT THE LISTED PACKAGE-LEVEL VARIABLES READ AS WHEN THE CALL BEGINS. Each datum BY PROGRAM (the guide's laid-datum.mjs) off the statement by which the dump's own 'gosem.cut.vars' lays the variable. In a bare row this is a premise. The card (YtkmonkemkhigfaaDoorCards.lean) ties it to the program's text. -/
def laid_unicode_utf8_acceptRanges {H : Type} : DataW H := .agg [.agg [.lit (.int .u8 128), .lit (.int .u8 191)], .agg [.lit (.int .u8 160), .lit (.int .u8 191)], .agg [.lit (.int .u8 128), .lit (.int .u8 159)], .agg [.lit (.int .u8 144), .lit (.int .u8 191)], .agg [.lit (.int .u8 128), .lit (.int .u8 143)], .agg [.lit (.int .u8 0), .lit (.int .u8 0)], .agg [.lit (.int .u8 0), .lit (.int .u8 0)], .agg [.lit (.int .u8 0), .lit (.int .u8 0)], .agg [.lit (.int .u8 0), .lit (.int .u8 0)], .agg [.lit (.int .u8 0), .lit (.int .u8 0)], .agg [.lit (.int .u8 0), .lit (.int .u8 0)], .agg [.lit (.int .u8 0), .lit (.int .u8 0)], .agg [.lit (.int .u8 0), .lit (.int .u8 0)], .agg [.lit (.int .u8 0), .lit (.int .u8 0)], .agg [.lit (.int .u8 0), .lit (.int .u8 0)], .agg [.lit (.int .u8 0), .lit (.int .u8 0)]]
/-- One of Go's own tables, pinned by name: the form's constant. -/
def laid_unicode_utf8_first : DataW Unit := Go.Pinned.utf8First

/-- 'selvedgelaw09.LayoutSupers': WHATEVER THE INPUT: true; the input reads as it did. -/
def layoutSupersSpec : ChangeSpec := { name := "layoutSupers", fn := fun _ => fun
  | [d1, d2] => { results := [.lit (.bool true)], args := [d1, d2] }
  | _ => none }
def layoutSupersRow : OpenClaim := { program := "ytkmonkemkhigfaadoor", sum := "888e0ff546874360e1c9e15961167f3f144cd285cac09413495744205a639af3", func := "selvedge/selvedgelaw09.LayoutSupers", spec := "layoutSupers", named := ["unicode/utf8.first", "unicode/utf8.acceptRanges"], apart := false, laid := [("unicode/utf8.acceptRanges", laid_unicode_utf8_acceptRanges), ("unicode/utf8.first", laid_unicode_utf8_first)] }
def LayoutSupersSaid : Prop := layoutSupersRow.holds Tryd.pinned (OpenSpec.ofChange layoutSupersSpec)

/-- ITS FALSE NEIGHBOUR: 'it returns false'. Refute it at one input. -/
def layoutSupersWrong : ChangeSpec := { name := "layoutSupers", fn := fun _ => fun
  | [d1, d2] => { results := [.lit (.bool false)], args := [d1, d2] }
  | _ => none }
def LayoutSupersWrongFalsely : Prop := layoutSupersRow.holds Tryd.pinned (OpenSpec.ofChange layoutSupersWrong)

/-- 'selvedgelaw09.LayoutNames': WHATEVER THE INPUT: true; the input reads as it did. -/
def layoutNamesSpec : ChangeSpec := { name := "layoutNames", fn := fun _ => fun
  | [d1, d2] => { results := [.lit (.bool true)], args := [d1, d2] }
  | _ => none }
def layoutNamesRow : OpenClaim := { program := "ytkmonkemkhigfaadoor", sum := "888e0ff546874360e1c9e15961167f3f144cd285cac09413495744205a639af3", func := "selvedge/selvedgelaw09.LayoutNames", spec := "layoutNames", named := ["unicode/utf8.first", "unicode/utf8.acceptRanges"], apart := false, laid := [("unicode/utf8.acceptRanges", laid_unicode_utf8_acceptRanges), ("unicode/utf8.first", laid_unicode_utf8_first)] }
def LayoutNamesSaid : Prop := layoutNamesRow.holds Tryd.pinned (OpenSpec.ofChange layoutNamesSpec)

/-- ITS FALSE NEIGHBOUR: 'it returns false'. Refute it at one input. -/
def layoutNamesWrong : ChangeSpec := { name := "layoutNames", fn := fun _ => fun
  | [d1, d2] => { results := [.lit (.bool false)], args := [d1, d2] }
  | _ => none }
def LayoutNamesWrongFalsely : Prop := layoutNamesRow.holds Tryd.pinned (OpenSpec.ofChange layoutNamesWrong)

/-- 'selvedgelaw09.LayoutEntries': WHATEVER THE INPUT: true; the input reads as it did. -/
def layoutEntriesSpec : ChangeSpec := { name := "layoutEntries", fn := fun _ => fun
  | [d1, d2, d3] => { results := [.lit (.bool true)], args := [d1, d2, d3] }
  | _ => none }
def layoutEntriesRow : OpenClaim := { program := "ytkmonkemkhigfaadoor", sum := "888e0ff546874360e1c9e15961167f3f144cd285cac09413495744205a639af3", func := "selvedge/selvedgelaw09.LayoutEntries", spec := "layoutEntries", named := ["unicode/utf8.first", "unicode/utf8.acceptRanges"], apart := false, laid := [("unicode/utf8.acceptRanges", laid_unicode_utf8_acceptRanges), ("unicode/utf8.first", laid_unicode_utf8_first)] }
def LayoutEntriesSaid : Prop := layoutEntriesRow.holds Tryd.pinned (OpenSpec.ofChange layoutEntriesSpec)

/-- ITS FALSE NEIGHBOUR: 'it returns false'. Refute it at one input. -/
def layoutEntriesWrong : ChangeSpec := { name := "layoutEntries", fn := fun _ => fun
  | [d1, d2, d3] => { results := [.lit (.bool false)], args := [d1, d2, d3] }
  | _ => none }
def LayoutEntriesWrongFalsely : Prop := layoutEntriesRow.holds Tryd.pinned (OpenSpec.ofChange layoutEntriesWrong)

/-- 'selvedgelaw09.LayoutPlaces': WHATEVER THE INPUT: true; the input reads as it did. -/
def layoutPlacesSpec : ChangeSpec := { name := "layoutPlaces", fn := fun _ => fun
  | [d1, d2] => { results := [.lit (.bool true)], args := [d1, d2] }
  | _ => none }
def layoutPlacesRow : OpenClaim := { program := "ytkmonkemkhigfaadoor", sum := "888e0ff546874360e1c9e15961167f3f144cd285cac09413495744205a639af3", func := "selvedge/selvedgelaw09.LayoutPlaces", spec := "layoutPlaces", named := ["unicode/utf8.first", "unicode/utf8.acceptRanges"], apart := false, laid := [("unicode/utf8.acceptRanges", laid_unicode_utf8_acceptRanges), ("unicode/utf8.first", laid_unicode_utf8_first)] }
def LayoutPlacesSaid : Prop := layoutPlacesRow.holds Tryd.pinned (OpenSpec.ofChange layoutPlacesSpec)

/-- ITS FALSE NEIGHBOUR: 'it returns false'. Refute it at one input. -/
def layoutPlacesWrong : ChangeSpec := { name := "layoutPlaces", fn := fun _ => fun
  | [d1, d2] => { results := [.lit (.bool false)], args := [d1, d2] }
  | _ => none }
def LayoutPlacesWrongFalsely : Prop := layoutPlacesRow.holds Tryd.pinned (OpenSpec.ofChange layoutPlacesWrong)

/-- 'selvedgelaw09.LayoutSame': WHATEVER THE INPUT: true; the input reads as it did. -/
def layoutSameSpec : ChangeSpec := { name := "layoutSame", fn := fun _ => fun
  | [d1, d2] => { results := [.lit (.bool true)], args := [d1, d2] }
  | _ => none }
def layoutSameRow : OpenClaim := { program := "ytkmonkemkhigfaadoor", sum := "888e0ff546874360e1c9e15961167f3f144cd285cac09413495744205a639af3", func := "selvedge/selvedgelaw09.LayoutSame", spec := "layoutSame", named := ["unicode/utf8.first", "unicode/utf8.acceptRanges"], apart := false, laid := [("unicode/utf8.acceptRanges", laid_unicode_utf8_acceptRanges), ("unicode/utf8.first", laid_unicode_utf8_first)] }
def LayoutSameSaid : Prop := layoutSameRow.holds Tryd.pinned (OpenSpec.ofChange layoutSameSpec)

/-- ITS FALSE NEIGHBOUR: 'it returns false'. Refute it at one input. -/
def layoutSameWrong : ChangeSpec := { name := "layoutSame", fn := fun _ => fun
  | [d1, d2] => { results := [.lit (.bool false)], args := [d1, d2] }
  | _ => none }
def LayoutSameWrongFalsely : Prop := layoutSameRow.holds Tryd.pinned (OpenSpec.ofChange layoutSameWrong)

/-- 'selvedgelaw09.LayoutInodes': WHATEVER THE INPUT: true; the input reads as it did. -/
def layoutInodesSpec : ChangeSpec := { name := "layoutInodes", fn := fun _ => fun
  | [d1, d2] => { results := [.lit (.bool true)], args := [d1, d2] }
  | _ => none }
def layoutInodesRow : OpenClaim := { program := "ytkmonkemkhigfaadoor", sum := "888e0ff546874360e1c9e15961167f3f144cd285cac09413495744205a639af3", func := "selvedge/selvedgelaw09.LayoutInodes", spec := "layoutInodes", unfollowed := true, recurses := true, named := ["unicode/utf8.first", "unicode/utf8.acceptRanges"], apart := false, laid := [("unicode/utf8.acceptRanges", laid_unicode_utf8_acceptRanges), ("unicode/utf8.first", laid_unicode_utf8_first)] }
def LayoutInodesSaid : Prop := layoutInodesRow.holds Tryd.pinned (OpenSpec.ofChange layoutInodesSpec)

/-- ITS FALSE NEIGHBOUR: 'it returns false'. Refute it at one input. -/
def layoutInodesWrong : ChangeSpec := { name := "layoutInodes", fn := fun _ => fun
  | [d1, d2] => { results := [.lit (.bool false)], args := [d1, d2] }
  | _ => none }
def LayoutInodesWrongFalsely : Prop := layoutInodesRow.holds Tryd.pinned (OpenSpec.ofChange layoutInodesWrong)

/-- 'selvedgelaw09.LayoutBack': WHATEVER THE INPUT: true; the input reads as it did. -/
def layoutBackSpec : ChangeSpec := { name := "layoutBack", fn := fun _ => fun
  | [d1, d2, d3] => { results := [.lit (.bool true)], args := [d1, d2, d3] }
  | _ => none }
def layoutBackRow : OpenClaim := { program := "ytkmonkemkhigfaadoor", sum := "888e0ff546874360e1c9e15961167f3f144cd285cac09413495744205a639af3", func := "selvedge/selvedgelaw09.LayoutBack", spec := "layoutBack", unfollowed := true, recurses := true, named := ["unicode/utf8.first", "unicode/utf8.acceptRanges"], apart := false, laid := [("unicode/utf8.acceptRanges", laid_unicode_utf8_acceptRanges), ("unicode/utf8.first", laid_unicode_utf8_first)] }
def LayoutBackSaid : Prop := layoutBackRow.holds Tryd.pinned (OpenSpec.ofChange layoutBackSpec)

/-- ITS FALSE NEIGHBOUR: 'it returns false'. Refute it at one input. -/
def layoutBackWrong : ChangeSpec := { name := "layoutBack", fn := fun _ => fun
  | [d1, d2, d3] => { results := [.lit (.bool false)], args := [d1, d2, d3] }
  | _ => none }
def LayoutBackWrongFalsely : Prop := layoutBackRow.holds Tryd.pinned (OpenSpec.ofChange layoutBackWrong)

/-- 'selvedgelaw09.LayoutTurned': WHATEVER THE INPUT: true; the input reads as it did. -/
def layoutTurnedSpec : ChangeSpec := { name := "layoutTurned", fn := fun _ => fun
  | [d1, d2, d3] => { results := [.lit (.bool true)], args := [d1, d2, d3] }
  | _ => none }
def layoutTurnedRow : OpenClaim := { program := "ytkmonkemkhigfaadoor", sum := "888e0ff546874360e1c9e15961167f3f144cd285cac09413495744205a639af3", func := "selvedge/selvedgelaw09.LayoutTurned", spec := "layoutTurned", unfollowed := true, recurses := true, named := ["unicode/utf8.first", "unicode/utf8.acceptRanges"], apart := false, laid := [("unicode/utf8.acceptRanges", laid_unicode_utf8_acceptRanges), ("unicode/utf8.first", laid_unicode_utf8_first)] }
def LayoutTurnedSaid : Prop := layoutTurnedRow.holds Tryd.pinned (OpenSpec.ofChange layoutTurnedSpec)

/-- ITS FALSE NEIGHBOUR: 'it returns false'. Refute it at one input. -/
def layoutTurnedWrong : ChangeSpec := { name := "layoutTurned", fn := fun _ => fun
  | [d1, d2, d3] => { results := [.lit (.bool false)], args := [d1, d2, d3] }
  | _ => none }
def LayoutTurnedWrongFalsely : Prop := layoutTurnedRow.holds Tryd.pinned (OpenSpec.ofChange layoutTurnedWrong)

/- THE SECOND FORM. 'bulk': how many values and letters a reading holds, each counted each time it is reached (what is shared counts as often as it is met; a slice's spare places count too). A statement '..UptoSaid' is the law's where the arguments, and the package variables that the reading takes, are together of bulk at most 1048576: NARROWER than '..Said'. Prove '..Said' where nothing that the law and all that it calls make is longer than what came in: it says more and counts as full. Else prove '..UptoSaid'. A law counts once. -/
mutual
def uptoBulk {H : Type} : DataW H → Nat
  | .lit (.string bytes) => bytes.length + 1
  | .lit _ => 1
  | .nil => 1
  | .ptr d => uptoBulk d + 1
  | .slice elems spare => uptoBulkAll elems + uptoBulkAll spare + 1
  | .agg parts => uptoBulkAll parts + 1
  | .iface _ d => uptoBulk d + 1
  | .map entries => uptoBulkEntries entries + 1
  | .held _ => 1
def uptoBulkAll {H : Type} : List (DataW H) → Nat
  | [] => 0
  | d :: r => uptoBulk d + uptoBulkAll r
def uptoBulkEntries {H : Type} : List (Lit × DataW H) → Nat
  | [] => 0
  | x :: r => uptoBulkEntry x + uptoBulkEntries r
def uptoBulkEntry {H : Type} : Lit × DataW H → Nat
  | (.string bytes, d) => bytes.length + uptoBulk d + 1
  | (_, d) => uptoBulk d + 1
 end
def uptoSmall : (H : Type) → List (DataW H) → Bool := fun _ ds => decide (uptoBulkAll ds ≤ 1048576)
def OpenSpec.upto (s : _root_.Go.ChangeSpec) : _root_.Go.OpenSpec := { _root_.Go.OpenSpec.ofChange s with cond := some uptoSmall }

/-- 'selvedgelaw09.LayoutSupers', WHERE WHAT IT READS IS OF BULK AT MOST 1048576: true; the input reads as it did. -/
def layoutSupersUptoRow : OpenClaim := { program := "ytkmonkemkhigfaadoor", sum := "888e0ff546874360e1c9e15961167f3f144cd285cac09413495744205a639af3", func := "selvedge/selvedgelaw09.LayoutSupers", spec := "layoutSupers", named := ["unicode/utf8.first", "unicode/utf8.acceptRanges"], apart := false, laid := [("unicode/utf8.acceptRanges", laid_unicode_utf8_acceptRanges), ("unicode/utf8.first", laid_unicode_utf8_first)], narrowed := true }
def LayoutSupersUptoSaid : Prop := layoutSupersUptoRow.holds Tryd.pinned (OpenSpec.upto layoutSupersSpec)

/-- 'selvedgelaw09.LayoutNames', WHERE WHAT IT READS IS OF BULK AT MOST 1048576: true; the input reads as it did. -/
def layoutNamesUptoRow : OpenClaim := { program := "ytkmonkemkhigfaadoor", sum := "888e0ff546874360e1c9e15961167f3f144cd285cac09413495744205a639af3", func := "selvedge/selvedgelaw09.LayoutNames", spec := "layoutNames", named := ["unicode/utf8.first", "unicode/utf8.acceptRanges"], apart := false, laid := [("unicode/utf8.acceptRanges", laid_unicode_utf8_acceptRanges), ("unicode/utf8.first", laid_unicode_utf8_first)], narrowed := true }
def LayoutNamesUptoSaid : Prop := layoutNamesUptoRow.holds Tryd.pinned (OpenSpec.upto layoutNamesSpec)

/-- 'selvedgelaw09.LayoutEntries', WHERE WHAT IT READS IS OF BULK AT MOST 1048576: true; the input reads as it did. -/
def layoutEntriesUptoRow : OpenClaim := { program := "ytkmonkemkhigfaadoor", sum := "888e0ff546874360e1c9e15961167f3f144cd285cac09413495744205a639af3", func := "selvedge/selvedgelaw09.LayoutEntries", spec := "layoutEntries", named := ["unicode/utf8.first", "unicode/utf8.acceptRanges"], apart := false, laid := [("unicode/utf8.acceptRanges", laid_unicode_utf8_acceptRanges), ("unicode/utf8.first", laid_unicode_utf8_first)], narrowed := true }
def LayoutEntriesUptoSaid : Prop := layoutEntriesUptoRow.holds Tryd.pinned (OpenSpec.upto layoutEntriesSpec)

/-- 'selvedgelaw09.LayoutPlaces', WHERE WHAT IT READS IS OF BULK AT MOST 1048576: true; the input reads as it did. -/
def layoutPlacesUptoRow : OpenClaim := { program := "ytkmonkemkhigfaadoor", sum := "888e0ff546874360e1c9e15961167f3f144cd285cac09413495744205a639af3", func := "selvedge/selvedgelaw09.LayoutPlaces", spec := "layoutPlaces", named := ["unicode/utf8.first", "unicode/utf8.acceptRanges"], apart := false, laid := [("unicode/utf8.acceptRanges", laid_unicode_utf8_acceptRanges), ("unicode/utf8.first", laid_unicode_utf8_first)], narrowed := true }
def LayoutPlacesUptoSaid : Prop := layoutPlacesUptoRow.holds Tryd.pinned (OpenSpec.upto layoutPlacesSpec)

/-- 'selvedgelaw09.LayoutSame', WHERE WHAT IT READS IS OF BULK AT MOST 1048576: true; the input reads as it did. -/
def layoutSameUptoRow : OpenClaim := { program := "ytkmonkemkhigfaadoor", sum := "888e0ff546874360e1c9e15961167f3f144cd285cac09413495744205a639af3", func := "selvedge/selvedgelaw09.LayoutSame", spec := "layoutSame", named := ["unicode/utf8.first", "unicode/utf8.acceptRanges"], apart := false, laid := [("unicode/utf8.acceptRanges", laid_unicode_utf8_acceptRanges), ("unicode/utf8.first", laid_unicode_utf8_first)], narrowed := true }
def LayoutSameUptoSaid : Prop := layoutSameUptoRow.holds Tryd.pinned (OpenSpec.upto layoutSameSpec)

/-- 'selvedgelaw09.LayoutInodes', WHERE WHAT IT READS IS OF BULK AT MOST 1048576: true; the input reads as it did. -/
def layoutInodesUptoRow : OpenClaim := { program := "ytkmonkemkhigfaadoor", sum := "888e0ff546874360e1c9e15961167f3f144cd285cac09413495744205a639af3", func := "selvedge/selvedgelaw09.LayoutInodes", spec := "layoutInodes", unfollowed := true, recurses := true, named := ["unicode/utf8.first", "unicode/utf8.acceptRanges"], apart := false, laid := [("unicode/utf8.acceptRanges", laid_unicode_utf8_acceptRanges), ("unicode/utf8.first", laid_unicode_utf8_first)], narrowed := true }
def LayoutInodesUptoSaid : Prop := layoutInodesUptoRow.holds Tryd.pinned (OpenSpec.upto layoutInodesSpec)

/-- 'selvedgelaw09.LayoutBack', WHERE WHAT IT READS IS OF BULK AT MOST 1048576: true; the input reads as it did. -/
def layoutBackUptoRow : OpenClaim := { program := "ytkmonkemkhigfaadoor", sum := "888e0ff546874360e1c9e15961167f3f144cd285cac09413495744205a639af3", func := "selvedge/selvedgelaw09.LayoutBack", spec := "layoutBack", unfollowed := true, recurses := true, named := ["unicode/utf8.first", "unicode/utf8.acceptRanges"], apart := false, laid := [("unicode/utf8.acceptRanges", laid_unicode_utf8_acceptRanges), ("unicode/utf8.first", laid_unicode_utf8_first)], narrowed := true }
def LayoutBackUptoSaid : Prop := layoutBackUptoRow.holds Tryd.pinned (OpenSpec.upto layoutBackSpec)

/-- 'selvedgelaw09.LayoutTurned', WHERE WHAT IT READS IS OF BULK AT MOST 1048576: true; the input reads as it did. -/
def layoutTurnedUptoRow : OpenClaim := { program := "ytkmonkemkhigfaadoor", sum := "888e0ff546874360e1c9e15961167f3f144cd285cac09413495744205a639af3", func := "selvedge/selvedgelaw09.LayoutTurned", spec := "layoutTurned", unfollowed := true, recurses := true, named := ["unicode/utf8.first", "unicode/utf8.acceptRanges"], apart := false, laid := [("unicode/utf8.acceptRanges", laid_unicode_utf8_acceptRanges), ("unicode/utf8.first", laid_unicode_utf8_first)], narrowed := true }
def LayoutTurnedUptoSaid : Prop := layoutTurnedUptoRow.holds Tryd.pinned (OpenSpec.upto layoutTurnedSpec)

end Rows
end Go.Proofs.YtkmonkemkhigfaaDoor
