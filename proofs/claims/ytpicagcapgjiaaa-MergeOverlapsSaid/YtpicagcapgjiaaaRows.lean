/-
  No cell of these rows narrows 'for every input' (looked for: loops, veiled, ifaces, maps, wideKeys, modest, calm, conditions, laid).
  DERIVED. THE GIVEN ROWS OF THIS SEAT. 12 by the template 'for every input the law returns true; each argument reads behind the call as it read before'; 0 by the template 'total and deterministic' (their statements: YtpicagcapgjiaaaTotals.lean).
  GIVEN WITH THE SEED: the statements are not yours to turn. If you find one false, say at which input.
  Laid BY PROGRAM, IN A SANDBOX (cutbox-rows.mjs): the forced cells as the released guide's own fill.sh prints them over the translation ed95fd588af1e399… (all of the seat's roots in one cut). By AI agents, Wed Nov 11 2026. No macro, syntax, notation, axiom, sorry.
-/
import Derived.Test.YtpicagcapgjiaaaChecked
import GoSem.Claim
import GoSem.ClaimJoined
import GoSem.ClaimMapViews
import Derived.JoinedTies
import Derived.KernelRfl
namespace Go.Proofs.Ytpicagcapgjiaaa
/- THE CELL 'sum', in the pinned program and in every row, IS THE sha256 OF THE DUMP (.gsa) THAT YtpicagcapgjiaaaProg.lean LOADS. Nothing in Lean hashes anything: it is a label: what it is worth is what the hold of that sum in a sandbox is worth. -/
noncomputable def Try.pinned : Pinned := { name := "ytpicagcapgjiaaa", sum := "ed95fd588af1e3999fce318c11b02fa8693bd79f6a26ce7e8212df990f34ab58", checked := Try.checked }
namespace Rows
def none {H : Type} : Left H := { results := [], args := [] }

/-- 'selvedgelaw05.GraphMore': WHATEVER THE INPUT: true; the input reads as it did. -/
def graphMoreSpec : ChangeSpec := { name := "graphMore", fn := fun _ => fun
  | [d1, d2] => { results := [.lit (.bool true)], args := [d1, d2] }
  | _ => none }
def graphMoreRow : OpenClaim := { program := "ytpicagcapgjiaaa", sum := "ed95fd588af1e3999fce318c11b02fa8693bd79f6a26ce7e8212df990f34ab58", func := "selvedge/selvedgelaw05.GraphMore", spec := "graphMore", unfollowed := true, recurses := true, apart := false }
def GraphMoreSaid : Prop := graphMoreRow.holds Try.pinned (OpenSpec.ofChange graphMoreSpec)

/-- ITS FALSE NEIGHBOUR: 'it returns false'. Refute it at one input. -/
def graphMoreWrong : ChangeSpec := { name := "graphMore", fn := fun _ => fun
  | [d1, d2] => { results := [.lit (.bool false)], args := [d1, d2] }
  | _ => none }
def GraphMoreWrongFalsely : Prop := graphMoreRow.holds Try.pinned (OpenSpec.ofChange graphMoreWrong)

/-- 'selvedgelaw06.MergeGroups': WHATEVER THE INPUT: true; the input reads as it did. -/
def mergeGroupsSpec : ChangeSpec := { name := "mergeGroups", fn := fun _ => fun
  | [d] => { results := [.lit (.bool true)], args := [d] }
  | _ => none }
def mergeGroupsRow : OpenClaim := { program := "ytpicagcapgjiaaa", sum := "ed95fd588af1e3999fce318c11b02fa8693bd79f6a26ce7e8212df990f34ab58", func := "selvedge/selvedgelaw06.MergeGroups", spec := "mergeGroups", unfollowed := true, recurses := true, apart := false }
def MergeGroupsSaid : Prop := mergeGroupsRow.holds Try.pinned (OpenSpec.ofChange mergeGroupsSpec)

/-- ITS FALSE NEIGHBOUR: 'it returns false'. Refute it at one input. -/
def mergeGroupsWrong : ChangeSpec := { name := "mergeGroups", fn := fun _ => fun
  | [d] => { results := [.lit (.bool false)], args := [d] }
  | _ => none }
def MergeGroupsWrongFalsely : Prop := mergeGroupsRow.holds Try.pinned (OpenSpec.ofChange mergeGroupsWrong)

/-- 'selvedgelaw06.MergeExpands': WHATEVER THE INPUT: true; the input reads as it did. -/
def mergeExpandsSpec : ChangeSpec := { name := "mergeExpands", fn := fun _ => fun
  | [d1, d2] => { results := [.lit (.bool true)], args := [d1, d2] }
  | _ => none }
def mergeExpandsRow : OpenClaim := { program := "ytpicagcapgjiaaa", sum := "ed95fd588af1e3999fce318c11b02fa8693bd79f6a26ce7e8212df990f34ab58", func := "selvedge/selvedgelaw06.MergeExpands", spec := "mergeExpands", unfollowed := true, recurses := true, apart := false }
def MergeExpandsSaid : Prop := mergeExpandsRow.holds Try.pinned (OpenSpec.ofChange mergeExpandsSpec)

/-- ITS FALSE NEIGHBOUR: 'it returns false'. Refute it at one input. -/
def mergeExpandsWrong : ChangeSpec := { name := "mergeExpands", fn := fun _ => fun
  | [d1, d2] => { results := [.lit (.bool false)], args := [d1, d2] }
  | _ => none }
def MergeExpandsWrongFalsely : Prop := mergeExpandsRow.holds Try.pinned (OpenSpec.ofChange mergeExpandsWrong)

/-- 'selvedgelaw06.MergeParts': WHATEVER THE INPUT: true; the input reads as it did. -/
def mergePartsSpec : ChangeSpec := { name := "mergeParts", fn := fun _ => fun
  | [d] => { results := [.lit (.bool true)], args := [d] }
  | _ => none }
def mergePartsRow : OpenClaim := { program := "ytpicagcapgjiaaa", sum := "ed95fd588af1e3999fce318c11b02fa8693bd79f6a26ce7e8212df990f34ab58", func := "selvedge/selvedgelaw06.MergeParts", spec := "mergeParts", unfollowed := true, recurses := true, apart := false }
def MergePartsSaid : Prop := mergePartsRow.holds Try.pinned (OpenSpec.ofChange mergePartsSpec)

/-- ITS FALSE NEIGHBOUR: 'it returns false'. Refute it at one input. -/
def mergePartsWrong : ChangeSpec := { name := "mergeParts", fn := fun _ => fun
  | [d] => { results := [.lit (.bool false)], args := [d] }
  | _ => none }
def MergePartsWrongFalsely : Prop := mergePartsRow.holds Try.pinned (OpenSpec.ofChange mergePartsWrong)

/-- 'selvedgelaw06.MergeFew': WHATEVER THE INPUT: true; the input reads as it did. -/
def mergeFewSpec : ChangeSpec := { name := "mergeFew", fn := fun _ => fun
  | [d1, d2] => { results := [.lit (.bool true)], args := [d1, d2] }
  | _ => none }
def mergeFewRow : OpenClaim := { program := "ytpicagcapgjiaaa", sum := "ed95fd588af1e3999fce318c11b02fa8693bd79f6a26ce7e8212df990f34ab58", func := "selvedge/selvedgelaw06.MergeFew", spec := "mergeFew", unfollowed := true, recurses := true, apart := false }
def MergeFewSaid : Prop := mergeFewRow.holds Try.pinned (OpenSpec.ofChange mergeFewSpec)

/-- ITS FALSE NEIGHBOUR: 'it returns false'. Refute it at one input. -/
def mergeFewWrong : ChangeSpec := { name := "mergeFew", fn := fun _ => fun
  | [d1, d2] => { results := [.lit (.bool false)], args := [d1, d2] }
  | _ => none }
def MergeFewWrongFalsely : Prop := mergeFewRow.holds Try.pinned (OpenSpec.ofChange mergeFewWrong)

/-- 'selvedgelaw06.MergeClosed': WHATEVER THE INPUT: true; the input reads as it did. -/
def mergeClosedSpec : ChangeSpec := { name := "mergeClosed", fn := fun _ => fun
  | [d1, d2] => { results := [.lit (.bool true)], args := [d1, d2] }
  | _ => none }
def mergeClosedRow : OpenClaim := { program := "ytpicagcapgjiaaa", sum := "ed95fd588af1e3999fce318c11b02fa8693bd79f6a26ce7e8212df990f34ab58", func := "selvedge/selvedgelaw06.MergeClosed", spec := "mergeClosed", unfollowed := true, recurses := true, apart := false }
def MergeClosedSaid : Prop := mergeClosedRow.holds Try.pinned (OpenSpec.ofChange mergeClosedSpec)

/-- ITS FALSE NEIGHBOUR: 'it returns false'. Refute it at one input. -/
def mergeClosedWrong : ChangeSpec := { name := "mergeClosed", fn := fun _ => fun
  | [d1, d2] => { results := [.lit (.bool false)], args := [d1, d2] }
  | _ => none }
def MergeClosedWrongFalsely : Prop := mergeClosedRow.holds Try.pinned (OpenSpec.ofChange mergeClosedWrong)

/-- 'selvedgelaw06.MergeOverlaps': WHATEVER THE INPUT: true; the input reads as it did. -/
def mergeOverlapsSpec : ChangeSpec := { name := "mergeOverlaps", fn := fun _ => fun
  | [d] => { results := [.lit (.bool true)], args := [d] }
  | _ => none }
def mergeOverlapsRow : OpenClaim := { program := "ytpicagcapgjiaaa", sum := "ed95fd588af1e3999fce318c11b02fa8693bd79f6a26ce7e8212df990f34ab58", func := "selvedge/selvedgelaw06.MergeOverlaps", spec := "mergeOverlaps", unfollowed := true, recurses := true, apart := false }
def MergeOverlapsSaid : Prop := mergeOverlapsRow.holds Try.pinned (OpenSpec.ofChange mergeOverlapsSpec)

/-- ITS FALSE NEIGHBOUR: 'it returns false'. Refute it at one input. -/
def mergeOverlapsWrong : ChangeSpec := { name := "mergeOverlaps", fn := fun _ => fun
  | [d] => { results := [.lit (.bool false)], args := [d] }
  | _ => none }
def MergeOverlapsWrongFalsely : Prop := mergeOverlapsRow.holds Try.pinned (OpenSpec.ofChange mergeOverlapsWrong)

/-- 'selvedgelaw06.MergeBlocks': WHATEVER THE INPUT: true; the input reads as it did. -/
def mergeBlocksSpec : ChangeSpec := { name := "mergeBlocks", fn := fun _ => fun
  | [d1, d2, d3] => { results := [.lit (.bool true)], args := [d1, d2, d3] }
  | _ => none }
def mergeBlocksRow : OpenClaim := { program := "ytpicagcapgjiaaa", sum := "ed95fd588af1e3999fce318c11b02fa8693bd79f6a26ce7e8212df990f34ab58", func := "selvedge/selvedgelaw06.MergeBlocks", spec := "mergeBlocks", unfollowed := true, recurses := true, apart := false }
def MergeBlocksSaid : Prop := mergeBlocksRow.holds Try.pinned (OpenSpec.ofChange mergeBlocksSpec)

/-- ITS FALSE NEIGHBOUR: 'it returns false'. Refute it at one input. -/
def mergeBlocksWrong : ChangeSpec := { name := "mergeBlocks", fn := fun _ => fun
  | [d1, d2, d3] => { results := [.lit (.bool false)], args := [d1, d2, d3] }
  | _ => none }
def MergeBlocksWrongFalsely : Prop := mergeBlocksRow.holds Try.pinned (OpenSpec.ofChange mergeBlocksWrong)

/-- 'selvedgelaw06.MergeAll': WHATEVER THE INPUT: true; the input reads as it did. -/
def mergeAllSpec : ChangeSpec := { name := "mergeAll", fn := fun _ => fun
  | [d1, d2] => { results := [.lit (.bool true)], args := [d1, d2] }
  | _ => none }
def mergeAllRow : OpenClaim := { program := "ytpicagcapgjiaaa", sum := "ed95fd588af1e3999fce318c11b02fa8693bd79f6a26ce7e8212df990f34ab58", func := "selvedge/selvedgelaw06.MergeAll", spec := "mergeAll", unfollowed := true, recurses := true, apart := false }
def MergeAllSaid : Prop := mergeAllRow.holds Try.pinned (OpenSpec.ofChange mergeAllSpec)

/-- ITS FALSE NEIGHBOUR: 'it returns false'. Refute it at one input. -/
def mergeAllWrong : ChangeSpec := { name := "mergeAll", fn := fun _ => fun
  | [d1, d2] => { results := [.lit (.bool false)], args := [d1, d2] }
  | _ => none }
def MergeAllWrongFalsely : Prop := mergeAllRow.holds Try.pinned (OpenSpec.ofChange mergeAllWrong)

/-- 'selvedgelaw19.BigPlaces': WHATEVER THE INPUT: true; the input reads as it did. -/
def bigPlacesSpec : ChangeSpec := { name := "bigPlaces", fn := fun _ => fun
  | [d1, d2] => { results := [.lit (.bool true)], args := [d1, d2] }
  | _ => none }
def bigPlacesRow : OpenClaim := { program := "ytpicagcapgjiaaa", sum := "ed95fd588af1e3999fce318c11b02fa8693bd79f6a26ce7e8212df990f34ab58", func := "selvedge/selvedgelaw19.BigPlaces", spec := "bigPlaces", unfollowed := true, recurses := true, apart := false }
def BigPlacesSaid : Prop := bigPlacesRow.holds Try.pinned (OpenSpec.ofChange bigPlacesSpec)

/-- ITS FALSE NEIGHBOUR: 'it returns false'. Refute it at one input. -/
def bigPlacesWrong : ChangeSpec := { name := "bigPlaces", fn := fun _ => fun
  | [d1, d2] => { results := [.lit (.bool false)], args := [d1, d2] }
  | _ => none }
def BigPlacesWrongFalsely : Prop := bigPlacesRow.holds Try.pinned (OpenSpec.ofChange bigPlacesWrong)

/-- 'selvedgelaw19.BigBack': WHATEVER THE INPUT: true; the input reads as it did. -/
def bigBackSpec : ChangeSpec := { name := "bigBack", fn := fun _ => fun
  | [d1, d2, d3] => { results := [.lit (.bool true)], args := [d1, d2, d3] }
  | _ => none }
def bigBackRow : OpenClaim := { program := "ytpicagcapgjiaaa", sum := "ed95fd588af1e3999fce318c11b02fa8693bd79f6a26ce7e8212df990f34ab58", func := "selvedge/selvedgelaw19.BigBack", spec := "bigBack", unfollowed := true, recurses := true, apart := false }
def BigBackSaid : Prop := bigBackRow.holds Try.pinned (OpenSpec.ofChange bigBackSpec)

/-- ITS FALSE NEIGHBOUR: 'it returns false'. Refute it at one input. -/
def bigBackWrong : ChangeSpec := { name := "bigBack", fn := fun _ => fun
  | [d1, d2, d3] => { results := [.lit (.bool false)], args := [d1, d2, d3] }
  | _ => none }
def BigBackWrongFalsely : Prop := bigBackRow.holds Try.pinned (OpenSpec.ofChange bigBackWrong)

/-- 'selvedgelaw19.BigWays': WHATEVER THE INPUT: true; the input reads as it did. -/
def bigWaysSpec : ChangeSpec := { name := "bigWays", fn := fun _ => fun
  | [d1, d2, d3] => { results := [.lit (.bool true)], args := [d1, d2, d3] }
  | _ => none }
def bigWaysRow : OpenClaim := { program := "ytpicagcapgjiaaa", sum := "ed95fd588af1e3999fce318c11b02fa8693bd79f6a26ce7e8212df990f34ab58", func := "selvedge/selvedgelaw19.BigWays", spec := "bigWays", unfollowed := true, recurses := true, apart := false }
def BigWaysSaid : Prop := bigWaysRow.holds Try.pinned (OpenSpec.ofChange bigWaysSpec)

/-- ITS FALSE NEIGHBOUR: 'it returns false'. Refute it at one input. -/
def bigWaysWrong : ChangeSpec := { name := "bigWays", fn := fun _ => fun
  | [d1, d2, d3] => { results := [.lit (.bool false)], args := [d1, d2, d3] }
  | _ => none }
def BigWaysWrongFalsely : Prop := bigWaysRow.holds Try.pinned (OpenSpec.ofChange bigWaysWrong)

/- THE SECOND FORM. 'bulk': how many values and letters a reading holds, each counted each time it is reached (what is shared counts as often as it is met; a slice's spare places count too). A statement '..UptoSaid' is the law's where the arguments, and the package variables that the reading takes, are together of bulk at most 1048576: NARROWER than '..Said'. Prove '..Said' where nothing that the law and all that it calls make is longer than what came in: it says more and counts as full. Else prove '..UptoSaid'. A law counts once. -/
mutual
def uptoBulk {H : Type} : DataW H → Nat
  | .lit (.string bytes) => bytes.length + 1
  | .lit _ => 1
  | .nil => 1
  | .ptr d => uptoBulk d + 1
  | .slice elems spare => uptoBulkAll elems + uptoBulkAll spare + 1
  | .agg parts => uptoBulkAll parts + 1
  | .iface _ d => uptoBulk d + 1
  | .map entries => uptoBulkEntries entries + 1
  | .held _ => 1
def uptoBulkAll {H : Type} : List (DataW H) → Nat
  | [] => 0
  | d :: r => uptoBulk d + uptoBulkAll r
def uptoBulkEntries {H : Type} : List (Lit × DataW H) → Nat
  | [] => 0
  | x :: r => uptoBulkEntry x + uptoBulkEntries r
def uptoBulkEntry {H : Type} : Lit × DataW H → Nat
  | (.string bytes, d) => bytes.length + uptoBulk d + 1
  | (_, d) => uptoBulk d + 1
 end
def uptoSmall : (H : Type) → List (DataW H) → Bool := fun _ ds => decide (uptoBulkAll ds ≤ 1048576)
def OpenSpec.upto (s : _root_.Go.ChangeSpec) : _root_.Go.OpenSpec := { _root_.Go.OpenSpec.ofChange s with cond := some uptoSmall }

/-- 'selvedgelaw05.GraphMore', WHERE WHAT IT READS IS OF BULK AT MOST 1048576: true; the input reads as it did. -/
def graphMoreUptoRow : OpenClaim := { program := "ytpicagcapgjiaaa", sum := "ed95fd588af1e3999fce318c11b02fa8693bd79f6a26ce7e8212df990f34ab58", func := "selvedge/selvedgelaw05.GraphMore", spec := "graphMore", unfollowed := true, recurses := true, apart := false, narrowed := true }
def GraphMoreUptoSaid : Prop := graphMoreUptoRow.holds Try.pinned (OpenSpec.upto graphMoreSpec)

/-- 'selvedgelaw06.MergeGroups', WHERE WHAT IT READS IS OF BULK AT MOST 1048576: true; the input reads as it did. -/
def mergeGroupsUptoRow : OpenClaim := { program := "ytpicagcapgjiaaa", sum := "ed95fd588af1e3999fce318c11b02fa8693bd79f6a26ce7e8212df990f34ab58", func := "selvedge/selvedgelaw06.MergeGroups", spec := "mergeGroups", unfollowed := true, recurses := true, apart := false, narrowed := true }
def MergeGroupsUptoSaid : Prop := mergeGroupsUptoRow.holds Try.pinned (OpenSpec.upto mergeGroupsSpec)

/-- 'selvedgelaw06.MergeExpands', WHERE WHAT IT READS IS OF BULK AT MOST 1048576: true; the input reads as it did. -/
def mergeExpandsUptoRow : OpenClaim := { program := "ytpicagcapgjiaaa", sum := "ed95fd588af1e3999fce318c11b02fa8693bd79f6a26ce7e8212df990f34ab58", func := "selvedge/selvedgelaw06.MergeExpands", spec := "mergeExpands", unfollowed := true, recurses := true, apart := false, narrowed := true }
def MergeExpandsUptoSaid : Prop := mergeExpandsUptoRow.holds Try.pinned (OpenSpec.upto mergeExpandsSpec)

/-- 'selvedgelaw06.MergeParts', WHERE WHAT IT READS IS OF BULK AT MOST 1048576: true; the input reads as it did. -/
def mergePartsUptoRow : OpenClaim := { program := "ytpicagcapgjiaaa", sum := "ed95fd588af1e3999fce318c11b02fa8693bd79f6a26ce7e8212df990f34ab58", func := "selvedge/selvedgelaw06.MergeParts", spec := "mergeParts", unfollowed := true, recurses := true, apart := false, narrowed := true }
def MergePartsUptoSaid : Prop := mergePartsUptoRow.holds Try.pinned (OpenSpec.upto mergePartsSpec)

/-- 'selvedgelaw06.MergeFew', WHERE WHAT IT READS IS OF BULK AT MOST 1048576: true; the input reads as it did. -/
def mergeFewUptoRow : OpenClaim := { program := "ytpicagcapgjiaaa", sum := "ed95fd588af1e3999fce318c11b02fa8693bd79f6a26ce7e8212df990f34ab58", func := "selvedge/selvedgelaw06.MergeFew", spec := "mergeFew", unfollowed := true, recurses := true, apart := false, narrowed := true }
def MergeFewUptoSaid : Prop := mergeFewUptoRow.holds Try.pinned (OpenSpec.upto mergeFewSpec)

/-- 'selvedgelaw06.MergeClosed', WHERE WHAT IT READS IS OF BULK AT MOST 1048576: true; the input reads as it did. -/
def mergeClosedUptoRow : OpenClaim := { program := "ytpicagcapgjiaaa", sum := "ed95fd588af1e3999fce318c11b02fa8693bd79f6a26ce7e8212df990f34ab58", func := "selvedge/selvedgelaw06.MergeClosed", spec := "mergeClosed", unfollowed := true, recurses := true, apart := false, narrowed := true }
def MergeClosedUptoSaid : Prop := mergeClosedUptoRow.holds Try.pinned (OpenSpec.upto mergeClosedSpec)

/-- 'selvedgelaw06.MergeOverlaps', WHERE WHAT IT READS IS OF BULK AT MOST 1048576: true; the input reads as it did. -/
def mergeOverlapsUptoRow : OpenClaim := { program := "ytpicagcapgjiaaa", sum := "ed95fd588af1e3999fce318c11b02fa8693bd79f6a26ce7e8212df990f34ab58", func := "selvedge/selvedgelaw06.MergeOverlaps", spec := "mergeOverlaps", unfollowed := true, recurses := true, apart := false, narrowed := true }
def MergeOverlapsUptoSaid : Prop := mergeOverlapsUptoRow.holds Try.pinned (OpenSpec.upto mergeOverlapsSpec)

/-- 'selvedgelaw06.MergeBlocks', WHERE WHAT IT READS IS OF BULK AT MOST 1048576: true; the input reads as it did. -/
def mergeBlocksUptoRow : OpenClaim := { program := "ytpicagcapgjiaaa", sum := "ed95fd588af1e3999fce318c11b02fa8693bd79f6a26ce7e8212df990f34ab58", func := "selvedge/selvedgelaw06.MergeBlocks", spec := "mergeBlocks", unfollowed := true, recurses := true, apart := false, narrowed := true }
def MergeBlocksUptoSaid : Prop := mergeBlocksUptoRow.holds Try.pinned (OpenSpec.upto mergeBlocksSpec)

/-- 'selvedgelaw06.MergeAll', WHERE WHAT IT READS IS OF BULK AT MOST 1048576: true; the input reads as it did. -/
def mergeAllUptoRow : OpenClaim := { program := "ytpicagcapgjiaaa", sum := "ed95fd588af1e3999fce318c11b02fa8693bd79f6a26ce7e8212df990f34ab58", func := "selvedge/selvedgelaw06.MergeAll", spec := "mergeAll", unfollowed := true, recurses := true, apart := false, narrowed := true }
def MergeAllUptoSaid : Prop := mergeAllUptoRow.holds Try.pinned (OpenSpec.upto mergeAllSpec)

/-- 'selvedgelaw19.BigPlaces', WHERE WHAT IT READS IS OF BULK AT MOST 1048576: true; the input reads as it did. -/
def bigPlacesUptoRow : OpenClaim := { program := "ytpicagcapgjiaaa", sum := "ed95fd588af1e3999fce318c11b02fa8693bd79f6a26ce7e8212df990f34ab58", func := "selvedge/selvedgelaw19.BigPlaces", spec := "bigPlaces", unfollowed := true, recurses := true, apart := false, narrowed := true }
def BigPlacesUptoSaid : Prop := bigPlacesUptoRow.holds Try.pinned (OpenSpec.upto bigPlacesSpec)

/-- 'selvedgelaw19.BigBack', WHERE WHAT IT READS IS OF BULK AT MOST 1048576: true; the input reads as it did. -/
def bigBackUptoRow : OpenClaim := { program := "ytpicagcapgjiaaa", sum := "ed95fd588af1e3999fce318c11b02fa8693bd79f6a26ce7e8212df990f34ab58", func := "selvedge/selvedgelaw19.BigBack", spec := "bigBack", unfollowed := true, recurses := true, apart := false, narrowed := true }
def BigBackUptoSaid : Prop := bigBackUptoRow.holds Try.pinned (OpenSpec.upto bigBackSpec)

/-- 'selvedgelaw19.BigWays', WHERE WHAT IT READS IS OF BULK AT MOST 1048576: true; the input reads as it did. -/
def bigWaysUptoRow : OpenClaim := { program := "ytpicagcapgjiaaa", sum := "ed95fd588af1e3999fce318c11b02fa8693bd79f6a26ce7e8212df990f34ab58", func := "selvedge/selvedgelaw19.BigWays", spec := "bigWays", unfollowed := true, recurses := true, apart := false, narrowed := true }
def BigWaysUptoSaid : Prop := bigWaysUptoRow.holds Try.pinned (OpenSpec.upto bigWaysSpec)

end Rows
end Go.Proofs.Ytpicagcapgjiaaa
