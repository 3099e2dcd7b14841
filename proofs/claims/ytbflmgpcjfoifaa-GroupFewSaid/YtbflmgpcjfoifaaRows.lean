/-
  No cell of these rows narrows 'for every input' (looked for: loops, veiled, ifaces, maps, wideKeys, modest, calm, conditions, laid).
  DERIVED. THE GIVEN ROWS OF THIS SEAT. 9 by the template 'for every input the law returns true; each argument reads behind the call as it read before'; 0 by the template 'total and deterministic' (their statements: YtbflmgpcjfoifaaTotals.lean).
  GIVEN WITH THE SEED: the statements are not yours to turn. If you find one false, say at which input.
  Laid BY PROGRAM, IN A SANDBOX (cutbox-rows.mjs): the forced cells as the released guide's own fill.sh prints them over the translation c616524be1bc9cb7… (all of the seat's roots in one cut). By AI agents, Wed Nov 11 2026. No macro, syntax, notation, axiom, sorry.
-/
import Derived.Test.YtbflmgpcjfoifaaChecked
import GoSem.Claim
import GoSem.ClaimJoined
import GoSem.ClaimMapViews
import Derived.JoinedTies
import Derived.KernelRfl
namespace Go.Proofs.Ytbflmgpcjfoifaa
/- THE CELL 'sum', in the pinned program and in every row, IS THE sha256 OF THE DUMP (.gsa) THAT YtbflmgpcjfoifaaProg.lean LOADS. Nothing in Lean hashes anything: it is a label: what it is worth is what the hold of that sum in a sandbox is worth. -/
noncomputable def Try.pinned : Pinned := { name := "ytbflmgpcjfoifaa", sum := "c616524be1bc9cb7ddd9658d027dcbc8d729be13567e152178bb2ee0ff87f4a9", checked := Try.checked }
namespace Rows
def none {H : Type} : Left H := { results := [], args := [] }

/-- 'selvedgelaw13.GroupRound': WHATEVER THE INPUT: true; the input reads as it did. -/
def groupRoundSpec : ChangeSpec := { name := "groupRound", fn := fun _ => fun
  | [d] => { results := [.lit (.bool true)], args := [d] }
  | _ => none }
def groupRoundRow : OpenClaim := { program := "ytbflmgpcjfoifaa", sum := "c616524be1bc9cb7ddd9658d027dcbc8d729be13567e152178bb2ee0ff87f4a9", func := "selvedge/selvedgelaw13.GroupRound", spec := "groupRound", unfollowed := true, recurses := true, apart := false }
def GroupRoundSaid : Prop := groupRoundRow.holds Try.pinned (OpenSpec.ofChange groupRoundSpec)

/-- ITS FALSE NEIGHBOUR: 'it returns false'. Refute it at one input. -/
def groupRoundWrong : ChangeSpec := { name := "groupRound", fn := fun _ => fun
  | [d] => { results := [.lit (.bool false)], args := [d] }
  | _ => none }
def GroupRoundWrongFalsely : Prop := groupRoundRow.holds Try.pinned (OpenSpec.ofChange groupRoundWrong)

/-- 'selvedgelaw13.GroupWhole': WHATEVER THE INPUT: true; the input reads as it did. -/
def groupWholeSpec : ChangeSpec := { name := "groupWhole", fn := fun _ => fun
  | [d1, d2, d3] => { results := [.lit (.bool true)], args := [d1, d2, d3] }
  | _ => none }
def groupWholeRow : OpenClaim := { program := "ytbflmgpcjfoifaa", sum := "c616524be1bc9cb7ddd9658d027dcbc8d729be13567e152178bb2ee0ff87f4a9", func := "selvedge/selvedgelaw13.GroupWhole", spec := "groupWhole", unfollowed := true, recurses := true, apart := false }
def GroupWholeSaid : Prop := groupWholeRow.holds Try.pinned (OpenSpec.ofChange groupWholeSpec)

/-- ITS FALSE NEIGHBOUR: 'it returns false'. Refute it at one input. -/
def groupWholeWrong : ChangeSpec := { name := "groupWhole", fn := fun _ => fun
  | [d1, d2, d3] => { results := [.lit (.bool false)], args := [d1, d2, d3] }
  | _ => none }
def GroupWholeWrongFalsely : Prop := groupWholeRow.holds Try.pinned (OpenSpec.ofChange groupWholeWrong)

/-- 'selvedgelaw13.GroupStays': WHATEVER THE INPUT: true; the input reads as it did. -/
def groupStaysSpec : ChangeSpec := { name := "groupStays", fn := fun _ => fun
  | [d1, d2, d3] => { results := [.lit (.bool true)], args := [d1, d2, d3] }
  | _ => none }
def groupStaysRow : OpenClaim := { program := "ytbflmgpcjfoifaa", sum := "c616524be1bc9cb7ddd9658d027dcbc8d729be13567e152178bb2ee0ff87f4a9", func := "selvedge/selvedgelaw13.GroupStays", spec := "groupStays", unfollowed := true, recurses := true, apart := false }
def GroupStaysSaid : Prop := groupStaysRow.holds Try.pinned (OpenSpec.ofChange groupStaysSpec)

/-- ITS FALSE NEIGHBOUR: 'it returns false'. Refute it at one input. -/
def groupStaysWrong : ChangeSpec := { name := "groupStays", fn := fun _ => fun
  | [d1, d2, d3] => { results := [.lit (.bool false)], args := [d1, d2, d3] }
  | _ => none }
def GroupStaysWrongFalsely : Prop := groupStaysRow.holds Try.pinned (OpenSpec.ofChange groupStaysWrong)

/-- 'selvedgelaw13.GroupFew': WHATEVER THE INPUT: true; the input reads as it did. -/
def groupFewSpec : ChangeSpec := { name := "groupFew", fn := fun _ => fun
  | [d1, d2] => { results := [.lit (.bool true)], args := [d1, d2] }
  | _ => none }
def groupFewRow : OpenClaim := { program := "ytbflmgpcjfoifaa", sum := "c616524be1bc9cb7ddd9658d027dcbc8d729be13567e152178bb2ee0ff87f4a9", func := "selvedge/selvedgelaw13.GroupFew", spec := "groupFew", unfollowed := true, recurses := true, apart := false }
def GroupFewSaid : Prop := groupFewRow.holds Try.pinned (OpenSpec.ofChange groupFewSpec)

/-- ITS FALSE NEIGHBOUR: 'it returns false'. Refute it at one input. -/
def groupFewWrong : ChangeSpec := { name := "groupFew", fn := fun _ => fun
  | [d1, d2] => { results := [.lit (.bool false)], args := [d1, d2] }
  | _ => none }
def GroupFewWrongFalsely : Prop := groupFewRow.holds Try.pinned (OpenSpec.ofChange groupFewWrong)

/-- 'selvedgelaw13.GroupPlays': WHATEVER THE INPUT: true; the input reads as it did. -/
def groupPlaysSpec : ChangeSpec := { name := "groupPlays", fn := fun _ => fun
  | [d] => { results := [.lit (.bool true)], args := [d] }
  | _ => none }
def groupPlaysRow : OpenClaim := { program := "ytbflmgpcjfoifaa", sum := "c616524be1bc9cb7ddd9658d027dcbc8d729be13567e152178bb2ee0ff87f4a9", func := "selvedge/selvedgelaw13.GroupPlays", spec := "groupPlays", unfollowed := true, recurses := true, apart := false }
def GroupPlaysSaid : Prop := groupPlaysRow.holds Try.pinned (OpenSpec.ofChange groupPlaysSpec)

/-- ITS FALSE NEIGHBOUR: 'it returns false'. Refute it at one input. -/
def groupPlaysWrong : ChangeSpec := { name := "groupPlays", fn := fun _ => fun
  | [d] => { results := [.lit (.bool false)], args := [d] }
  | _ => none }
def GroupPlaysWrongFalsely : Prop := groupPlaysRow.holds Try.pinned (OpenSpec.ofChange groupPlaysWrong)

/-- 'selvedgelaw13.GroupBehind': WHATEVER THE INPUT: true; the input reads as it did. -/
def groupBehindSpec : ChangeSpec := { name := "groupBehind", fn := fun _ => fun
  | [d] => { results := [.lit (.bool true)], args := [d] }
  | _ => none }
def groupBehindRow : OpenClaim := { program := "ytbflmgpcjfoifaa", sum := "c616524be1bc9cb7ddd9658d027dcbc8d729be13567e152178bb2ee0ff87f4a9", func := "selvedge/selvedgelaw13.GroupBehind", spec := "groupBehind", unfollowed := true, recurses := true, apart := false }
def GroupBehindSaid : Prop := groupBehindRow.holds Try.pinned (OpenSpec.ofChange groupBehindSpec)

/-- ITS FALSE NEIGHBOUR: 'it returns false'. Refute it at one input. -/
def groupBehindWrong : ChangeSpec := { name := "groupBehind", fn := fun _ => fun
  | [d] => { results := [.lit (.bool false)], args := [d] }
  | _ => none }
def GroupBehindWrongFalsely : Prop := groupBehindRow.holds Try.pinned (OpenSpec.ofChange groupBehindWrong)

/-- 'selvedgelaw13.GroupTakes': WHATEVER THE INPUT: true; the input reads as it did. -/
def groupTakesSpec : ChangeSpec := { name := "groupTakes", fn := fun _ => fun
  | [d1, d2] => { results := [.lit (.bool true)], args := [d1, d2] }
  | _ => none }
def groupTakesRow : OpenClaim := { program := "ytbflmgpcjfoifaa", sum := "c616524be1bc9cb7ddd9658d027dcbc8d729be13567e152178bb2ee0ff87f4a9", func := "selvedge/selvedgelaw13.GroupTakes", spec := "groupTakes", inPlace := ["maps.clone"], unfollowed := true, recurses := true, apart := false }
def GroupTakesSaid : Prop := groupTakesRow.holds Try.pinned (OpenSpec.ofChange groupTakesSpec)

/-- ITS FALSE NEIGHBOUR: 'it returns false'. Refute it at one input. -/
def groupTakesWrong : ChangeSpec := { name := "groupTakes", fn := fun _ => fun
  | [d1, d2] => { results := [.lit (.bool false)], args := [d1, d2] }
  | _ => none }
def GroupTakesWrongFalsely : Prop := groupTakesRow.holds Try.pinned (OpenSpec.ofChange groupTakesWrong)

/-- 'selvedgelaw13.GroupForks': WHATEVER THE INPUT: true; the input reads as it did. -/
def groupForksSpec : ChangeSpec := { name := "groupForks", fn := fun _ => fun
  | [d1, d2] => { results := [.lit (.bool true)], args := [d1, d2] }
  | _ => none }
def groupForksRow : OpenClaim := { program := "ytbflmgpcjfoifaa", sum := "c616524be1bc9cb7ddd9658d027dcbc8d729be13567e152178bb2ee0ff87f4a9", func := "selvedge/selvedgelaw13.GroupForks", spec := "groupForks", inPlace := ["maps.clone"], unfollowed := true, recurses := true, apart := false }
def GroupForksSaid : Prop := groupForksRow.holds Try.pinned (OpenSpec.ofChange groupForksSpec)

/-- ITS FALSE NEIGHBOUR: 'it returns false'. Refute it at one input. -/
def groupForksWrong : ChangeSpec := { name := "groupForks", fn := fun _ => fun
  | [d1, d2] => { results := [.lit (.bool false)], args := [d1, d2] }
  | _ => none }
def GroupForksWrongFalsely : Prop := groupForksRow.holds Try.pinned (OpenSpec.ofChange groupForksWrong)

/-- 'selvedgelaw13.GroupNone': WHATEVER THE INPUT: true; the input reads as it did. -/
def groupNoneSpec : ChangeSpec := { name := "groupNone", fn := fun _ => fun
  | [d] => { results := [.lit (.bool true)], args := [d] }
  | _ => none }
def groupNoneRow : OpenClaim := { program := "ytbflmgpcjfoifaa", sum := "c616524be1bc9cb7ddd9658d027dcbc8d729be13567e152178bb2ee0ff87f4a9", func := "selvedge/selvedgelaw13.GroupNone", spec := "groupNone", inPlace := ["maps.clone"], unfollowed := true, recurses := true, apart := false }
def GroupNoneSaid : Prop := groupNoneRow.holds Try.pinned (OpenSpec.ofChange groupNoneSpec)

/-- ITS FALSE NEIGHBOUR: 'it returns false'. Refute it at one input. -/
def groupNoneWrong : ChangeSpec := { name := "groupNone", fn := fun _ => fun
  | [d] => { results := [.lit (.bool false)], args := [d] }
  | _ => none }
def GroupNoneWrongFalsely : Prop := groupNoneRow.holds Try.pinned (OpenSpec.ofChange groupNoneWrong)

/- THE SECOND FORM. 'bulk': how many values and letters a reading holds, each counted each time it is reached (what is shared counts as often as it is met; a slice's spare places count too). A statement '..UptoSaid' is the law's where the arguments, and the package variables that the reading takes, are together of bulk at most 1048576: NARROWER than '..Said'. Prove '..Said' where nothing that the law and all that it calls make is longer than what came in: it says more and counts as full. Else prove '..UptoSaid'. A law counts once. -/
mutual
def uptoBulk {H : Type} : DataW H → Nat
  | .lit (.string bytes) => bytes.length + 1
  | .lit _ => 1
  | .nil => 1
  | .ptr d => uptoBulk d + 1
  | .slice elems spare => uptoBulkAll elems + uptoBulkAll spare + 1
  | .agg parts => uptoBulkAll parts + 1
  | .iface _ d => uptoBulk d + 1
  | .map entries => uptoBulkEntries entries + 1
  | .held _ => 1
def uptoBulkAll {H : Type} : List (DataW H) → Nat
  | [] => 0
  | d :: r => uptoBulk d + uptoBulkAll r
def uptoBulkEntries {H : Type} : List (Lit × DataW H) → Nat
  | [] => 0
  | x :: r => uptoBulkEntry x + uptoBulkEntries r
def uptoBulkEntry {H : Type} : Lit × DataW H → Nat
  | (.string bytes, d) => bytes.length + uptoBulk d + 1
  | (_, d) => uptoBulk d + 1
 end
def uptoSmall : (H : Type) → List (DataW H) → Bool := fun _ ds => decide (uptoBulkAll ds ≤ 1048576)
def OpenSpec.upto (s : _root_.Go.ChangeSpec) : _root_.Go.OpenSpec := { _root_.Go.OpenSpec.ofChange s with cond := some uptoSmall }

/-- 'selvedgelaw13.GroupRound', WHERE WHAT IT READS IS OF BULK AT MOST 1048576: true; the input reads as it did. -/
def groupRoundUptoRow : OpenClaim := { program := "ytbflmgpcjfoifaa", sum := "c616524be1bc9cb7ddd9658d027dcbc8d729be13567e152178bb2ee0ff87f4a9", func := "selvedge/selvedgelaw13.GroupRound", spec := "groupRound", unfollowed := true, recurses := true, apart := false, narrowed := true }
def GroupRoundUptoSaid : Prop := groupRoundUptoRow.holds Try.pinned (OpenSpec.upto groupRoundSpec)

/-- 'selvedgelaw13.GroupWhole', WHERE WHAT IT READS IS OF BULK AT MOST 1048576: true; the input reads as it did. -/
def groupWholeUptoRow : OpenClaim := { program := "ytbflmgpcjfoifaa", sum := "c616524be1bc9cb7ddd9658d027dcbc8d729be13567e152178bb2ee0ff87f4a9", func := "selvedge/selvedgelaw13.GroupWhole", spec := "groupWhole", unfollowed := true, recurses := true, apart := false, narrowed := true }
def GroupWholeUptoSaid : Prop := groupWholeUptoRow.holds Try.pinned (OpenSpec.upto groupWholeSpec)

/-- 'selvedgelaw13.GroupStays', WHERE WHAT IT READS IS OF BULK AT MOST 1048576: true; the input reads as it did. -/
def groupStaysUptoRow : OpenClaim := { program := "ytbflmgpcjfoifaa", sum := "c616524be1bc9cb7ddd9658d027dcbc8d729be13567e152178bb2ee0ff87f4a9", func := "selvedge/selvedgelaw13.GroupStays", spec := "groupStays", unfollowed := true, recurses := true, apart := false, narrowed := true }
def GroupStaysUptoSaid : Prop := groupStaysUptoRow.holds Try.pinned (OpenSpec.upto groupStaysSpec)

/-- 'selvedgelaw13.GroupFew', WHERE WHAT IT READS IS OF BULK AT MOST 1048576: true; the input reads as it did. -/
def groupFewUptoRow : OpenClaim := { program := "ytbflmgpcjfoifaa", sum := "c616524be1bc9cb7ddd9658d027dcbc8d729be13567e152178bb2ee0ff87f4a9", func := "selvedge/selvedgelaw13.GroupFew", spec := "groupFew", unfollowed := true, recurses := true, apart := false, narrowed := true }
def GroupFewUptoSaid : Prop := groupFewUptoRow.holds Try.pinned (OpenSpec.upto groupFewSpec)

/-- 'selvedgelaw13.GroupPlays', WHERE WHAT IT READS IS OF BULK AT MOST 1048576: true; the input reads as it did. -/
def groupPlaysUptoRow : OpenClaim := { program := "ytbflmgpcjfoifaa", sum := "c616524be1bc9cb7ddd9658d027dcbc8d729be13567e152178bb2ee0ff87f4a9", func := "selvedge/selvedgelaw13.GroupPlays", spec := "groupPlays", unfollowed := true, recurses := true, apart := false, narrowed := true }
def GroupPlaysUptoSaid : Prop := groupPlaysUptoRow.holds Try.pinned (OpenSpec.upto groupPlaysSpec)

/-- 'selvedgelaw13.GroupBehind', WHERE WHAT IT READS IS OF BULK AT MOST 1048576: true; the input reads as it did. -/
def groupBehindUptoRow : OpenClaim := { program := "ytbflmgpcjfoifaa", sum := "c616524be1bc9cb7ddd9658d027dcbc8d729be13567e152178bb2ee0ff87f4a9", func := "selvedge/selvedgelaw13.GroupBehind", spec := "groupBehind", unfollowed := true, recurses := true, apart := false, narrowed := true }
def GroupBehindUptoSaid : Prop := groupBehindUptoRow.holds Try.pinned (OpenSpec.upto groupBehindSpec)

/-- 'selvedgelaw13.GroupTakes', WHERE WHAT IT READS IS OF BULK AT MOST 1048576: true; the input reads as it did. -/
def groupTakesUptoRow : OpenClaim := { program := "ytbflmgpcjfoifaa", sum := "c616524be1bc9cb7ddd9658d027dcbc8d729be13567e152178bb2ee0ff87f4a9", func := "selvedge/selvedgelaw13.GroupTakes", spec := "groupTakes", inPlace := ["maps.clone"], unfollowed := true, recurses := true, apart := false, narrowed := true }
def GroupTakesUptoSaid : Prop := groupTakesUptoRow.holds Try.pinned (OpenSpec.upto groupTakesSpec)

/-- 'selvedgelaw13.GroupForks', WHERE WHAT IT READS IS OF BULK AT MOST 1048576: true; the input reads as it did. -/
def groupForksUptoRow : OpenClaim := { program := "ytbflmgpcjfoifaa", sum := "c616524be1bc9cb7ddd9658d027dcbc8d729be13567e152178bb2ee0ff87f4a9", func := "selvedge/selvedgelaw13.GroupForks", spec := "groupForks", inPlace := ["maps.clone"], unfollowed := true, recurses := true, apart := false, narrowed := true }
def GroupForksUptoSaid : Prop := groupForksUptoRow.holds Try.pinned (OpenSpec.upto groupForksSpec)

/-- 'selvedgelaw13.GroupNone', WHERE WHAT IT READS IS OF BULK AT MOST 1048576: true; the input reads as it did. -/
def groupNoneUptoRow : OpenClaim := { program := "ytbflmgpcjfoifaa", sum := "c616524be1bc9cb7ddd9658d027dcbc8d729be13567e152178bb2ee0ff87f4a9", func := "selvedge/selvedgelaw13.GroupNone", spec := "groupNone", inPlace := ["maps.clone"], unfollowed := true, recurses := true, apart := false, narrowed := true }
def GroupNoneUptoSaid : Prop := groupNoneUptoRow.holds Try.pinned (OpenSpec.upto groupNoneSpec)

end Rows
end Go.Proofs.Ytbflmgpcjfoifaa
