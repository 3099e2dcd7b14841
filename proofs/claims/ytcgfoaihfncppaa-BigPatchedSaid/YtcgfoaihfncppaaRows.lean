/-
  No cell of these rows narrows 'for every input' (looked for: loops, veiled, ifaces, maps, wideKeys, modest, calm, conditions, laid).
  DERIVED. THE GIVEN ROWS OF THIS SEAT. 6 by the template 'for every input the law returns true; each argument reads behind the call as it read before'; 0 by the template 'total and deterministic' (their statements: YtcgfoaihfncppaaTotals.lean).
  GIVEN WITH THE SEED: the statements are not yours to turn. If you find one false, say at which input.
  Laid BY PROGRAM, IN A SANDBOX (cutbox-rows.mjs): the forced cells as the released guide's own fill.sh prints them over the translation 78fcde4d220896e6… (all of the seat's roots in one cut). By AI agents, Wed Nov 11 2026. No macro, syntax, notation, axiom, sorry.
-/
import Derived.Test.YtcgfoaihfncppaaChecked
import GoSem.Claim
import GoSem.ClaimJoined
import GoSem.ClaimMapViews
import Derived.JoinedTies
import Derived.KernelRfl
namespace Go.Proofs.Ytcgfoaihfncppaa
/- THE CELL 'sum', in the pinned program and in every row, IS THE sha256 OF THE DUMP (.gsa) THAT YtcgfoaihfncppaaProg.lean LOADS. Nothing in Lean hashes anything: it is a label: what it is worth is what the hold of that sum in a sandbox is worth. -/
noncomputable def Try.pinned : Pinned := { name := "ytcgfoaihfncppaa", sum := "78fcde4d220896e6c04da022ea8784c6e617b22a5b465fdecbace72a7e9de857", checked := Try.checked }
namespace Rows
def none {H : Type} : Left H := { results := [], args := [] }

/-- 'selvedgelaw19.BigPlaces': WHATEVER THE INPUT: true; the input reads as it did. -/
def bigPlacesSpec : ChangeSpec := { name := "bigPlaces", fn := fun _ => fun
  | [d1, d2] => { results := [.lit (.bool true)], args := [d1, d2] }
  | _ => none }
def bigPlacesRow : OpenClaim := { program := "ytcgfoaihfncppaa", sum := "78fcde4d220896e6c04da022ea8784c6e617b22a5b465fdecbace72a7e9de857", func := "selvedge/selvedgelaw19.BigPlaces", spec := "bigPlaces", unfollowed := true, recurses := true, apart := false }
def BigPlacesSaid : Prop := bigPlacesRow.holds Try.pinned (OpenSpec.ofChange bigPlacesSpec)

/-- ITS FALSE NEIGHBOUR: 'it returns false'. Refute it at one input. -/
def bigPlacesWrong : ChangeSpec := { name := "bigPlaces", fn := fun _ => fun
  | [d1, d2] => { results := [.lit (.bool false)], args := [d1, d2] }
  | _ => none }
def BigPlacesWrongFalsely : Prop := bigPlacesRow.holds Try.pinned (OpenSpec.ofChange bigPlacesWrong)

/-- 'selvedgelaw19.BigBack': WHATEVER THE INPUT: true; the input reads as it did. -/
def bigBackSpec : ChangeSpec := { name := "bigBack", fn := fun _ => fun
  | [d1, d2, d3] => { results := [.lit (.bool true)], args := [d1, d2, d3] }
  | _ => none }
def bigBackRow : OpenClaim := { program := "ytcgfoaihfncppaa", sum := "78fcde4d220896e6c04da022ea8784c6e617b22a5b465fdecbace72a7e9de857", func := "selvedge/selvedgelaw19.BigBack", spec := "bigBack", unfollowed := true, recurses := true, apart := false }
def BigBackSaid : Prop := bigBackRow.holds Try.pinned (OpenSpec.ofChange bigBackSpec)

/-- ITS FALSE NEIGHBOUR: 'it returns false'. Refute it at one input. -/
def bigBackWrong : ChangeSpec := { name := "bigBack", fn := fun _ => fun
  | [d1, d2, d3] => { results := [.lit (.bool false)], args := [d1, d2, d3] }
  | _ => none }
def BigBackWrongFalsely : Prop := bigBackRow.holds Try.pinned (OpenSpec.ofChange bigBackWrong)

/-- 'selvedgelaw19.BigWays': WHATEVER THE INPUT: true; the input reads as it did. -/
def bigWaysSpec : ChangeSpec := { name := "bigWays", fn := fun _ => fun
  | [d1, d2, d3] => { results := [.lit (.bool true)], args := [d1, d2, d3] }
  | _ => none }
def bigWaysRow : OpenClaim := { program := "ytcgfoaihfncppaa", sum := "78fcde4d220896e6c04da022ea8784c6e617b22a5b465fdecbace72a7e9de857", func := "selvedge/selvedgelaw19.BigWays", spec := "bigWays", unfollowed := true, recurses := true, apart := false }
def BigWaysSaid : Prop := bigWaysRow.holds Try.pinned (OpenSpec.ofChange bigWaysSpec)

/-- ITS FALSE NEIGHBOUR: 'it returns false'. Refute it at one input. -/
def bigWaysWrong : ChangeSpec := { name := "bigWays", fn := fun _ => fun
  | [d1, d2, d3] => { results := [.lit (.bool false)], args := [d1, d2, d3] }
  | _ => none }
def BigWaysWrongFalsely : Prop := bigWaysRow.holds Try.pinned (OpenSpec.ofChange bigWaysWrong)

/-- 'selvedgelaw19.BigPatched': WHATEVER THE INPUT: true; the input reads as it did. -/
def bigPatchedSpec : ChangeSpec := { name := "bigPatched", fn := fun _ => fun
  | [d1, d2] => { results := [.lit (.bool true)], args := [d1, d2] }
  | _ => none }
def bigPatchedRow : OpenClaim := { program := "ytcgfoaihfncppaa", sum := "78fcde4d220896e6c04da022ea8784c6e617b22a5b465fdecbace72a7e9de857", func := "selvedge/selvedgelaw19.BigPatched", spec := "bigPatched", unfollowed := true, recurses := true, apart := false }
def BigPatchedSaid : Prop := bigPatchedRow.holds Try.pinned (OpenSpec.ofChange bigPatchedSpec)

/-- ITS FALSE NEIGHBOUR: 'it returns false'. Refute it at one input. -/
def bigPatchedWrong : ChangeSpec := { name := "bigPatched", fn := fun _ => fun
  | [d1, d2] => { results := [.lit (.bool false)], args := [d1, d2] }
  | _ => none }
def BigPatchedWrongFalsely : Prop := bigPatchedRow.holds Try.pinned (OpenSpec.ofChange bigPatchedWrong)

/-- 'selvedgelaw19.BigEmpty': WHATEVER THE INPUT: true; the input reads as it did. -/
def bigEmptySpec : ChangeSpec := { name := "bigEmpty", fn := fun _ => fun
  | [d1, d2] => { results := [.lit (.bool true)], args := [d1, d2] }
  | _ => none }
def bigEmptyRow : OpenClaim := { program := "ytcgfoaihfncppaa", sum := "78fcde4d220896e6c04da022ea8784c6e617b22a5b465fdecbace72a7e9de857", func := "selvedge/selvedgelaw19.BigEmpty", spec := "bigEmpty", unfollowed := true, recurses := true, apart := false }
def BigEmptySaid : Prop := bigEmptyRow.holds Try.pinned (OpenSpec.ofChange bigEmptySpec)

/-- ITS FALSE NEIGHBOUR: 'it returns false'. Refute it at one input. -/
def bigEmptyWrong : ChangeSpec := { name := "bigEmpty", fn := fun _ => fun
  | [d1, d2] => { results := [.lit (.bool false)], args := [d1, d2] }
  | _ => none }
def BigEmptyWrongFalsely : Prop := bigEmptyRow.holds Try.pinned (OpenSpec.ofChange bigEmptyWrong)

/-- 'selvedgetop.TopGrown': WHATEVER THE INPUT: true; the input reads as it did. -/
def topGrownSpec : ChangeSpec := { name := "topGrown", fn := fun _ => fun
  | [d1, d2] => { results := [.lit (.bool true)], args := [d1, d2] }
  | _ => none }
def topGrownRow : OpenClaim := { program := "ytcgfoaihfncppaa", sum := "78fcde4d220896e6c04da022ea8784c6e617b22a5b465fdecbace72a7e9de857", func := "selvedge/selvedgetop.TopGrown", spec := "topGrown", unfollowed := true, recurses := true, apart := false }
def TopGrownSaid : Prop := topGrownRow.holds Try.pinned (OpenSpec.ofChange topGrownSpec)

/-- ITS FALSE NEIGHBOUR: 'it returns false'. Refute it at one input. -/
def topGrownWrong : ChangeSpec := { name := "topGrown", fn := fun _ => fun
  | [d1, d2] => { results := [.lit (.bool false)], args := [d1, d2] }
  | _ => none }
def TopGrownWrongFalsely : Prop := topGrownRow.holds Try.pinned (OpenSpec.ofChange topGrownWrong)

/- THE SECOND FORM. 'bulk': how many values and letters a reading holds, each counted each time it is reached (what is shared counts as often as it is met; a slice's spare places count too). A statement '..UptoSaid' is the law's where the arguments, and the package variables that the reading takes, are together of bulk at most 1048576: NARROWER than '..Said'. Prove '..Said' where nothing that the law and all that it calls make is longer than what came in: it says more and counts as full. Else prove '..UptoSaid'. A law counts once. -/
mutual
def uptoBulk {H : Type} : DataW H → Nat
  | .lit (.string bytes) => bytes.length + 1
  | .lit _ => 1
  | .nil => 1
  | .ptr d => uptoBulk d + 1
  | .slice elems spare => uptoBulkAll elems + uptoBulkAll spare + 1
  | .agg parts => uptoBulkAll parts + 1
  | .iface _ d => uptoBulk d + 1
  | .map entries => uptoBulkEntries entries + 1
  | .held _ => 1
def uptoBulkAll {H : Type} : List (DataW H) → Nat
  | [] => 0
  | d :: r => uptoBulk d + uptoBulkAll r
def uptoBulkEntries {H : Type} : List (Lit × DataW H) → Nat
  | [] => 0
  | x :: r => uptoBulkEntry x + uptoBulkEntries r
def uptoBulkEntry {H : Type} : Lit × DataW H → Nat
  | (.string bytes, d) => bytes.length + uptoBulk d + 1
  | (_, d) => uptoBulk d + 1
 end
def uptoSmall : (H : Type) → List (DataW H) → Bool := fun _ ds => decide (uptoBulkAll ds ≤ 1048576)
def OpenSpec.upto (s : _root_.Go.ChangeSpec) : _root_.Go.OpenSpec := { _root_.Go.OpenSpec.ofChange s with cond := some uptoSmall }

/-- 'selvedgelaw19.BigPlaces', WHERE WHAT IT READS IS OF BULK AT MOST 1048576: true; the input reads as it did. -/
def bigPlacesUptoRow : OpenClaim := { program := "ytcgfoaihfncppaa", sum := "78fcde4d220896e6c04da022ea8784c6e617b22a5b465fdecbace72a7e9de857", func := "selvedge/selvedgelaw19.BigPlaces", spec := "bigPlaces", unfollowed := true, recurses := true, apart := false, narrowed := true }
def BigPlacesUptoSaid : Prop := bigPlacesUptoRow.holds Try.pinned (OpenSpec.upto bigPlacesSpec)

/-- 'selvedgelaw19.BigBack', WHERE WHAT IT READS IS OF BULK AT MOST 1048576: true; the input reads as it did. -/
def bigBackUptoRow : OpenClaim := { program := "ytcgfoaihfncppaa", sum := "78fcde4d220896e6c04da022ea8784c6e617b22a5b465fdecbace72a7e9de857", func := "selvedge/selvedgelaw19.BigBack", spec := "bigBack", unfollowed := true, recurses := true, apart := false, narrowed := true }
def BigBackUptoSaid : Prop := bigBackUptoRow.holds Try.pinned (OpenSpec.upto bigBackSpec)

/-- 'selvedgelaw19.BigWays', WHERE WHAT IT READS IS OF BULK AT MOST 1048576: true; the input reads as it did. -/
def bigWaysUptoRow : OpenClaim := { program := "ytcgfoaihfncppaa", sum := "78fcde4d220896e6c04da022ea8784c6e617b22a5b465fdecbace72a7e9de857", func := "selvedge/selvedgelaw19.BigWays", spec := "bigWays", unfollowed := true, recurses := true, apart := false, narrowed := true }
def BigWaysUptoSaid : Prop := bigWaysUptoRow.holds Try.pinned (OpenSpec.upto bigWaysSpec)

/-- 'selvedgelaw19.BigPatched', WHERE WHAT IT READS IS OF BULK AT MOST 1048576: true; the input reads as it did. -/
def bigPatchedUptoRow : OpenClaim := { program := "ytcgfoaihfncppaa", sum := "78fcde4d220896e6c04da022ea8784c6e617b22a5b465fdecbace72a7e9de857", func := "selvedge/selvedgelaw19.BigPatched", spec := "bigPatched", unfollowed := true, recurses := true, apart := false, narrowed := true }
def BigPatchedUptoSaid : Prop := bigPatchedUptoRow.holds Try.pinned (OpenSpec.upto bigPatchedSpec)

/-- 'selvedgelaw19.BigEmpty', WHERE WHAT IT READS IS OF BULK AT MOST 1048576: true; the input reads as it did. -/
def bigEmptyUptoRow : OpenClaim := { program := "ytcgfoaihfncppaa", sum := "78fcde4d220896e6c04da022ea8784c6e617b22a5b465fdecbace72a7e9de857", func := "selvedge/selvedgelaw19.BigEmpty", spec := "bigEmpty", unfollowed := true, recurses := true, apart := false, narrowed := true }
def BigEmptyUptoSaid : Prop := bigEmptyUptoRow.holds Try.pinned (OpenSpec.upto bigEmptySpec)

/-- 'selvedgetop.TopGrown', WHERE WHAT IT READS IS OF BULK AT MOST 1048576: true; the input reads as it did. -/
def topGrownUptoRow : OpenClaim := { program := "ytcgfoaihfncppaa", sum := "78fcde4d220896e6c04da022ea8784c6e617b22a5b465fdecbace72a7e9de857", func := "selvedge/selvedgetop.TopGrown", spec := "topGrown", unfollowed := true, recurses := true, apart := false, narrowed := true }
def TopGrownUptoSaid : Prop := topGrownUptoRow.holds Try.pinned (OpenSpec.upto topGrownSpec)

end Rows
end Go.Proofs.Ytcgfoaihfncppaa
