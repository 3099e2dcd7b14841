/-
  No cell of these rows narrows 'for every input' (looked for: loops, veiled, ifaces, maps, wideKeys, modest, calm, conditions, laid).
  DERIVED. THE GIVEN ROWS OF THIS SEAT. 9 by the template 'for every input the law returns true; each argument reads behind the call as it read before'; 0 by the template 'total and deterministic' (their statements: YtefgkomcmknigaaTotals.lean).
  GIVEN WITH THE SEED: the statements are not yours to turn. If you find one false, say at which input.
  Laid BY PROGRAM, IN A SANDBOX (cutbox-rows.mjs): the forced cells as the released guide's own fill.sh prints them over the translation 801558b0c604b4f0… (all of the seat's roots in one cut). By AI agents, Wed Nov 11 2026. No macro, syntax, notation, axiom, sorry.
-/
import Derived.Test.YtefgkomcmknigaaChecked
import GoSem.Claim
import GoSem.ClaimJoined
import GoSem.ClaimMapViews
import Derived.JoinedTies
import Derived.KernelRfl
namespace Go.Proofs.Ytefgkomcmknigaa
/- THE CELL 'sum', in the pinned program and in every row, IS THE sha256 OF THE DUMP (.gsa) THAT YtefgkomcmknigaaProg.lean LOADS. Nothing in Lean hashes anything: it is a label: what it is worth is what the hold of that sum in a sandbox is worth. -/
noncomputable def Try.pinned : Pinned := { name := "ytefgkomcmknigaa", sum := "801558b0c604b4f0a91b42d80198283784e95037dcc99ca3ca3fbec704af525f", checked := Try.checked }
namespace Rows
def none {H : Type} : Left H := { results := [], args := [] }

/-- 'selvedgelaw05.GraphThins': WHATEVER THE INPUT: true; the input reads as it did. -/
def graphThinsSpec : ChangeSpec := { name := "graphThins", fn := fun _ => fun
  | [d] => { results := [.lit (.bool true)], args := [d] }
  | _ => none }
def graphThinsRow : OpenClaim := { program := "ytefgkomcmknigaa", sum := "801558b0c604b4f0a91b42d80198283784e95037dcc99ca3ca3fbec704af525f", func := "selvedge/selvedgelaw05.GraphThins", spec := "graphThins", unfollowed := true, recurses := true, apart := false }
def GraphThinsSaid : Prop := graphThinsRow.holds Try.pinned (OpenSpec.ofChange graphThinsSpec)

/-- ITS FALSE NEIGHBOUR: 'it returns false'. Refute it at one input. -/
def graphThinsWrong : ChangeSpec := { name := "graphThins", fn := fun _ => fun
  | [d] => { results := [.lit (.bool false)], args := [d] }
  | _ => none }
def GraphThinsWrongFalsely : Prop := graphThinsRow.holds Try.pinned (OpenSpec.ofChange graphThinsWrong)

/-- 'selvedgelaw05.GraphSame': WHATEVER THE INPUT: true; the input reads as it did. -/
def graphSameSpec : ChangeSpec := { name := "graphSame", fn := fun _ => fun
  | [d1, d2, d3] => { results := [.lit (.bool true)], args := [d1, d2, d3] }
  | _ => none }
def graphSameRow : OpenClaim := { program := "ytefgkomcmknigaa", sum := "801558b0c604b4f0a91b42d80198283784e95037dcc99ca3ca3fbec704af525f", func := "selvedge/selvedgelaw05.GraphSame", spec := "graphSame", unfollowed := true, recurses := true, apart := false }
def GraphSameSaid : Prop := graphSameRow.holds Try.pinned (OpenSpec.ofChange graphSameSpec)

/-- ITS FALSE NEIGHBOUR: 'it returns false'. Refute it at one input. -/
def graphSameWrong : ChangeSpec := { name := "graphSame", fn := fun _ => fun
  | [d1, d2, d3] => { results := [.lit (.bool false)], args := [d1, d2, d3] }
  | _ => none }
def GraphSameWrongFalsely : Prop := graphSameRow.holds Try.pinned (OpenSpec.ofChange graphSameWrong)

/-- 'selvedgelaw05.GraphTells': WHATEVER THE INPUT: true; the input reads as it did. -/
def graphTellsSpec : ChangeSpec := { name := "graphTells", fn := fun _ => fun
  | [d1, d2, d3] => { results := [.lit (.bool true)], args := [d1, d2, d3] }
  | _ => none }
def graphTellsRow : OpenClaim := { program := "ytefgkomcmknigaa", sum := "801558b0c604b4f0a91b42d80198283784e95037dcc99ca3ca3fbec704af525f", func := "selvedge/selvedgelaw05.GraphTells", spec := "graphTells", unfollowed := true, recurses := true, apart := false }
def GraphTellsSaid : Prop := graphTellsRow.holds Try.pinned (OpenSpec.ofChange graphTellsSpec)

/-- ITS FALSE NEIGHBOUR: 'it returns false'. Refute it at one input. -/
def graphTellsWrong : ChangeSpec := { name := "graphTells", fn := fun _ => fun
  | [d1, d2, d3] => { results := [.lit (.bool false)], args := [d1, d2, d3] }
  | _ => none }
def GraphTellsWrongFalsely : Prop := graphTellsRow.holds Try.pinned (OpenSpec.ofChange graphTellsWrong)

/-- 'selvedgelaw05.GraphOrder': WHATEVER THE INPUT: true; the input reads as it did. -/
def graphOrderSpec : ChangeSpec := { name := "graphOrder", fn := fun _ => fun
  | [d1, d2] => { results := [.lit (.bool true)], args := [d1, d2] }
  | _ => none }
def graphOrderRow : OpenClaim := { program := "ytefgkomcmknigaa", sum := "801558b0c604b4f0a91b42d80198283784e95037dcc99ca3ca3fbec704af525f", func := "selvedge/selvedgelaw05.GraphOrder", spec := "graphOrder", unfollowed := true, recurses := true, apart := false }
def GraphOrderSaid : Prop := graphOrderRow.holds Try.pinned (OpenSpec.ofChange graphOrderSpec)

/-- ITS FALSE NEIGHBOUR: 'it returns false'. Refute it at one input. -/
def graphOrderWrong : ChangeSpec := { name := "graphOrder", fn := fun _ => fun
  | [d1, d2] => { results := [.lit (.bool false)], args := [d1, d2] }
  | _ => none }
def GraphOrderWrongFalsely : Prop := graphOrderRow.holds Try.pinned (OpenSpec.ofChange graphOrderWrong)

/-- 'selvedgelaw05.GraphReadies': WHATEVER THE INPUT: true; the input reads as it did. -/
def graphReadiesSpec : ChangeSpec := { name := "graphReadies", fn := fun _ => fun
  | [d1, d2, d3] => { results := [.lit (.bool true)], args := [d1, d2, d3] }
  | _ => none }
def graphReadiesRow : OpenClaim := { program := "ytefgkomcmknigaa", sum := "801558b0c604b4f0a91b42d80198283784e95037dcc99ca3ca3fbec704af525f", func := "selvedge/selvedgelaw05.GraphReadies", spec := "graphReadies", unfollowed := true, recurses := true, apart := false }
def GraphReadiesSaid : Prop := graphReadiesRow.holds Try.pinned (OpenSpec.ofChange graphReadiesSpec)

/-- ITS FALSE NEIGHBOUR: 'it returns false'. Refute it at one input. -/
def graphReadiesWrong : ChangeSpec := { name := "graphReadies", fn := fun _ => fun
  | [d1, d2, d3] => { results := [.lit (.bool false)], args := [d1, d2, d3] }
  | _ => none }
def GraphReadiesWrongFalsely : Prop := graphReadiesRow.holds Try.pinned (OpenSpec.ofChange graphReadiesWrong)

/-- 'selvedgelaw05.GraphMore': WHATEVER THE INPUT: true; the input reads as it did. -/
def graphMoreSpec : ChangeSpec := { name := "graphMore", fn := fun _ => fun
  | [d1, d2] => { results := [.lit (.bool true)], args := [d1, d2] }
  | _ => none }
def graphMoreRow : OpenClaim := { program := "ytefgkomcmknigaa", sum := "801558b0c604b4f0a91b42d80198283784e95037dcc99ca3ca3fbec704af525f", func := "selvedge/selvedgelaw05.GraphMore", spec := "graphMore", unfollowed := true, recurses := true, apart := false }
def GraphMoreSaid : Prop := graphMoreRow.holds Try.pinned (OpenSpec.ofChange graphMoreSpec)

/-- ITS FALSE NEIGHBOUR: 'it returns false'. Refute it at one input. -/
def graphMoreWrong : ChangeSpec := { name := "graphMore", fn := fun _ => fun
  | [d1, d2] => { results := [.lit (.bool false)], args := [d1, d2] }
  | _ => none }
def GraphMoreWrongFalsely : Prop := graphMoreRow.holds Try.pinned (OpenSpec.ofChange graphMoreWrong)

/-- 'selvedgelaw05.GraphCloses': WHATEVER THE INPUT: true; the input reads as it did. -/
def graphClosesSpec : ChangeSpec := { name := "graphCloses", fn := fun _ => fun
  | [d1, d2] => { results := [.lit (.bool true)], args := [d1, d2] }
  | _ => none }
def graphClosesRow : OpenClaim := { program := "ytefgkomcmknigaa", sum := "801558b0c604b4f0a91b42d80198283784e95037dcc99ca3ca3fbec704af525f", func := "selvedge/selvedgelaw05.GraphCloses", spec := "graphCloses", unfollowed := true, recurses := true, apart := false }
def GraphClosesSaid : Prop := graphClosesRow.holds Try.pinned (OpenSpec.ofChange graphClosesSpec)

/-- ITS FALSE NEIGHBOUR: 'it returns false'. Refute it at one input. -/
def graphClosesWrong : ChangeSpec := { name := "graphCloses", fn := fun _ => fun
  | [d1, d2] => { results := [.lit (.bool false)], args := [d1, d2] }
  | _ => none }
def GraphClosesWrongFalsely : Prop := graphClosesRow.holds Try.pinned (OpenSpec.ofChange graphClosesWrong)

/-- 'selvedgelaw05.GraphLeast': WHATEVER THE INPUT: true; the input reads as it did. -/
def graphLeastSpec : ChangeSpec := { name := "graphLeast", fn := fun _ => fun
  | [d1, d2, d3] => { results := [.lit (.bool true)], args := [d1, d2, d3] }
  | _ => none }
def graphLeastRow : OpenClaim := { program := "ytefgkomcmknigaa", sum := "801558b0c604b4f0a91b42d80198283784e95037dcc99ca3ca3fbec704af525f", func := "selvedge/selvedgelaw05.GraphLeast", spec := "graphLeast", unfollowed := true, recurses := true, apart := false }
def GraphLeastSaid : Prop := graphLeastRow.holds Try.pinned (OpenSpec.ofChange graphLeastSpec)

/-- ITS FALSE NEIGHBOUR: 'it returns false'. Refute it at one input. -/
def graphLeastWrong : ChangeSpec := { name := "graphLeast", fn := fun _ => fun
  | [d1, d2, d3] => { results := [.lit (.bool false)], args := [d1, d2, d3] }
  | _ => none }
def GraphLeastWrongFalsely : Prop := graphLeastRow.holds Try.pinned (OpenSpec.ofChange graphLeastWrong)

/-- 'selvedgelaw05.GraphComes': WHATEVER THE INPUT: true; the input reads as it did. -/
def graphComesSpec : ChangeSpec := { name := "graphComes", fn := fun _ => fun
  | [d1, d2, d3] => { results := [.lit (.bool true)], args := [d1, d2, d3] }
  | _ => none }
def graphComesRow : OpenClaim := { program := "ytefgkomcmknigaa", sum := "801558b0c604b4f0a91b42d80198283784e95037dcc99ca3ca3fbec704af525f", func := "selvedge/selvedgelaw05.GraphComes", spec := "graphComes", unfollowed := true, recurses := true, apart := false }
def GraphComesSaid : Prop := graphComesRow.holds Try.pinned (OpenSpec.ofChange graphComesSpec)

/-- ITS FALSE NEIGHBOUR: 'it returns false'. Refute it at one input. -/
def graphComesWrong : ChangeSpec := { name := "graphComes", fn := fun _ => fun
  | [d1, d2, d3] => { results := [.lit (.bool false)], args := [d1, d2, d3] }
  | _ => none }
def GraphComesWrongFalsely : Prop := graphComesRow.holds Try.pinned (OpenSpec.ofChange graphComesWrong)

/- THE SECOND FORM. 'bulk': how many values and letters a reading holds, each counted each time it is reached (what is shared counts as often as it is met; a slice's spare places count too). A statement '..UptoSaid' is the law's where the arguments, and the package variables that the reading takes, are together of bulk at most 1048576: NARROWER than '..Said'. Prove '..Said' where nothing that the law and all that it calls make is longer than what came in: it says more and counts as full. Else prove '..UptoSaid'. A law counts once. -/
mutual
def uptoBulk {H : Type} : DataW H → Nat
  | .lit (.string bytes) => bytes.length + 1
  | .lit _ => 1
  | .nil => 1
  | .ptr d => uptoBulk d + 1
  | .slice elems spare => uptoBulkAll elems + uptoBulkAll spare + 1
  | .agg parts => uptoBulkAll parts + 1
  | .iface _ d => uptoBulk d + 1
  | .map entries => uptoBulkEntries entries + 1
  | .held _ => 1
def uptoBulkAll {H : Type} : List (DataW H) → Nat
  | [] => 0
  | d :: r => uptoBulk d + uptoBulkAll r
def uptoBulkEntries {H : Type} : List (Lit × DataW H) → Nat
  | [] => 0
  | x :: r => uptoBulkEntry x + uptoBulkEntries r
def uptoBulkEntry {H : Type} : Lit × DataW H → Nat
  | (.string bytes, d) => bytes.length + uptoBulk d + 1
  | (_, d) => uptoBulk d + 1
 end
def uptoSmall : (H : Type) → List (DataW H) → Bool := fun _ ds => decide (uptoBulkAll ds ≤ 1048576)
def OpenSpec.upto (s : _root_.Go.ChangeSpec) : _root_.Go.OpenSpec := { _root_.Go.OpenSpec.ofChange s with cond := some uptoSmall }

/-- 'selvedgelaw05.GraphThins', WHERE WHAT IT READS IS OF BULK AT MOST 1048576: true; the input reads as it did. -/
def graphThinsUptoRow : OpenClaim := { program := "ytefgkomcmknigaa", sum := "801558b0c604b4f0a91b42d80198283784e95037dcc99ca3ca3fbec704af525f", func := "selvedge/selvedgelaw05.GraphThins", spec := "graphThins", unfollowed := true, recurses := true, apart := false, narrowed := true }
def GraphThinsUptoSaid : Prop := graphThinsUptoRow.holds Try.pinned (OpenSpec.upto graphThinsSpec)

/-- 'selvedgelaw05.GraphSame', WHERE WHAT IT READS IS OF BULK AT MOST 1048576: true; the input reads as it did. -/
def graphSameUptoRow : OpenClaim := { program := "ytefgkomcmknigaa", sum := "801558b0c604b4f0a91b42d80198283784e95037dcc99ca3ca3fbec704af525f", func := "selvedge/selvedgelaw05.GraphSame", spec := "graphSame", unfollowed := true, recurses := true, apart := false, narrowed := true }
def GraphSameUptoSaid : Prop := graphSameUptoRow.holds Try.pinned (OpenSpec.upto graphSameSpec)

/-- 'selvedgelaw05.GraphTells', WHERE WHAT IT READS IS OF BULK AT MOST 1048576: true; the input reads as it did. -/
def graphTellsUptoRow : OpenClaim := { program := "ytefgkomcmknigaa", sum := "801558b0c604b4f0a91b42d80198283784e95037dcc99ca3ca3fbec704af525f", func := "selvedge/selvedgelaw05.GraphTells", spec := "graphTells", unfollowed := true, recurses := true, apart := false, narrowed := true }
def GraphTellsUptoSaid : Prop := graphTellsUptoRow.holds Try.pinned (OpenSpec.upto graphTellsSpec)

/-- 'selvedgelaw05.GraphOrder', WHERE WHAT IT READS IS OF BULK AT MOST 1048576: true; the input reads as it did. -/
def graphOrderUptoRow : OpenClaim := { program := "ytefgkomcmknigaa", sum := "801558b0c604b4f0a91b42d80198283784e95037dcc99ca3ca3fbec704af525f", func := "selvedge/selvedgelaw05.GraphOrder", spec := "graphOrder", unfollowed := true, recurses := true, apart := false, narrowed := true }
def GraphOrderUptoSaid : Prop := graphOrderUptoRow.holds Try.pinned (OpenSpec.upto graphOrderSpec)

/-- 'selvedgelaw05.GraphReadies', WHERE WHAT IT READS IS OF BULK AT MOST 1048576: true; the input reads as it did. -/
def graphReadiesUptoRow : OpenClaim := { program := "ytefgkomcmknigaa", sum := "801558b0c604b4f0a91b42d80198283784e95037dcc99ca3ca3fbec704af525f", func := "selvedge/selvedgelaw05.GraphReadies", spec := "graphReadies", unfollowed := true, recurses := true, apart := false, narrowed := true }
def GraphReadiesUptoSaid : Prop := graphReadiesUptoRow.holds Try.pinned (OpenSpec.upto graphReadiesSpec)

/-- 'selvedgelaw05.GraphMore', WHERE WHAT IT READS IS OF BULK AT MOST 1048576: true; the input reads as it did. -/
def graphMoreUptoRow : OpenClaim := { program := "ytefgkomcmknigaa", sum := "801558b0c604b4f0a91b42d80198283784e95037dcc99ca3ca3fbec704af525f", func := "selvedge/selvedgelaw05.GraphMore", spec := "graphMore", unfollowed := true, recurses := true, apart := false, narrowed := true }
def GraphMoreUptoSaid : Prop := graphMoreUptoRow.holds Try.pinned (OpenSpec.upto graphMoreSpec)

/-- 'selvedgelaw05.GraphCloses', WHERE WHAT IT READS IS OF BULK AT MOST 1048576: true; the input reads as it did. -/
def graphClosesUptoRow : OpenClaim := { program := "ytefgkomcmknigaa", sum := "801558b0c604b4f0a91b42d80198283784e95037dcc99ca3ca3fbec704af525f", func := "selvedge/selvedgelaw05.GraphCloses", spec := "graphCloses", unfollowed := true, recurses := true, apart := false, narrowed := true }
def GraphClosesUptoSaid : Prop := graphClosesUptoRow.holds Try.pinned (OpenSpec.upto graphClosesSpec)

/-- 'selvedgelaw05.GraphLeast', WHERE WHAT IT READS IS OF BULK AT MOST 1048576: true; the input reads as it did. -/
def graphLeastUptoRow : OpenClaim := { program := "ytefgkomcmknigaa", sum := "801558b0c604b4f0a91b42d80198283784e95037dcc99ca3ca3fbec704af525f", func := "selvedge/selvedgelaw05.GraphLeast", spec := "graphLeast", unfollowed := true, recurses := true, apart := false, narrowed := true }
def GraphLeastUptoSaid : Prop := graphLeastUptoRow.holds Try.pinned (OpenSpec.upto graphLeastSpec)

/-- 'selvedgelaw05.GraphComes', WHERE WHAT IT READS IS OF BULK AT MOST 1048576: true; the input reads as it did. -/
def graphComesUptoRow : OpenClaim := { program := "ytefgkomcmknigaa", sum := "801558b0c604b4f0a91b42d80198283784e95037dcc99ca3ca3fbec704af525f", func := "selvedge/selvedgelaw05.GraphComes", spec := "graphComes", unfollowed := true, recurses := true, apart := false, narrowed := true }
def GraphComesUptoSaid : Prop := graphComesUptoRow.holds Try.pinned (OpenSpec.upto graphComesSpec)

end Rows
end Go.Proofs.Ytefgkomcmknigaa
