/- For the rows and cards of layout's laws: a witness world that holds the library's tables; bounds of numbers that came in. -/
import Derived.Test.YtkmonkemkhigfaaDoorCards
import Derived.Test.YtkmonkemkhigfaaDoorTie
import Derived.Test.YtkmonkemkhigfaaDoorFrame
import Derived.Test.YtkmonkemkhigfaaDoorLay7
import Derived.Deep.DeepHandedRow
set_option linter.unusedSimpArgs false
set_option linter.unusedVariables false
namespace Go.Proofs.YtkmonkemkhigfaaDoor
open Go.ChangeShapes Go.WideShapes Go.ChangeAt Go.RowKit Go.Sel Go.Sel.Lay

theorem own : ownKnob Tryd.prog.godebug = none := by kernel_rfl
theorem laidOut : laidOutB Tryd.prog = true := by kernel_rfl
noncomputable def wit (os : Os) : World := World.laidAll Tryd.prog os Rows.layoutSupersRow.laid
theorem wit_laid (os : Os) (args : Array Value) : laidMet Tryd.prog Rows.layoutSupersRow.laid (((wit os).forCall (fun _ _ => 0) ⟨#[], args, []⟩).memory) :=
  laidMet_laidAll args (by kernel_rfl) (by kernel_rfl)
theorem int_bounds {x : Int} (w : (Lit.int .i64 x).wf = true) : -9223372036854775808 ≤ x ∧ x ≤ 9223372036854775807 := by
  simpa [Lit.wf, IntKind.min, IntKind.max, IntKind.signed, IntKind.bits] using w
theorem u8_bounds {x : Int} (w : (Lit.int .u8 x).wf = true) : 0 ≤ x ∧ x ≤ 255 := by
  simpa [Lit.wf, IntKind.min, IntKind.max, IntKind.signed, IntKind.bits] using w
end Go.Proofs.YtkmonkemkhigfaaDoor
