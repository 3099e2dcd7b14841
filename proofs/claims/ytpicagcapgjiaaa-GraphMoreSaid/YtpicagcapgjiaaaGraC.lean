/- Walks of graph's laws: GraphComes. -/
import Derived.Test.YtpicagcapgjiaaaGraB
import Derived.Test.YtpicagcapgjiaaaGra6
set_option linter.unusedSimpArgs false
set_option linter.unusedVariables false
namespace Go.Proofs.Ytpicagcapgjiaaa
open Go.RowKit Go.Sel Go.Sel.Gra Go.Shelf

attribute [local go_sem] Oper.semAt_some

theorem readyL_length (D : List (List Int)) (s t : List Int) : (readyL D s t).length ≤ D.length := by
  rw [readyL]
  split
  · rw [thoseL, List.length_map]
    exact Nat.le_trans (List.length_filter_le _ _) (by simp)
  · simp

end Go.Proofs.Ytpicagcapgjiaaa
