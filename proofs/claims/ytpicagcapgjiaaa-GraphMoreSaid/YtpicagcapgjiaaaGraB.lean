/- Walks of graph's laws: GraphLeast. -/
import Derived.Test.YtpicagcapgjiaaaGraT
import Derived.Test.YtpicagcapgjiaaaGra7
import Derived.Test.YtpicagcapgjiaaaGra4
set_option linter.unusedSimpArgs false
set_option linter.unusedVariables false
namespace Go.Proofs.Ytpicagcapgjiaaa
open Go.RowKit Go.Sel Go.Sel.Gra Go.Shelf

attribute [local go_sem] Oper.semAt_some

def inN (N : Nat) (x : Int) : Bool := decide (0 ≤ x) && decide (x < (N : Int))
/-- Those of the first k that are numbers of deps. -/
def goodK (xs : List Int) (N k : Nat) : List Int := (xs.take k).filter (inN N)
theorem goodK_zero (xs : List Int) (N : Nat) : goodK xs N 0 = [] := rfl
theorem goodK_in {xs : List Int} {N k : Nat} (h : k < xs.length) (hg : inN N xs[k] = true) : goodK xs N (k + 1) = goodK xs N k ++ [xs[k]] := by
  rw [goodK, List.take_succ_eq_append_getElem h, List.filter_append]
  simp [goodK, hg]
theorem goodK_out {xs : List Int} {N k : Nat} (h : k < xs.length) (hg : inN N xs[k] = false) : goodK xs N (k + 1) = goodK xs N k := by
  rw [goodK, List.take_succ_eq_append_getElem h, List.filter_append]
  simp [goodK, hg]
theorem goodK_length (xs : List Int) (N k : Nat) : (goodK xs N k).length ≤ k := Nat.le_trans (List.length_filter_le _ _) (by simp; omega)
theorem goodK_mem {xs : List Int} {N k : Nat} {a : Int} (h : a ∈ goodK xs N k) : 0 ≤ a ∧ a < (N : Int) := by
  have := (List.mem_filter.1 h).2
  simpa [inN] using this
theorem fewD_length (D : List (List Int)) : (fewD D).length = min D.length 40 := by simp [fewD]; omega
theorem closeL_length (D : List (List Int)) (s : List Int) : (closeL D s).length ≤ D.length := by
  rw [closeL]
  split
  · rw [thoseL, List.length_map]
    exact Nat.le_trans (List.length_filter_le _ _) (by simp)
  · simp

end Go.Proofs.Ytpicagcapgjiaaa
