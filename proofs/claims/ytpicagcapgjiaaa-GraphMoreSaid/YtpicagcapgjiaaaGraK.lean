/- Walks of graph's laws: GraphCloses. -/
import Derived.Test.YtpicagcapgjiaaaGraB
import Derived.Test.YtpicagcapgjiaaaGraJ
set_option linter.unusedSimpArgs false
set_option linter.unusedVariables false
namespace Go.Proofs.Ytpicagcapgjiaaa
open Go.RowKit Go.Sel Go.Sel.Gra Go.Shelf

attribute [local go_sem] Oper.semAt_some

theorem rd_some {w : World} {A : Option Addr} {n c : Nat} {xs : List Int} (hr : Rd w A n c (iv .i64 xs)) (hl : xs.length = n) : Rd w A (min n 60) c (iv .i64 (xs.take (min n 60))) ∧ (xs.take (min n 60)).length = min n 60 := by
  have h := Rd.upto hr (min n 60) (by omega)
  rw [iv, ← List.map_take] at h
  exact ⟨h, by simp; omega⟩
theorem beq_self_b (b : Bool) : (b == b) = true := by simp

end Go.Proofs.Ytpicagcapgjiaaa
