/- For the row of GroupNone: a deed that came in. -/
import Derived.Test.YtbflmgpcjfoifaaGsA
import Derived.Lib.SmallJoins
set_option linter.unusedSimpArgs false
set_option linter.unusedVariables false
namespace Go.Proofs.Ytbflmgpcjfoifaa
open Go.ChangeShapes Go.WideShapes Go.ChangeAt Go.RowKit Go.Sel Go.Sel.Gp
section
variable {H : Type} {enc : TypeId × Value → H} {w : World} {base : Nat} {spare : Nat → Bool} {held : Bool}
set_option maxRecDepth 100000 in
theorem open_deed {r : Reach} {b0 : Nat} {v : Value} {d : DataW H} {p : List MemPlace} (hv : Value.okWide Try.prog w r b0 36 v) (h : DataW.Trod enc Try.prog w base spare held 36 v d p) :
    ∃ x0 x1 x2 : Int, v = .agg #[.int .i64 x0, .int .i64 x1, .int .i64 x2] := by
  obtain ⟨u0, u1, u2, ya, yb, yc, fu, rfl, _, _, ga, gb, gc⟩ := Joins.open_agg3 Try.underlying36 (by kernel_rfl) (by kernel_rfl) hv h
  obtain ⟨a0, k0, _, _⟩ := DataW.trod_int Try.underlying3 ga
  obtain ⟨a1, k1, _, _⟩ := DataW.trod_int Try.underlying3 gb
  obtain ⟨a2, k2, _, _⟩ := DataW.trod_int Try.underlying3 gc
  obtain rfl : u0 = .int .i64 a0 := by simpa using k0
  obtain rfl : u1 = .int .i64 a1 := by simpa using k1
  obtain rfl : u2 = .int .i64 a2 := by simpa using k2
  exact ⟨a0, a1, a2, rfl⟩
end
end Go.Proofs.Ytbflmgpcjfoifaa
