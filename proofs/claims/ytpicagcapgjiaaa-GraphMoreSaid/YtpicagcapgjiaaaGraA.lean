/- For the rows of graph's laws: bounds of numbers that came in; slices of slices, arrays of three that came in. -/
import Derived.Test.YtpicagcapgjiaaaRows
import Derived.Test.YtpicagcapgjiaaaSel6
import Derived.Test.YtpicagcapgjiaaaGraL
import Derived.Laws.IdiomArrays
set_option linter.unusedSimpArgs false
set_option linter.unusedVariables false
namespace Go.Proofs.Ytpicagcapgjiaaa
open Go.ChangeShapes Go.WideShapes Go.ChangeAt Go.RowKit Go.Sel Go.Sel.Gra

theorem own : ownKnob Try.prog.godebug = none := by kernel_rfl
theorem laidOut : laidOutB Try.prog = true := by kernel_rfl
theorem int_bounds {x : Int} (w : (Lit.int .i64 x).wf = true) : -9223372036854775808 ≤ x ∧ x ≤ 9223372036854775807 := i64_bounds w

section
variable {H : Type} {enc : TypeId × Value → H} {w : World} {base : Nat} {spare : Nat → Bool} {held : Bool}
set_option maxRecDepth 100000 in
theorem read_deps {fuel : Nat} {v : Value} {x : DataW H × List MemPlace} (h : DataW.trod enc Try.prog w base spare held fuel 22 [v] = some x) :
    ∃ (A : Option Addr) (n c : Nat) (D : List (List Int)), v = .slice A n c ∧ Dp w A n c D := by
  obtain ⟨A, n, c, D, h1, h2, _⟩ := read_deps0 Try.underlying22 Try.underlying23 Try.underlying3 (by kernel_rfl) (by kernel_rfl) h
  exact ⟨A, n, c, D, h1, h2⟩
theorem okWide_arr3 {P : Program} {r : Reach} {b0 : Nat} {t e : TypeId} {v : Value} (ht : P.underlying t = some (.array 3 e)) (hC : P.cellsOf t = 3) (h : Value.okWide P w r b0 t v) : ∃ v0 v1 v2, v = .agg #[v0, v1, v2] := by
  simp only [Value.okWide, ht] at h
  obtain ⟨cs, h1, h2, _⟩ := h
  subst h1
  rw [hC] at h2
  obtain ⟨l⟩ := cs
  match l, h2 with
  | [a, b, c], _ => exact ⟨a, b, c, rfl⟩
set_option maxRecDepth 100000 in
theorem open_sets3 {r : Reach} {b0 : Nat} {v : Value} {d : DataW H} {p : List MemPlace} (hv : Value.okWide Try.prog w r b0 24 v) (h : DataW.Trod enc Try.prog w base spare held 24 v d p) :
    ∃ A0 n0 c0 xs0 A1 n1 c1 xs1 A2 n2 c2 xs2, v = .agg #[.slice A0 n0 c0, .slice A1 n1 c1, .slice A2 n2 c2] ∧ (List.length xs0 = n0 ∧ Rd w A0 n0 c0 (iv .i64 xs0)) ∧ (List.length xs1 = n1 ∧ Rd w A1 n1 c1 (iv .i64 xs1)) ∧ (List.length xs2 = n2 ∧ Rd w A2 n2 c2 (iv .i64 xs2)) := by
  obtain ⟨v0, v1, v2, rfl⟩ := okWide_arr3 Try.underlying24 (by kernel_rfl) hv
  obtain ⟨fuel, hf⟩ := h
  obtain ⟨y0, y1, y2, n, _, h0, h1, h2⟩ := trod_array3 Try.underlying24 (by kernel_rfl) hf
  obtain ⟨A0, n0, c0, xs0, rfl, l0, r0, _⟩ := read_ints Try.underlying23 Try.underlying3 (by kernel_rfl) h0
  obtain ⟨A1, n1, c1, xs1, rfl, l1, r1, _⟩ := read_ints Try.underlying23 Try.underlying3 (by kernel_rfl) h1
  obtain ⟨A2, n2, c2, xs2, rfl, l2, r2, _⟩ := read_ints Try.underlying23 Try.underlying3 (by kernel_rfl) h2
  exact ⟨A0, n0, c0, xs0, A1, n1, c1, xs1, A2, n2, c2, xs2, rfl, ⟨l0, r0⟩, ⟨l1, r1⟩, ⟨l2, r2⟩⟩
end
end Go.Proofs.Ytpicagcapgjiaaa
