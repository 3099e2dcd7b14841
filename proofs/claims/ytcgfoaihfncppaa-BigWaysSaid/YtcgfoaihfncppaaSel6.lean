/- Small words of my own for rows: slices of slices of whole numbers that came in; arrays of whole numbers and of slices. No program in sight. -/
import Derived.Test.YtcgfoaihfncppaaFrame
import Derived.Test.YtcgfoaihfncppaaSel5
namespace Go.Sel
open Go.ChangeShapes Go.WideShapes Go.ChangeAt Go.RowKit Go.Sel.Gra

def AllI64 (D : List (List Int)) : Prop := ∀ i, ∀ d ∈ nth D i, -9223372036854775808 ≤ d ∧ d ≤ 9223372036854775807
theorem i64_bounds {x : Int} (w : (Lit.int .i64 x).wf = true) : -9223372036854775808 ≤ x ∧ x ≤ 9223372036854775807 := by
  simpa [Lit.wf, IntKind.min, IntKind.max, IntKind.signed, IntKind.bits] using w
theorem rows_of {w : World} : ∀ (vs : List Value), (∀ u ∈ vs, ∃ (A : Option Addr) (n c : Nat) (xs : List Int), u = .slice A n c ∧ xs.length = n ∧ Rd w A n c (iv .i64 xs) ∧ ∀ x ∈ xs, (Lit.int .i64 x).wf = true) →
    ∃ (ss : List (Option Addr × Nat × Nat)) (D : List (List Int)), vs = ss.map sv ∧ ss.length = D.length ∧ AllI64 D ∧ ∀ j (h : j < ss.length), (nth D j).length = ss[j].2.1 ∧ Rd w ss[j].1 ss[j].2.1 ss[j].2.2 (iv .i64 (nth D j))
  | [], _ => ⟨[], [], rfl, rfl, fun i d h => by simp [nth] at h, fun j h => by simp at h⟩
  | u :: vs, h => by
    obtain ⟨A, n, c, xs, rfl, h1, h2, h3⟩ := h u (by simp)
    obtain ⟨ss, D, rfl, h4, h5, h6⟩ := rows_of vs fun u hu => h u (by simp [hu])
    refine ⟨(A, n, c) :: ss, xs :: D, rfl, by simp [h4], ?_, ?_⟩
    · intro i d hd
      cases i with
      | zero => exact i64_bounds (h3 d (by simpa [nth] using hd))
      | succ i => exact h5 i d (by simpa [nth] using hd)
    · intro j hj
      cases j with
      | zero => exact ⟨by simpa [nth] using h1, by simpa [nth] using h2⟩
      | succ j => exact h6 j (by simpa using hj)
section
variable {H : Type} {enc : TypeId × Value → H} {P : Program} {w : World} {base : Nat} {spare : Nat → Bool} {held : Bool}
/-- A slice of slices of whole numbers that came in. -/
theorem read_deps0 {t e f : TypeId} {fuel : Nat} {v : Value} {x : DataW H × List MemPlace} (ht : P.underlying t = some (.slice e)) (he : P.underlying e = some (.slice f)) (hf : P.underlying f = some (.int .i64)) (hc : P.cellsOf e = 1) (hg : P.cellsOf f = 1)
    (h : DataW.trod enc P w base spare held fuel t [v] = some x) : ∃ (A : Option Addr) (n c : Nat) (D : List (List Int)), v = .slice A n c ∧ Dp w A n c D ∧ AllI64 D := by
  obtain ⟨A, n, c, vs, rfl, hl, hr, hu⟩ := read_rows ht hc h
  obtain ⟨ss, D, rfl, h4, h5, h6⟩ := rows_of vs fun u hu' => by
    obtain ⟨fuel, y, hy⟩ := hu u hu'
    exact read_ints he hf hg hy
  have hl' : ss.length = n := by simpa using hl
  exact ⟨A, n, c, D, rfl, ⟨by omega, ss, hl', hr, h6⟩, h5⟩
end
end Go.Sel
