/- Small words of my own for the walks over selvedge: slices of slices of whole numbers. No program in sight. -/
import Derived.Test.YtcgfoaihfncppaaSel3
import Derived.Test.YtcgfoaihfncppaaGraQ
namespace Go.Sel
open Go.RowKit Go.Sel.Gra

/-- A slice value's three parts as one value. -/
def sv (s : Option Addr × Nat × Nat) : Value := .slice s.1 s.2.1 s.2.2

/-- '.slice A n c' reads as the rows D. -/
def Dp (w : World) (A : Option Addr) (n c : Nat) (D : List (List Int)) : Prop :=
  D.length = n ∧ ∃ ss : List (Option Addr × Nat × Nat), ss.length = n ∧ Rd w A n c (ss.map sv) ∧ ∀ j (h : j < ss.length), (nth D j).length = ss[j].2.1 ∧ Rd w ss[j].1 ss[j].2.1 ss[j].2.2 (iv .i64 (nth D j))
theorem Dp.len {w : World} {A : Option Addr} {n c : Nat} {D : List (List Int)} (h : Dp w A n c D) : D.length = n := h.1
theorem Dp.le {w : World} {A : Option Addr} {n c : Nat} {D : List (List Int)} (h : Dp w A n c D) : n ≤ c := by
  obtain ⟨_, ss, _, hr, _⟩ := h; exact hr.le
theorem Dp.cap {w : World} {A : Option Addr} {n c : Nat} {D : List (List Int)} (h : Dp w A n c D) : c ≤ 9223372036854775807 := by
  obtain ⟨_, ss, _, hr, _⟩ := h; exact hr.cap
theorem Dp.below {w w' : World} {A : Option Addr} {n c : Nat} {D : List (List Int)} (h : Dp w A n c D) (hb : Below w.heap.size w w') : Dp w' A n c D := by
  obtain ⟨h1, ss, h2, h3, h4⟩ := h
  exact ⟨h1, ss, h2, h3.below hb, fun j hj => ⟨(h4 j hj).1, (h4 j hj).2.below hb⟩⟩
/-- The i-th row: where its slice stands, and what it reads as. -/
theorem Dp.at_ {w : World} {A : Option Addr} {n c : Nat} {D : List (List Int)} (h : Dp w A n c D) {i : Nat} (hi : i < n) :
    ∃ b off A' n' c', A = some ⟨b, off, none⟩ ∧ w.cell? ⟨b, off + i, none⟩ = some (.slice A' n' c') ∧ (nth D i).length = n' ∧ Rd w A' n' c' (iv .i64 (nth D i)) := by
  obtain ⟨h1, ss, h2, h3, h4⟩ := h
  obtain ⟨b, off, rfl, _, hc⟩ := h3.form (by simp; omega)
  have hs : i < ss.length := by omega
  have := hc i (by simpa using hs)
  simp only [List.getElem_map, sv] at this
  exact ⟨b, off, _, _, _, rfl, this, (h4 i hs).1, (h4 i hs).2⟩
theorem Dp.nil {w : World} {A : Option Addr} {c : Nat} (h : c ≤ 9223372036854775807) : Dp w A 0 c [] := ⟨rfl, [], rfl, Rd.nil h, fun j h => by simp at h⟩
/-- Rows built one behind another. -/
theorem Dp.mk_ {w : World} {A : Option Addr} {n c : Nat} {D : List (List Int)} (ss : List (Option Addr × Nat × Nat)) (hD : D.length = n) (hs : ss.length = n) (hr : Rd w A n c (ss.map sv)) (h : ∀ j (h : j < ss.length), (nth D j).length = ss[j].2.1 ∧ Rd w ss[j].1 ss[j].2.1 ss[j].2.2 (iv .i64 (nth D j))) : Dp w A n c D := ⟨hD, ss, hs, hr, h⟩
end Go.Sel
