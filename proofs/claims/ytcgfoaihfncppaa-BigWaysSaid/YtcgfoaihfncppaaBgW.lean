/- Big files, plainly: when Put is refused. No program in sight. -/
import Derived.Test.YtcgfoaihfncppaaBgV
import Derived.Test.YtcgfoaihfncppaaBgQ
set_option linter.unusedSimpArgs false
set_option linter.unusedVariables false
namespace Go.Sel.Bg
open Go.RowKit Go.Sel

structure RgPut (n : Nat) (k : Nat) (b : Int) (F : List Int) : Prop where
  hk : k < 1062
  b0 : 0 < b
  b1 : b < n
  f : ∀ x ∈ F, 0 < x ∧ x < n
/-- A block that is pointed to. -/
def tkB (D : List (List Int)) (t : List Int) (x : Int) : Bool := (List.range 1096).any fun p => decide (val D t p = x)
theorem tkB_iff {D : List (List Int)} {t : List Int} {x : Int} : tkB D t x = true ↔ ∃ p, p < 1096 ∧ val D t p = x := by
  simp [tkB, List.any_eq_true]
theorem tkB_no {D : List (List Int)} {t : List Int} {x : Int} : tkB D t x = false ↔ notIn D t x := by
  rw [Bool.eq_false_iff]
  exact ⟨fun h p hp e => h (tkB_iff.2 ⟨p, hp, e⟩), fun h h2 => by obtain ⟨p, hp, e⟩ := tkB_iff.1 h2; exact h p hp e⟩
/-- The i-th of the free ones may not be used. -/
def badF (D : List (List Int)) (t : List Int) (F : List Int) (i : Nat) : Bool := tkB D t (F.getD i 0) || decide (F.getD i 0 ∈ F.take i)
def errL (D : List (List Int)) (t : List Int) (k : Nat) (b : Int) (F : List Int) : Int :=
  if (tkB D t b || decide (b ∈ F)) = true then 6 else if ((List.range F.length).any (badF D t F)) = true then 6 else if atK D t k ≠ 0 then 12 else 0
theorem errL_vals (D : List (List Int)) (t : List Int) (k : Nat) (b : Int) (F : List Int) : errL D t k b F = 0 ∨ errL D t k b F = 6 ∨ errL D t k b F = 12 := by
  unfold errL
  (repeat' split) <;> simp
theorem nodup_of {F : List Int} (h : ∀ i, i < F.length → F.getD i 0 ∉ F.take i) : F.Nodup := by
  rw [List.nodup_iff_pairwise_ne, List.pairwise_iff_getElem]
  intro i j hi hj hij e
  refine h j hj ?_
  rw [List.getD_eq_getElem?_getD, List.getElem?_eq_getElem hj, Option.getD_some, ← e]
  exact List.mem_iff_getElem.2 ⟨i, by rw [List.length_take]; omega, by rw [List.getElem_take]⟩
theorem ok_of_err {D : List (List Int)} {t : List Int} {n k : Nat} {b : Int} {F : List Int} (h : RgPut n k b F) (he : errL D t k b F = 0) : OkPut D t n k b F := by
  unfold errL at he
  split at he
  · cases he
  · rename_i h1
    split at he
    · cases he
    · rename_i h2
      split at he
      · cases he
      · rename_i h3
        simp only [Bool.or_eq_true, decide_eq_true_eq, not_or, Bool.not_eq_true] at h1
        have h2' : ∀ i, i < F.length → badF D t F i = false := fun i hi => by
          by_cases hb : badF D t F i = true
          · exact absurd (List.any_eq_true.2 ⟨i, List.mem_range.2 hi, hb⟩) h2
          · simpa using hb
        have h4 : ∀ i, i < F.length → notIn D t (F.getD i 0) ∧ F.getD i 0 ∉ F.take i := fun i hi => by
          have := h2' i hi
          simp only [badF, Bool.or_eq_false_iff, decide_eq_false_iff_not] at this
          exact ⟨tkB_no.1 this.1, this.2⟩
        refine ⟨h.hk, h.b0, h.b1, h.f, tkB_no.1 h1.1, h1.2, fun x hx => ?_, nodup_of fun i hi => (h4 i hi).2, by simpa using h3⟩
        obtain ⟨i, hi, rfl⟩ := List.mem_iff_getElem.1 hx
        have := (h4 i hi).1
        rwa [List.getD_eq_getElem?_getD, List.getElem?_eq_getElem hi, Option.getD_some] at this
theorem TkS.mark {D : List (List Int)} {t : List Int} {l : List (Int × Value)} (h : TkS D t 1096 l) {b : Int} (hb : b ≠ 0) : (Sel.look l b).getD (.bool false) = .bool (tkB D t b) := by
  by_cases ht : tkB D t b = true
  · obtain ⟨p, hp, e⟩ := tkB_iff.1 ht
    subst e
    rw [h.1 p hp hb, ht]
    rfl
  · have ht' : tkB D t b = false := by simpa using ht
    rw [h.2 b (fun p hp e => absurd e ((tkB_no.1 ht') p hp)), ht']
    rfl
end Go.Sel.Bg
