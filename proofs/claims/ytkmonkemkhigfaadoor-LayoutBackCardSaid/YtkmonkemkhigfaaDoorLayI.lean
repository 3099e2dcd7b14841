/- Plain words on inodes: which are right; their bytes. No program in sight. -/
import Derived.Test.YtkmonkemkhigfaaDoorSel2
import Derived.Test.YtkmonkemkhigfaaDoorLayP
set_option linter.unusedSimpArgs false
set_option linter.unusedVariables false
namespace Go.Sel.Lay
open Go.RowKit Go.Sel

def blkI (c : Int) : Bool := decide (11 ≤ c) && decide (c < 96)
def blksOk (xs : List Int) : Bool := xs.all blkI && decide xs.Nodup && decide (xs.length ≤ 8)
def kindOk (k l z n : Int) : Bool :=
  (decide (k = 0) && decide (l = 0) && decide (z = 0) && decide (n = 0)) || (decide (k = 1) && decide (1 ≤ l) && decide (l ≤ 255) && decide (0 ≤ z) && decide (z ≤ 256) && decide ((z + 31) / 32 = n)) || (decide (k = 2) && decide (l = 1) && decide (z = 0))
def inoOk (k l z : Int) (xs : List Int) : Bool := blksOk xs && kindOk k l z xs.length

/-- The first j blocks are good so far. -/
def goodTo (xs : List Int) (j : Nat) : Prop := (xs.take j).all blkI = true ∧ (xs.take j).Nodup
theorem goodTo_zero (xs : List Int) : goodTo xs 0 := ⟨by simp, by simp⟩
theorem goodTo_succ {xs : List Int} {j : Nat} (h : goodTo xs j) (hj : j < xs.length) (hc : blkI xs[j] = true) (hn : (xs.take j).contains xs[j] = false) : goodTo xs (j + 1) := by
  unfold goodTo
  rw [List.take_succ_eq_append_getElem hj]
  refine ⟨by rw [List.all_append, h.1]; simp [hc], ?_⟩
  rw [List.nodup_append]
  refine ⟨h.2, by simp, ?_⟩
  intro a ha b hb
  simp only [List.mem_singleton] at hb
  subst hb
  rintro rfl
  have : (xs.take j).contains xs[j] = true := by simpa using ha
  rw [this] at hn
  cases hn
theorem goodTo_end {xs : List Int} {j : Nat} (h : goodTo xs j) (hj : xs.length ≤ j) (h8 : xs.length ≤ 8) : blksOk xs = true := by
  unfold goodTo at h
  rw [List.take_of_length_le hj] at h
  simp [blksOk, h.1, h.2, h8]
theorem blksOk_bad {xs : List Int} {j : Nat} (hj : j < xs.length) (hc : blkI xs[j] = false) : blksOk xs = false := by
  have : xs.all blkI = false := by rw [List.all_eq_false]; exact ⟨xs[j], by simp, by simp [hc]⟩
  simp [blksOk, this]
theorem blksOk_twice {xs : List Int} {i j : Nat} (hj : j < xs.length) (hi : i < j) (he : xs[i]'(by omega) = xs[j]) : blksOk xs = false := by
  have : ¬ xs.Nodup := by
    intro hn
    rw [List.nodup_iff_pairwise_ne, List.pairwise_iff_getElem] at hn
    exact hn i j (by omega) hj hi he
  simp [blksOk, this]
theorem blksOk_seen {xs : List Int} {j : Nat} (hj : j < xs.length) (hc : (xs.take j).contains xs[j] = true) : blksOk xs = false := by
  have : xs[j] ∈ xs.take j := by simpa using hc
  obtain ⟨i, hi, he⟩ := List.getElem_of_mem this
  simp only [List.length_take] at hi
  rw [List.getElem_take] at he
  exact blksOk_twice hj (by omega) he
theorem blksOk_long {xs : List Int} (h : 8 < xs.length) : blksOk xs = false := by
  have : ¬ xs.length ≤ 8 := by omega
  simp [blksOk, this]
theorem inoOk_no {k l z : Int} {xs : List Int} (h : blksOk xs = false) : inoOk k l z xs = false := by simp [inoOk, h]
theorem inoOk_yes {k l z : Int} {xs : List Int} (h : blksOk xs = true) : inoOk k l z xs = kindOk k l z xs.length := by simp [inoOk, h]
end Go.Sel.Lay
