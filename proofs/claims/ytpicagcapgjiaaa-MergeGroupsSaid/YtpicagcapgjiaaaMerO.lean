/- The reference's Deps, plainly: the same as Deps. No program in sight. -/
import Derived.Test.YtpicagcapgjiaaaMerN
set_option linter.unusedSimpArgs false
set_option linter.unusedVariables false
namespace Go.Sel.Mer
open Go.Sel.Gra

/-- Whether one of the first m items of group i, or of the first t deps of the next, needs an item of group k. -/
def isD1 (L : List It) (k : Nat) (ds : List Int) : Bool := ds.any fun d => decide (d ∈ nth (groupsL L) k)
def isD (L : List It) (i k m : Nat) : Bool := ((nth (groupsL L) i).take m).any fun a => isD1 L k (nthI L a.toNat).ds
theorem isD1_succ (L : List It) (k : Nat) {ds : List Int} {t : Nat} (h : t < ds.length) : isD1 L k (ds.take (t + 1)) = (isD1 L k (ds.take t) || decide (ds[t] ∈ nth (groupsL L) k)) := by
  unfold isD1
  rw [List.take_succ_eq_append_getElem h, List.any_append]; simp
theorem isD_succ (L : List It) (i k : Nat) {m : Nat} (h : m < (nth (groupsL L) i).length) : isD L i k (m + 1) = (isD L i k m || isD1 L k (nthI L ((nth (groupsL L) i)[m]).toNat).ds) := by
  unfold isD
  rw [List.take_succ_eq_append_getElem h, List.any_append]; simp
theorem isD_zero (L : List It) (i k : Nat) : isD L i k 0 = false := rfl
theorem isD_iff {L : List It} (hr : mrightB L = true) {i k : Nat} (hi : i < cnt L L.length) (hk : k < cnt L L.length) : (isD L i k (nth (groupsL L) i).length = true ∧ k ≠ i) ↔ (k : Int) ∈ depRow L i := by
  rw [mem_depRow]
  unfold isD isD1
  rw [List.take_length, nth_groupsL hr hi, nth_groupsL hr hk]
  simp only [List.any_eq_true, decide_eq_true_eq]
  constructor
  · rintro ⟨⟨a, h1, d, h2, h3⟩, h4⟩
    exact ⟨by omega, a, h1, d, h2, (row_nat h3).2.2⟩
  · rintro ⟨h4, a, h1, d, h2, h3⟩
    have h5 := row_nat h1
    have h6 := ds_lt hr (show a.toNat < L.length by omega) h2
    refine ⟨⟨a, h1, d, h2, mem_rowOf.2 ⟨d.toNat, by omega, by rw [gls_length]; omega, ?_⟩⟩, by omega⟩
    unfold gAt at h3
    omega
/-- The first k groups that group i needs. -/
def depK (L : List It) (i k : Nat) : List Int := ((List.range k).filter fun h : Nat => isD L i h (nth (groupsL L) i).length && decide (h ≠ i)).map fun h : Nat => (h : Int)
theorem depK_succ (L : List It) (i k : Nat) : depK L i (k + 1) = if (isD L i k (nth (groupsL L) i).length && decide (k ≠ i)) = true then depK L i k ++ [(k : Int)] else depK L i k := by
  rw [depK, List.range_succ, List.filter_append, List.map_append]
  rw [filt1 (p := fun h : Nat => isD L i h (nth (groupsL L) i).length && decide (h ≠ i)) (a := k) rfl]
  split
  · rfl
  · simp [depK]
theorem depK_length (L : List It) (i k : Nat) : (depK L i k).length ≤ k := by
  rw [depK, List.length_map]
  exact Nat.le_trans (List.length_filter_le _ _) (by simp)
theorem depK_all {L : List It} (hr : mrightB L = true) {i : Nat} (hi : i < cnt L L.length) : depK L i (cnt L L.length) = depS L i := by
  unfold depK depS
  congr 1
  refine List.filter_congr fun h hh => ?_
  have hk := List.mem_range.1 hh
  rw [Bool.eq_iff_iff, Bool.and_eq_true, decide_eq_true_eq, decide_eq_true_eq, isD_iff hr hi hk]
/-- The rows of the first i groups. -/
def depR (L : List It) (i : Nat) : List (List Int) := (List.range i).map fun g => depK L g (groupsL L).length
theorem depR_succ (L : List It) (i : Nat) : depR L (i + 1) = depR L i ++ [depK L i (groupsL L).length] := by simp [depR, List.range_succ]
theorem depR_all {L : List It} (hr : mrightB L = true) : depR L (groupsL L).length = mdepsL L := by
  rw [depR, mdepsL, if_pos hr, groupsL_length hr]
  exact List.map_congr_left fun g hg => depK_all hr (List.mem_range.1 hg)
theorem depR_none {L : List It} (hr : mrightB L = false) : groupsL L = [] ∧ mdepsL L = [] := by simp [groupsL, mdepsL, hr]
end Go.Sel.Mer
