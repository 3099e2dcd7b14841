/- The reference's Groups, plainly: the same as Groups. No program in sight. -/
import Derived.Test.YtpicagcapgjiaaaMerM
set_option linter.unusedSimpArgs false
set_option linter.unusedVariables false
namespace Go.Sel.Mer
open Go.Sel.Gra

def firsts (O : List Int) (i : Nat) : List Int := ((List.range i).filter fun q : Nat => decide (O.getD q 0 = (q : Int))).map fun q : Nat => (q : Int)
def rowRk (O : List Int) (i k : Nat) : List Int := ((List.range k).filter fun m : Nat => decide (i ≤ m) && decide (O.getD m 0 = (i : Int))).map fun m : Nat => (m : Int)
def grpR (O : List Int) (i : Nat) : List (List Int) := (firsts O i).map fun q : Int => rowRk O q.toNat O.length
theorem filt1 {p : Nat → Bool} {a : Nat} {b : Bool} (h : p a = b) : [a].filter p = if b then [a] else [] := by
  subst h
  cases hh : p a <;> simp [List.filter, hh]
theorem firsts_in {O : List Int} {i : Nat} (h : O.getD i 0 = (i : Int)) : firsts O (i + 1) = firsts O i ++ [(i : Int)] := by
  have h2 : decide (O.getD i 0 = (i : Int)) = true := decide_eq_true h
  rw [firsts, List.range_succ, List.filter_append, List.map_append, filt1 h2]; rfl
theorem firsts_out {O : List Int} {i : Nat} (h : ¬ O.getD i 0 = (i : Int)) : firsts O (i + 1) = firsts O i := by
  have h2 : decide (O.getD i 0 = (i : Int)) = false := decide_eq_false h
  rw [firsts, List.range_succ, List.filter_append, List.map_append, filt1 h2]; simp [firsts]
theorem grpR_in {O : List Int} {i : Nat} (h : O.getD i 0 = (i : Int)) : grpR O (i + 1) = grpR O i ++ [rowRk O i O.length] := by
  rw [grpR, firsts_in h, List.map_append]; simp [grpR]
theorem grpR_out {O : List Int} {i : Nat} (h : ¬ O.getD i 0 = (i : Int)) : grpR O (i + 1) = grpR O i := by rw [grpR, firsts_out h]; rfl
theorem rowRk_in {O : List Int} {i k : Nat} (hk : i ≤ k) (h : O.getD k 0 = (i : Int)) : rowRk O i (k + 1) = rowRk O i k ++ [(k : Int)] := by
  have h2 : (decide (i ≤ k) && decide (O.getD k 0 = (i : Int))) = true := by simp [hk]; exact h
  rw [rowRk, List.range_succ, List.filter_append, List.map_append, filt1 h2]; rfl
theorem rowRk_out {O : List Int} {i k : Nat} (h : ¬ O.getD k 0 = (i : Int)) : rowRk O i (k + 1) = rowRk O i k := by
  have h2 : (decide (i ≤ k) && decide (O.getD k 0 = (i : Int))) = false := by rw [decide_eq_false h, Bool.and_false]
  rw [rowRk, List.range_succ, List.filter_append, List.map_append, filt1 h2]; simp [rowRk]
theorem rowRk_start (O : List Int) (i : Nat) : rowRk O i i = [] := by
  rw [rowRk, List.filter_eq_nil_iff.2 (fun m hm => by
    have h2 : decide (i ≤ m) = false := decide_eq_false (by have := List.mem_range.1 hm; omega)
    rw [h2]; simp)]; rfl
theorem rowRk_length (O : List Int) (i k : Nat) : (rowRk O i k).length ≤ k := by
  rw [rowRk, List.length_map]
  exact Nat.le_trans (List.length_filter_le _ _) (by simp)
theorem grpR_length (O : List Int) (i : Nat) : (grpR O i).length ≤ i := by
  rw [grpR, List.length_map, firsts, List.length_map]
  exact Nat.le_trans (List.length_filter_le _ _) (by simp)
theorem head_le {gl : List Nat} {g : Nat} {m : Nat} (hm : (m : Int) ∈ rowOf gl g) : firstG gl g ≤ (m : Int) ∧ firstG gl g ∈ rowOf gl g := by
  have hs := rowOf_sorted gl g
  unfold firstG
  cases hr : rowOf gl g with
  | nil => rw [hr] at hm; cases hm
  | cons a t =>
    rw [hr] at hm hs
    rw [List.pairwise_cons] at hs
    refine ⟨?_, by simp⟩
    rcases List.mem_cons.1 hm with h | h
    · rw [h]; simp
    · have := hs.1 _ h; simp; omega
theorem grp_eq {L : List It} (hr : mrightB L = true) : grpR (ofL L L.length) L.length = groupsL L := by
  have ho := of_first hr L.length (Nat.le_refl _)
  have hlt := gls_lt L L.length
  have hl := gls_length L L.length
  have hrow := rows_rise L L.length
  have hf : ∀ g, g < cnt L L.length → ∃ m : Nat, firstG (gls L L.length) g = (m : Int) ∧ m < L.length ∧ (gls L L.length).getD m 0 = g := fun g hg => by
    cases hc : rowOf (gls L L.length) g with
    | nil => exact absurd hc (hrow.1 g hg)
    | cons a t =>
      obtain ⟨m, h1, h2, h3⟩ := mem_rowOf.1 (show a ∈ rowOf (gls L L.length) g by rw [hc]; simp)
      refine ⟨m, by unfold firstG; rw [hc]; exact h1, by rw [hl] at h2; exact h2, h3⟩
  have e1 : firsts (ofL L L.length) L.length = (List.range (cnt L L.length)).map fun g => firstG (gls L L.length) g := by
    refine sorted_ext ?_ ?_ fun a => ?_
    · rw [firsts, List.pairwise_map]
      exact (List.pairwise_lt_range.filter _).imp (fun h => by omega)
    · rw [List.pairwise_map]
      refine List.pairwise_lt_range.imp_of_mem ?_
      intro g g' hg hg' hgg
      exact hrow.2 g g' hgg (List.mem_range.1 hg')
    · unfold firsts
      simp only [List.mem_map, List.mem_filter, List.mem_range, decide_eq_true_eq]
      constructor
      · rintro ⟨q, ⟨h1, h2⟩, rfl⟩
        exact ⟨(gls L L.length).getD q 0, hlt q h1, by rw [← ho q h1, h2]⟩
      · rintro ⟨g, h1, rfl⟩
        obtain ⟨m, h2, h3, h4⟩ := hf g h1
        exact ⟨m, ⟨h3, by rw [ho m h3, h4, h2]⟩, h2.symm⟩
  rw [grpR, e1, List.map_map, groupsL, if_pos hr, groupsK]
  refine List.map_congr_left fun g hg => ?_
  obtain ⟨f, h2, h3, h4⟩ := hf g (List.mem_range.1 hg)
  show rowRk (ofL L L.length) (firstG (gls L L.length) g).toNat (ofL L L.length).length = _
  rw [h2, Int.toNat_natCast, ofL_length, rowRk, rowOf, hl]
  congr 1
  refine List.filter_congr fun m hm => ?_
  have hm' := List.mem_range.1 hm
  rw [ho m hm', Bool.eq_iff_iff, Bool.and_eq_true, decide_eq_true_eq, decide_eq_true_eq, decide_eq_true_eq, ← h2]
  constructor
  · rintro ⟨_, h⟩; exact firstG_inj (hlt m hm') (List.mem_range.1 hg) h
  · intro h
    have := (head_le (gl := gls L L.length) (g := g) (m := m) (mem_rowOf.2 ⟨m, rfl, by rw [hl]; exact hm', h⟩)).1
    exact ⟨by omega, by rw [h]⟩
end Go.Sel.Mer
