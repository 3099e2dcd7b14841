/- What Groups computes, plainly: the group of each item, and how many groups there are. No program in sight. -/
import Derived.Test.YtpicagcapgjiaaaMerP
set_option linter.unusedSimpArgs false
set_option linter.unusedVariables false
namespace Go.Sel.Mer
open Go.Sel.Gra

/-- The last of the first k items that writes block b. -/
def lastK (L : List It) : Nat → Int → Option Nat
  | 0, _ => none
  | k + 1, b => if (nthI L k).b = b then some k else lastK L k b
theorem lastK_lt {L : List It} : ∀ {k : Nat} {b : Int} {p : Nat}, lastK L k b = some p → p < k ∧ (nthI L p).b = b
  | 0, b, p, h => by simp [lastK] at h
  | k + 1, b, p, h => by
    unfold lastK at h
    split at h
    · rename_i hb
      have : k = p := by simpa using h
      subst this
      exact ⟨by omega, hb⟩
    · have := lastK_lt h
      exact ⟨by omega, this.2⟩
/-- What a group has, and what must come ahead of it. -/
def nearB (D : List (List Int)) (gl : List Nat) (g : Nat) (d : Int) : Bool := (List.range gl.length).any fun m => decide (gl.getD m 0 = g) && decide (d ∈ closeL D [(m : Int)])
theorem near_iff {D : List (List Int)} {gl : List Nat} {g : Nat} {d : Int} : nearB D gl g d = true ↔ ∃ m, m < gl.length ∧ gl.getD m 0 = g ∧ d ∈ closeL D [(m : Int)] := by
  simp [nearB, List.any_eq_true]
theorem getD_snoc (gl : List Nat) (g m : Nat) : (gl ++ [g]).getD m 0 = if m < gl.length then gl.getD m 0 else if m = gl.length then g else 0 := by
  simp only [List.getD_eq_getElem?_getD]
  by_cases h : m < gl.length
  · rw [List.getElem?_append_left h, if_pos h]
  · rw [List.getElem?_append_right (by omega), if_neg h]
    by_cases e : m = gl.length
    · subst e; simp
    · rw [if_neg e, List.getElem?_eq_none (by simp; omega)]; rfl
theorem near_snoc {D : List (List Int)} {gl : List Nat} {g g' : Nat} {d : Int} : nearB D (gl ++ [g]) g' d = (nearB D gl g' d || (decide (g = g') && decide (d ∈ closeL D [(gl.length : Int)]))) := by
  rw [Bool.eq_iff_iff, Bool.or_eq_true, near_iff, near_iff, Bool.and_eq_true, decide_eq_true_eq, decide_eq_true_eq]
  constructor
  · rintro ⟨m, h1, h2, h3⟩
    rw [getD_snoc] at h2
    by_cases h : m < gl.length
    · rw [if_pos h] at h2
      exact .inl ⟨m, h, h2, h3⟩
    · have : m = gl.length := by simp at h1; omega
      subst this
      simp at h2
      exact .inr ⟨h2, h3⟩
  · rintro (⟨m, h1, h2, h3⟩ | ⟨h1, h2⟩)
    · exact ⟨m, by simp; omega, by rw [getD_snoc, if_pos h1]; exact h2, h3⟩
    · exact ⟨gl.length, by simp, by rw [getD_snoc]; simpa using h1, h2⟩
/-- The items of a group. -/
def rowOf (gl : List Nat) (g : Nat) : List Int := ((List.range gl.length).filter fun m => decide (gl.getD m 0 = g)).map fun m : Nat => (m : Int)
theorem rowOf_snoc (gl : List Nat) (g g' : Nat) : rowOf (gl ++ [g]) g' = if g = g' then rowOf gl g' ++ [(gl.length : Int)] else rowOf gl g' := by
  have e1 : ((List.range gl.length).filter fun m => decide ((gl ++ [g]).getD m 0 = g')) = (List.range gl.length).filter fun m => decide (gl.getD m 0 = g') := by
    refine List.filter_congr fun m hm => ?_
    rw [getD_snoc, if_pos (by simpa using hm)]
  unfold rowOf
  rw [List.length_append, List.length_singleton, List.range_succ, List.filter_append, List.map_append, e1]
  by_cases e : g = g'
  · rw [if_pos e]
    simp [getD_snoc, e]
  · rw [if_neg e]
    simp [getD_snoc, e]
theorem mem_rowOf {gl : List Nat} {g : Nat} {a : Int} : a ∈ rowOf gl g ↔ ∃ m : Nat, a = m ∧ m < gl.length ∧ gl.getD m 0 = g := by
  simp [rowOf]
  constructor
  · rintro ⟨m, ⟨h1, h2⟩, rfl⟩; exact ⟨m, rfl, h1, h2⟩
  · rintro ⟨m, rfl, h1, h2⟩; exact ⟨m, ⟨h1, h2⟩, rfl⟩
theorem rowOf_length (gl : List Nat) (g : Nat) : (rowOf gl g).length ≤ gl.length := by
  rw [rowOf, List.length_map]
  exact Nat.le_trans (List.length_filter_le _ _) (by simp)
theorem rowOf_sorted (gl : List Nat) (g : Nat) : (rowOf gl g).Pairwise (· < ·) := by
  unfold rowOf
  rw [List.pairwise_map]
  exact (List.pairwise_lt_range.filter _).imp (fun h => by omega)
/-- The group that item k joins, if it joins one. -/
def joinG (L : List It) (k : Nat) (gl : List Nat) : Option Nat :=
  match lastK L k (nthI L k).b with
  | none => none
  | some p => if (nthI L k).ds.any (fun d => !nearB (depsL L) gl (gl.getD p 0) d) then none else some (gl.getD p 0)
/-- The groups of the first k items; how many there are. -/
def gSt (L : List It) : Nat → List Nat × Nat
  | 0 => ([], 0)
  | k + 1 => match joinG L k (gSt L k).1 with
    | some g => ((gSt L k).1 ++ [g], (gSt L k).2)
    | none => ((gSt L k).1 ++ [(gSt L k).2], (gSt L k).2 + 1)
abbrev gls (L : List It) (k : Nat) : List Nat := (gSt L k).1
abbrev cnt (L : List It) (k : Nat) : Nat := (gSt L k).2
theorem gSt_join {L : List It} {k g : Nat} (h : joinG L k (gls L k) = some g) : gSt L (k + 1) = (gls L k ++ [g], cnt L k) := by
  have h' : joinG L k (gSt L k).1 = some g := h
  rw [gSt, h']
theorem gSt_new {L : List It} {k : Nat} (h : joinG L k (gls L k) = none) : gSt L (k + 1) = (gls L k ++ [cnt L k], cnt L k + 1) := by
  have h' : joinG L k (gSt L k).1 = none := h
  rw [gSt, h']
@[simp] theorem gls_length (L : List It) (k : Nat) : (gls L k).length = k := by
  induction k with
  | zero => rfl
  | succ k ih =>
    cases h : joinG L k (gls L k) with
    | none => rw [gls, gSt_new h]; simpa using ih
    | some g => rw [gls, gSt_join h]; simpa using ih
theorem join_lt {L : List It} {k g : Nat} (hk : ∀ m, m < k → (gls L k).getD m 0 < cnt L k) (h : joinG L k (gls L k) = some g) : g < cnt L k ∧ ∃ p, lastK L k (nthI L k).b = some p ∧ (gls L k).getD p 0 = g := by
  unfold joinG at h
  split at h
  · cases h
  · rename_i p hp
    split at h
    · cases h
    · have : (gls L k).getD p 0 = g := by simpa using h
      exact ⟨this ▸ hk p (lastK_lt hp).1, p, hp, this⟩
theorem gls_lt (L : List It) : ∀ (k m : Nat), m < k → (gls L k).getD m 0 < cnt L k
  | 0, m, h => by omega
  | k + 1, m, h => by
    have ih := gls_lt L k
    have hl := gls_length L k
    cases hj : joinG L k (gls L k) with
    | none =>
      rw [gls, cnt, gSt_new hj]
      show (gls L k ++ [cnt L k]).getD m 0 < cnt L k + 1
      rw [getD_snoc]
      split
      · have := ih m (by omega); omega
      · split <;> omega
    | some g =>
      rw [gls, cnt, gSt_join hj]
      show (gls L k ++ [g]).getD m 0 < cnt L k
      have hg := (join_lt ih hj).1
      rw [getD_snoc]
      split
      · exact ih m (by omega)
      · split <;> omega
theorem rowOf_cnt (L : List It) (k : Nat) : rowOf (gls L k) (cnt L k) = [] := by
  rw [List.eq_nil_iff_forall_not_mem]
  intro a ha
  obtain ⟨m, rfl, h1, h2⟩ := mem_rowOf.1 ha
  rw [gls_length] at h1
  have := gls_lt L k m h1
  omega
theorem near_cnt (L : List It) (k : Nat) (D : List (List Int)) (d : Int) : nearB D (gls L k) (cnt L k) d = false := by
  rw [Bool.eq_false_iff]
  intro h
  obtain ⟨m, h1, h2, _⟩ := near_iff.1 h
  rw [gls_length] at h1
  have := gls_lt L k m h1
  omega
theorem cnt_le (L : List It) (k : Nat) : cnt L k ≤ k := by
  induction k with
  | zero => exact Nat.le_refl _
  | succ k ih =>
    cases hj : joinG L k (gls L k) with
    | none => rw [cnt, gSt_new hj]; show cnt L k + 1 ≤ k + 1; omega
    | some g => rw [cnt, gSt_join hj]; show cnt L k ≤ k + 1; omega
/-- What Groups answers. -/
def groupsK (L : List It) (k : Nat) : List (List Int) := (List.range (cnt L k)).map (rowOf (gls L k))
def groupsL (L : List It) : List (List Int) := if mrightB L then groupsK L L.length else []
@[simp] theorem groupsK_length (L : List It) (k : Nat) : (groupsK L k).length = cnt L k := by simp [groupsK]
theorem nth_groupsK {L : List It} {k g : Nat} (h : g < cnt L k) : nth (groupsK L k) g = rowOf (gls L k) g := by
  simp [nth, groupsK, List.getD_eq_getElem?_getD, h]
end Go.Sel.Mer
