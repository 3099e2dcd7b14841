/- Plain laws of layout's entries and inodes: no program in sight. -/
import Derived.Test.YtkmonkemkhigfaaDoorLayP
set_option linter.unusedSimpArgs false
set_option linter.unusedVariables false
namespace Go.Sel.Lay
open Go.Sel

theorem chI_nz {c : Int} (h : chI c = true) : c ≠ 0 := by
  rintro rfl
  simp [chI] at h
theorem nameOk_nz {l : List Int} (h : nameOk l = true) : ∀ x ∈ l, x ≠ 0 := by
  simp only [nameOk, Bool.and_eq_true, List.all_eq_true] at h
  exact fun x hx => chI_nz (h.1.1 x hx)
theorem entOk_nz {l : List Int} {i : Int} (h : entOk l i = true) : ∀ x ∈ l, x ≠ 0 := by
  simp only [entOk, Bool.or_eq_true, Bool.and_eq_true, decide_eq_true_eq] at h
  rcases h with h | h
  · intro x hx
    have : l = [] := List.eq_nil_of_length_eq_zero h.1
    subst this
    simp at hx
  · exact nameOk_nz h.2
theorem entOk_le {l : List Int} {i : Int} (h : entOk l i = true) : l.length ≤ 7 := by
  simp only [entOk, Bool.or_eq_true, Bool.and_eq_true, decide_eq_true_eq] at h
  rcases h with h | h
  · omega
  · simp only [nameOk, Bool.and_eq_true, decide_eq_true_eq] at h
    omega
theorem trimZ_zeros (l : List Int) (h : ∀ x ∈ l, x ≠ 0) (n : Nat) : trimZ (l ++ List.replicate n 0) = l := by
  have hd : ∀ n : Nat, ∀ r : List Int, (List.replicate n (0 : Int) ++ r).dropWhile (· == 0) = r.dropWhile (· == 0) := by
    intro n
    induction n with
    | zero => simp
    | succ n ih => intro r; simp [List.replicate_succ, List.dropWhile_cons, ih]
  unfold trimZ
  rw [List.reverse_append, List.reverse_replicate, hd]
  cases hl : l.reverse with
  | nil =>
    have : l = [] := by simpa using hl
    simp [this]
  | cons a r =>
    have ha : a ≠ 0 := h a (by rw [← List.mem_reverse, hl]; simp)
    simp [List.dropWhile_cons, ha]
    have := congrArg List.reverse hl
    simpa using this.symm
/-- What is cut off are noughts. -/
theorem trimZ_split (l : List Int) : ∃ n, l = trimZ l ++ List.replicate n 0 := by
  have key : ∀ r : List Int, ∃ n, r = List.replicate n 0 ++ r.dropWhile (· == 0) := by
    intro r
    induction r with
    | nil => exact ⟨0, rfl⟩
    | cons a r ih =>
      by_cases h : a = 0
      · subst h
        obtain ⟨n, hn⟩ := ih
        exact ⟨n + 1, by simpa [List.replicate_succ, List.dropWhile_cons] using hn⟩
      · exact ⟨0, by simp [List.dropWhile_cons, h]⟩
  obtain ⟨n, hn⟩ := key l.reverse
  refine ⟨n, ?_⟩
  have := congrArg List.reverse hn
  rw [List.reverse_reverse, List.reverse_append, List.reverse_replicate] at this
  exact this

theorem entB_cons (l : List Int) (i : Int) : entB l i = i :: (l ++ List.replicate (7 - l.length) 0) := by simp [entB]
theorem entB_length (l : List Int) (i : Int) (h : l.length ≤ 7) : (entB l i).length = 8 := by simp [entB]; omega
theorem cons_of_len8 {xs : List Int} (h : xs.length = 8) : xs = rdIno xs :: xs.drop 1 := by
  cases xs with
  | nil => simp at h
  | cons a r => simp [rdIno]
theorem rd_entB {l : List Int} {i : Int} (h : entOk l i = true) : rdName (entB l i) = l ∧ rdIno (entB l i) = i ∧ rdOk (entB l i) = true := by
  have h1 : rdName (entB l i) = l := by rw [rdName, entB_cons, List.drop_succ_cons, List.drop_zero, trimZ_zeros l (entOk_nz h)]
  have h2 : rdIno (entB l i) = i := by simp [rdIno, entB]
  refine ⟨h1, h2, ?_⟩
  rw [rdOk, h1, h2, h, entB_length l i (entOk_le h)]
  rfl
theorem entB_rd {xs : List Int} (h : rdOk xs = true) : entB (rdName xs) (rdIno xs) = xs := by
  simp only [rdOk, Bool.and_eq_true, decide_eq_true_eq] at h
  obtain ⟨n, hn⟩ := trimZ_split (xs.drop 1)
  have hl := congrArg List.length hn
  rw [List.length_append, List.length_replicate, List.length_drop, h.1] at hl
  rw [entB_cons]
  conv => rhs; rw [cons_of_len8 h.1]
  congr 1
  conv => rhs; rw [hn]
  have : 7 - (rdName xs).length = n := by unfold rdName; omega
  rw [this]
  rfl
/-- What the reference's loop finds. -/
theorem rd_of_first {xs : List Int} (h8 : xs.length = 8) (m : Nat) (hm : m ≤ 7) (hnz : ∀ j (h : j < xs.length), 1 ≤ j → j < m + 1 → xs[j] ≠ 0) (hz : m = 7 ∨ ∃ h : m + 1 < xs.length, xs[m + 1] = 0) :
    rdOk xs = (entOk ((xs.drop 1).take m) (rdIno xs) && decide (entB ((xs.drop 1).take m) (rdIno xs) = xs)) ∧ (rdOk xs = true → rdName xs = (xs.drop 1).take m) := by
  have hl : ((xs.drop 1).take m).length = m := by simp [h8]; omega
  have hnz' : ∀ x ∈ (xs.drop 1).take m, x ≠ 0 := by
    intro x hx
    obtain ⟨j, hj, rfl⟩ := List.mem_iff_getElem.1 hx
    rw [List.getElem_take, List.getElem_drop]
    exact hnz _ (by simp at hj; omega) (by omega) (by rw [hl] at hj; omega)
  have key : rdOk xs = true → rdName xs = (xs.drop 1).take m := by
    intro h
    have hb := entB_rd h
    simp only [rdOk, Bool.and_eq_true, decide_eq_true_eq] at h
    have hn := entOk_nz h.2
    have hle := entOk_le h.2
    have hd : xs.drop 1 = rdName xs ++ List.replicate (7 - (rdName xs).length) 0 := by
      conv => lhs; rw [← hb, entB_cons]
      simp
    have hlen : (rdName xs).length = m := by
      rcases Nat.lt_trichotomy (rdName xs).length m with hlt | heq | hgt
      · exfalso
        have h1 : (rdName xs).length < (xs.drop 1).length := by simp [h8]; omega
        have h2 : (xs.drop 1)[(rdName xs).length] = 0 := by
          simp only [hd]
          rw [List.getElem_append_right (Nat.le_refl _)]
          simp
        rw [List.getElem_drop] at h2
        exact hnz _ (by omega) (by omega) (by omega) h2
      · exact heq
      · exfalso
        rcases hz with hz | ⟨hz1, hz2⟩
        · omega
        · have h1 : m < (xs.drop 1).length := by simp [h8]; omega
          have h2 : (xs.drop 1)[m] = (rdName xs)[m] := by
            simp only [hd]
            rw [List.getElem_append_left hgt]
          rw [List.getElem_drop] at h2
          refine hn _ (List.getElem_mem hgt) ?_
          rw [← h2]
          simpa [Nat.add_comm] using hz2
    rw [hd, ← hlen, List.take_left]
  refine ⟨?_, key⟩
  rw [Bool.eq_iff_iff, Bool.and_eq_true, decide_eq_true_eq]
  constructor
  · intro h
    have hk := key h
    rw [← hk]
    have hb := entB_rd h
    simp only [rdOk, Bool.and_eq_true, decide_eq_true_eq] at h
    exact ⟨h.2, hb⟩
  · rintro ⟨h1, h2⟩
    have := (rd_entB h1).2.2
    rwa [h2] at this
end Go.Sel.Lay
