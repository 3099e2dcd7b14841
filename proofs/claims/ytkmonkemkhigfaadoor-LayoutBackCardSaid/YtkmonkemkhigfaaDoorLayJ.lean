/- Plain words on inodes: their bytes, what bytes say. No program in sight. -/
import Derived.Test.YtkmonkemkhigfaaDoorLayI
set_option linter.unusedSimpArgs false
set_option linter.unusedVariables false
namespace Go.Sel.Lay
open Go.RowKit Go.Sel

/-- An inode's bytes. -/
def inoB (k l z : Int) (xs : List Int) : List Int := [k, l, z % 256, z / 256, 0, 0, 0, 0] ++ xs ++ List.replicate (8 - xs.length) 0
/-- What a loop has written: the first j blocks. -/
def inoPart (k l z : Int) (xs : List Int) (j : Nat) : List Int := [k, l, z % 256, z / 256, 0, 0, 0, 0] ++ xs.take j ++ List.replicate (8 - j) 0
theorem inoPart_set (k l z : Int) (xs : List Int) (j : Nat) (hj : j < xs.length) (h8 : xs.length ≤ 8) : (iv .u8 (inoPart k l z xs j)).set (8 + j) (.int .u8 xs[j]) = iv .u8 (inoPart k l z xs (j + 1)) := by
  have h1 : 8 - j = (8 - (j + 1)) + 1 := by omega
  simp only [iv, inoPart, ← List.map_set]
  congr 1
  rw [List.take_succ_eq_append_getElem hj, h1, List.replicate_succ]
  simp only [List.append_assoc]
  rw [List.set_append_right _ _ (by simp), List.set_append_right _ _ (by simp; omega)]
  simp [Nat.min_eq_left (show j ≤ xs.length by omega)]
theorem inoPart_get (k l z : Int) (xs : List Int) (j : Nat) (hj : j < xs.length) (h8 : xs.length ≤ 8) : (iv .u8 (inoPart k l z xs j))[8 + j]? = some (.int .u8 0) := by
  have hl : ([k, l, z % 256, z / 256, 0, 0, 0, 0] ++ xs.take j).length = 8 + j := by simp; omega
  rw [iv, List.getElem?_map, inoPart, List.getElem?_append_right (by omega), hl, Nat.sub_self, List.getElem?_replicate, if_pos (by omega)]
  rfl
theorem inoPart_end (k l z : Int) (xs : List Int) : inoPart k l z xs xs.length = inoB k l z xs := by simp [inoPart, inoB]
theorem inoB_length (k l z : Int) (xs : List Int) (h : xs.length ≤ 8) : (inoB k l z xs).length = 16 := by simp [inoB]; omega

theorem blksOk_parts {xs : List Int} (h : blksOk xs = true) : (∀ x ∈ xs, 11 ≤ x ∧ x < 96) ∧ xs.Nodup ∧ xs.length ≤ 8 := by
  simp only [blksOk, Bool.and_eq_true, List.all_eq_true, blkI, decide_eq_true_eq] at h
  exact ⟨h.1.1, h.1.2, h.2⟩
theorem inoOk_parts {k l z : Int} {xs : List Int} (h : inoOk k l z xs = true) :
    blksOk xs = true ∧ 0 ≤ k ∧ k ≤ 2 ∧ 0 ≤ l ∧ l ≤ 255 ∧ 0 ≤ z ∧ z ≤ 256 := by
  simp only [inoOk, Bool.and_eq_true] at h
  refine ⟨h.1, ?_⟩
  have := h.2
  simp only [kindOk, Bool.or_eq_true, Bool.and_eq_true, decide_eq_true_eq] at this
  omega
theorem inoB_byte {k l z : Int} {xs : List Int} (h : inoOk k l z xs = true) : AllByte (inoB k l z xs) := by
  obtain ⟨hb, h1, h2, h3, h4, h5, h6⟩ := inoOk_parts h
  obtain ⟨b1, _, _⟩ := blksOk_parts hb
  intro x hx
  simp only [inoB, List.mem_append, List.mem_cons, List.not_mem_nil, or_false, List.mem_replicate] at hx
  rcases hx with (hx | hx) | hx
  · omega
  · have := b1 x hx; omega
  · omega
end Go.Sel.Lay
