/- Blocks behind items, plainly. No program in sight. -/
import Derived.Test.YtcgfoaihfncppaaMerP
import Derived.Test.YtcgfoaihfncppaaMb1
set_option linter.unusedSimpArgs false
set_option linter.unusedVariables false
namespace Go.Sel.Mer
open Go.Sel Go.Sel.Gra

/-- The bytes b with s from o on. -/
def spl (b : List Int) (o : Nat) (s : List Int) : List Int := b.take o ++ s ++ b.drop (o + s.length)
theorem spl_length {b s : List Int} {o : Nat} (h : o + s.length ≤ b.length) : (spl b o s).length = b.length := by simp [spl]; omega
theorem spl_byte {b s : List Int} {o : Nat} (hb : AllByte b) (hs : AllByte s) : AllByte (spl b o s) := by
  intro x hx
  simp only [spl, List.mem_append] at hx
  rcases hx with (hx | hx) | hx
  · exact hb x (List.mem_of_mem_take hx)
  · exact hs x hx
  · exact hb x (List.mem_of_mem_drop hx)
/-- Byte by byte. -/
theorem spl_snoc {b s : List Int} {o k : Nat} (hk : k < s.length) (h : o + s.length ≤ b.length) : (spl b o (s.take k)).set (o + k) s[k] = spl b o (s.take (k + 1)) := by
  have hl : (s.take k).length = k := by simp; omega
  have hl1 : (s.take (k + 1)).length = k + 1 := by simp; omega
  apply List.ext_getElem?
  intro j
  have e : ∀ (m : Nat), m ≤ s.length → (spl b o (s.take m))[j]? = if j < o then b[j]? else if j < o + m then s[j - o]? else b[j]? := by
    intro m hm
    have hlm : (s.take m).length = m := by simp; omega
    have hob : (b.take o).length = o := by simp; omega
    unfold spl
    by_cases h1 : j < o
    · rw [if_pos h1, List.append_assoc, List.getElem?_append_left (by omega), List.getElem?_take_of_lt h1]
    · rw [if_neg h1, List.append_assoc, List.getElem?_append_right (by omega), hob]
      by_cases h2 : j < o + m
      · rw [if_pos h2, List.getElem?_append_left (by omega), List.getElem?_take_of_lt (by omega)]
      · rw [if_neg h2, List.getElem?_append_right (by omega), hlm, List.getElem?_drop]
        congr 1
        omega
  rw [List.getElem?_set, e k (by omega), e (k + 1) (by omega), spl_length (by omega)]
  by_cases hj : o + k = j
  · subst hj
    rw [if_pos rfl, if_pos (by omega), if_neg (by omega), if_pos (by omega), Nat.add_sub_cancel_left, List.getElem?_eq_getElem hk]
  · rw [if_neg hj]
    by_cases h1 : j < o
    · rw [if_pos h1, if_pos h1]
    · rw [if_neg h1, if_neg h1]
      by_cases h2 : j < o + k
      · rw [if_pos h2, if_pos (by omega)]
      · rw [if_neg h2, if_neg (by omega)]
theorem spl_nil (b : List Int) (o : Nat) : spl b o [] = b := by simp [spl]

/-- A block behind a patch, if there is one. -/
def applyB (b : List Int) (x : It) : Option (List Int) := if b.length = 32 ∧ prightB x = true then some (spl b x.o.toNat (nums x.s)) else none
theorem applyB_length {b : List Int} {x : It} {s : List Int} (h : applyB b x = some s) : s.length = 32 ∧ b.length = 32 ∧ prightB x = true ∧ s = spl b x.o.toNat (nums x.s) := by
  unfold applyB at h
  split at h
  · rename_i hc
    have hp := pright_iff.1 hc.2
    have e : spl b x.o.toNat (nums x.s) = s := by simpa using h
    refine ⟨?_, hc.1, hc.2, e.symm⟩
    rw [← e, spl_length (by rw [nums_length]; omega), hc.1]
  · cases h
theorem applyB_byte {b : List Int} {x : It} {s : List Int} (h : applyB b x = some s) (hb : AllByte b) : AllByte s := by
  rw [(applyB_length h).2.2.2]
  exact spl_byte hb (nums_byte _)
def stepB (L : List It) (S : List Int) (D : List (List Int)) (i : Nat) : List (List Int) :=
  if (nthI L i).b < (D.length : Int) ∧ (i : Int) ∈ S then
    match applyB (nth D (nthI L i).b.toNat) (nthI L i) with
    | some s => D.set (nthI L i).b.toNat s
    | none => D
  else D
@[simp] theorem stepB_length (L : List It) (S : List Int) (D : List (List Int)) (i : Nat) : (stepB L S D i).length = D.length := by
  unfold stepB
  split
  · split <;> simp
  · rfl
def blocksK (L : List It) (S : List Int) (D : List (List Int)) (k : Nat) : List (List Int) := (List.range k).foldl (stepB L S) D
theorem blocksK_succ (L : List It) (S : List Int) (D : List (List Int)) (k : Nat) : blocksK L S D (k + 1) = stepB L S (blocksK L S D k) k := by simp [blocksK, List.range_succ]
@[simp] theorem blocksK_length (L : List It) (S : List Int) (D : List (List Int)) (k : Nat) : (blocksK L S D k).length = D.length := by
  induction k with
  | zero => rfl
  | succ k ih => rw [blocksK_succ, stepB_length, ih]
/-- Blocks behind some of the items. -/
def blocksL (L : List It) (S : List Int) (D : List (List Int)) : List (List Int) := if mrightB L = true then blocksK L S D L.length else D
@[simp] theorem blocksL_length (L : List It) (S : List Int) (D : List (List Int)) : (blocksL L S D).length = D.length := by
  unfold blocksL
  split <;> simp
theorem blocksK_congr {L : List It} {S T : List Int} (D : List (List Int)) : ∀ k, (∀ i : Nat, i < k → ((i : Int) ∈ S ↔ (i : Int) ∈ T)) → blocksK L S D k = blocksK L T D k
  | 0, _ => rfl
  | k + 1, h => by
    rw [blocksK_succ, blocksK_succ, blocksK_congr D k (fun i hi => h i (by omega))]
    unfold stepB
    have := h k (by omega)
    simp only [this]
end Go.Sel.Mer
