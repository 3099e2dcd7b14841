/- Big files, plainly: the pointers of a file, by their places in the order in which they are looked at. No program in sight. -/
import Derived.Test.YtcgfoaihfncppaaSel7
set_option linter.unusedSimpArgs false
set_option linter.unusedVariables false
namespace Go.Sel.Bg

/-- The i-th byte of a block of an image. -/
def at2 (D : List (List Int)) (b : Int) (i : Nat) : Int := (D.getD b.toNat []).getD i 0
def tp (t : List Int) (i : Nat) : Int := t.getD i 0
/-- The pointers of the block Indirect, those of Double, and those of the blocks that these point to; 0 where there is none. -/
def vI (D : List (List Int)) (t : List Int) (j : Nat) : Int := if tp t 6 = 0 then 0 else at2 D (tp t 6) j
def vD (D : List (List Int)) (t : List Int) (i : Nat) : Int := if tp t 7 = 0 then 0 else at2 D (tp t 7) i
def vE (D : List (List Int)) (t : List Int) (i j : Nat) : Int := if vD D t i = 0 then 0 else at2 D (vD D t i) j
/-- The p-th pointer. -/
def val (D : List (List Int)) (t : List Int) (p : Nat) : Int :=
  if p < 8 then tp t p else if p < 40 then vI D t (p - 8) else if (p - 40) % 33 = 0 then vD D t ((p - 40) / 33) else vE D t ((p - 40) / 33) ((p - 40) % 33 - 1)
/-- The first m pointers may be: none is pointed to twice, all are blocks of the image. -/
def okU (D : List (List Int)) (t : List Int) (m : Nat) : Prop :=
  (∀ p, p < m → 0 ≤ val D t p ∧ (val D t p).toNat < max 1 D.length) ∧ ∀ p q, p < m → q < m → val D t p = val D t q → val D t p ≠ 0 → p = q
def whole (D : List (List Int)) : Prop := D.length ≤ 96 ∧ ∀ b ∈ D, b.length = 32
def Rt (D : List (List Int)) (t : List Int) : Prop := whole D ∧ okU D t 1096
/-- The place of the k-th block's pointer; the block whose pointer is the p-th. -/
def posK (k : Nat) : Nat := if k < 6 then k else if k < 38 then k + 2 else 40 + 33 * ((k - 38) / 32) + 1 + (k - 38) % 32
theorem posK_lt {k : Nat} (h : k < 1062) : posK k < 1096 := by
  unfold posK
  split
  · omega
  · split
    · omega
    · omega
theorem posK_inj {k l : Nat} (hk : k < 1062) (hl : l < 1062) (h : posK k = posK l) : k = l := by
  unfold posK at h
  split at h <;> split at h <;> (try split at h) <;> (try split at h) <;> omega
/-- Where the k-th block lies. -/
def atK (D : List (List Int)) (t : List Int) (k : Nat) : Int := val D t (posK k)
theorem atK_eq (D : List (List Int)) (t : List Int) {k : Nat} (h : k < 1062) : atK D t k = if k < 6 then tp t k else if k < 38 then vI D t (k - 6) else vE D t ((k - 38) / 32) ((k - 38) % 32) := by
  unfold atK val posK
  by_cases h6 : k < 6
  · rw [if_pos h6, if_pos h6, if_pos (by omega)]
  · rw [if_neg h6, if_neg h6]
    by_cases h38 : k < 38
    · rw [if_pos h38, if_pos h38, if_neg (by omega), if_pos (by omega)]
      try congr 1
      try omega
    · rw [if_neg h38, if_neg h38, if_neg (by omega), if_neg (by omega), if_neg (by omega)]
      have e1 : (40 + 33 * ((k - 38) / 32) + 1 + (k - 38) % 32 - 40) / 33 = (k - 38) / 32 := by omega
      have e2 : (40 + 33 * ((k - 38) / 32) + 1 + (k - 38) % 32 - 40) % 33 - 1 = (k - 38) % 32 := by omega
      rw [e1, e2]
/-- The slots of the k-th block. -/
def wayL (k : Int) : List Int := if k < 6 then [k] else if k < 38 then [6, k - 6] else [7, (k - 38) / 32, (k - 38) % 32]
theorem wayL_inj {a b : Int} (ha : 0 ≤ a) (hb : 0 ≤ b) : wayL a = wayL b ↔ a = b := by
  constructor
  · intro h
    unfold wayL at h
    split at h <;> split at h <;> (try split at h) <;> (try split at h) <;> simp only [List.cons.injEq, and_true, reduceCtorEq, and_false, List.nil_eq, List.cons_ne_nil] at h <;> omega
  · rintro rfl
    rfl
theorem wayL_len (a : Int) : 1 ≤ (wayL a).length ∧ (wayL a).length ≤ 3 := by
  unfold wayL
  split
  · simp
  · split <;> simp
end Go.Sel.Bg
