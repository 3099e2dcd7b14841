/- What layer 9 (layout) computes, in plain Lean: no program in sight. -/
import Derived.Test.YtkmonkemkhigfaaDoorSel
namespace Go.Sel.Lay
open Go.Sel

/-- A sign of a name. -/
def chI (c : Int) : Bool := decide (c = 45) || decide (c = 46) || (decide (48 ≤ c) && decide (c ≤ 57)) || (decide (97 ≤ c) && decide (c ≤ 122))
def nameOk (l : List Int) : Bool := l.all chI && decide (1 ≤ l.length) && decide (l.length ≤ 7)

theorem nums_get (s : ByteArray) (k : Nat) (h : k < s.size) : (nums s)[k]'(by simpa using h) = ((s[k]'h).toNat : Int) := by
  simp [nums]
  rfl
theorem take_all_succ (s : ByteArray) (k : Nat) (h : k < s.size) (ht : ((nums s).take k).all chI = true) (hc : chI ((s[k]'h).toNat : Int) = true) : ((nums s).take (k + 1)).all chI = true := by
  rw [List.take_succ_eq_append_getElem (by simpa using h), List.all_append, ht, nums_get s k h]
  simp [hc]
theorem nameOk_bad (s : ByteArray) (k : Nat) (h : k < s.size) (hc : chI ((s[k]'h).toNat : Int) = false) : nameOk (nums s) = false := by
  have : (nums s).all chI = false := by
    rw [List.all_eq_false]
    exact ⟨_, List.getElem_mem (by simpa using h : k < (nums s).length), by rw [nums_get s k h, hc]; simp⟩
  simp [nameOk, this]
theorem nameOk_end (s : ByteArray) (k : Nat) (h : s.size ≤ k) (ht : ((nums s).take k).all chI = true) : nameOk (nums s) = (decide (1 ≤ s.size) && decide (s.size ≤ 7)) := by
  rw [List.take_of_length_le (by simpa using h)] at ht
  simp only [nameOk, ht, nums_length, Bool.true_and]

/-- The first block. -/
def superB (n : Int) : List Int := [83, 84, n, 16] ++ List.replicate 28 0
theorem superB_length (n : Int) : (superB n).length = 32 := by simp [superB]
theorem superB_byte (n : Int) (h0 : 16 ≤ n) (h1 : n ≤ 96) : AllByte (superB n) := by
  intro x hx
  simp only [superB, List.mem_append, List.mem_cons, List.not_mem_nil, List.mem_replicate, or_false] at hx
  rcases hx with (rfl | rfl | rfl | rfl) | ⟨_, rfl⟩ <;> omega
def g2 (xs : List Int) : Int := xs.getD 2 0
theorem superB_2 (n : Int) : g2 (superB n) = n := rfl
def rsB (xs : List Int) : Bool := decide (16 ≤ g2 xs) && decide (g2 xs ≤ 96) && decide (superB (g2 xs) = xs)
def rsVal (xs : List Int) : Int := if rsB xs then g2 xs else 0
def rsErr (xs : List Int) : Int := if rsB xs then 0 else 3
theorem rsB_super (n : Int) (h0 : 16 ≤ n) (h1 : n ≤ 96) : rsB (superB n) = true := by
  simp [rsB, superB_2, h0, h1]
theorem rs_super {xs : List Int} {n : Int} (h0 : 16 ≤ n) (h1 : n ≤ 96) (h : superB n = xs) : rsVal xs = n ∧ rsErr xs = 0 := by
  subst h
  simp [rsVal, rsErr, rsB_super n h0 h1, superB_2]
theorem rs_none {xs : List Int} (h : ∀ n, 16 ≤ n → n ≤ 96 → superB n ≠ xs) : rsVal xs = 0 ∧ rsErr xs = 3 := by
  have : rsB xs = false := by
    rw [rsB, Bool.and_eq_false_iff, Bool.and_eq_false_iff]
    by_cases h0 : 16 ≤ g2 xs
    · by_cases h1 : g2 xs ≤ 96
      · exact .inr (by simpa using h _ h0 h1)
      · exact .inl (.inr (by simpa using h1))
    · exact .inl (.inl (by simpa using h0))
  simp [rsVal, rsErr, this]

/-- An entry's eight bytes, and whether it may be. -/
def entB (l : List Int) (ino : Int) : List Int := [ino] ++ l ++ List.replicate (7 - l.length) 0
def entOk (l : List Int) (ino : Int) : Bool := (decide (l.length = 0) && decide (ino = 0)) || (decide (1 ≤ ino) && decide (ino ≤ 15) && nameOk l)

/-- All but the noughts at the end. -/
def trimZ (xs : List Int) : List Int := (xs.reverse.dropWhile (· == 0)).reverse
/-- What eight bytes say of an entry. -/
def rdName (xs : List Int) : List Int := trimZ (xs.drop 1)
def rdIno (xs : List Int) : Int := xs.getD 0 0
def rdOk (xs : List Int) : Bool := decide (xs.length = 8) && entOk (rdName xs) (rdIno xs)
def reName (xs : List Int) : ByteArray := if rdOk xs then strOfNums (rdName xs) else ByteArray.empty
def reIno (xs : List Int) : Int := if rdOk xs then rdIno xs else 0
def reErr (xs : List Int) : Int := if rdOk xs then 0 else 3
theorem re_ok {xs : List Int} (h : rdOk xs = true) : reName xs = strOfNums (rdName xs) ∧ reIno xs = rdIno xs ∧ reErr xs = 0 := by simp [reName, reIno, reErr, h]
theorem re_no {xs : List Int} (h : rdOk xs = false) : reName xs = ByteArray.empty ∧ reIno xs = 0 ∧ reErr xs = 3 := by simp [reName, reIno, reErr, h]
end Go.Sel.Lay
