/- Plain words on what bytes say of an inode. No program in sight. -/
import Derived.Test.YtkmonkemkhigfaaDoorLayJ
import Derived.Test.YtkmonkemkhigfaaDoorLib1
set_option linter.unusedSimpArgs false
set_option linter.unusedVariables false
namespace Go.Sel.Lay
open Go.RowKit Go.Sel Go.Proofs.YtkmonkemkhigfaaDoor

theorem or256 (a b : Int) (a0 : 0 ≤ a) (a1 : a ≤ 255) (b0 : 0 ≤ b) (b1 : b ≤ 255) : bits BinOp.or IntKind.i64 a (b * 256) = a + b * 256 := by
  obtain ⟨a, rfl⟩ := Int.eq_ofNat_of_zero_le a0
  obtain ⟨b, rfl⟩ := Int.eq_ofNat_of_zero_le b0
  simp only [bits, BitVec.toNat_or, BitVec.toNat_ofInt]
  have e1 : ((a : Int) % ((2 ^ IntKind.i64.bits : Nat) : Int)).toNat = a := by
    rw [show (2 ^ IntKind.i64.bits : Nat) = 18446744073709551616 by decide]; omega
  have e2 : ((b : Int) * 256 % ((2 ^ IntKind.i64.bits : Nat) : Int)).toNat = 2 ^ 8 * b := by
    rw [show (2 ^ IntKind.i64.bits : Nat) = 18446744073709551616 by decide]; omega
  rw [e1, e2, Nat.or_comm, ← Nat.two_pow_add_eq_or_of_lt (show a < 2 ^ 8 by omega), IntWalk.i64_in _ (by omega)]
  omega

def riBs (xs : List Int) : List Int := (xs.drop 8).takeWhile (fun x => decide (x ≠ 0))
def riZ (xs : List Int) : Int := xs.getD 2 0 + xs.getD 3 0 * 256
def riOk (xs : List Int) : Bool := decide (xs.length = 16) && inoOk (xs.getD 0 0) (xs.getD 1 0) (riZ xs) (riBs xs) && decide (inoB (xs.getD 0 0) (xs.getD 1 0) (riZ xs) (riBs xs) = xs)
def rK (xs : List Int) : Int := if riOk xs then xs.getD 0 0 else 0
def rL (xs : List Int) : Int := if riOk xs then xs.getD 1 0 else 0
def rZ (xs : List Int) : Int := if riOk xs then riZ xs else 0
def rB (xs : List Int) : List Int := if riOk xs then riBs xs else []
def rE (xs : List Int) : Int := if riOk xs then 0 else 3
theorem r_yes {xs : List Int} (h : riOk xs = true) : rK xs = xs.getD 0 0 ∧ rL xs = xs.getD 1 0 ∧ rZ xs = riZ xs ∧ rB xs = riBs xs ∧ rE xs = 0 := by simp [rK, rL, rZ, rB, rE, h]
theorem r_no {xs : List Int} (h : riOk xs = false) : rK xs = 0 ∧ rL xs = 0 ∧ rZ xs = 0 ∧ rB xs = [] ∧ rE xs = 3 := by simp [rK, rL, rZ, rB, rE, h]
theorem riOk_len {xs : List Int} (h : xs.length ≠ 16) : riOk xs = false := by simp [riOk, h]

theorem anyNZ_rep {l : List Int} : anyNZ l = false ↔ l = List.replicate l.length 0 := by
  unfold anyNZ
  rw [List.any_eq_false]
  constructor
  · intro h
    rw [List.eq_replicate_iff]
    exact ⟨rfl, fun x hx => by simpa using h x hx⟩
  · intro h x hx
    rw [h, List.mem_replicate] at hx
    simp [hx.2]

/-- The reader's own tests. -/
theorem riOk_tests {xs : List Int} (h16 : xs.length = 16) (hx : AllByte xs) :
    riOk xs = (inoOk (xs.getD 0 0) (xs.getD 1 0) (riZ xs) (riBs xs) && !anyNZ ((xs.drop 4).take 4) && !anyNZ ((xs.drop 8).drop (riBs xs).length)) := by
  match xs, h16 with
  | x0 :: x1 :: x2 :: x3 :: x4 :: x5 :: x6 :: x7 :: ys, h16 =>
    have hy : ys.length = 8 := by simpa using h16
    have h2 := hx x2 (by simp)
    have h3 := hx x3 (by simp)
    have hb : riBs (x0 :: x1 :: x2 :: x3 :: x4 :: x5 :: x6 :: x7 :: ys) = ys.takeWhile (fun x => decide (x ≠ 0)) := rfl
    have hz : riZ (x0 :: x1 :: x2 :: x3 :: x4 :: x5 :: x6 :: x7 :: ys) = x2 + x3 * 256 := rfl
    have hspl := List.takeWhile_append_dropWhile (p := fun x : Int => decide (x ≠ 0)) (l := ys)
    unfold riOk
    rw [hb, hz]
    generalize hbs : ys.takeWhile (fun x => decide (x ≠ 0)) = bs at *
    generalize ys.dropWhile (fun x => decide (x ≠ 0)) = ds at *
    have hd : ys.drop bs.length = ds := by rw [← hspl]; simp
    have hl : bs.length + ds.length = 8 := by rw [← List.length_append, hspl, hy]
    have e1 : (x2 + x3 * 256) % 256 = x2 := by omega
    have e2 : (x2 + x3 * 256) / 256 = x3 := by omega
    have key : (inoB x0 x1 (x2 + x3 * 256) bs = x0 :: x1 :: x2 :: x3 :: x4 :: x5 :: x6 :: x7 :: ys) ↔ (anyNZ [x4, x5, x6, x7] = false ∧ anyNZ ds = false) := by
      unfold inoB
      rw [e1, e2]
      simp only [List.cons_append, List.nil_append, List.cons.injEq, true_and]
      rw [anyNZ_rep (l := ds), show 8 - bs.length = ds.length by omega, ← hspl, List.append_cancel_left_eq]
      simp only [anyNZ, List.any_cons, List.any_nil, Bool.or_false, Bool.or_eq_false_iff, decide_eq_false_iff_not, Decidable.not_not]
      constructor
      · rintro ⟨a, b, c, d, e⟩; exact ⟨⟨a.symm, b.symm, c.symm, d.symm⟩, e.symm⟩
      · rintro ⟨⟨a, b, c, d⟩, e⟩; exact ⟨a.symm, b.symm, c.symm, d.symm, e.symm⟩
    simp only [List.getD_cons_zero, List.getD_cons_succ, List.drop_succ_cons, List.drop_zero, List.take_succ_cons, List.take_zero, hd, h16]
    rw [Bool.eq_iff_iff]
    simp only [Bool.and_eq_true, decide_eq_true_eq, Bool.not_eq_true', key, true_and, and_assoc]

/-- Where a loop that looks for the first naught stops. -/
theorem riBs_take {xs : List Int} {j : Nat} (h1 : ∀ i (h : 8 + i < xs.length), i < j → xs[8 + i] ≠ 0) (h2 : xs.length ≤ 8 + j ∨ ∃ h : 8 + j < xs.length, xs[8 + j] = 0) (hj : 8 + j ≤ xs.length) : riBs xs = (xs.drop 8).take j := by
  unfold riBs
  have hs : xs.drop 8 = (xs.drop 8).take j ++ (xs.drop 8).drop j := (List.take_append_drop _ _).symm
  conv => lhs; rw [hs]
  rw [List.takeWhile_append_of_pos]
  · have : ((xs.drop 8).drop j).takeWhile (fun x => decide (x ≠ 0)) = [] := by
      rcases h2 with h2 | ⟨h, h2⟩
      · rw [List.drop_eq_nil_of_le (by simp; omega)]; rfl
      · rw [List.drop_drop, List.drop_eq_getElem_cons h]
        simp [h2]
    rw [this, List.append_nil]
  · intro x hx
    obtain ⟨i, hi, rfl⟩ := List.getElem_of_mem hx
    simp only [List.length_take, List.length_drop] at hi
    rw [List.getElem_take, List.getElem_drop]
    simpa using h1 i (by omega) (by omega)
end Go.Sel.Lay
