/- Plain words: an inode's bytes with one turned. No program in sight. -/
import Derived.Test.YtkmonkemkhigfaaDoorLayL
import Derived.Test.YtkmonkemkhigfaaDoorLay11
set_option linter.unusedSimpArgs false
set_option linter.unusedVariables false
namespace Go.Sel.Lay
open Go.RowKit Go.Sel Go.Proofs.YtkmonkemkhigfaaDoor

theorem xor_byte (x y : Int) (a0 : 0 ≤ x) (a1 : x ≤ 255) (b0 : 0 ≤ y) (b1 : y ≤ 255) : (0 ≤ bits BinOp.xor IntKind.u8 x y ∧ bits BinOp.xor IntKind.u8 x y ≤ 255) ∧ (y ≠ 0 → bits BinOp.xor IntKind.u8 x y ≠ x) := by
  obtain ⟨a, rfl⟩ := Int.eq_ofNat_of_zero_le a0
  obtain ⟨b, rfl⟩ := Int.eq_ofNat_of_zero_le b0
  simp only [bits, BitVec.toNat_xor, BitVec.toNat_ofInt]
  have e1 : ((a : Int) % ((2 ^ IntKind.u8.bits : Nat) : Int)).toNat = a := by
    rw [show (2 ^ IntKind.u8.bits : Nat) = 256 by decide]; omega
  have e2 : ((b : Int) % ((2 ^ IntKind.u8.bits : Nat) : Int)).toNat = b := by
    rw [show (2 ^ IntKind.u8.bits : Nat) = 256 by decide]; omega
  have h : a ^^^ b < 2 ^ 8 := Nat.xor_lt_two_pow (by omega) (by omega)
  rw [e1, e2, IntKind.wrap_u8]
  refine ⟨by omega, fun hne he => ?_⟩
  have h2 : a ^^^ b = a := by omega
  have h3 : a ^^^ (a ^^^ b) = a ^^^ a := by rw [h2]
  rw [← Nat.xor_assoc, Nat.xor_self, Nat.zero_xor] at h3
  omega

/-- What was read is written as it was. -/
theorem inoB_ri {cs : List Int} (h : riOk cs = true) : inoOk (rK cs) (rL cs) (rZ cs) (rB cs) = true ∧ inoB (rK cs) (rL cs) (rZ cs) (rB cs) = cs := by
  obtain ⟨h1, h2, h3, h4, _⟩ := r_yes h
  rw [h1, h2, h3, h4]
  simp only [riOk, Bool.and_eq_true, decide_eq_true_eq] at h
  exact ⟨h.1.2, h.2⟩
/-- Other bytes are another inode's. -/
theorem turned_other {k l z : Int} {xs cs : List Int} (hne : cs ≠ inoB k l z xs) (hr : riOk cs = true) : sameOk (rK cs) (rL cs) (rZ cs) (rB cs) k l z xs = false := by
  rw [Bool.eq_false_iff]
  intro hs
  simp only [sameOk, Bool.and_eq_true, decide_eq_true_eq] at hs
  have := (inoB_ri hr).2
  rw [hs.1.1.1, hs.1.1.2, hs.1.2, hs.2] at this
  exact hne this.symm
theorem set_ne {l : List Int} {i : Nat} {v : Int} (hi : i < l.length) (hv : v ≠ l[i]) : l.set i v ≠ l := by
  intro he
  have : (l.set i v)[i]'(by simpa using hi) = l[i] := by simp [he]
  rw [List.getElem_set_self] at this
  exact hv this
end Go.Sel.Lay
