/- Plain words: what is read of what was written is it, of inodes. No program in sight. -/
import Derived.Test.YtkmonkemkhigfaaDoorLayK
set_option linter.unusedSimpArgs false
set_option linter.unusedVariables false
namespace Go.Sel.Lay
open Go.RowKit Go.Sel Go.Proofs.YtkmonkemkhigfaaDoor

theorem ri_inoB {k l z : Int} {xs : List Int} (h : inoOk k l z xs = true) :
    (inoB k l z xs).getD 0 0 = k ∧ (inoB k l z xs).getD 1 0 = l ∧ riZ (inoB k l z xs) = z ∧ riBs (inoB k l z xs) = xs ∧ riOk (inoB k l z xs) = true := by
  obtain ⟨hb, h1, h2, h3, h4, h5, h6⟩ := inoOk_parts h
  obtain ⟨b1, _, b3⟩ := blksOk_parts hb
  have e0 : (inoB k l z xs).getD 0 0 = k := rfl
  have e1 : (inoB k l z xs).getD 1 0 = l := rfl
  have ez : riZ (inoB k l z xs) = z := by
    show z % 256 + z / 256 * 256 = z
    omega
  have eb : riBs (inoB k l z xs) = xs := by
    unfold riBs
    have : (inoB k l z xs).drop 8 = xs ++ List.replicate (8 - xs.length) 0 := rfl
    rw [this, List.takeWhile_append_of_pos]
    · have hr : ∀ n, (List.replicate n (0 : Int)).takeWhile (fun x => decide (x ≠ 0)) = [] := by
        intro n
        cases n <;> simp [List.replicate_succ]
      rw [hr, List.append_nil]
    · intro x hx
      have := b1 x hx
      simp
      omega
  refine ⟨e0, e1, ez, eb, ?_⟩
  unfold riOk
  rw [e0, e1, ez, eb, h, inoB_length _ _ _ _ b3]
  simp
theorem inoB_inj {k l z k' l' z' : Int} {xs ys : List Int} (h : inoOk k l z xs = true) (h' : inoOk k' l' z' ys = true) : inoB k l z xs = inoB k' l' z' ys ↔ k = k' ∧ l = l' ∧ z = z' ∧ xs = ys := by
  constructor
  · intro he
    obtain ⟨a1, a2, a3, a4, _⟩ := ri_inoB h
    obtain ⟨c1, c2, c3, c4, _⟩ := ri_inoB h'
    rw [he] at a1 a2 a3 a4
    exact ⟨a1.symm.trans c1, a2.symm.trans c2, a3.symm.trans c3, a4.symm.trans c4⟩
  · rintro ⟨rfl, rfl, rfl, rfl⟩; rfl
/-- Some slices, read. -/
def Rds (w : World) (L : List (Option Addr × Nat × Nat × List Value)) : Prop := ∀ p ∈ L, Rd w p.1 p.2.1 p.2.2.1 p.2.2.2
theorem Rds.below {w w' : World} {L : List (Option Addr × Nat × Nat × List Value)} (h : Hid (Rds w L)) (hB : Below w.heap.size w w') : Hid (Rds w' L) := fun p hp => (h.out p hp).below hB
theorem Rds.get {w : World} {L : List (Option Addr × Nat × Nat × List Value)} (h : Hid (Rds w L)) {A : Option Addr} {n c : Nat} {cs : List Value} (hm : (A, n, c, cs) ∈ L) : Rd w A n c cs := h.out _ hm
theorem Rds.nil (w : World) : Rds w [] := fun p hp => by simp at hp
theorem Rds.cons {w : World} {L : List (Option Addr × Nat × Nat × List Value)} {A : Option Addr} {n c : Nat} {cs : List Value} (h : Rd w A n c cs) (hL : Rds w L) : Rds w ((A, n, c, cs) :: L) := by
  intro p hp
  rcases List.mem_cons.1 hp with rfl | hp
  · exact h
  · exact hL p hp
end Go.Sel.Lay
