/- Walks of layout: Where, Name, and of the library's functions that layout calls. -/
import Derived.Test.YtkmonkemkhigfaaDoorProg
import Derived.Test.YtkmonkemkhigfaaDoorLayP
set_option linter.unusedSimpArgs false
set_option linter.unusedVariables false
namespace Go.Proofs.YtkmonkemkhigfaaDoor
open Go.RowKit Go.Sel Go.Sel.Lay

theorem and1 (n : Int) (h0 : 0 ≤ n) (h1 : n < 16) : bits BinOp.and IntKind.i64 n 1 = n % 2 := by
  obtain ⟨m, rfl⟩ := Int.eq_ofNat_of_zero_le h0
  have : m < 16 := by omega
  have h : ∀ m : Fin 16, bits BinOp.and IntKind.i64 ((m : Nat) : Int) 1 = ((m : Nat) : Int) % 2 := by decide
  exact h ⟨m, this⟩

set_option maxHeartbeats 400000 in
theorem Where_any (n : Int) (w : World) (h0 : -9223372036854775808 ≤ n) (h1 : n ≤ 9223372036854775807) :
    Calls Tryd.prog 22 #[.int .i64 n] w fun e w' => e = .returned (.tuple #[.int .i64 (if n < 0 ∨ 16 ≤ n then 0 else 3 + n / 2), .int .i64 (if n < 0 ∨ 16 ≤ n then 0 else n % 2 * 16), .int .i64 (if n < 0 ∨ 16 ≤ n then 2 else 0)]) ∧ w' = w := by
  go_enter Tryd.func22, Tryd.ntmps22
  go_wp2
  · go_ret3
    exact ⟨rfl, rfl⟩
  · have e1 := and1 n (by omega) (by omega)
    rw [e1, show wrap64 (n % 2 * 16) = n % 2 * 16 by unfold wrap64; omega]
    go_ret3
    exact ⟨rfl, rfl⟩
  · go_ret3
    exact ⟨rfl, rfl⟩

set_option maxHeartbeats 400000 in
theorem rWhere_any (n : Int) (w : World) (h0 : -9223372036854775808 ≤ n) (h1 : n ≤ 9223372036854775807) :
    Calls Tryd.prog 23 #[.int .i64 n] w fun e w' => e = .returned (.tuple #[.int .i64 (if n < 0 ∨ 16 ≤ n then 0 else 3 + n / 2), .int .i64 (if n < 0 ∨ 16 ≤ n then 0 else n % 2 * 16), .int .i64 (if n < 0 ∨ 16 ≤ n then 2 else 0)]) ∧ w' = w := by
  go_enter Tryd.func23, Tryd.ntmps23
  go_wp2
  all_goals go_ret3
  all_goals exact ⟨rfl, rfl⟩

theorem below_iter (w : World) (s : ByteArray) (p : Nat) : Below w.heap.size w (w.iter s p) := (Below.refl _ _).alloc (Nat.le_refl _) _

set_option maxHeartbeats 1000000 in
theorem Name_any (s : ByteArray) (w : World) (hs : s.size ≤ 9223372036854775807) :
    Calls Tryd.prog 18 #[.string s] w fun e w' => e = .returned (.bool (nameOk (nums s))) ∧ Below w.heap.size w w' := by
  go_enter Tryd.func18, Tryd.ntmps18
  go_wp2
  go_loopw [4, 7] (fun _ _ wr => ∃ k : Nat, k ≤ s.size ∧ wr = w.iter s k ∧ ((nums s).take k).all chI = true) (fun _ _ wr => s.size - wr.iterPos w.heap.size)
  case atStart => exact ⟨0, by omega, rfl, by simp⟩
  case round =>
    obtain ⟨k, hk, rfl, ht⟩ := hrel
    have HT := Lib.hid ht
    clear ht
    by_cases hlt : k < s.size
    · by_cases ha : (s[k]'hlt).toNat < 128
      · have hn := fun ty => run_next_ascii (P := Tryd.prog) w s k ty hlt ha
        go_wp2
        all_goals first
          | (go_ret; exact ⟨ret_bool (nameOk_bad s k hlt (by simp_all [chI] <;> omega)).symm, below_iter _ _ _⟩)
          | (refine ⟨⟨k + 1, by omega, rfl, take_all_succ s k hlt HT.out (by simp_all [chI] <;> omega)⟩, ?_⟩; simp only [World.iterPos_iter]; omega)
      · have hn := fun ty => run_next_any (P := Tryd.prog) w s k ty hlt
        have hd := decode_high s k hlt (by omega)
        have hbad := Lib.hid (nameOk_bad s k hlt (by simp [chI] <;> omega))
        generalize Utf8.decode s k = d at *
        obtain ⟨r, wd⟩ := d
        obtain ⟨hd1, hd2⟩ := hd
        simp only at hd1 hd2 hn
        go_wp2
        all_goals go_ret
        all_goals exact ⟨ret_bool hbad.out.symm, below_iter _ _ _⟩
    · have hn := fun ty => run_next_end (P := Tryd.prog) w s k ty hlt
      go_wp2
      all_goals go_ret
      all_goals refine ⟨ret_bool ?_, below_iter _ _ _⟩
      all_goals rw [nameOk_end s k (by omega) HT.out, Bool.eq_iff_iff]
      all_goals simp only [toList_nil] at *
      all_goals simp only [toList_empty, Bool.and_eq_true, Bool.not_eq_true', decide_eq_true_eq, decide_eq_false_iff_not, Bool.false_eq_true, false_iff, true_iff]
      all_goals omega

set_option maxHeartbeats 400000 in
theorem rName_any (s : ByteArray) (w : World) (hs : s.size ≤ 9223372036854775807) :
    Calls Tryd.prog 24 #[.string s] w fun e w' => e = .returned (.bool (nameOk (nums s))) ∧ w' = w := by
  go_enter Tryd.func24, Tryd.ntmps24
  go_wp2
  go_loop [3, 4] (fun i _ => ∃ k : Nat, k ≤ s.size ∧ i = .int .i64 k ∧ ((nums s).take k).all chI = true) (fun i _ => s.size - (intOf i).toNat)
  case atStart => exact ⟨0, by omega, rfl, by simp⟩
  case round =>
    obtain ⟨k, hk, rfl, ht⟩ := hrel
    have HT := Lib.hid ht
    clear ht
    by_cases hlt : k < s.size
    · go_wp2
      all_goals first
        | (go_ret; exact ⟨ret_bool (nameOk_bad s k hlt (by simp_all [chI] <;> omega)).symm, rfl⟩)
        | (go_round; exact ⟨k + 1, by omega, by go_num, take_all_succ s k hlt HT.out (by simp_all [chI] <;> omega)⟩; simp [intOf]; omega)
    · go_wp2
      all_goals go_ret
      all_goals refine ⟨ret_bool ?_, rfl⟩
      all_goals rw [nameOk_end s k (by omega) HT.out, Bool.eq_iff_iff]
      all_goals simp only [Bool.and_eq_true, decide_eq_true_eq, Bool.false_eq_true, false_iff]
      all_goals omega
end Go.Proofs.YtkmonkemkhigfaaDoor
