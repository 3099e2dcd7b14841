/- Walks of layout: whether two inodes are the same. -/
import Derived.Test.YtkmonkemkhigfaaDoorLay8
import Derived.Test.YtkmonkemkhigfaaDoorLayJ
set_option linter.unusedSimpArgs false
set_option linter.unusedVariables false
namespace Go.Proofs.YtkmonkemkhigfaaDoor
open Go.RowKit Go.Sel Go.Sel.Lay

def sameOk (k l z : Int) (xs : List Int) (k' l' z' : Int) (ys : List Int) : Bool := decide (k = k') && decide (l = l') && decide (z = z') && decide (xs = ys)

set_option maxHeartbeats 1000000 in
theorem Same_any (k l z : Int) (A : Option Addr) (n c : Nat) (xs : List Int) (k' l' z' : Int) (A' : Option Addr) (n' c' : Nat) (ys : List Int) (w : World) (ha : Rd w A n c (iv .i64 xs)) (hn : xs.length = n) (hb : Rd w A' n' c' (iv .i64 ys)) (hn' : ys.length = n') :
    Calls Tryd.prog 27 #[.agg #[.int .u8 k, .int .i64 l, .int .i64 z, .slice A n c], .agg #[.int .u8 k', .int .i64 l', .int .i64 z', .slice A' n' c']] w fun e w' => e = .returned (.bool (sameOk k l z xs k' l' z' ys)) ∧ Below w.heap.size w w' := by
  have HA := Lib.hid ha
  have HB := Lib.hid hb
  have HN := Lib.hid hn
  have HN' := Lib.hid hn'
  clear ha hb hn hn'
  by_cases h : k = k' ∧ l = l' ∧ z = z'
  · obtain ⟨rfl, rfl, rfl⟩ := h
    go_enter Tryd.func27, Tryd.ntmps27
    go_wp2_with (go_at_call 36; refine (sEqual A A' n n' c c' xs ys _ ((HA.out.alloc _).alloc _) ((HB.out.alloc _).alloc _) HN.out HN'.out).mono ?_; rintro e w1 ⟨rfl, q, rfl⟩)
    go_ret
    exact ⟨ret_bool (by simp [sameOk]), Below.then_drewN (((Below.refl _ _).alloc (Nat.le_refl _) _).alloc (by simp) _) _⟩
  · have HS : Hid (sameOk k l z xs k' l' z' ys = false) := by
      show _ = _
      rw [Bool.eq_false_iff]
      intro hs
      simp only [sameOk, Bool.and_eq_true, decide_eq_true_eq] at hs
      exact h ⟨hs.1.1.1, hs.1.1.2, hs.1.2⟩
    go_enter Tryd.func27, Tryd.ntmps27
    go_wp2
    all_goals first
      | (exfalso; simp only [beq_iff_eq, bne_iff_ne, beq_eq_false_iff_ne, bne_eq_false_iff_eq, ne_eq] at *; simp_all; done)
      | (go_ret; exact ⟨ret_bool HS.out.symm, ((Below.refl _ _).alloc (Nat.le_refl _) _).alloc (by simp) _⟩)

set_option maxHeartbeats 1000000 in
theorem rSame_any (k l z : Int) (A : Option Addr) (n c : Nat) (xs : List Int) (k' l' z' : Int) (A' : Option Addr) (n' c' : Nat) (ys : List Int) (w : World) (ha : Rd w A n c (iv .i64 xs)) (hn : xs.length = n) (hb : Rd w A' n' c' (iv .i64 ys)) (hn' : ys.length = n') :
    Calls Tryd.prog 28 #[.agg #[.int .u8 k, .int .i64 l, .int .i64 z, .slice A n c], .agg #[.int .u8 k', .int .i64 l', .int .i64 z', .slice A' n' c']] w fun e w' => e = .returned (.bool (sameOk k l z xs k' l' z' ys)) ∧ Below w.heap.size w w' := by
  have HA := Lib.hid ((ha.alloc (.cells #[.int .u8 k, .int .i64 l, .int .i64 z, .slice A n c] 45)).alloc (.cells #[.int .u8 k', .int .i64 l', .int .i64 z', .slice A' n' c'] 45))
  have HB := Lib.hid ((hb.alloc (.cells #[.int .u8 k, .int .i64 l, .int .i64 z, .slice A n c] 45)).alloc (.cells #[.int .u8 k', .int .i64 l', .int .i64 z', .slice A' n' c'] 45))
  have HN := Lib.hid hn
  have HN' := Lib.hid hn'
  have a1 := ha.le
  have a2 := ha.cap
  have b1 := hb.le
  have b2 := hb.cap
  clear ha hb hn hn'
  by_cases h : k = k' ∧ l = l' ∧ z = z' ∧ n = n'
  · obtain ⟨rfl, rfl, rfl, rfl⟩ := h
    go_enter Tryd.func28, Tryd.ntmps28
    go_wp2
    have c0 := blk_cell (blk21 w (.cells #[.int .u8 k, .int .i64 l, .int .i64 z, .slice A n c] 45) (.cells #[.int .u8 k, .int .i64 l, .int .i64 z, .slice A' n c'] 45)) 3
    have d0 := blk_cell (blk22 w (.cells #[.int .u8 k, .int .i64 l, .int .i64 z, .slice A n c] 45) (.cells #[.int .u8 k, .int .i64 l, .int .i64 z, .slice A' n c'] 45)) 3
    simp only [List.getElem?_toArray, List.getElem?_cons_zero, List.getElem?_cons_succ] at c0 d0
    have HW : Hid (Below w.heap.size w ((w.alloc (.cells #[.int .u8 k, .int .i64 l, .int .i64 z, .slice A n c] 45)).alloc (.cells #[.int .u8 k, .int .i64 l, .int .i64 z, .slice A' n c'] 45))) := ((Below.refl _ _).alloc (Nat.le_refl _) _).alloc (by simp) _
    generalize (w.alloc (.cells #[.int .u8 k, .int .i64 l, .int .i64 z, .slice A n c] 45)).alloc (.cells #[.int .u8 k, .int .i64 l, .int .i64 z, .slice A' n c'] 45) = w0 at *
    go_loopw [5] (fun v wr => ∃ j : Nat, j ≤ n ∧ v = .int .i64 j ∧ Hid (xs.take j = ys.take j) ∧ ∃ q, wr = w0.drewN q) (fun v _ => n - (intOf v).toNat)
    case atStart => exact ⟨0, by omega, rfl, rfl, 0, rfl⟩
    case round =>
      obtain ⟨j, hj, rfl, HT, q, rfl⟩ := hrel
      by_cases hlt : j < n
      · have hxl : j < xs.length := by have := HN.out; omega
        have hyl : j < ys.length := by have := HN'.out; omega
        obtain ⟨b, off, rfl, _, hc⟩ := HA.out.form (by simp; omega)
        obtain ⟨b2, off2, rfl, _, hd⟩ := HB.out.form (by simp; omega)
        have hck := hc j (by simpa using hxl)
        have hdk := hd j (by simpa using hyl)
        rw [iv_at] at hck hdk
        clear hc hd
        by_cases hxy : xs[j] = ys[j]
        · have hne : (xs[j] != ys[j]) = false := by simp [hxy]
          have HX := Lib.hid hxy
          clear hxy
          go_wp2
          go_quiet (fail)
          go_wp2
          refine ⟨⟨j + 1, by omega, by go_num, ?_, ⟨_, rfl⟩⟩, by simp [intOf]; omega⟩
          show xs.take (j + 1) = ys.take (j + 1)
          rw [List.take_succ_eq_append_getElem hxl, List.take_succ_eq_append_getElem hyl, HT.out, HX.out]
        · have hne : (xs[j] != ys[j]) = true := by simp [hxy]
          have HX := Lib.hid hxy
          clear hxy
          go_wp2
          go_quiet (fail)
          go_wp2
          go_ret
          exact ⟨ret_bool (by symm; rw [sameOk, Bool.and_eq_false_iff]; right; rw [decide_eq_false_iff_not]; rintro rfl; exact HX.out rfl), Below.then_drewN (Below.then_drewN HW.out _) _⟩
      · go_wp2
        go_ret
        refine ⟨ret_bool ?_, Below.then_drewN HW.out _⟩
        have h := HT.out
        rw [List.take_of_length_le (by have := HN.out; omega), List.take_of_length_le (by have := HN'.out; omega)] at h
        simp [sameOk, h]
  · have HS : Hid (sameOk k l z xs k' l' z' ys = false) := by
      show _ = _
      rw [Bool.eq_false_iff]
      intro hs
      simp only [sameOk, Bool.and_eq_true, decide_eq_true_eq] at hs
      exact h ⟨hs.1.1.1, hs.1.1.2, hs.1.2, by rw [← HN.out, ← HN'.out, hs.2]⟩
    go_enter Tryd.func28, Tryd.ntmps28
    go_wp2
    all_goals first
      | (exfalso; simp only [beq_iff_eq, bne_iff_ne, beq_eq_false_iff_ne, bne_eq_false_iff_eq, ne_eq] at *; omega)
      | (go_ret; exact ⟨ret_bool HS.out.symm, ((Below.refl _ _).alloc (Nat.le_refl _) _).alloc (by simp) _⟩)
end Go.Proofs.YtkmonkemkhigfaaDoor
