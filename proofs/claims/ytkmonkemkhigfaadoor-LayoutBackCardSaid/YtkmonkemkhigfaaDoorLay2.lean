/- Walks of layout: the first block; small things of the laws. -/
import Derived.Test.YtkmonkemkhigfaaDoorProg
import Derived.Test.YtkmonkemkhigfaaDoorLayP
import Derived.Test.YtkmonkemkhigfaaDoorLib1
set_option linter.unusedSimpArgs false
set_option linter.unusedVariables false
namespace Go.Proofs.YtkmonkemkhigfaaDoor
open Go.RowKit Go.Sel Go.Sel.Lay

set_option maxHeartbeats 400000 in
theorem few_any (A : Option Addr) (n c : Nat) (w : World) (hc : n ≤ c) (hm : c ≤ 9223372036854775807) :
    Calls Tryd.prog 14 #[.slice A n c] w fun e w' => e = .returned (.slice A (min n 40) c) ∧ w' = w := by
  by_cases h : n ≤ 40
  · rw [Nat.min_eq_left h]
    go_enter Tryd.func14, Tryd.ntmps14
    go_wp2
    go_ret
    exact ⟨rfl, rfl⟩
  · rw [Nat.min_eq_right (by omega)]
    have h' : 40 < n := by omega
    clear h
    go_enter Tryd.func14, Tryd.ntmps14
    go_wp2
    go_ret
    exact ⟨rfl, rfl⟩

def z32 : Array Value := #[.int .u8 0, .int .u8 0, .int .u8 0, .int .u8 0, .int .u8 0, .int .u8 0, .int .u8 0, .int .u8 0, .int .u8 0, .int .u8 0, .int .u8 0, .int .u8 0, .int .u8 0, .int .u8 0, .int .u8 0, .int .u8 0, .int .u8 0, .int .u8 0, .int .u8 0, .int .u8 0, .int .u8 0, .int .u8 0, .int .u8 0, .int .u8 0, .int .u8 0, .int .u8 0, .int .u8 0, .int .u8 0, .int .u8 0, .int .u8 0, .int .u8 0, .int .u8 0]
theorem mk32 (w : World) : (Instr.makeSlice 22 (.int .i64 32) (.int .i64 32)).run Tryd.prog w = .ok (.slice (some ⟨w.heap.size, 0, none⟩) 32 32) (w.alloc (.cells z32 5)) := by kernel_rfl
theorem mk0_32 (w : World) : (Instr.makeSlice 22 (.int .i64 0) (.int .i64 32)).run Tryd.prog w = .ok (.slice (some ⟨w.heap.size, 0, none⟩) 0 32) (w.alloc (.cells z32 5)) := by kernel_rfl

theorem super_rd (w : World) (n : Int) (cells : Array Value) (h : cells.toList = iv .u8 (superB n)) : Rd (w.alloc (.cells cells 5)) (some ⟨w.heap.size, 0, none⟩) 32 32 (iv .u8 (superB n)) :=
  rd_block (heap_alloc_new w _) 32 32 _ 0 (by omega) (by omega) fun j hj => by
    rw [Nat.zero_add, ← Array.getElem?_toList, h]
    simp

set_option maxHeartbeats 400000 in
theorem rSuper_ok (n : Int) (w : World) (h0 : 16 ≤ n) (h1 : n ≤ 96) :
    Calls Tryd.prog 12 #[.int .i64 n] w fun e w' => (∃ A, e = .returned (.tuple #[.slice A 32 32, .int .i64 0]) ∧ Rd w' A 32 32 (iv .u8 (superB n))) ∧ Below w.heap.size w w' := by
  have hmk := mk32
  unfold z32 at hmk
  go_enter Tryd.func12, Tryd.ntmps12
  go_wp2
  go_ret2
  exact ⟨⟨_, rfl, super_rd _ _ _ rfl⟩, (Below.refl _ _).alloc (Nat.le_refl _) _⟩
set_option maxHeartbeats 400000 in
theorem rSuper_no (n : Int) (w : World) (h : n < 16 ∨ 96 < n) :
    Calls Tryd.prog 12 #[.int .i64 n] w fun e w' => e = .returned (.tuple #[.slice none 0 0, .int .i64 2]) ∧ w' = w := by
  rcases h with h | h
  all_goals
    go_enter Tryd.func12, Tryd.ntmps12
    go_wp2
    all_goals go_ret2
    all_goals exact ⟨rfl, rfl⟩
set_option maxHeartbeats 400000 in
theorem Super_ok (n : Int) (w : World) (h0 : 16 ≤ n) (h1 : n ≤ 96) :
    Calls Tryd.prog 11 #[.int .i64 n] w fun e w' => (∃ A, e = .returned (.tuple #[.slice A 32 32, .int .i64 0]) ∧ Rd w' A 32 32 (iv .u8 (superB n))) ∧ Below w.heap.size w w' := by
  have hmk := mk0_32
  unfold z32 at hmk
  go_enter Tryd.func11, Tryd.ntmps11
  go_wp2
  go_ret2
  exact ⟨⟨_, rfl, (super_rd _ _ _ rfl).alloc _⟩, ((Below.refl _ _).alloc (Nat.le_refl _) _).alloc (by simp) _⟩
set_option maxHeartbeats 400000 in
theorem Super_no (n : Int) (w : World) (h : n < 16 ∨ 96 < n) :
    Calls Tryd.prog 11 #[.int .i64 n] w fun e w' => e = .returned (.tuple #[.slice none 0 0, .int .i64 2]) ∧ w' = w := by
  rcases h with h | h
  all_goals
    go_enter Tryd.func11, Tryd.ntmps11
    go_wp2
    all_goals go_ret2
    all_goals exact ⟨rfl, rfl⟩

theorem getD_2 (xs : List Int) (h : 2 < xs.length) : xs[2] = g2 xs := by
  simp [g2, List.getD_eq_getElem?_getD, List.getElem?_eq_getElem h]
set_option maxHeartbeats 400000 in
theorem ReadSuper_any (A : Option Addr) (n c : Nat) (xs : List Int) (w : World) (ha : Rd w A n c (iv .u8 xs)) (hn : xs.length = n) (hx : AllByte xs) :
    Calls Tryd.prog 13 #[.slice A n c] w fun e w' => e = .returned (.tuple #[.int .i64 (rsVal xs), .int .i64 (rsErr xs)]) ∧ Below w.heap.size w w' := by
  have HA := Lib.hid ha
  have HN := Lib.hid hn
  have HX := Lib.hid hx
  have l1 : n ≤ 9223372036854775807 := by have := ha.le; have := ha.cap; omega
  clear ha hn hx
  by_cases h32 : n = 32
  · subst h32
    have h2 : 2 < xs.length := by have := HN.out; omega
    have hb2 := HX.out _ (List.getElem_mem h2)
    rw [getD_2 xs h2] at hb2
    obtain ⟨hb2a, hb2b⟩ := hb2
    obtain ⟨b, off, rfl, _, hc⟩ := HA.out.form (by simp; omega)
    have hc2 := hc 2 (by simp; omega)
    rw [iv_at, getD_2 xs h2] at hc2
    clear hc
    by_cases hr : 16 ≤ g2 xs ∧ g2 xs ≤ 96
    · obtain ⟨hr0, hr1⟩ := hr
      by_cases heq : superB (g2 xs) = xs
      · have HE := Lib.hid (rs_super hr0 hr1 heq)
        have HQ := Lib.hid heq
        clear heq
        have hd : decide (superB (g2 xs) = xs) = true := by simpa using HQ.out
        go_enter Tryd.func13, Tryd.ntmps13
        go_wp2_with (first | (go_at_call 11; refine (Super_ok (g2 xs) _ hr0 hr1).mono ?_; rintro e w1 ⟨⟨A1, rfl, hrd⟩, hB⟩; have HR := Lib.hid hrd; have HB := Lib.hid hB; clear hrd hB) | (go_at_call 34; refine (bEqual _ _ _ _ _ _ _ xs _ HR.out (HA.out.below HB.out) (superB_length _) HN.out (superB_byte _ hr0 hr1) HX.out).mono ?_; rintro e w2 ⟨rfl, rfl⟩))
        go_ret2
        exact ⟨by rw [HE.out.1, HE.out.2]; rfl, HB.out⟩
      · have HQ := Lib.hid heq
        clear heq
        have hd : decide (superB (g2 xs) = xs) = false := by simpa using HQ.out
        have HE := Lib.hid (rs_none (xs := xs) fun n h0 h1 h => by subst h; exact HQ.out (by rw [superB_2]))
        go_enter Tryd.func13, Tryd.ntmps13
        go_wp2_with (first | (go_at_call 11; refine (Super_ok (g2 xs) _ hr0 hr1).mono ?_; rintro e w1 ⟨⟨A1, rfl, hrd⟩, hB⟩; have HR := Lib.hid hrd; have HB := Lib.hid hB; clear hrd hB) | (go_at_call 34; refine (bEqual _ _ _ _ _ _ _ xs _ HR.out (HA.out.below HB.out) (superB_length _) HN.out (superB_byte _ hr0 hr1) HX.out).mono ?_; rintro e w2 ⟨rfl, rfl⟩))
        go_ret2
        exact ⟨by rw [HE.out.1, HE.out.2]; rfl, HB.out⟩
    · have HE := Lib.hid (rs_none (xs := xs) fun n h0 h1 h => by subst h; rw [superB_2] at hr; exact hr ⟨h0, h1⟩)
      have hr' : g2 xs < 16 ∨ 96 < g2 xs := by omega
      clear hr
      go_enter Tryd.func13, Tryd.ntmps13
      go_wp2_with (first | (go_at_call 11; refine (Super_no (g2 xs) _ hr').mono ?_; rintro e w1 ⟨rfl, rfl⟩))
      go_ret2
      exact ⟨by rw [HE.out.1, HE.out.2]; rfl, Below.refl _ _⟩
  · have HE := Lib.hid (rs_none (xs := xs) fun n h0 h1 h => by subst h; exact h32 (by rw [← HN.out, superB_length]))
    go_enter Tryd.func13, Tryd.ntmps13
    go_wp2
    go_ret2
    exact ⟨by rw [HE.out.1, HE.out.2]; rfl, Below.refl _ _⟩

set_option maxHeartbeats 1000000 in
theorem rReadSuper_any (A : Option Addr) (n c : Nat) (xs : List Int) (w : World) (ha : Rd w A n c (iv .u8 xs)) (hn : xs.length = n) (hx : AllByte xs) :
    Calls Tryd.prog 15 #[.slice A n c] w fun e w' => e = .returned (.tuple #[.int .i64 (rsVal xs), .int .i64 (rsErr xs)]) ∧ Below w.heap.size w w' := by
  have HA := Lib.hid ha
  have HN := Lib.hid hn
  have HX := Lib.hid hx
  clear ha hn hx
  go_enter Tryd.func15, Tryd.ntmps15
  go_wp2
  go_loopw [4, 5, 6] (fun v _ _ wr => ∃ m : Int, 16 ≤ m ∧ m ≤ 97 ∧ v = .int .i64 m ∧ Hid (∀ k, 16 ≤ k → k < m → superB k ≠ xs) ∧ Hid (Below w.heap.size w wr)) (fun v _ _ _ => (97 - intOf v).toNat)
  case atStart => exact ⟨16, by omega, by omega, rfl, fun k h0 h1 => by omega, Below.refl _ _⟩
  case round =>
    obtain ⟨m, h0, h1, rfl, hno, hB⟩ := hrel
    by_cases hlt : m ≤ 96
    · by_cases heq : superB m = xs
      · have HE := Lib.hid (rs_super h0 hlt heq)
        have HQ := Lib.hid heq
        clear heq
        go_wp2_with (go_at_call 12; refine (rSuper_ok m _ h0 hlt).mono ?_; rintro e w1 ⟨⟨A1, rfl, hrd⟩, hB1⟩; have e1 := hrd.str (superB_length _) Tryd.underlying22 Tryd.underlying5 Tryd.underlying9; have e2 := (HA.out.below (below_then hB.out hB1)).str HN.out Tryd.underlying22 Tryd.underlying5 Tryd.underlying9; have HB1 := Lib.hid hB1; clear hrd hB1; rw [HQ.out] at e1)
        go_ret2
        exact ⟨by rw [HE.out.1, HE.out.2]; rfl, below_then hB.out HB1.out⟩
      · have HQ := Lib.hid heq
        clear heq
        have hd : ((strOfNums (superB m)).toList == (strOfNums xs).toList) = false := by
          rw [strOfNums_beq (superB_byte m h0 hlt) HX.out]
          exact decide_eq_false HQ.out
        go_wp2_with (go_at_call 12; refine (rSuper_ok m _ h0 hlt).mono ?_; rintro e w1 ⟨⟨A1, rfl, hrd⟩, hB1⟩; have e1 := hrd.str (superB_length _) Tryd.underlying22 Tryd.underlying5 Tryd.underlying9; have e2 := (HA.out.below (below_then hB.out hB1)).str HN.out Tryd.underlying22 Tryd.underlying5 Tryd.underlying9; have HB1 := Lib.hid hB1; clear hrd hB1)
        refine ⟨⟨m + 1, by omega, by omega, rfl, fun k hk0 hk1 => ?_, below_then hB.out HB1.out⟩, by simp [intOf]; omega⟩
        by_cases hkm : k = m
        · subst hkm; exact HQ.out
        · exact hno.out k hk0 (by omega)
    · obtain rfl : m = 97 := by omega
      have HE := Lib.hid (rs_none (xs := xs) fun n h0 h1 h => hno.out n h0 (by omega) h)
      go_wp2
      go_ret2
      exact ⟨by rw [HE.out.1, HE.out.2]; rfl, hB.out⟩
end Go.Proofs.YtkmonkemkhigfaaDoor
