/- Walks of four laws on layout: the first block, places, names. -/
import Derived.Test.YtkmonkemkhigfaaDoorLay6
set_option linter.unusedSimpArgs false
set_option linter.unusedVariables false
namespace Go.Proofs.YtkmonkemkhigfaaDoor
open Go.RowKit Go.Sel Go.Sel.Lay

theorem Where_in (n : Int) (w : World) (h0 : 0 ≤ n) (h1 : n < 16) :
    Calls Tryd.prog 22 #[.int .i64 n] w fun e w' => e = .returned (.tuple #[.int .i64 (3 + n / 2), .int .i64 (n % 2 * 16), .int .i64 0]) ∧ w' = w := by
  refine (Where_any n w (by omega) (by omega)).mono ?_
  rw [if_neg (by omega), if_neg (by omega), if_neg (by omega)]
  exact fun e w' h => h
theorem Where_out (n : Int) (w : World) (h : n < 0 ∨ 16 ≤ n) (h0 : -9223372036854775808 ≤ n) (h1 : n ≤ 9223372036854775807) :
    Calls Tryd.prog 22 #[.int .i64 n] w fun e w' => e = .returned (.tuple #[.int .i64 0, .int .i64 0, .int .i64 2]) ∧ w' = w := by
  refine (Where_any n w h0 h1).mono ?_
  rw [if_pos h, if_pos h, if_pos h]
  exact fun e w' h => h

set_option maxHeartbeats 1000000 in
theorem law_LayoutPlaces (a b : Int) (w : World) (a0 : -9223372036854775808 ≤ a) (a1 : a ≤ 9223372036854775807) (b0 : -9223372036854775808 ≤ b) (b1 : b ≤ 9223372036854775807) :
    Calls Tryd.prog 6 #[.int .i64 a, .int .i64 b] w fun e w' => e = .returned (.bool true) ∧ Below w.heap.size w w' := by
  by_cases ha : 0 ≤ a ∧ a < 16
  · obtain ⟨ha0, ha1⟩ := ha
    by_cases hb : 0 ≤ b ∧ b < 16
    · obtain ⟨hb0, hb1⟩ := hb
      by_cases hab : a = b
      · subst hab
        go_enter Tryd.func6, Tryd.ntmps6
        rcases (show a % 2 = 0 ∨ a % 2 = 1 by omega) with hm | hm
        all_goals
          go_wp2_with (first | (go_at_call 22; refine (Where_in _ _ (by omega) (by omega)).mono ?_; rintro e w1 ⟨rfl, rfl⟩) | (go_at_call 22; refine (Where_out _ _ (by omega) (by omega) (by omega)).mono ?_; rintro e w1 ⟨rfl, rfl⟩) | (go_at_call 16; refine (live_any _).mono ?_; rintro e w1 ⟨rfl, hB⟩; have HB := Lib.hid hB; clear hB))
          go_ret
          exact ⟨rfl, HB.out⟩
      · have f1 : (a == b) = false := by simpa using hab
        have f2 : Hid (a / 2 = b / 2 → a % 2 ≠ b % 2) := by intro h h2; omega
        clear hab
        go_enter Tryd.func6, Tryd.ntmps6
        rcases (show a % 2 = 0 ∨ a % 2 = 1 by omega) with hm | hm
        all_goals
          go_wp2_with (first | (go_at_call 22; refine (Where_in _ _ (by omega) (by omega)).mono ?_; rintro e w1 ⟨rfl, rfl⟩) | (go_at_call 22; refine (Where_out _ _ (by omega) (by omega) (by omega)).mono ?_; rintro e w1 ⟨rfl, rfl⟩) | (go_at_call 16; refine (live_any _).mono ?_; rintro e w1 ⟨rfl, hB⟩; have HB := Lib.hid hB; clear hB))
          all_goals go_ret
          all_goals refine ⟨ret_bool ?_, HB.out⟩
          all_goals have := f2.out
          all_goals (clear f2; simp; try omega)
    · have hb' : b < 0 ∨ 16 ≤ b := by omega
      clear hb
      go_enter Tryd.func6, Tryd.ntmps6
      go_wp2_with (first | (go_at_call 22; refine (Where_in _ _ (by omega) (by omega)).mono ?_; rintro e w1 ⟨rfl, rfl⟩) | (go_at_call 22; refine (Where_out _ _ (by omega) (by omega) (by omega)).mono ?_; rintro e w1 ⟨rfl, rfl⟩) | (go_at_call 16; refine (live_any _).mono ?_; rintro e w1 ⟨rfl, hB⟩; have HB := Lib.hid hB; clear hB))
      all_goals go_ret
      all_goals exact ⟨rfl, HB.out⟩
  · have ha' : a < 0 ∨ 16 ≤ a := by omega
    clear ha
    by_cases hb : 0 ≤ b ∧ b < 16
    · obtain ⟨hb0, hb1⟩ := hb
      go_enter Tryd.func6, Tryd.ntmps6
      go_wp2_with (first | (go_at_call 22; refine (Where_in _ _ (by omega) (by omega)).mono ?_; rintro e w1 ⟨rfl, rfl⟩) | (go_at_call 22; refine (Where_out _ _ (by omega) (by omega) (by omega)).mono ?_; rintro e w1 ⟨rfl, rfl⟩) | (go_at_call 16; refine (live_any _).mono ?_; rintro e w1 ⟨rfl, hB⟩; have HB := Lib.hid hB; clear hB))
      all_goals go_ret
      all_goals exact ⟨rfl, HB.out⟩
    · have hb' : b < 0 ∨ 16 ≤ b := by omega
      clear hb
      go_enter Tryd.func6, Tryd.ntmps6
      go_wp2_with (first | (go_at_call 22; refine (Where_in _ _ (by omega) (by omega)).mono ?_; rintro e w1 ⟨rfl, rfl⟩) | (go_at_call 22; refine (Where_out _ _ (by omega) (by omega) (by omega)).mono ?_; rintro e w1 ⟨rfl, rfl⟩) | (go_at_call 16; refine (live_any _).mono ?_; rintro e w1 ⟨rfl, hB⟩; have HB := Lib.hid hB; clear hB))
      all_goals go_ret
      all_goals exact ⟨rfl, HB.out⟩

theorem Super_str (n : Int) (h0 : 16 ≤ n) (h1 : n ≤ 96) : ((strOfNums (superB n)).toList == (strOfNums (superB n)).toList) = true := by simp
theorem conv_nil (w : World) : (convert 22 9 (.slice none 0 0)).run Tryd.prog w = .ok (.string ByteArray.empty) w := run_slice_string0 w _ _ _ none 0 Tryd.underlying22 Tryd.underlying5 Tryd.underlying9

set_option maxHeartbeats 1000000 in
theorem law_LayoutSupers (n : Int) (A : Option Addr) (m c : Nat) (xs : List Int) (w : World) (ha : Rd w A m c (iv .u8 xs)) (hn : xs.length = m) (hx : AllByte xs) :
    Calls Tryd.prog 3 #[.int .i64 n, .slice A m c] w fun e w' => e = .returned (.bool true) ∧ Below w.heap.size w w' := by
  have hxt : AllByte (xs.take 40) := fun x h => hx x (List.mem_of_mem_take h)
  have hlt : (xs.take 40).length = min m 40 := by rw [List.length_take, hn, Nat.min_comm]
  have htake : Rd w A (min m 40) c (iv .u8 (xs.take 40)) := by
    by_cases h : m ≤ 40
    · rw [Nat.min_eq_left h, List.take_of_length_le (by omega)]; exact ha
    · rw [Nat.min_eq_right (by omega)]
      have := Rd.upto ha 40 (by omega)
      rwa [iv, ← List.map_take] at this
  have HA := Lib.hid htake
  have HX := Lib.hid hxt
  have HN := Lib.hid hlt
  have hc1 := ha.le
  have hc2 := ha.cap
  clear ha hn hx htake hxt hlt
  by_cases hr : 16 ≤ n ∧ n ≤ 96
  · obtain ⟨h0, h1⟩ := hr
    have hs := Super_str n h0 h1
    go_enter Tryd.func3, Tryd.ntmps3
    go_wp2_with (first
      | (go_at_call 11; refine (Super_ok n _ h0 h1).mono ?_; rintro e w1 ⟨⟨A1, rfl, hr1⟩, hB⟩; have HR1 := Lib.hid hr1; have HB1 := Lib.hid hB; clear hr1 hB)
      | (go_at_call 12; refine (rSuper_ok n _ h0 h1).mono ?_; rintro e w2 ⟨⟨A2, rfl, hr2⟩, hB⟩; have HR2 := Lib.hid hr2; have HB2 := Lib.hid hB; clear hr2 hB)
      | (go_at_call 14; refine (few_any _ _ _ _ hc1 hc2).mono ?_; rintro e w3 ⟨rfl, rfl⟩)
      | (go_at_call 13; refine (ReadSuper_any _ _ _ _ _ (HA.out.below (below_then HB1.out HB2.out)) HN.out HX.out).mono ?_; rintro e w4 ⟨rfl, hB⟩; have HB3 := Lib.hid hB; clear hB)
      | (go_at_call 15; refine (rReadSuper_any _ _ _ _ _ (HA.out.below (below_then (below_then HB1.out HB2.out) HB3.out)) HN.out HX.out).mono ?_; rintro e w5 ⟨rfl, hB⟩; have HB4 := Lib.hid hB; clear hB)
      | (go_at_call 16; refine (live_any _).mono ?_; rintro e w6 ⟨rfl, hB⟩; have e1 := (((((HR1.out.below HB2.out).below HB3.out).below HB4.out).below hB)).str (superB_length n) Tryd.underlying22 Tryd.underlying5 Tryd.underlying9; have e2 := (((HR2.out.below HB3.out).below HB4.out).below hB).str (superB_length n) Tryd.underlying22 Tryd.underlying5 Tryd.underlying9; have HB5 := Lib.hid hB; clear hB))
    go_ret
    exact ⟨rfl, below_then (below_then (below_then (below_then HB1.out HB2.out) HB3.out) HB4.out) HB5.out⟩
  · have hr' : n < 16 ∨ 96 < n := by omega
    have hcv := conv_nil
    clear hr
    go_enter Tryd.func3, Tryd.ntmps3
    go_wp2_with (first
      | (go_at_call 11; refine (Super_no n _ hr').mono ?_; rintro e w1 ⟨rfl, rfl⟩)
      | (go_at_call 12; refine (rSuper_no n _ hr').mono ?_; rintro e w2 ⟨rfl, rfl⟩)
      | (go_at_call 14; refine (few_any _ _ _ _ hc1 hc2).mono ?_; rintro e w3 ⟨rfl, rfl⟩)
      | (go_at_call 13; refine (ReadSuper_any _ _ _ _ _ HA.out HN.out HX.out).mono ?_; rintro e w4 ⟨rfl, hB⟩; have HB3 := Lib.hid hB; clear hB)
      | (go_at_call 15; refine (rReadSuper_any _ _ _ _ _ (HA.out.below HB3.out) HN.out HX.out).mono ?_; rintro e w5 ⟨rfl, hB⟩; have HB4 := Lib.hid hB; clear hB)
      | (go_at_call 16; refine (live_any _).mono ?_; rintro e w6 ⟨rfl, hB⟩; have HB5 := Lib.hid hB; clear hB))
    go_ret
    exact ⟨rfl, below_then (below_then HB3.out HB4.out) HB5.out⟩
end Go.Proofs.YtkmonkemkhigfaaDoor
