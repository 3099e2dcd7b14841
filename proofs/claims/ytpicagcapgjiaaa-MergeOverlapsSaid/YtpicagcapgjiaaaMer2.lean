/- Walks of merge: some, slices.Contains. -/
import Derived.Test.YtpicagcapgjiaaaMer1
set_option linter.unusedSimpArgs false
set_option linter.unusedVariables false
namespace Go.Proofs.Ytpicagcapgjiaaa
open Go.RowKit Go.Sel Go.Sel.Gra Go.Sel.Mer Go.Shelf

set_option maxHeartbeats 400000 in
theorem msome_any (A : Option Addr) (n c : Nat) (w : World) (hc : n ≤ c) (hm : c ≤ 9223372036854775807) :
    Calls Try.prog 33 #[.slice A n c] w fun e w' => e = .returned (.slice A (min n 40) c) ∧ w' = w := by
  by_cases h : n ≤ 40
  · rw [Nat.min_eq_left h]
    go_enter Try.func33, Try.ntmps33
    go_wp2
    go_ret
    exact ⟨rfl, rfl⟩
  · rw [Nat.min_eq_right (by omega)]
    go_enter Try.func33, Try.ntmps33
    go_wp2
    go_ret
    exact ⟨rfl, rfl⟩

def IdxPost (xs : List Int) (x : Int) (w : World) (e : Ending) (w' : World) : Prop := ∃ i : Int, e = .returned (.int .i64 i) ∧ decide (0 ≤ i) = decide (x ∈ xs) ∧ w' = w
set_option maxHeartbeats 1000000 in
theorem Index_any (A : Option Addr) (n c : Nat) (xs : List Int) (x : Int) (w : World) (ha : Rd w A n c (iv .i64 xs)) (hn : xs.length = n) :
    Calls Try.prog 103 #[.slice A n c, .int .i64 x] w (IdxPost xs x w) := by
  have HA := Lib.hid ha
  have HN := Lib.hid hn
  have l1 := ha.le
  have l2 := ha.cap
  clear ha hn
  go_enter Try.func103, Try.ntmps103
  go_wp2
  go_loop [5, 8] (fun _ v => ∃ k : Nat, k ≤ n ∧ v = .int .i64 k ∧ Hid (∀ j (h : j < xs.length), j < k → xs[j] ≠ x)) (fun _ v => n - (intOf v).toNat)
  case atStart => exact ⟨0, by omega, rfl, Lib.hid (fun j h hj => by omega)⟩
  case round =>
    obtain ⟨k, hk, rfl, hz⟩ := hrel
    by_cases hlt : k < n
    · have hxl : k < xs.length := by have := HN.out; omega
      obtain ⟨b, off, rfl, _, hc⟩ := HA.out.form (by simp; omega)
      have hck := hc k (by simpa using hxl)
      rw [iv_at] at hck
      clear hc
      by_cases hx : xs[k] = x
      · have he : (x == xs[k]) = true := by simpa using hx.symm
        have HX := Lib.hid hx
        clear hx
        go_wp2
        go_ret
        exact ⟨k, rfl, by rw [Bool.eq_iff_iff, decide_eq_true_eq, decide_eq_true_eq, ← HX.out]; exact ⟨fun _ => List.getElem_mem hxl, fun _ => by omega⟩, rfl⟩
      · have he : (x == xs[k]) = false := by simpa using fun e => hx e.symm
        have HX := Lib.hid hx
        clear hx
        go_wp2
        refine ⟨⟨k + 1, by omega, by go_num, fun j h hj => ?_⟩, by simp [intOf] <;> omega⟩
        by_cases hjk : j = k
        · subst hjk; exact HX.out
        · exact hz.out j h (by omega)
    · go_wp2
      go_ret
      refine ⟨-1, rfl, ?_, rfl⟩
      symm
      rw [show decide ((0 : Int) ≤ -1) = false from rfl, decide_eq_false_iff_not]
      intro hx
      obtain ⟨j, hj, he⟩ := List.mem_iff_getElem.1 hx
      exact hz.out j hj (by have := HN.out; omega) he
theorem Contains_any (A : Option Addr) (n c : Nat) (xs : List Int) (x : Int) (w : World) (ha : Rd w A n c (iv .i64 xs)) (hn : xs.length = n) :
    Calls Try.prog 74 #[.slice A n c, .int .i64 x] w fun e w' => e = .returned (.bool (decide (x ∈ xs))) ∧ w' = w := by
  have HC : Hid (Calls Try.prog 103 #[.slice A n c, .int .i64 x] w (IdxPost xs x w)) := Index_any A n c xs x w ha hn
  clear ha hn
  go_enter Try.func74, Try.ntmps74
  go_wp2_with (go_at_call 103; refine HC.out.mono ?_; rintro e w' ⟨i, rfl, hi, hw⟩; have hw := hw.symm; subst hw; have HI := Lib.hid hi; clear hi)
  go_ret
  exact ⟨ret_bool HI.out, rfl⟩
end Go.Proofs.Ytpicagcapgjiaaa
