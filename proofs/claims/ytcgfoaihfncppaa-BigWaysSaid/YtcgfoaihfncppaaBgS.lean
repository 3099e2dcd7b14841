/- ref05.Has and ref01.Same for big (from XGpH, by sed: the import). -/
import Derived.Test.YtcgfoaihfncppaaBg5
set_option linter.unusedSimpArgs false
set_option linter.unusedVariables false
namespace Go.Proofs.Ytcgfoaihfncppaa
open Go.RowKit Go.Sel

set_option maxHeartbeats 1000000 in
theorem Has_any (A : Option Addr) (n c : Nat) (xs : List Int) (x : Int) (w : World) (ha : Rd w A n c (iv .i64 xs)) (hn : xs.length = n) :
    Calls Try.prog 46 #[.slice A n c, .int .i64 x] w fun e w' => e = .returned (.bool (decide (x ∈ xs))) ∧ w' = w := by
  have HA := Lib.hid ha
  have HN := Lib.hid hn
  have l1 := ha.le
  have l2 := ha.cap
  clear ha hn
  go_enter Try.func46, Try.ntmps46
  go_wp2
  go_loop [5] (fun v => ∃ k : Nat, k ≤ n ∧ v = .int .i64 k ∧ Hid (∀ j (h : j < xs.length), j < k → xs[j] ≠ x)) (fun v => n - (Go.RowKit.intOf v).toNat)
  case atStart => exact ⟨0, by omega, rfl, Lib.hid (fun j h hj => by omega)⟩
  case round =>
    obtain ⟨k, hk, rfl, hz⟩ := hrel
    by_cases hlt : k < n
    · have hxl : k < xs.length := by have := HN.out; omega
      obtain ⟨b, off, rfl, _, hc⟩ := HA.out.form (by simp; omega)
      have hck := hc k (by simpa using hxl)
      rw [iv_at] at hck
      clear hc
      by_cases hx : xs[k] = x
      · have he : (xs[k] == x) = true := by simpa using hx
        have HX := Lib.hid hx
        clear hx
        go_wp2
        go_ret
        exact ⟨ret_bool (by symm; rw [decide_eq_true_eq, ← HX.out]; exact List.getElem_mem hxl), rfl⟩
      · have he : (xs[k] == x) = false := by simpa using hx
        have HX := Lib.hid hx
        clear hx
        go_wp2
        refine ⟨⟨k + 1, by omega, by go_num, fun j h hj => ?_⟩, by simp [Go.RowKit.intOf] <;> omega⟩
        by_cases hjk : j = k
        · subst hjk; exact HX.out
        · exact hz.out j h (by omega)
    · go_wp2
      go_ret
      refine ⟨ret_bool ?_, rfl⟩
      symm
      rw [decide_eq_false_iff_not]
      intro hx
      obtain ⟨j, hj, he⟩ := List.mem_iff_getElem.1 hx
      exact hz.out j hj (by have := HN.out; omega) he

set_option maxHeartbeats 1000000 in
theorem Same1_any (A A' : Option Addr) (n n' c c' : Nat) (xs ys : List Int) (w : World) (ha : Rd w A n c (iv .i64 xs)) (hb : Rd w A' n' c' (iv .i64 ys)) (hn : xs.length = n) (hn' : ys.length = n') :
    Calls Try.prog 11 #[.slice A n c, .slice A' n' c'] w fun e w' => e = .returned (.bool (decide (xs = ys))) ∧ ∃ q, w' = w.drewN q := by
  have HA := Lib.hid ha
  have HB := Lib.hid hb
  have HN := Lib.hid hn
  have HN' := Lib.hid hn'
  have a1 := ha.le
  have a2 := ha.cap
  have b1 := hb.le
  have b2 := hb.cap
  clear ha hb hn hn'
  by_cases h : n = n'
  · subst h
    go_enter Try.func11, Try.ntmps11
    go_wp2
    go_loopw [5] (fun v wr => ∃ j : Nat, j ≤ n ∧ v = .int .i64 j ∧ Hid (xs.take j = ys.take j) ∧ ∃ q, wr = w.drewN q) (fun v _ => n - (Go.RowKit.intOf v).toNat)
    case atStart => exact ⟨0, by omega, rfl, rfl, 0, rfl⟩
    case round =>
      obtain ⟨j, hj, rfl, HT, q, rfl⟩ := hrel
      by_cases hlt : j < n
      · have hxl : j < xs.length := by have := HN.out; omega
        have hyl : j < ys.length := by have := HN'.out; omega
        obtain ⟨b, off, rfl, _, hc⟩ := HA.out.form (by simp; omega)
        obtain ⟨b2, off2, rfl, _, hd⟩ := HB.out.form (by simp; omega)
        have hck := hc j (by simpa using hxl)
        have hdk := hd j (by simpa using hyl)
        rw [iv_at] at hck hdk
        clear hc hd
        by_cases hxy : xs[j] = ys[j]
        · have hne : (xs[j] != ys[j]) = false := by simp [hxy]
          have HX := Lib.hid hxy
          clear hxy
          go_wp2
          go_quiet (fail)
          go_wp2
          refine ⟨⟨j + 1, by omega, by go_num, ?_, ⟨_, rfl⟩⟩, by simp [Go.RowKit.intOf]; omega⟩
          show xs.take (j + 1) = ys.take (j + 1)
          rw [List.take_succ_eq_append_getElem hxl, List.take_succ_eq_append_getElem hyl, HT.out, HX.out]
        · have hne : (xs[j] != ys[j]) = true := by simp [hxy]
          have HX := Lib.hid hxy
          clear hxy
          go_wp2
          go_quiet (fail)
          go_wp2
          go_ret
          exact ⟨ret_bool (by symm; rw [decide_eq_false_iff_not]; rintro rfl; exact HX.out rfl), by simp; exact ⟨_, rfl⟩⟩
      · go_wp2
        go_ret
        refine ⟨ret_bool ?_, q, rfl⟩
        have h := HT.out
        rw [List.take_of_length_le (by have := HN.out; omega), List.take_of_length_le (by have := HN'.out; omega)] at h
        simp [h]
  · have HS : Hid (decide (xs = ys) = false) := by
      show _ = _
      rw [decide_eq_false_iff_not]; rintro rfl; exact h (by rw [← HN.out, ← HN'.out])
    have hne : ¬ ((n : Int) = n') := by omega
    go_enter Try.func11, Try.ntmps11
    go_wp2
    go_ret
    exact ⟨ret_bool HS.out.symm, 0, rfl⟩

/-! ### few -/
end Go.Proofs.Ytcgfoaihfncppaa
