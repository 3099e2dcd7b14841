/- Walks of library functions: bytes.Equal, bytes.TrimRight at one zero byte, slices.Equal, slices.ContainsFunc at 'is not zero'. -/
import Derived.Test.YtkmonkemkhigfaaDoorProg
import Derived.Test.YtkmonkemkhigfaaDoorLayP
set_option linter.unusedSimpArgs false
set_option linter.unusedVariables false
namespace Go.Proofs.YtkmonkemkhigfaaDoor
open Go.RowKit Go.Sel Go.Sel.Lay

theorem hu_bytes : Tryd.prog.underlying 22 = some (.slice (Tryd.prog.elem 22)) := by kernel_rfl
theorem hz_bytes (W : World) : (sizeOf (Tryd.prog.elem 22)).run Tryd.prog W = .ok 1 W := by kernel_rfl
set_option maxHeartbeats 400000 in
theorem bEqual (A B : Option Addr) (n m c d : Nat) (xs ys : List Int) (w : World) (ha : Rd w A n c (iv .u8 xs)) (hb : Rd w B m d (iv .u8 ys)) (hn : xs.length = n) (hm : ys.length = m) (hx : AllByte xs) (hy : AllByte ys) :
    Calls Tryd.prog 34 #[.slice A n c, .slice B m d] w fun e w' => e = .returned (.bool (decide (xs = ys))) ∧ w' = w := by
  have e1 := ha.str hn Tryd.underlying22 Tryd.underlying5 Tryd.underlying9
  have e2 := hb.str hm Tryd.underlying22 Tryd.underlying5 Tryd.underlying9
  have HN := Lib.hid (And.intro hn hm)
  clear ha hb hn hm
  go_enter Tryd.func34, Tryd.ntmps34
  go_wp2
  go_ret
  exact ⟨ret_bool (strOfNums_beq hx hy), rfl⟩

theorem trimZ_take (xs : List Int) (k : Nat) (hk : k ≤ xs.length) (h1 : ∀ j (h : j < xs.length), k ≤ j → xs[j] = 0) (h2 : ∀ (h : 0 < k), xs[k - 1]'(by omega) ≠ 0) : trimZ xs = xs.take k := by
  have hd : ∀ (l : List Int), (∀ x ∈ l, x = 0) → ∀ r : List Int, (∀ x, r.head? = some x → x ≠ 0) → (l ++ r).dropWhile (· == 0) = r := by
    intro l
    induction l with
    | nil =>
      intro _ r hr
      cases r with
      | nil => rfl
      | cons a r => simp [List.dropWhile_cons, hr a rfl]
    | cons a l ih =>
      intro hl r hr
      have : a = 0 := hl a (by simp)
      subst this
      simpa [List.dropWhile_cons] using ih (fun x hx => hl x (by simp [hx])) r hr
  have hs : xs.reverse = (xs.drop k).reverse ++ (xs.take k).reverse := by
    rw [← List.reverse_append, List.take_append_drop]
  unfold trimZ
  rw [hs, hd]
  · simp
  · intro x hx
    rw [List.mem_reverse, List.mem_iff_getElem] at hx
    obtain ⟨j, hj, rfl⟩ := hx
    rw [List.getElem_drop]
    exact h1 _ _ (by omega)
  · intro x hx
    rw [List.head?_reverse, List.getLast?_eq_getElem?, List.getElem?_take] at hx
    simp only [List.length_take, Nat.min_eq_left hk] at hx
    by_cases h0 : k = 0
    · subst h0; simp at hx
    · rw [if_pos (by omega), List.getElem?_eq_getElem (by omega)] at hx
      injection hx with hx
      subst hx
      exact h2 (by omega)

set_option maxHeartbeats 400000 in
theorem trimRightByte0 (A : Option Addr) (n c : Nat) (xs : List Int) (w : World) (ha : Rd w A n c (iv .u8 xs)) (hn : xs.length = n) :
    Calls Tryd.prog 40 #[.slice A n c, .int .u8 0] w fun e w' => (∃ k, k ≤ n ∧ trimZ xs = xs.take k ∧ e = .returned (.slice A k c)) ∧ w' = w := by
  have HA := Lib.hid ha
  have HN := Lib.hid hn
  have l1 := ha.le
  have l2 := ha.cap
  clear ha hn
  go_enter Tryd.func40, Tryd.ntmps40
  go_wp2
  go_loop [0] (fun s => ∃ k : Nat, k ≤ n ∧ s = .slice A k c ∧ Hid (∀ j (h : j < xs.length), k ≤ j → xs[j] = 0)) (fun s => slen s)
  case atStart => exact ⟨n, by omega, rfl, Lib.hid (fun j h hk => by have := HN.out; omega)⟩
  case round =>
    obtain ⟨k, hk, rfl, hz⟩ := hrel
    by_cases h0 : 0 < k
    · obtain ⟨b, off, rfl, _, hc⟩ := HA.out.form (by have := HN.out; simp; omega)
      have hlt : k - 1 < xs.length := by have := HN.out; omega
      have hck := hc (k - 1) (by simpa using hlt)
      rw [iv_at] at hck
      have HC := Lib.hid hc
      clear hc
      by_cases hx : xs[k - 1] = 0
      · rw [hx] at hck
        have ek : ((k : Int) - 1).toNat = k - 1 := by omega
        go_wp2
        refine ⟨⟨k - 1, by omega, rfl, fun j h hj => ?_⟩, by simp only [slen_slice]; omega⟩
        by_cases hjk : j = k - 1
        · subst hjk; exact hx
        · exact hz.out j h (by omega)
      · have hx' : (xs[k - 1] == 0) = false := by simpa using hx
        go_wp2
        go_ret
        exact ⟨⟨k, hk, trimZ_take xs k (by omega) hz.out (fun _ => hx), rfl⟩, rfl⟩
    · obtain rfl : k = 0 := by omega
      go_wp2
      go_ret
      exact ⟨⟨0, hk, trimZ_take xs 0 (by omega) hz.out (fun h => by omega), rfl⟩, rfl⟩

set_option maxHeartbeats 400000 in
theorem TrimRight0 (A : Option Addr) (n c : Nat) (xs : List Int) (w : World) (ha : Rd w A n c (iv .u8 xs)) (hn : xs.length = n) :
    Calls Tryd.prog 35 #[.slice A n c, .string ⟨#[0]⟩] w fun e w' => (∃ k, k ≤ n ∧ trimZ xs = xs.take k ∧ e = .returned (.slice A k c)) ∧ w' = w := by
  have HA := Lib.hid ha
  have HN := Lib.hid hn
  have l1 := ha.le
  have l2 := ha.cap
  clear ha hn
  by_cases h0 : n = 0
  · have hx : xs = [] := List.eq_nil_of_length_eq_zero (by have := HN.out; omega)
    subst hx
    subst h0
    go_enter Tryd.func35, Tryd.ntmps35
    go_wp2
    go_ret
    exact ⟨⟨0, by omega, rfl, rfl⟩, rfl⟩
  · have hz0 : ((n : Int) == 0) = false := by simp; omega
    have hi := fun w : World => (by kernel_rfl : (Instr.index 9 (.string ⟨#[0]⟩) (.int .i64 0)).run Tryd.prog w = .ok (.int .u8 0) w)
    have hl := fun (ty : TypeId) (w : World) => (by kernel_rfl : (Builtin.len_ #[9] ty #[.string ⟨#[0]⟩]).run Tryd.prog w = .ok (.int .i64 1) w)
    go_enter Tryd.func35, Tryd.ntmps35
    go_wp2_with (go_at_call 40; refine (trimRightByte0 _ _ _ xs _ HA.out HN.out).mono ?_; rintro e w' ⟨⟨k, hk, hz, rfl⟩, rfl⟩; have HZ := Lib.hid hz; clear hz)
    go_ret
    exact ⟨⟨k, hk, HZ.out, rfl⟩, rfl⟩

-- slices.Equal at []int
set_option maxHeartbeats 400000 in
theorem sEqual (A B : Option Addr) (n m c d : Nat) (xs ys : List Int) (w : World) (ha : Rd w A n c (iv .i64 xs)) (hb : Rd w B m d (iv .i64 ys)) (hn : xs.length = n) (hm : ys.length = m) :
    Calls Tryd.prog 36 #[.slice A n c, .slice B m d] w fun e w' => e = .returned (.bool (decide (xs = ys))) ∧ ∃ n, w' = w.drewN n := by
  have HA := Lib.hid ha
  have HB := Lib.hid hb
  have HN := Lib.hid (And.intro hn hm)
  have l1 : n ≤ 9223372036854775807 := by have := ha.le; have := ha.cap; omega
  have l2 : m ≤ 9223372036854775807 := by have := hb.le; have := hb.cap; omega
  clear ha hb hn hm
  by_cases hl : n = m
  · subst hl
    go_enter Tryd.func36, Tryd.ntmps36
    go_wp2
    go_loopw [4, 5, 13] (fun _ _ v wr => ∃ k : Nat, k ≤ n ∧ v = .int .i64 k ∧ Hid (xs.take k = ys.take k) ∧ ∃ n, wr = w.drewN n) (fun _ _ v _ => n - (intOf v).toNat)
    case atStart => exact ⟨0, by omega, rfl, rfl, 0, rfl⟩
    case round =>
      obtain ⟨k, hk, rfl, HT, q, rfl⟩ := hrel
      by_cases hlt : k < n
      · have hxl : k < xs.length := by have := HN.out; omega
        have hyl : k < ys.length := by have := HN.out; omega
        obtain ⟨b, off, rfl, _, hc⟩ := HA.out.form (by simp; omega)
        obtain ⟨b2, off2, rfl, _, hd⟩ := HB.out.form (by simp; omega)
        have hck := hc k (by simpa using hxl)
        have hdk := hd k (by simpa using hyl)
        rw [iv_at] at hck hdk
        clear hc hd
        go_wp2
        go_quiet (fail)
        by_cases hxy : xs[k] = ys[k]
        · have hne : (xs[k] != ys[k]) = false := by simp [hxy]
          have HX := Lib.hid hxy
          clear hxy
          go_wp2
          refine ⟨⟨k + 1, by omega, by go_num, ?_, ⟨_, rfl⟩⟩, by simp [intOf]; omega⟩
          show xs.take (k + 1) = ys.take (k + 1)
          rw [List.take_succ_eq_append_getElem hxl, List.take_succ_eq_append_getElem hyl, HT.out, HX.out]
        · have hne : (xs[k] != ys[k]) = true := by simp [hxy]
          have HX := Lib.hid hxy
          clear hxy
          go_wp2
          go_ret
          exact ⟨ret_bool (by symm; rw [decide_eq_false_iff_not]; rintro rfl; exact HX.out rfl), ⟨_, World.drewN_drewN ..⟩⟩
      · go_wp2
        go_ret
        refine ⟨ret_bool ?_, ⟨_, rfl⟩⟩
        symm
        rw [decide_eq_true_eq]
        have h := HT.out
        rwa [List.take_of_length_le (by have := HN.out; omega), List.take_of_length_le (by have := HN.out; omega)] at h
  · have hne : ¬ ((n : Int) = m) := by omega
    go_enter Tryd.func36, Tryd.ntmps36
    go_wp2
    go_ret
    exact ⟨ret_bool (by symm; rw [decide_eq_false_iff_not]; rintro rfl; have := HN.out; omega), ⟨0, rfl⟩⟩

-- slices.ContainsFunc at 'is not zero'
def anyNZ (xs : List Int) : Bool := xs.any fun x => decide (x ≠ 0)
theorem anyNZ_at (xs : List Int) (k : Nat) (h : k < xs.length) (hx : xs[k] ≠ 0) : anyNZ xs = true := by
  unfold anyNZ
  rw [List.any_eq_true]
  exact ⟨_, List.getElem_mem h, by simpa using hx⟩
theorem anyNZ_none (xs : List Int) (h : ∀ j (h : j < xs.length), xs[j] = 0) : anyNZ xs = false := by
  unfold anyNZ
  rw [List.any_eq_false]
  intro x hx
  obtain ⟨j, hj, rfl⟩ := List.mem_iff_getElem.1 hx
  simp [h j hj]
set_option maxHeartbeats 400000 in
theorem IndexFunc_nz (g : Nat) (hg : g = 38 ∨ g = 39) (A : Option Addr) (n c : Nat) (xs : List Int) (w : World) (ha : Rd w A n c (iv .u8 xs)) (hn : xs.length = n) :
    Calls Tryd.prog 44 #[.slice A n c, .func (.func g) #[] #[]] w fun e w' => (∃ i : Int, e = .returned (.int .i64 i) ∧ decide (0 ≤ i) = anyNZ xs) ∧ w' = w := by
  have HA := Lib.hid ha
  have HN := Lib.hid hn
  have l1 : n ≤ 9223372036854775807 := by have := ha.le; have := ha.cap; omega
  clear ha hn
  rcases hg with rfl | rfl
  all_goals
    go_enter Tryd.func44, Tryd.ntmps44
    go_wp2
    go_loop [4, 5, 8] (fun _ _ v => ∃ k : Nat, k ≤ n ∧ v = .int .i64 k ∧ Hid (∀ j (h : j < xs.length), j < k → xs[j] = 0)) (fun _ _ v => n - (intOf v).toNat)
    case atStart => exact ⟨0, by omega, rfl, Lib.hid (fun j h hj => by omega)⟩
    case round =>
      obtain ⟨k, hk, rfl, hz⟩ := hrel
      by_cases hlt : k < n
      · have hxl : k < xs.length := by have := HN.out; omega
        obtain ⟨b, off, rfl, _, hc⟩ := HA.out.form (by simp; omega)
        have hck := hc k (by simpa using hxl)
        rw [iv_at] at hck
        clear hc
        by_cases hx : xs[k] = 0
        · rw [hx] at hck
          go_wp2
          refine ⟨⟨k + 1, by omega, by go_num, fun j h hj => ?_⟩, by simp [intOf]; omega⟩
          by_cases hjk : j = k
          · subst hjk; exact hx
          · exact hz.out j h (by omega)
        · have hne : (xs[k] != 0) = true := by simpa using hx
          go_wp2
          go_ret
          exact ⟨⟨k, rfl, by rw [anyNZ_at xs k hxl hx]; simp⟩, rfl⟩
      · go_wp2
        go_ret
        exact ⟨⟨-1, rfl, by rw [anyNZ_none xs (fun j h => hz.out j h (by have := HN.out; omega))]; simp⟩, rfl⟩
set_option maxHeartbeats 400000 in
theorem ContainsFunc_nz (g : Nat) (hg : g = 38 ∨ g = 39) (A : Option Addr) (n c : Nat) (xs : List Int) (w : World) (ha : Rd w A n c (iv .u8 xs)) (hn : xs.length = n) :
    Calls Tryd.prog 37 #[.slice A n c, .func (.func g) #[] #[]] w fun e w' => e = .returned (.bool (anyNZ xs)) ∧ w' = w := by
  have HA := Lib.hid ha
  have HN := Lib.hid hn
  have HG := Lib.hid hg
  clear ha hn hg
  go_enter Tryd.func37, Tryd.ntmps37
  go_wp2_with (go_at_call 44; refine (IndexFunc_nz _ HG.out _ _ _ xs _ HA.out HN.out).mono ?_; rintro e w' ⟨⟨i, rfl, hi⟩, rfl⟩; have HI := Lib.hid hi; clear hi)
  go_ret
  exact ⟨ret_bool HI.out, rfl⟩
end Go.Proofs.YtkmonkemkhigfaaDoor
