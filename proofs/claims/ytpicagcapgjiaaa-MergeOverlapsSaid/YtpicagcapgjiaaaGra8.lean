/- Walks of graph's laws: few, Has, Same of lists, Depth. -/
import Derived.Test.YtpicagcapgjiaaaGra4
import Derived.Deep.QuietTactic
import Derived.BigQuiet
set_option linter.unusedSimpArgs false
set_option linter.unusedVariables false
namespace Go.Proofs.Ytpicagcapgjiaaa
open Go.RowKit Go.Sel Go.Sel.Gra Go.Shelf

set_option maxHeartbeats 1000000 in
theorem Has_any (A : Option Addr) (n c : Nat) (xs : List Int) (x : Int) (w : World) (ha : Rd w A n c (iv .i64 xs)) (hn : xs.length = n) :
    Calls Try.prog 21 #[.slice A n c, .int .i64 x] w fun e w' => e = .returned (.bool (decide (x ∈ xs))) ∧ w' = w := by
  have HA := Lib.hid ha
  have HN := Lib.hid hn
  have l1 := ha.le
  have l2 := ha.cap
  clear ha hn
  go_enter Try.func21, Try.ntmps21
  go_wp2
  go_loop [5] (fun v => ∃ k : Nat, k ≤ n ∧ v = .int .i64 k ∧ Hid (∀ j (h : j < xs.length), j < k → xs[j] ≠ x)) (fun v => n - (intOf v).toNat)
  case atStart => exact ⟨0, by omega, rfl, Lib.hid (fun j h hj => by omega)⟩
  case round =>
    obtain ⟨k, hk, rfl, hz⟩ := hrel
    by_cases hlt : k < n
    · have hxl : k < xs.length := by have := HN.out; omega
      obtain ⟨b, off, rfl, _, hc⟩ := HA.out.form (by simp; omega)
      have hck := hc k (by simpa using hxl)
      rw [iv_at] at hck
      clear hc
      by_cases hx : xs[k] = x
      · have he : (xs[k] == x) = true := by simpa using hx
        have HX := Lib.hid hx
        clear hx
        go_wp2
        go_ret
        exact ⟨ret_bool (by symm; rw [decide_eq_true_eq, ← HX.out]; exact List.getElem_mem hxl), rfl⟩
      · have he : (xs[k] == x) = false := by simpa using hx
        have HX := Lib.hid hx
        clear hx
        go_wp2
        refine ⟨⟨k + 1, by omega, by go_num, fun j h hj => ?_⟩, by simp [intOf] <;> omega⟩
        by_cases hjk : j = k
        · subst hjk; exact HX.out
        · exact hz.out j h (by omega)
    · go_wp2
      go_ret
      refine ⟨ret_bool ?_, rfl⟩
      symm
      rw [decide_eq_false_iff_not]
      intro hx
      obtain ⟨j, hj, he⟩ := List.mem_iff_getElem.1 hx
      exact hz.out j hj (by have := HN.out; omega) he

set_option maxHeartbeats 1000000 in
theorem Same1_any (A A' : Option Addr) (n n' c c' : Nat) (xs ys : List Int) (w : World) (ha : Rd w A n c (iv .i64 xs)) (hb : Rd w A' n' c' (iv .i64 ys)) (hn : xs.length = n) (hn' : ys.length = n') :
    Calls Try.prog 31 #[.slice A n c, .slice A' n' c'] w fun e w' => e = .returned (.bool (decide (xs = ys))) ∧ ∃ q, w' = w.drewN q := by
  have HA := Lib.hid ha
  have HB := Lib.hid hb
  have HN := Lib.hid hn
  have HN' := Lib.hid hn'
  have a1 := ha.le
  have a2 := ha.cap
  have b1 := hb.le
  have b2 := hb.cap
  clear ha hb hn hn'
  by_cases h : n = n'
  · subst h
    go_enter Try.func31, Try.ntmps31
    go_wp2
    go_loopw [5] (fun v wr => ∃ j : Nat, j ≤ n ∧ v = .int .i64 j ∧ Hid (xs.take j = ys.take j) ∧ ∃ q, wr = w.drewN q) (fun v _ => n - (intOf v).toNat)
    case atStart => exact ⟨0, by omega, rfl, rfl, 0, rfl⟩
    case round =>
      obtain ⟨j, hj, rfl, HT, q, rfl⟩ := hrel
      by_cases hlt : j < n
      · have hxl : j < xs.length := by have := HN.out; omega
        have hyl : j < ys.length := by have := HN'.out; omega
        obtain ⟨b, off, rfl, _, hc⟩ := HA.out.form (by simp; omega)
        obtain ⟨b2, off2, rfl, _, hd⟩ := HB.out.form (by simp; omega)
        have hck := hc j (by simpa using hxl)
        have hdk := hd j (by simpa using hyl)
        rw [iv_at] at hck hdk
        clear hc hd
        by_cases hxy : xs[j] = ys[j]
        · have hne : (xs[j] != ys[j]) = false := by simp [hxy]
          have HX := Lib.hid hxy
          clear hxy
          go_wp2
          go_quiet (fail)
          go_wp2
          refine ⟨⟨j + 1, by omega, by go_num, ?_, ⟨_, rfl⟩⟩, by simp [intOf]; omega⟩
          show xs.take (j + 1) = ys.take (j + 1)
          rw [List.take_succ_eq_append_getElem hxl, List.take_succ_eq_append_getElem hyl, HT.out, HX.out]
        · have hne : (xs[j] != ys[j]) = true := by simp [hxy]
          have HX := Lib.hid hxy
          clear hxy
          go_wp2
          go_quiet (fail)
          go_wp2
          go_ret
          exact ⟨ret_bool (by symm; rw [decide_eq_false_iff_not]; rintro rfl; exact HX.out rfl), by simp; exact ⟨_, rfl⟩⟩
      · go_wp2
        go_ret
        refine ⟨ret_bool ?_, q, rfl⟩
        have h := HT.out
        rw [List.take_of_length_le (by have := HN.out; omega), List.take_of_length_le (by have := HN'.out; omega)] at h
        simp [h]
  · have HS : Hid (decide (xs = ys) = false) := by
      show _ = _
      rw [decide_eq_false_iff_not]; rintro rfl; exact h (by rw [← HN.out, ← HN'.out])
    have hne : ¬ ((n : Int) = n') := by omega
    go_enter Try.func31, Try.ntmps31
    go_wp2
    go_ret
    exact ⟨ret_bool HS.out.symm, 0, rfl⟩

/-! ### few -/
theorem lt_min2 {j a b : Nat} (h : j < min a b) : j < a ∧ j < b := by omega
def fewD (D : List (List Int)) : List (List Int) := (D.take 40).map (·.take 40)
theorem nth_fewD {D : List (List Int)} {j : Nat} (h : j < D.length) (h' : j < 40) : nth (fewD D) j = (nth D j).take 40 := by
  simp [nth, fewD, List.getD_eq_getElem?_getD, h, h']
def cut (s : Option Addr × Nat × Nat) : Option Addr × Nat × Nat := (s.1, min s.2.1 40, s.2.2)
theorem infoInts : (Try.prog.info? 23).map (fun i => (i.zero, i.size, i.bytes)) = some (some (.slice none 0 0), 1, 24) := by kernel_rfl

set_option maxHeartbeats 1000000 in
theorem few_any (A : Option Addr) (n c : Nat) (D : List (List Int)) (w : World) (hD : Dp w A n c D) :
    Calls Try.prog 15 #[.slice A n c] w fun e w' => (∃ A' c', e = .returned (.slice A' (min n 40) c') ∧ Dp w' A' (min n 40) c' (fewD D)) ∧ Below w.heap.size w w' := by
  obtain ⟨h1, ss, h2, h3, h4⟩ := hD
  have l1 := h3.le
  have l2 := h3.cap
  have HT : Hid (Rd w A (min n 40) c ((ss.map sv).take (min n 40))) := by
    by_cases hj : n ≤ 40
    · rw [Nat.min_eq_left hj, List.take_of_length_le (by simp; omega)]; exact h3
    · rw [Nat.min_eq_right (by omega)]; exact Rd.upto h3 40 (by omega)
  have HN : Hid (∀ j, j < min n 40 → j < ss.length) := fun j hj => by omega
  have H1 := Lib.hid h1
  have H2 := Lib.hid h2
  have H4 := Lib.hid h4
  clear h1 h2 h3 h4
  have hm : min n 40 ≤ n ∧ min n 40 ≤ 40 := by omega
  have hq : (40 < n ∧ min n 40 = 40) ∨ (n ≤ 40 ∧ min n 40 = n) := by omega
  generalize hN : min n 40 = N at *
  have HNN := Lib.hid hN
  clear hN
  obtain ⟨hm1, hm2⟩ := hm
  rcases hq with ⟨hq1, rfl⟩ | ⟨hq1, rfl⟩
  · have hq3 : decide ((40 : Int) < (n : Int)) = true := by simp; omega
    go_enter Try.func15, Try.ntmps15
    go_wp2
    go_loopw [3, 4, 5] (fun v i _ wr => ∃ k : Nat, k ≤ 40 ∧ i = .int .i64 k ∧ Hid (wr.ownsRow w.heap.size 23 1 v k ((ss.take k).map fun s => sv (cut s))) ∧ Hid (Below w.heap.size w wr)) (fun _ i _ _ => 40 - (intOf i).toNat)
    case atStart => exact ⟨0, by omega, by go_num, World.ownsRow_nil _ _ _ _, Below.refl _ _⟩
    case round =>
      rename Value => s5
      obtain ⟨k, hk, rfl, HO, HW⟩ := hrel
      by_cases hlt : k < 40
      · have hks := HN.out k hlt
        obtain ⟨b, off, rfl, _, hc⟩ := (HT.out.below HW.out).form (by have := H2.out; simp; omega)
        have hck := hc k (by have := H2.out; simp; omega)
        simp only [List.getElem_take, List.getElem_map, sv] at hck
        have HTK : Hid ((ss.take (k + 1)).map (fun s => sv (cut s)) = (ss.take k).map (fun s => sv (cut s)) ++ [.slice ss[k].1 (min ss[k].2.1 40) ss[k].2.2]) := by
          show _ = _
          rw [List.take_succ_eq_append_getElem hks, List.map_append]; rfl
        have hrr : ss[k].2.1 ≤ ss[k].2.2 ∧ ss[k].2.2 ≤ 9223372036854775807 := ⟨(H4.out k hks).2.le, (H4.out k hks).2.cap⟩
        clear hc
        generalize ss[k].1 = A' at *
        generalize ss[k].2.2 = c' at *
        generalize ss[k].2.1 = n' at *
        obtain ⟨r1, r2⟩ := hrr
        rcases (show 40 < n' ∨ n' ≤ 40 by omega) with hl | hl
        · rw [Nat.min_eq_right (by omega)] at HTK
          go_wp2_with (at_builtin; refine wpList_push wr rfl (.tmp 26) (.tmp 28) 22 23 rfl w.heap.size (.slice none 0 0) 24 Try.underlying22 infoInts rfl (by omega) _ k _ (.slice A' 40 c') rfl rfl rfl HO.out HW.out.size (by omega) rfl ?_; intro g cap w1 ho hg hat hlt1; have HO1 := Lib.hid ho; have HW1 := Lib.hid (below_grown HW.out hg HW.out.size (own_row HO.out)); clear ho hg hat)
          go_roundw
          case rel => exact ⟨k + 1, by omega, by go_num, by rw [HTK.out]; exact HO1.out, HW1⟩
          case measure => simp [intOf] <;> omega
        · rw [Nat.min_eq_left hl] at HTK
          go_wp2_with (at_builtin; refine wpList_push wr rfl (.tmp 26) (.tmp 28) 22 23 rfl w.heap.size (.slice none 0 0) 24 Try.underlying22 infoInts rfl (by omega) _ k _ (.slice A' n' c') rfl rfl rfl HO.out HW.out.size (by omega) rfl ?_; intro g cap w1 ho hg hat hlt1; have HO1 := Lib.hid ho; have HW1 := Lib.hid (below_grown HW.out hg HW.out.size (own_row HO.out)); clear ho hg hat)
          go_roundw
          case rel => exact ⟨k + 1, by omega, by go_num, by rw [HTK.out]; exact HO1.out, HW1⟩
          case measure => simp [intOf] <;> omega
      · have hkN : k = 40 := by omega
        subst hkN
        go_wp2
        go_ret
        obtain ⟨A5, c5, rfl, hl5, hr5⟩ := rd_own HO.out
        refine ⟨⟨A5, c5, rfl, Dp.mk_ ((ss.take 40).map cut) ?_ ?_ ?_ ?_⟩, HW.out⟩
        · have := H1.out; have := HNN.out; simp [fewD]; omega
        · have := H2.out; simp; omega
        · simpa [List.map_map, Function.comp_def] using hr5
        · intro j hj
          have hj' : j < 40 ∧ j < ss.length := lt_min2 (by simpa using hj)
          have h4 := H4.out j hj'.2
          have hD : j < D.length := by have := H1.out; have := H2.out; omega
          simp only [List.getElem_map, List.getElem_take, cut]
          rw [nth_fewD hD (by omega)]
          have hr := (h4.2.below HW.out)
          refine ⟨by rw [List.length_take, h4.1]; exact Nat.min_comm _ _, ?_⟩
          by_cases hjl : (nth D j).length ≤ 40
          · have e : List.take 40 (nth D j) = nth D j := List.take_of_length_le hjl
            have e2 : min ss[j].2.1 40 = ss[j].2.1 := Nat.min_eq_left (by rw [← h4.1]; exact hjl)
            rw [e, e2]; exact hr
          · have e2 : min ss[j].2.1 40 = 40 := Nat.min_eq_right (by have := h4.1; omega)
            rw [e2]
            have := Rd.upto hr 40 (by have := h4.1; omega)
            rwa [iv, ← List.map_take] at this
  · have hq3 : decide ((40 : Int) < (N : Int)) = false := by simp; omega
    go_enter Try.func15, Try.ntmps15
    go_wp2
    go_loopw [3, 4, 5] (fun v i _ wr => ∃ k : Nat, k ≤ N ∧ i = .int .i64 k ∧ Hid (wr.ownsRow w.heap.size 23 1 v k ((ss.take k).map fun s => sv (cut s))) ∧ Hid (Below w.heap.size w wr)) (fun _ i _ _ => N - (intOf i).toNat)
    case atStart => exact ⟨0, by omega, by go_num, World.ownsRow_nil _ _ _ _, Below.refl _ _⟩
    case round =>
      rename Value => s5
      obtain ⟨k, hk, rfl, HO, HW⟩ := hrel
      by_cases hlt : k < N
      · have hks := HN.out k hlt
        obtain ⟨b, off, rfl, _, hc⟩ := (HT.out.below HW.out).form (by have := H2.out; simp; omega)
        have hck := hc k (by have := H2.out; simp; omega)
        simp only [List.getElem_take, List.getElem_map, sv] at hck
        have HTK : Hid ((ss.take (k + 1)).map (fun s => sv (cut s)) = (ss.take k).map (fun s => sv (cut s)) ++ [.slice ss[k].1 (min ss[k].2.1 40) ss[k].2.2]) := by
          show _ = _
          rw [List.take_succ_eq_append_getElem hks, List.map_append]; rfl
        have hrr : ss[k].2.1 ≤ ss[k].2.2 ∧ ss[k].2.2 ≤ 9223372036854775807 := ⟨(H4.out k hks).2.le, (H4.out k hks).2.cap⟩
        clear hc
        generalize ss[k].1 = A' at *
        generalize ss[k].2.2 = c' at *
        generalize ss[k].2.1 = n' at *
        obtain ⟨r1, r2⟩ := hrr
        rcases (show 40 < n' ∨ n' ≤ 40 by omega) with hl | hl
        · rw [Nat.min_eq_right (by omega)] at HTK
          go_wp2_with (at_builtin; refine wpList_push wr rfl (.tmp 26) (.tmp 28) 22 23 rfl w.heap.size (.slice none 0 0) 24 Try.underlying22 infoInts rfl (by omega) _ k _ (.slice A' 40 c') rfl rfl rfl HO.out HW.out.size (by omega) rfl ?_; intro g cap w1 ho hg hat hlt1; have HO1 := Lib.hid ho; have HW1 := Lib.hid (below_grown HW.out hg HW.out.size (own_row HO.out)); clear ho hg hat)
          go_roundw
          case rel => exact ⟨k + 1, by omega, by go_num, by rw [HTK.out]; exact HO1.out, HW1⟩
          case measure => simp [intOf] <;> omega
        · rw [Nat.min_eq_left hl] at HTK
          go_wp2_with (at_builtin; refine wpList_push wr rfl (.tmp 26) (.tmp 28) 22 23 rfl w.heap.size (.slice none 0 0) 24 Try.underlying22 infoInts rfl (by omega) _ k _ (.slice A' n' c') rfl rfl rfl HO.out HW.out.size (by omega) rfl ?_; intro g cap w1 ho hg hat hlt1; have HO1 := Lib.hid ho; have HW1 := Lib.hid (below_grown HW.out hg HW.out.size (own_row HO.out)); clear ho hg hat)
          go_roundw
          case rel => exact ⟨k + 1, by omega, by go_num, by rw [HTK.out]; exact HO1.out, HW1⟩
          case measure => simp [intOf] <;> omega
      · have hkN : k = N := by omega
        subst hkN
        go_wp2
        go_ret
        obtain ⟨A5, c5, rfl, hl5, hr5⟩ := rd_own HO.out
        refine ⟨⟨A5, c5, rfl, Dp.mk_ ((ss.take k).map cut) ?_ ?_ ?_ ?_⟩, HW.out⟩
        · have := H1.out; have := HNN.out; simp [fewD]; omega
        · have := H2.out; simp; omega
        · simpa [List.map_map, Function.comp_def] using hr5
        · intro j hj
          have hj' : j < k ∧ j < ss.length := lt_min2 (by simpa using hj)
          have h4 := H4.out j hj'.2
          have hD : j < D.length := by have := H1.out; have := H2.out; omega
          simp only [List.getElem_map, List.getElem_take, cut]
          rw [nth_fewD hD (by omega)]
          have hr := (h4.2.below HW.out)
          refine ⟨by rw [List.length_take, h4.1]; exact Nat.min_comm _ _, ?_⟩
          by_cases hjl : (nth D j).length ≤ 40
          · have e : List.take 40 (nth D j) = nth D j := List.take_of_length_le hjl
            have e2 : min ss[j].2.1 40 = ss[j].2.1 := Nat.min_eq_left (by rw [← h4.1]; exact hjl)
            rw [e, e2]; exact hr
          · have e2 : min ss[j].2.1 40 = 40 := Nat.min_eq_right (by have := h4.1; omega)
            rw [e2]
            have := Rd.upto hr 40 (by have := h4.1; omega)
            rwa [iv, ← List.map_take] at this
end Go.Proofs.Ytpicagcapgjiaaa
