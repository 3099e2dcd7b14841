/- Walks of graph: closeAll, ahead, Before, some. -/
import Derived.Test.YtpicagcapgjiaaaGra1
set_option linter.unusedSimpArgs false
set_option linter.unusedVariables false
namespace Go.Proofs.Ytpicagcapgjiaaa
open Go.RowKit Go.Sel Go.Sel.Gra Go.Shelf

theorem markAll_take {l : List Int} {k : Nat} (h : k < l.length) (m : List Bool) : markAll (l.take (k + 1)) m = (markAll (l.take k) m).set l[k].toNat true := by
  rw [List.take_succ_eq_append_getElem h, markAll_snoc]

set_option maxHeartbeats 1000000 in
theorem closeAll_any (A : Option Addr) (n c : Nat) (D : List (List Int)) (g : Nat) (ms : List Bool) (w0 w : World) (hD : Dp w0 A n c D) (hr : rightD D = true) (hm : ms.length = n) (hB0 : Below w0.heap.size w0 w) (hg : w0.heap.size ≤ g) (hb : Bk w g 4 (bv ms)) :
    Calls Try.prog 65 #[.slice A n c, .slice (some ⟨g, 0, none⟩) n n] w fun e w' => e = .returned (.tuple #[]) ∧ Bk w' g 4 (bv (closeD D ms)) ∧ Fr (· = g) w w' := by
  have HD := Lib.hid hD
  have HR := Lib.hid hr
  have HN := Lib.hid hD.len
  have l1 := hD.le
  have l2 := hD.cap
  have HB0 := Lib.hid hB0
  have HM := Lib.hid hm
  have HB := Lib.hid hb
  have HE : Hid (closeFrom D n ms = closeD D ms) := by show _ = _; rw [closeD, hD.len]
  clear hD hr hm hB0 hb
  go_enter Try.func65, Try.ntmps65
  go_wp2
  go_loopw [4, 6] (fun v _ wr => ∃ k : Nat, k ≤ n ∧ v = .int .i64 ((k : Int) - 1) ∧ Hid (∃ m : List Bool, m.length = n ∧ closeFrom D k m = closeD D ms ∧ Bk wr g 4 (bv m)) ∧ Hid (Fr (· = g) w wr)) (fun v _ _ => ((intOf v) + 1).toNat)
  case atStart => exact ⟨n, by omega, by go_num, ⟨ms, HM.out, HE.out, HB.out⟩, Fr.refl _ _⟩
  case round =>
    rename World => w1
    obtain ⟨k, hk, rfl, HI, HF⟩ := hrel
    obtain ⟨m, h1, h2, h3⟩ := HI.out
    clear HI
    have HW : Hid (Below w0.heap.size w0 w1) := HB0.out.trans (HF.out.below HB0.out.size (fun k h => by subst h; exact hg))
    cases k with
    | zero =>
      have HM0 := Lib.hid h2
      have H3 := Lib.hid h3
      clear h1 h2 h3
      go_wp2
      go_end0
      exact ⟨rfl, by rw [← HM0.out]; exact H3.out, HF.out⟩
    | succ k =>
      have e1 : ((k + 1 : Nat) : Int) - 1 = k := by omega
      rw [e1]
      clear e1
      have hkn : k < n := by omega
      have H1 := Lib.hid h1
      have H2 : Hid (closeFrom D k (closeStep D k m) = closeD D ms) := h2
      have hck := h3.cell k (by simp; omega)
      rw [bv_at] at hck
      have hbit : bit m k = m[k]'(by omega) := bit_get (by omega)
      rw [← hbit] at hck
      have H3 := Lib.hid h3
      clear h1 h2 h3 hbit
      cases hmk : bit m k with
      | false =>
        rw [hmk] at hck
        have HS : Hid (closeStep D k m = m) := by show _ = _; simp [closeStep, hmk]
        clear hmk
        go_wp2
        refine ⟨⟨k, by omega, by go_num, ⟨m, H1.out, by rw [← H2.out, HS.out], H3.out⟩, HF.out⟩, by simp [intOf] <;> omega⟩
      | true =>
        rw [hmk] at hck
        have HS : Hid (closeStep D k m = markAll (nth D k) m) := by show _ = _; simp [closeStep, hmk]
        clear hmk
        obtain ⟨b, off, A', n', c', rfl, hc, hn', hrd⟩ := (HD.out.below HW.out).at_ hkn
        have hl1 := hrd.le
        have hl2 := hrd.cap
        have HNL := Lib.hid hn'
        have HRW : Hid (Rd w0 A' n' c' (iv .i64 (nth D k)) ∧ b < w0.heap.size) := by
          obtain ⟨b', off', A2, n2, c2, e, hc2, _, hrd2⟩ := HD.out.at_ hkn
          cases e
          have hlt := World.block_lt_of_cell? _ _ hc2
          have : w1.cell? ⟨b, off + k, none⟩ = some (.slice A2 n2 c2) := (HW.out.cell hlt).trans hc2
          rw [hc] at this
          cases this
          exact ⟨hrd2, hlt⟩
        clear hn' hrd
        go_wp2
        go_loopw [6, 23] (fun _ v wr => ∃ j : Nat, j ≤ n' ∧ v = .int .i64 j ∧ Hid (Bk wr g 4 (bv (markAll ((nth D k).take j) m))) ∧ Hid (Fr (· = g) w wr)) (fun _ v _ => n' - (intOf v).toNat)
        case atStart => exact ⟨0, by omega, rfl, H3.out, HF.out⟩
        case round =>
          obtain ⟨j, hj, rfl, HK, HF2⟩ := hrel
          have HW2 : Hid (Below w0.heap.size w0 wr) := HB0.out.trans (HF2.out.below HB0.out.size (fun k h => by subst h; exact hg))
          by_cases hlt : j < n'
          · have hxl : j < (nth D k).length := by have := HNL.out; omega
            obtain ⟨b2, off2, rfl, _, hc2⟩ := (HRW.out.1.below HW2.out).form (by simp; omega)
            have hcj := hc2 j (by simpa using hxl)
            rw [iv_at] at hcj
            clear hc2
            obtain ⟨d0, d1, _⟩ := right_mem HR.out (List.getElem_mem hxl)
            have HT : Hid (markAll ((nth D k).take (j + 1)) m = (markAll ((nth D k).take j) m).set (nth D k)[j].toNat true) := markAll_take hxl m
            generalize (nth D k)[j] = d at *
            obtain ⟨dn, rfl⟩ := Int.eq_ofNat_of_zero_le d0
            have hdn : dn < n := by omega
            have hcd := HK.out.cell dn (by have := H1.out; simp; omega)
            have hfd := HK.out.free dn
            have HK1 : Hid (Bk (wr.setCell ⟨g, dn, none⟩ (.bool true)) g 4 (bv (markAll ((nth D k).take (j + 1)) m))) := by
              show Bk _ _ _ _
              rw [HT.out, ← bv_set]; exact HK.out.set dn _
            have HF3 : Hid (Fr (· = g) w (wr.setCell ⟨g, dn, none⟩ (.bool true))) := HF2.out.setCell (.inl rfl) _
            go_wp2
            refine ⟨⟨j + 1, by omega, by go_num, HK1, HF3⟩, by simp [intOf] <;> omega⟩
          · have HTk : Hid ((nth D k).take j = nth D k) := List.take_of_length_le (by have := HNL.out; omega)
            rw [HTk.out] at HK
            go_wp2
            refine ⟨⟨k, by omega, by go_num, ⟨markAll (nth D k) m, by simpa using H1.out, by rw [← H2.out, HS.out], HK.out⟩, HF2.out⟩, by simp [intOf] <;> omega⟩

set_option maxHeartbeats 1000000 in
theorem ahead_any (A : Option Addr) (n c : Nat) (D : List (List Int)) (b : Nat) (w : World) (hD : Dp w A n c D) (hr : rightD D = true) (hb : b < n) :
    Calls Try.prog 99 #[.slice A n c, .int .i64 (b : Int)] w fun e w' => e = .returned (.slice (some ⟨w.heap.size, 0, none⟩) n n) ∧ Bk w' w.heap.size 4 (bv (aheadL D b)) ∧ Below w.heap.size w w' := by
  have hl := hD.len
  have h256 := (right_iff.1 hr).1
  obtain ⟨bk, off, A', n', c', rfl, hc, hn', hrd⟩ := hD.at_ hb
  have hl1 := hrd.le
  have hl2 := hrd.cap
  have l1 := hD.le
  have l2 := hD.cap
  have HD := Lib.hid hD
  have HR := Lib.hid hr
  have HN' := Lib.hid hn'
  have HRD := Lib.hid hrd
  have HA : Hid (closeD D (marksL (nth D b) n) = aheadL D b) := by show _ = _; rw [aheadL, hl]
  have hn : n ≤ 1000 := by omega
  clear hD hr hn' hrd hl h256
  go_enter Try.func99, Try.ntmps99
  go_wp2_with (first
    | (go_at_call 61; (with_reducible refine (marks_any A' n' c' (nth D b) n _ HRD.out HN'.out hn).mono ?_); rintro e w1 ⟨rfl, hb1, hB⟩; have HB1 := Lib.hid hB; have HBK := Lib.hid hb1; clear hB hb1)
    | (go_at_call 65; (with_reducible refine (closeAll_any _ n c D w.heap.size (marksL (nth D b) n) w _ HD.out HR.out (by simp) HB1.out (Nat.le_refl _) HBK.out).mono ?_); rintro e w2 ⟨rfl, hb2, hF⟩; have HB2 := Lib.hid (HB1.out.trans (hF.below HB1.out.size (fun k h => by subst h; exact Nat.le_refl _))); have HBK2 := Lib.hid hb2; clear hb2 hF))
  go_ret
  exact ⟨rfl, by rw [← HA.out]; exact HBK2.out, HB2.out⟩

set_option maxHeartbeats 1000000 in
theorem Before_any (A : Option Addr) (n c : Nat) (D : List (List Int)) (a b : Int) (w : World) (hD : Dp w A n c D) :
    Calls Try.prog 59 #[.slice A n c, .int .i64 a, .int .i64 b] w fun e w' => e = .returned (.bool (beforeB D a b)) ∧ Below w.heap.size w w' := by
  have hl := hD.len
  have l1 := hD.le
  have l2 := hD.cap
  have HD := Lib.hid hD
  have HL := Lib.hid hl
  by_cases hin : 0 ≤ a ∧ a < (n : Int) ∧ 0 ≤ b ∧ b < (n : Int)
  · obtain ⟨a0, a1, b0, b1⟩ := hin
    obtain ⟨an, rfl⟩ := Int.eq_ofNat_of_zero_le a0
    obtain ⟨bn, rfl⟩ := Int.eq_ofNat_of_zero_le b0
    have HE : Hid (beforeB D an bn = (rightD D && bit (aheadL D bn) an)) := by
      show _ = _
      simp only [beforeB, hl, Int.toNat_natCast]
      rw [decide_eq_true a0, decide_eq_true a1, decide_eq_true b0, decide_eq_true b1]; rfl
    have ha' : an < n := by omega
    have hb' : bn < n := by omega
    cases hr : rightD D with
    | false =>
      rw [hr] at HE
      have HR := Lib.hid hr
      clear hD hl hr
      go_enter Try.func59, Try.ntmps59
      go_wp2_with (go_at_call 16; (with_reducible refine (Right_any A n c D _ HD.out).mono ?_); rw [HR.out]; rintro e w1 ⟨rfl, hB⟩; have HB1 := Lib.hid hB; clear hB)
      go_ret
      exact ⟨ret_bool (by rw [HE.out]; rfl), HB1.out⟩
    | true =>
      rw [hr] at HE
      have HR := Lib.hid hr
      have HAL : Hid ((aheadL D bn).length = n) := by show _ = _; rw [aheadL_length, hl]
      clear hD hl hr
      go_enter Try.func59, Try.ntmps59
      go_wp2_with (first
        | (go_at_call 16; (with_reducible refine (Right_any A n c D _ HD.out).mono ?_); rw [HR.out]; rintro e w1 ⟨rfl, hB⟩; have HB1 := Lib.hid hB; clear hB)
        | (go_at_call 99; (with_reducible refine (ahead_any A n c D bn _ (HD.out.below HB1.out) HR.out hb').mono ?_); rintro e w2 ⟨rfl, hbk, hB⟩; have HB2 := Lib.hid (below_then HB1.out hB); have hcell := hbk.bit an (by have := HAL.out; omega); clear hB hbk))
      go_ret
      exact ⟨ret_bool (by rw [HE.out]; rfl), HB2.out⟩
  · have HE : Hid (beforeB D a b = false) := by
      show _ = _
      rw [Bool.eq_false_iff]
      intro h
      simp only [beforeB, hl, Bool.and_eq_true, decide_eq_true_eq] at h
      exact hin ⟨h.1.1.1.1.1, h.1.1.1.1.2, h.1.1.1.2, h.1.1.2⟩
    have hcase : a < 0 ∨ (0 ≤ a ∧ (n : Int) ≤ a) ∨ (0 ≤ a ∧ a < (n : Int) ∧ b < 0) ∨ (0 ≤ a ∧ a < (n : Int) ∧ 0 ≤ b ∧ (n : Int) ≤ b) := by omega
    clear hD hl hin
    rcases hcase with h1 | ⟨h1, h2⟩ | ⟨h1, h2, h3⟩ | ⟨h1, h2, h3, h4⟩
    all_goals
      go_enter Try.func59, Try.ntmps59
      go_wp2
      go_ret
      exact ⟨ret_bool HE.out.symm, Below.refl _ _⟩

set_option maxHeartbeats 400000 in
theorem some_any (A : Option Addr) (n c : Nat) (w : World) (hc : n ≤ c) (hm : c ≤ 9223372036854775807) :
    Calls Try.prog 19 #[.slice A n c] w fun e w' => e = .returned (.slice A (min n 60) c) ∧ w' = w := by
  by_cases h : n ≤ 60
  · rw [Nat.min_eq_left h]
    go_enter Try.func19, Try.ntmps19
    go_wp2
    go_ret
    exact ⟨rfl, rfl⟩
  · rw [Nat.min_eq_right (by omega)]
    go_enter Try.func19, Try.ntmps19
    go_wp2
    go_ret
    exact ⟨rfl, rfl⟩
end Go.Proofs.Ytpicagcapgjiaaa
