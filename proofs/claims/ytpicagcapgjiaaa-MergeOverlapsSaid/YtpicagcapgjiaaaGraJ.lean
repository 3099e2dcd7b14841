/- Walks of graph's reference: Close, Closed. -/
import Derived.Test.YtpicagcapgjiaaaGraE
set_option linter.unusedSimpArgs false
set_option linter.unusedVariables false
namespace Go.Proofs.Ytpicagcapgjiaaa
open Go.RowKit Go.Sel Go.Sel.Gra Go.Shelf

attribute [local go_sem] Oper.semAt_some

theorem bit_markAll_keep {l : List Int} {m : List Bool} {j : Nat} (h : bit m j = true) : bit (markAll l m) j = true := by
  unfold markAll
  induction l generalizing m with
  | nil => exact h
  | cons d l ih =>
    rw [List.foldl_cons]
    refine ih ?_
    by_cases hd : d.toNat < m.length
    · rw [bit_set hd]; split <;> simp_all
    · rw [List.set_eq_of_length_le (by omega)]; exact h

set_option maxRecDepth 100000 in
set_option maxHeartbeats 4000000 in
theorem rClose_any (A : Option Addr) (n c : Nat) (D : List (List Int)) (B : Option Addr) (m d : Nat) (s : List Int) (w : World) (hD : Dp w A n c D) (hs : Rd w B m d (iv .i64 s)) (hm : s.length = m) :
    Calls Try.prog 119 #[.slice A n c, .slice B m d] w fun e w' => (∃ A' c', e = .returned (.slice A' (closeL D s).length c') ∧ Rd w' A' (closeL D s).length c' (iv .i64 (closeL D s))) ∧ Below w.heap.size w w' := by
  have hl := hD.len
  have l1 := hD.le
  have l2 := hD.cap
  have HD := Lib.hid hD
  have HS := Lib.hid hs
  have HM := Lib.hid hm
  have m1 := hs.le
  have m2 := hs.cap
  clear hD hs hm
  cases hr : rightD D with
  | false =>
    have HR := Lib.hid hr
    have HE : Hid (closeL D s = []) := by show _ = _; simp [closeL, hr]
    rw [HE.out]
    clear hl hr
    go_enter Try.func119, Try.ntmps119
    go_wp2_with (go_at_call 68; (with_reducible refine (rRight_any A n c D _ HD.out).mono ?_); rw [HR.out]; rintro e w1 ⟨rfl, hw⟩; have hw := hw.symm; subst hw)
    go_ret
    exact ⟨⟨none, 0, rfl, Rd.nil (by omega)⟩, Below.refl _ _⟩
  | true =>
    have h256 := (right_iff.1 hr).1
    have hn : n ≤ 1000 := by omega
    have HR := Lib.hid hr
    have HL := Lib.hid hl
    have HE : Hid (closeL D s = thoseL (closeFrom D n (marksL s n))) := by show _ = _; simp [closeL, hr, hl, closeD]
    rw [HE.out]
    have hmk := mkB n hn
    clear hl hr h256
    go_enter Try.func119, Try.ntmps119
    go_upto_block 0 with (go_at_call 68; (with_reducible refine (rRight_any A n c D _ HD.out).mono ?_); rw [HR.out]; rintro e w1 ⟨rfl, hw⟩; have hw := hw.symm; subst hw)
    have HB0 : Hid (Bk (w.alloc (.cells (bv (falses n)).toArray 4)) w.heap.size 4 (bv (marksL (s.take 0) n))) := by
      show Bk _ _ _ _
      rw [List.take_zero, marksL_nil]; exact Bk.new _ _ _
    have HW : Hid (Below w.heap.size w (w.alloc (.cells (bv (falses n)).toArray 4))) := below_al _ _
    clear hmk
    generalize w.alloc (.cells (bv (falses n)).toArray 4) = w0 at *
    go_wp2
    go_loopw [6] (fun i wr => ∃ k : Nat, k ≤ m ∧ i = .int .i64 k ∧ Hid (Bk wr w.heap.size 4 (bv (marksL (s.take k) n))) ∧ Hid (Below w.heap.size w wr)) (fun i _ => m - (intOf i).toNat)
    case atStart => exact ⟨0, by omega, by go_num, HB0, HW⟩
    case round =>
      obtain ⟨k, hk, rfl, HB, HWr⟩ := hrel
      by_cases hlt : k < m
      · have hxl : k < s.length := by have := HM.out; omega
        obtain ⟨b, off, rfl, _, hc⟩ := (HS.out.below HWr.out).form (by simp; omega)
        have hck := hc k (by simpa using hxl)
        rw [iv_at] at hck
        clear hc
        have HT : Hid (s.take (k + 1) = s.take k ++ [s[k]]) := List.take_succ_eq_append_getElem hxl
        generalize s[k] = x at *
        rcases (show x < 0 ∨ (0 ≤ x ∧ x < (n : Int)) ∨ (0 ≤ x ∧ (n : Int) ≤ x) by omega) with h | ⟨h, h'⟩ | ⟨h, h'⟩
        · have q1 : decide (0 ≤ x) = false := by simp; omega
          have HB1 : Hid (Bk wr w.heap.size 4 (bv (marksL (s.take (k + 1)) n))) := by
            show Bk _ _ _ _
            rw [HT.out, marksL_snoc_out (by omega)]; exact HB.out
          go_wp2
          go_roundw
          case rel => exact ⟨k + 1, by omega, by go_num, HB1, HWr⟩
          case measure => simp [intOf]; omega
        · have q1 : decide (0 ≤ x) = true := by simpa using h
          have q2 : decide (x < (n : Int)) = true := by simpa using h'
          obtain ⟨j, rfl⟩ := Int.eq_ofNat_of_zero_le h
          have hj : j < n := by omega
          have hcj := HB.out.cell j (by simpa using hj)
          have hfj := HB.out.free j
          have HB1 : Hid (Bk (wr.setCell ⟨w.heap.size, j, none⟩ (.bool true)) w.heap.size 4 (bv (marksL (s.take (k + 1)) n))) := by
            show Bk _ _ _ _
            rw [HT.out, marksL_snoc_in hj, ← bv_set]; exact HB.out.set j _
          have HW1 : Hid (Below w.heap.size w (wr.setCell ⟨w.heap.size, j, none⟩ (.bool true))) := HWr.out.setCell (Nat.le_refl _) _
          go_wp2
          go_roundw
          case rel => exact ⟨k + 1, by omega, by go_num, HB1, HW1⟩
          case measure => simp [intOf]; omega
        · have q1 : decide (0 ≤ x) = true := by simpa using h
          have q2 : decide (x < (n : Int)) = false := by simp; omega
          have HB1 : Hid (Bk wr w.heap.size 4 (bv (marksL (s.take (k + 1)) n))) := by
            show Bk _ _ _ _
            rw [HT.out, marksL_snoc_out (by omega)]; exact HB.out
          go_wp2
          go_roundw
          case rel => exact ⟨k + 1, by omega, by go_num, HB1, HWr⟩
          case measure => simp [intOf]; omega
      · obtain rfl : k = m := by omega
        have HMS : Hid (Bk wr w.heap.size 4 (bv (marksL s n))) := by
          have h := HB.out
          rw [List.take_of_length_le (by have := HM.out; omega)] at h
          exact h
        have hlen : (marksL s n).length = n := by simp
        have HLEN := Lib.hid hlen
        clear HB hlen
        generalize hms : marksL s n = ms at *
        have HMSE := Lib.hid hms
        clear hms HE
        rename World => w1
        have HFF : Hid (closeFrom D n ms = closeFrom D n ms) := rfl
        go_wp2
        go_loopw [7, 8] (fun v _ wr => ∃ k : Nat, k ≤ n ∧ v = .int .i64 ((k : Int) - 1) ∧ Hid (∃ m : List Bool, m.length = n ∧ closeFrom D k m = closeFrom D n ms ∧ Bk wr w.heap.size 4 (bv m)) ∧ Hid (Below w.heap.size w wr)) (fun v _ _ => ((intOf v) + 1).toNat)
        case atStart => exact ⟨n, by omega, by go_num, ⟨ms, HLEN.out, rfl, HMS.out⟩, HWr⟩
        case round =>
          obtain ⟨k, hk, rfl, HI, HF⟩ := hrel
          obtain ⟨mm, h1, h2, h3⟩ := HI.out
          clear HI
          cases k with
          | zero =>
            have HM0 : Hid (Bk wr w.heap.size 4 (bv (closeFrom D n ms))) := by
              have h2' : mm = closeFrom D n ms := h2
              rw [h2'] at h3; exact h3
            have hln : (closeFrom D n ms).length = n := by
              have h2' : mm = closeFrom D n ms := h2
              rw [← h2']; exact h1
            have HRD := Lib.hid (HM0.out.rd n n (Nat.le_refl _) (by omega))
            clear h1 h2 h3
            go_wp2_with (go_at_call 137; (with_reducible refine (rThose_any _ n n (closeFrom D n ms) _ HRD.out hln hn).mono ?_); rintro e w5 ⟨⟨A5, c5, rfl, hr⟩, hB⟩; have HR5 := Lib.hid hr; have HB5 := Lib.hid (below_then HF.out hB); clear hr hB)
            go_ret
            rw [HMSE.out]
            exact ⟨⟨A5, c5, rfl, HR5.out⟩, HB5.out⟩
          | succ k =>
            have e1 : ((k + 1 : Nat) : Int) - 1 = k := by omega
            rw [e1]
            clear e1
            have hkn : k < n := by omega
            have H1 := Lib.hid h1
            have H2 : Hid (closeFrom D k (closeStep D k mm) = closeFrom D n ms) := h2
            have H3 := Lib.hid h3
            clear h1 h2 h3
            obtain ⟨b, off, A', n', c', rfl, hc, hn', hrd⟩ := (HD.out.below HF.out).at_ hkn
            have hl1 := hrd.le
            have hl2 := hrd.cap
            have HNL := Lib.hid hn'
            have HRW : Hid (Rd w A' n' c' (iv .i64 (nth D k)) ∧ w.cell? ⟨b, off + k, none⟩ = some (.slice A' n' c')) := by
              obtain ⟨b', off', A2, n2, c2, e, hc2, _, hrd2⟩ := HD.out.at_ hkn
              cases e
              have hlt := World.block_lt_of_cell? _ _ hc2
              have : wr.cell? ⟨b, off + k, none⟩ = some (.slice A2 n2 c2) := (HF.out.cell hlt).trans hc2
              rw [hc] at this
              cases this
              exact ⟨hrd2, hc2⟩
            clear hn' hrd hc
            cases hmk : bit mm k with
            | false =>
              have HS : Hid (closeStep D k mm = mm) := by show _ = _; simp [closeStep, hmk]
              have HMK := Lib.hid hmk
              clear hmk
              go_wp2
              go_loopw [8] (fun v w3 => ∃ j : Nat, j ≤ n' ∧ v = .int .i64 j ∧ w3 = wr) (fun v _ => n' - (intOf v).toNat)
              case atStart => exact ⟨0, by omega, rfl, rfl⟩
              case round =>
                obtain ⟨j, hj, rfl, rfl⟩ := hrel
                have hcell := keep_cell HRW.out.2 HF.out
                by_cases hlt : j < n'
                · have hck := H3.out.bit k (by have := H1.out; omega)
                  rw [HMK.out] at hck
                  go_wp2
                  go_roundw
                  case rel => exact ⟨j + 1, by omega, by go_num, trivial⟩
                  case measure => simp [intOf]; omega
                · obtain rfl : j = n' := by omega
                  go_wp2
                  go_roundw
                  case rel => exact ⟨k, by omega, by go_num, ⟨mm, H1.out, by rw [← H2.out, HS.out], H3.out⟩, HF⟩
                  case measure => simp [intOf] <;> omega
            | true =>
              have HS : Hid (closeStep D k mm = markAll (nth D k) mm) := by show _ = _; simp [closeStep, hmk]
              have HMK := Lib.hid hmk
              clear hmk
              go_wp2
              go_loopw [8] (fun v wr => ∃ j : Nat, j ≤ n' ∧ v = .int .i64 j ∧ Hid (Bk wr w.heap.size 4 (bv (markAll ((nth D k).take j) mm))) ∧ Hid (Below w.heap.size w wr)) (fun v _ => n' - (intOf v).toNat)
              case atStart => exact ⟨0, by omega, rfl, H3, HF⟩
              case round =>
                rename World => w4
                obtain ⟨j, hj, rfl, HK, HF2⟩ := hrel
                have hcell := keep_cell HRW.out.2 HF2.out
                by_cases hlt : j < n'
                · have hxl : j < (nth D k).length := by have := HNL.out; omega
                  obtain ⟨b2, off2, rfl, _, hc2⟩ := (HRW.out.1.below HF2.out).form (by simp; omega)
                  have hcj := hc2 j (by simpa using hxl)
                  rw [iv_at] at hcj
                  clear hc2
                  obtain ⟨d0, d1, _⟩ := right_mem HR.out (List.getElem_mem hxl)
                  have HT : Hid (markAll ((nth D k).take (j + 1)) mm = (markAll ((nth D k).take j) mm).set (nth D k)[j].toNat true) := markAll_take hxl mm
                  generalize (nth D k)[j] = d at *
                  obtain ⟨dn, rfl⟩ := Int.eq_ofNat_of_zero_le d0
                  have hdn : dn < n := by omega
                  have hck := HK.out.bit k (by have := H1.out; simp; omega)
                  rw [bit_markAll_keep HMK.out] at hck
                  have hcd := HK.out.cell dn (by have := H1.out; simp; omega)
                  have hfd := HK.out.free dn
                  have HK1 : Hid (Bk (w4.setCell ⟨w.heap.size, dn, none⟩ (.bool true)) w.heap.size 4 (bv (markAll ((nth D k).take (j + 1)) mm))) := by
                    show Bk _ _ _ _
                    rw [HT.out, ← bv_set]; exact HK.out.set dn _
                  have HF3 : Hid (Below w.heap.size w (w4.setCell ⟨w.heap.size, dn, none⟩ (.bool true))) := HF2.out.setCell (Nat.le_refl _) _
                  go_wp2
                  go_roundw
                  case rel => exact ⟨j + 1, by omega, by go_num, HK1, HF3⟩
                  case measure => simp [intOf]; omega
                · obtain rfl : j = n' := by omega
                  have HTk : Hid ((nth D k).take j = nth D k) := List.take_of_length_le (by have := HNL.out; omega)
                  rw [HTk.out] at HK
                  go_wp2
                  go_roundw
                  case rel => exact ⟨k, by omega, by go_num, ⟨markAll (nth D k) mm, by simpa using H1.out, by rw [← H2.out, HS.out], HK.out⟩, HF2⟩
                  case measure => simp [intOf] <;> omega

theorem not_closed_in {D : List (List Int)} {s : List Int} {x : Int} (hx : x ∈ s) (h : ¬ (0 ≤ x ∧ x < (D.length : Int))) : closedB D s = false := by
  cases hc : closedB D s with
  | false => rfl
  | true => exact absurd ((closed_iff.1 hc).2.1 x hx) h
theorem not_closed_row {D : List (List Int)} {s : List Int} {i : Nat} {x : Int} (hi : (i : Int) ∈ s) (hd : x ∈ nth D i) (h : x ∉ s) : closedB D s = false := by
  cases hc : closedB D s with
  | false => rfl
  | true => exact absurd ((closed_iff.1 hc).2.2 i hi x hd) h

end Go.Proofs.Ytpicagcapgjiaaa
