/- Walks of graph's reference: Ready. -/
import Derived.Test.YtefgkomcmknigaaGraJ
set_option linter.unusedSimpArgs false
set_option linter.unusedVariables false
namespace Go.Proofs.Ytefgkomcmknigaa
open Go.RowKit Go.Sel Go.Sel.Gra Go.Shelf

attribute [local go_sem] Oper.semAt_some

/-- What is asked for and was not yet. -/
def askedL (s : List Int) (W : List Bool) : List Int := s.filter fun x => !bit W x.toNat
/-- Where the marks stand when k rows are over. -/
def ReadyAt (D : List (List Int)) (W S : List Bool) (n k : Nat) (m : List Bool) : Prop := m.length = n ∧ ∀ j, j < n → bit m j = if j < k then bit (readyM D W S k) j else (bit S j && !bit W j)
def valT (D : List (List Int)) (W S : List Bool) (k t : Nat) : Bool := bit S k && !bit W k && ((nth D k).take t).all fun d => bit W d.toNat || bit (readyM D W S k) d.toNat
theorem valT_succ {D : List (List Int)} {W S : List Bool} {k t : Nat} (h : t < (nth D k).length) : valT D W S k (t + 1) = (valT D W S k t && (bit W (nth D k)[t].toNat || bit (readyM D W S k) (nth D k)[t].toNat)) := by
  rw [valT, valT, List.take_succ_eq_append_getElem h, List.all_append]
  simp [Bool.and_assoc]
theorem valT_end {D : List (List Int)} {W S : List Bool} {k t : Nat} (h : (nth D k).length ≤ t) : valT D W S k t = readyStep D W S k (readyM D W S k) := by
  rw [valT, readyStep, List.take_of_length_le h]
theorem ReadyAt.start {D : List (List Int)} {s : List Int} {W : List Bool} {n : Nat} : ReadyAt D W (marksL s n) n 0 (marksL (askedL s W) n) := by
  refine ⟨by simp, fun j hj => ?_⟩
  rw [if_neg (by omega), Bool.eq_iff_iff, bit_marksL, Bool.and_eq_true, bit_marksL]
  simp [askedL, hj]
theorem ReadyAt.at_ {D : List (List Int)} {W S : List Bool} {n k : Nat} {m : List Bool} (h : ReadyAt D W S n k m) (hk : k < n) : bit m k = valT D W S k 0 := by
  rw [h.2 k hk, if_neg (by omega)]
  simp [valT]
theorem ReadyAt.low {D : List (List Int)} {W S : List Bool} {n k j : Nat} {m : List Bool} (h : ReadyAt D W S n k m) (hj : j < k) (hk : k ≤ n) : bit m j = bit (readyM D W S k) j := by
  rw [h.2 j (by omega), if_pos hj]
theorem ReadyAt.next {D : List (List Int)} {W S : List Bool} {n k : Nat} {m : List Bool} (h : ReadyAt D W S n k m) (hk : k < n) : ReadyAt D W S n (k + 1) (m.set k (readyStep D W S k (readyM D W S k))) := by
  refine ⟨by simpa using h.1, fun j hj => ?_⟩
  rw [bit_set (by have := h.1; omega)]
  by_cases e : k = j
  · subst e
    rw [if_pos rfl, if_pos (by omega), readyM, bit_append_right (by simp)]
    simp only [readyM_length, Nat.sub_self]
    rfl
  · rw [if_neg e, h.2 j hj]
    by_cases hjk : j < k
    · rw [if_pos hjk, if_pos (by omega), readyM, bit_append_left (by simpa using hjk)]
    · rw [if_neg hjk, if_neg (by omega)]
theorem ReadyAt.done {D : List (List Int)} {W S : List Bool} {n : Nat} {m : List Bool} (h : ReadyAt D W S n n m) : m = readyM D W S n := by
  refine bits_ext (by rw [h.1]; simp) (fun j hj => ?_)
  have := h.1
  rw [h.2 j (by omega), if_pos (by omega)]

set_option maxRecDepth 100000 in
set_option maxHeartbeats 8000000 in
theorem rReady_any (A : Option Addr) (n c : Nat) (D : List (List Int)) (B1 : Option Addr) (m1 d1 : Nat) (s1 : List Int) (B2 : Option Addr) (m2 d2 : Nat) (s2 : List Int) (w : World) (hD : Dp w A n c D) (hs1 : Rd w B1 m1 d1 (iv .i64 s1)) (hm1 : s1.length = m1) (hs2 : Rd w B2 m2 d2 (iv .i64 s2)) (hm2 : s2.length = m2) :
    Calls Try.prog 28 #[.slice A n c, .slice B1 m1 d1, .slice B2 m2 d2] w fun e w' => (∃ A' c', e = .returned (.slice A' (readyL D s1 s2).length c') ∧ Rd w' A' (readyL D s1 s2).length c' (iv .i64 (readyL D s1 s2))) ∧ Below w.heap.size w w' := by
  have hl := hD.len
  have l1 := hD.le
  have l2 := hD.cap
  have HD := Lib.hid hD
  have HS1 := Lib.hid hs1
  have HM1 := Lib.hid hm1
  have HS2 := Lib.hid hs2
  have HM2 := Lib.hid hm2
  have p1 := hs1.le
  have p2 := hs1.cap
  have p3 := hs2.le
  have p4 := hs2.cap
  clear hD hs1 hm1 hs2 hm2
  cases hr : rightD D with
  | false =>
    have HR := Lib.hid hr
    have HE : Hid (readyL D s1 s2 = []) := by show _ = _; simp [readyL, hr]
    rw [HE.out]
    clear hl hr
    go_enter Try.func28, Try.ntmps28
    go_wp2_with (go_at_call 30; (with_reducible refine (rRight_any A n c D _ HD.out).mono ?_); rw [HR.out]; rintro e w1 ⟨rfl, hw⟩; have hw := hw.symm; subst hw)
    go_ret
    exact ⟨⟨none, 0, rfl, Rd.nil (by omega)⟩, Below.refl _ _⟩
  | true =>
    have h256 := (right_iff.1 hr).1
    have hn : n ≤ 1000 := by omega
    have HR := Lib.hid hr
    have HL := Lib.hid hl
    have HE : Hid (readyL D s1 s2 = thoseL (readyM D (marksL s1 n) (marksL s2 n) n)) := by show _ = _; simp [readyL, hr, hl]
    rw [HE.out]
    have hmk := mkB n hn
    clear hl hr h256 HE
    go_enter Try.func28, Try.ntmps28
    go_upto_block 0 with (go_at_call 30; (with_reducible refine (rRight_any A n c D _ HD.out).mono ?_); rw [HR.out]; rintro e w1 ⟨rfl, hw⟩; have hw := hw.symm; subst hw)
    have HM0 : Hid (Bk ((w.alloc (.cells (bv (falses n)).toArray 4)).alloc (.cells (bv (falses n)).toArray 4)) w.heap.size 4 (bv (marksL [] n))) := by
      show Bk _ _ _ _
      rw [marksL_nil]; exact (Bk.new w 4 (bv (falses n))).keep (below_al _ _)
    have HB0 : Hid (Bk ((w.alloc (.cells (bv (falses n)).toArray 4)).alloc (.cells (bv (falses n)).toArray 4)) (w.heap.size + 1) 4 (bv (marksL (s1.take 0) n))) := by
      show Bk _ _ _ _
      have h := Bk.new (w.alloc (.cells (bv (falses n)).toArray 4)) 4 (bv (falses n))
      rw [World.size_alloc] at h
      rw [List.take_zero, marksL_nil]; exact h
    have HW : Hid (Below w.heap.size w ((w.alloc (.cells (bv (falses n)).toArray 4)).alloc (.cells (bv (falses n)).toArray 4))) := below_then (below_al _ _) (below_al _ _)
    clear hmk
    generalize (w.alloc (.cells (bv (falses n)).toArray 4)).alloc (.cells (bv (falses n)).toArray 4) = w0 at *
    go_wp2
    go_loopw [9] (fun i wr => ∃ k : Nat, k ≤ m1 ∧ i = .int .i64 k ∧ Hid (Bk wr (w.heap.size + 1) 4 (bv (marksL (s1.take k) n))) ∧ Hid (Bk wr w.heap.size 4 (bv (marksL [] n))) ∧ Hid (Below w.heap.size w wr)) (fun i _ => m1 - (intOf i).toNat)
    case atStart => exact ⟨0, by omega, by go_num, HB0, HM0, HW⟩
    case round =>
      obtain ⟨k, hk, rfl, HB, HMB, HWr⟩ := hrel
      by_cases hlt : k < m1
      · have hxl : k < s1.length := by have := HM1.out; omega
        obtain ⟨b, off, rfl, _, hc⟩ := (HS1.out.below HWr.out).form (by simp; omega)
        have hck := hc k (by simpa using hxl)
        rw [iv_at] at hck
        clear hc
        have HT : Hid (s1.take (k + 1) = s1.take k ++ [s1[k]]) := List.take_succ_eq_append_getElem hxl
        generalize s1[k] = x at *
        rcases (show x < 0 ∨ (0 ≤ x ∧ x < (n : Int)) ∨ (0 ≤ x ∧ (n : Int) ≤ x) by omega) with h | ⟨h, h'⟩ | ⟨h, h'⟩
        · have q1 : decide (0 ≤ x) = false := by simp; omega
          have HB1 : Hid (Bk wr (w.heap.size + 1) 4 (bv (marksL (s1.take (k + 1)) n))) := by
            show Bk _ _ _ _
            rw [HT.out, marksL_snoc_out (by omega)]; exact HB.out
          go_wp2
          go_roundw
          case rel => exact ⟨k + 1, by omega, by go_num, HB1, HMB, HWr⟩
          case measure => simp [intOf]; omega
        · have q1 : decide (0 ≤ x) = true := by simpa using h
          have q2 : decide (x < (n : Int)) = true := by simpa using h'
          obtain ⟨j, rfl⟩ := Int.eq_ofNat_of_zero_le h
          have hj : j < n := by omega
          have hcj := HB.out.cell j (by simpa using hj)
          have hfj := HB.out.free j
          have HB1 : Hid (Bk (wr.setCell ⟨w.heap.size + 1, j, none⟩ (.bool true)) (w.heap.size + 1) 4 (bv (marksL (s1.take (k + 1)) n))) := by
            show Bk _ _ _ _
            rw [HT.out, marksL_snoc_in hj, ← bv_set]; exact HB.out.set j _
          have HW1 : Hid (Below w.heap.size w (wr.setCell ⟨w.heap.size + 1, j, none⟩ (.bool true))) := HWr.out.setCell (by show w.heap.size ≤ w.heap.size + 1; omega) _
          have HMB1 : Hid (Bk (wr.setCell ⟨w.heap.size + 1, j, none⟩ (.bool true)) w.heap.size 4 (bv (marksL [] n))) := HMB.out.far (by show w.heap.size + 1 ≠ w.heap.size; omega) _
          go_wp2
          go_roundw
          case rel => exact ⟨k + 1, by omega, by go_num, HB1, HMB1, HW1⟩
          case measure => simp [intOf]; omega
        · have q1 : decide (0 ≤ x) = true := by simpa using h
          have q2 : decide (x < (n : Int)) = false := by simp; omega
          have HB1 : Hid (Bk wr (w.heap.size + 1) 4 (bv (marksL (s1.take (k + 1)) n))) := by
            show Bk _ _ _ _
            rw [HT.out, marksL_snoc_out (by omega)]; exact HB.out
          go_wp2
          go_roundw
          case rel => exact ⟨k + 1, by omega, by go_num, HB1, HMB, HWr⟩
          case measure => simp [intOf]; omega
      · obtain rfl : k = m1 := by omega
        have HWS : Hid (Bk wr (w.heap.size + 1) 4 (bv (marksL s1 n))) := by
          have h := HB.out
          rw [List.take_of_length_le (by have := HM1.out; omega)] at h
          exact h
        have HLEN : Hid ((marksL s1 n).length = n) := by show _ = _; simp
        clear HB
        generalize hms : marksL s1 n = Ws at *
        have HMSE := Lib.hid hms
        clear hms
        rename World => w1
        go_wp2
        go_loopw [10] (fun i wr => ∃ k : Nat, k ≤ m2 ∧ i = .int .i64 k ∧ Hid (Bk wr (w.heap.size + 1) 4 (bv Ws)) ∧ Hid (Bk wr w.heap.size 4 (bv (marksL (askedL (s2.take k) Ws) n))) ∧ Hid (Below w.heap.size w wr)) (fun i _ => m2 - (intOf i).toNat)
        case atStart => exact ⟨0, by omega, by go_num, HWS, HMB, HWr⟩
        clear HWS HMB HWr
        case round =>
          obtain ⟨k, hk, rfl, HB, HMB, HWr⟩ := hrel
          by_cases hlt : k < m2
          · have hxl : k < s2.length := by have := HM2.out; omega
            obtain ⟨b, off, rfl, _, hc⟩ := (HS2.out.below HWr.out).form (by simp; omega)
            have hck := hc k (by simpa using hxl)
            rw [iv_at] at hck
            clear hc
            have HT : Hid (askedL (s2.take (k + 1)) Ws = askedL (s2.take k) Ws ++ (if bit Ws s2[k].toNat then [] else [s2[k]])) := by
              show _ = _
              rw [List.take_succ_eq_append_getElem hxl, askedL, List.filter_append, askedL]
              cases h : bit Ws s2[k].toNat <;> simp [h]
            generalize s2[k] = x at *
            rcases (show x < 0 ∨ (0 ≤ x ∧ x < (n : Int)) ∨ (0 ≤ x ∧ (n : Int) ≤ x) by omega) with h | ⟨h, h'⟩ | ⟨h, h'⟩
            · have q1 : decide (0 ≤ x) = false := by simp; omega
              have HB1 : Hid (Bk wr w.heap.size 4 (bv (marksL (askedL (s2.take (k + 1)) Ws) n))) := by
                show Bk _ _ _ _
                rw [HT.out]
                split
                · rw [List.append_nil]; exact HMB.out
                · rw [marksL_snoc_out (by omega)]; exact HMB.out
              go_wp2
              go_roundw
              case rel => exact ⟨k + 1, by omega, by go_num, HB, HB1, HWr⟩
              case measure => simp [intOf]; omega
            · have q1 : decide (0 ≤ x) = true := by simpa using h
              have q2 : decide (x < (n : Int)) = true := by simpa using h'
              obtain ⟨j, rfl⟩ := Int.eq_ofNat_of_zero_le h
              have hj : j < n := by omega
              have hcw := HB.out.bit j (by have := HLEN.out; omega)
              cases hwj : bit Ws j with
              | true =>
                rw [hwj] at hcw
                have HB1 : Hid (Bk wr w.heap.size 4 (bv (marksL (askedL (s2.take (k + 1)) Ws) n))) := by
                  show Bk _ _ _ _
                  rw [HT.out, Int.toNat_natCast, hwj, if_pos rfl, List.append_nil]
                  exact HMB.out
                clear hwj
                go_wp2
                go_roundw
                case rel => exact ⟨k + 1, by omega, by go_num, HB, HB1, HWr⟩
                case measure => simp [intOf]; omega
              | false =>
                rw [hwj] at hcw
                have hcj := HMB.out.cell j (by simpa using hj)
                have hfj := HMB.out.free j
                have HB1 : Hid (Bk (wr.setCell ⟨w.heap.size, j, none⟩ (.bool true)) w.heap.size 4 (bv (marksL (askedL (s2.take (k + 1)) Ws) n))) := by
                  show Bk _ _ _ _
                  rw [HT.out, Int.toNat_natCast, hwj, if_neg (by decide), marksL_snoc_in hj, ← bv_set]; exact HMB.out.set j _
                have HW1 : Hid (Below w.heap.size w (wr.setCell ⟨w.heap.size, j, none⟩ (.bool true))) := HWr.out.setCell (Nat.le_refl _) _
                have HWB1 : Hid (Bk (wr.setCell ⟨w.heap.size, j, none⟩ (.bool true)) (w.heap.size + 1) 4 (bv Ws)) := HB.out.far (by show w.heap.size ≠ w.heap.size + 1; omega) _
                clear hwj
                go_wp2
                go_roundw
                case rel => exact ⟨k + 1, by omega, by go_num, HWB1, HB1, HW1⟩
                case measure => simp [intOf]; omega
            · have q1 : decide (0 ≤ x) = true := by simpa using h
              have q2 : decide (x < (n : Int)) = false := by simp; omega
              have HB1 : Hid (Bk wr w.heap.size 4 (bv (marksL (askedL (s2.take (k + 1)) Ws) n))) := by
                show Bk _ _ _ _
                rw [HT.out]
                split
                · rw [List.append_nil]; exact HMB.out
                · rw [marksL_snoc_out (by omega)]; exact HMB.out
              go_wp2
              go_roundw
              case rel => exact ⟨k + 1, by omega, by go_num, HB, HB1, HWr⟩
              case measure => simp [intOf]; omega
          · obtain rfl : k = m2 := by omega
            have HMS : Hid (Bk wr w.heap.size 4 (bv (marksL (askedL s2 Ws) n))) := by
              have h := HMB.out
              rw [List.take_of_length_le (by have := HM2.out; omega)] at h
              exact h
            have HRS : Hid (ReadyAt D Ws (marksL s2 n) n 0 (marksL (askedL s2 Ws) n)) := ReadyAt.start
            clear HMB
            generalize hms : marksL s2 n = Ss at *
            have HMSS := Lib.hid hms
            clear hms
            generalize marksL (askedL s2 Ws) n = mm at *
            rename World => w2
            go_wp2
            go_loopw [11, 12] (fun i _ wr => ∃ k : Nat, k ≤ n ∧ i = .int .i64 k ∧ Hid (Bk wr (w.heap.size + 1) 4 (bv Ws)) ∧ Hid (∃ m, ReadyAt D Ws Ss n k m ∧ Bk wr w.heap.size 4 (bv m)) ∧ Hid (Below w.heap.size w wr)) (fun i _ _ => n - (intOf i).toNat)
            case atStart => exact ⟨0, by omega, by go_num, HB, ⟨mm, HRS.out, HMS.out⟩, HWr⟩
            clear HB HRS HMS HWr
            case round =>
              obtain ⟨k, hk, rfl, HB, HI, HWr⟩ := hrel
              obtain ⟨m, h1, h2⟩ := HI.out
              clear HI
              have h1l := h1.1
              by_cases hkn : k < n
              · obtain ⟨b, off, A', n', c', rfl, hc, hn', hrd⟩ := (HD.out.below HWr.out).at_ hkn
                have hl1 := hrd.le
                have hl2 := hrd.cap
                have HNL := Lib.hid hn'
                have HRW : Hid (Rd w A' n' c' (iv .i64 (nth D k)) ∧ w.cell? ⟨b, off + k, none⟩ = some (.slice A' n' c')) := by
                  obtain ⟨b', off', A2, n2, c2, e, hc2, _, hrd2⟩ := HD.out.at_ hkn
                  cases e
                  have hlt := World.block_lt_of_cell? _ _ hc2
                  have : wr.cell? ⟨b, off + k, none⟩ = some (.slice A2 n2 c2) := (HWr.out.cell hlt).trans hc2
                  rw [hc] at this
                  cases this
                  exact ⟨hrd2, hc2⟩
                have HSET : Hid (Bk wr w.heap.size 4 (bv (m.set k (valT D Ws Ss k 0)))) := by
                  have e : m.set k (valT D Ws Ss k 0) = m := by
                    rw [← h1.at_ hkn]
                    refine bits_ext (by simp) (fun j hj => ?_)
                    rw [bit_set (by omega)]
                    split
                    · next e => rw [e]
                    · rfl
                  show Bk _ _ _ _
                  rw [e]; exact h2
                have H1 := Lib.hid h1
                have HML := Lib.hid h1l
                clear hn' hrd hc h1 h2 h1l
                go_wp2
                go_loopw [12] (fun v wr => ∃ j : Nat, j ≤ n' ∧ v = .int .i64 j ∧ Hid (Bk wr (w.heap.size + 1) 4 (bv Ws)) ∧ Hid (Bk wr w.heap.size 4 (bv (m.set k (valT D Ws Ss k j)))) ∧ Hid (Below w.heap.size w wr)) (fun v _ => n' - (intOf v).toNat)
                case atStart => exact ⟨0, by omega, rfl, HB, HSET, HWr⟩
                clear HB HSET HWr
                case round =>
                  obtain ⟨j, hj, rfl, HB, HK, HWr⟩ := hrel
                  rename World => w4
                  have hcell := keep_cell HRW.out.2 HWr.out
                  by_cases hlt : j < n'
                  · have hxl : j < (nth D k).length := by have := HNL.out; omega
                    obtain ⟨b2, off2, rfl, _, hc2⟩ := (HRW.out.1.below HWr.out).form (by simp; omega)
                    have hcj := hc2 j (by simpa using hxl)
                    rw [iv_at] at hcj
                    clear hc2
                    obtain ⟨d0, d1, _⟩ := right_mem HR.out (List.getElem_mem hxl)
                    have HV := Lib.hid (valT_succ (W := Ws) (S := Ss) hxl)
                    generalize (nth D k)[j] = d at *
                    obtain ⟨dn, rfl⟩ := Int.eq_ofNat_of_zero_le d0
                    have hdk : dn < k := by omega
                    have hcw := HB.out.bit dn (by have := HLEN.out; omega)
                    have hck := HK.out.bit k (by have := HML.out; simp; omega)
                    rw [bit_set (by have := HML.out; omega), if_pos rfl] at hck
                    have hcd := HK.out.bit dn (by have := HML.out; simp; omega)
                    rw [bit_set (by have := HML.out; omega), if_neg (by omega), H1.out.low hdk (by omega)] at hcd
                    have hfk := HK.out.free k
                    have hfull : ∀ v : Bool, v = valT D Ws Ss k (j + 1) → Bk (w4.setCell ⟨w.heap.size, k, none⟩ (.bool v)) w.heap.size 4 (bv (m.set k (valT D Ws Ss k (j + 1)))) := fun v hv => by
                      have h := HK.out.set k (.bool v)
                      rw [bv_set, List.set_set, hv] at h
                      rw [hv]; exact h
                    have HFULL := Lib.hid hfull
                    have HW3 : Hid (∀ v, Below w.heap.size w (w4.setCell ⟨w.heap.size, k, none⟩ v)) := fun v => HWr.out.setCell (Nat.le_refl _) _
                    have HB3 : Hid (∀ v, Bk (w4.setCell ⟨w.heap.size, k, none⟩ v) (w.heap.size + 1) 4 (bv Ws)) := fun v => HB.out.far (by show w.heap.size ≠ w.heap.size + 1; omega) _
                    clear hfull
                    rw [Int.toNat_natCast] at HV
                    generalize valT D Ws Ss k j = v0 at *
                    generalize bit Ws dn = v2 at *
                    generalize bit (readyM D Ws Ss k) dn = v3 at *
                    cases v0 with
                    | false =>
                      have HE1 : Hid (false = valT D Ws Ss k (j + 1)) := by show _ = _; rw [HV.out]; rfl
                      go_wp2
                      go_roundw
                      case rel => exact ⟨j + 1, by omega, by go_num, HB3.out _, HFULL.out _ HE1.out, HW3.out _⟩
                      case measure => simp [intOf]; omega
                    | true =>
                      cases v2 with
                      | true =>
                        have HE1 : Hid (true = valT D Ws Ss k (j + 1)) := by show _ = _; rw [HV.out]; rfl
                        go_wp2
                        go_roundw
                        case rel => exact ⟨j + 1, by omega, by go_num, HB3.out _, HFULL.out _ HE1.out, HW3.out _⟩
                        case measure => simp [intOf]; omega
                      | false =>
                        have HE1 : Hid (v3 = valT D Ws Ss k (j + 1)) := by show _ = _; rw [HV.out]; simp
                        go_wp2
                        go_roundw
                        case rel => exact ⟨j + 1, by omega, by go_num, HB3.out _, HFULL.out _ HE1.out, HW3.out _⟩
                        case measure => simp [intOf]; omega
                  · obtain rfl : j = n' := by omega
                    have HE1 : Hid (∃ m', ReadyAt D Ws Ss n (k + 1) m' ∧ Bk w4 w.heap.size 4 (bv m')) := by
                      refine ⟨_, H1.out.next hkn, ?_⟩
                      rw [← valT_end (t := j) (by have := HNL.out; omega)]
                      exact HK.out
                    go_wp2
                    go_roundw
                    case rel => exact ⟨k + 1, by omega, by go_num, HB, HE1, HWr⟩
                    case measure => simp [intOf]; omega
              · obtain rfl : k = n := by omega
                have hm := h1.done
                subst hm
                have HRD := Lib.hid (h2.rd k k (Nat.le_refl _) (by omega))
                clear h1 h2
                go_wp2_with (go_at_call 45; (with_reducible refine (rThose_any _ k k (readyM D Ws Ss k) _ HRD.out (by simp) hn).mono ?_); rintro e w5 ⟨⟨A5, c5, rfl, hr⟩, hB⟩; have HR5 := Lib.hid hr; have HB5 := Lib.hid (below_then HWr.out hB); clear hr hB)
                go_ret
                rw [HMSE.out, HMSS.out]
                exact ⟨⟨A5, c5, rfl, HR5.out⟩, HB5.out⟩
end Go.Proofs.Ytefgkomcmknigaa
