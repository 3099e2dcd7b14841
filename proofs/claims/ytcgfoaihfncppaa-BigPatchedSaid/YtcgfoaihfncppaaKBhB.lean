/- Walks of big's reference: Right, of a right file. -/
import Derived.Test.YtcgfoaihfncppaaKBgA
set_option linter.unusedSimpArgs false
set_option linter.unusedVariables false
namespace Go.Sel.Bg
open Go.RowKit Go.Sel Go.Sel.Gra
theorem SeenB.noint {w : World} {sb n : Nat} {D : List (List Int)} {t : List Int} {m : Nat} (h : SeenB w sb n D t m) {i : Nat} {k : IntKind} {x : Int} : w.cell? ⟨sb, i, none⟩ ≠ some (.int k x) := fun hc => by
  obtain ⟨T, hT⟩ := h
  rw [blk_cell hT] at hc
  have := Array.mem_of_getElem? hc
  simp [seenA] at this
theorem SeenB.nosl {w : World} {sb n : Nat} {D : List (List Int)} {t : List Int} {m : Nat} (h : SeenB w sb n D t m) {i : Nat} {A : Option Addr} {k c : Nat} : w.cell? ⟨sb, i, none⟩ ≠ some (.slice A k c) := fun hc => by
  obtain ⟨T, hT⟩ := h
  rw [blk_cell hT] at hc
  have := Array.mem_of_getElem? hc
  simp [seenA] at this
theorem seenA_start (n : Nat) (D : List (List Int)) (t : List Int) : (List.replicate n (Value.bool false)).toArray = seenA n D t 0 := by
  refine Array.ext_getElem? fun i => ?_
  by_cases hi : i < n
  · rw [seenA_at hi]
    simp [hi, seenP]
  · rw [Array.getElem?_eq_none (by simpa using hi), Array.getElem?_eq_none (by simpa [seenA] using hi)]
/-- The cells of a row of an image. -/
theorem bp_ptr {w : World} {A : Option Addr} {n c : Nat} {D : List (List Int)} (hD : Bp w A n c D) (hW : whole D) {q : Nat} (hq : q < n) :
    ∃ b off rb ro c', A = some ⟨b, off, none⟩ ∧ w.cell? ⟨b, off + q, none⟩ = some (.slice (some ⟨rb, ro, none⟩) 32 c') ∧ 32 ≤ c' ∧ c' ≤ 9223372036854775807 ∧ ∀ i, i < 32 → w.cell? ⟨rb, ro + i, none⟩ = some (.int .u8 (at2 D (q : Int) i)) ∧ 0 ≤ at2 D (q : Int) i ∧ at2 D (q : Int) i ≤ 255 := by
  obtain ⟨b, off, A', n', c', rfl, hb, hc, hl, hr, hx⟩ := hD.at_ hq
  have hqD : q < D.length := by rw [hD.len]; exact hq
  have h32 : n' = 32 := by rw [← hl]; have := hW.2 _ (List.getElem_mem hqD); simpa [nth, hqD] using this
  subst h32
  have h1 := hr.le
  have h2 := hr.cap
  obtain ⟨rb, ro, rfl, _, hcr⟩ := hr.form (by simp; omega)
  refine ⟨b, off, rb, ro, c', rfl, hc, h1, h2, fun i hi => ?_⟩
  have hil : i < (nth D q).length := by omega
  have h3 := hcr i (by simpa using hil)
  rw [iv_at] at h3
  have e : at2 D (q : Int) i = (nth D q)[i] := by
    unfold at2
    rw [Int.toNat_natCast]
    show (nth D q).getD i 0 = _
    rw [List.getD_eq_getElem?_getD, List.getElem?_eq_getElem hil]
    rfl
  rw [e]
  exact ⟨h3, hx _ (List.getElem_mem hil)⟩
theorem ptr_nat {D : List (List Int)} {t : List Int} (hR : Rt D t) {p : Nat} (hp : p < 1096) (h0 : val D t p ≠ 0) : ∃ q : Nat, val D t p = (q : Int) ∧ q ≠ 0 ∧ q < D.length := by
  obtain ⟨h1, h2⟩ := hR.2.1 p hp
  exact ⟨(val D t p).toNat, by omega, by omega, by omega⟩
end Go.Sel.Bg
namespace Go.Proofs.Ytcgfoaihfncppaa
open Go.RowKit Go.Sel Go.Sel.Gra Go.Sel.Bg Go.Sel.Mer Go.Shelf

theorem mkBools (n : Nat) (hn : n ≤ 1000) (D : List (List Int)) (t : List Int) (w : World) : (Instr.makeSlice 121 (.int .i64 (n : Int)) (.int .i64 (n : Int))).run Try.prog w = .ok (.slice (some ⟨w.heap.size, 0, none⟩) n n) (w.alloc (.cells (seenA n D t 0) 4)) := by
  rw [run_makeN 121 4 (.bool false) 1 Try.underlying121 (by kernel_rfl) rfl n (by omega) (by omega) w, seenA_start]
set_option maxRecDepth 100000 in
set_option maxHeartbeats 4000000 in
theorem rRight_ok (A : Option Addr) (n c : Nat) (D : List (List Int)) (t : List Int) (ht : t.length = 8) (w : World) (hD : Bp w A n c D) (hR : Rt D t) :
    Calls Try.prog 70 #[.slice A n c, bigV t] w fun e w' => e = .returned (.bool true) ∧ Below w.heap.size w w' := by
  have HD := Lib.hid hD
  have HR := Lib.hid hR
  have hdn := hD.len
  have HV : Hid (∀ (sb m : Nat) (x : Int) (W : World), m < 1096 → x = val D t m → SeenB W sb n D t m → Calls Try.prog 84 #[.slice (some ⟨sb, 0, none⟩) n n, .int .i64 x] W fun e w' => e = .returned (.bool true) ∧ SeenB w' sb n D t (m + 1) ∧ Fr (· = sb) W w') := Lib.hid fun sb m x W hm hx hS => hx ▸ rmark_val sb n D t m W hR hdn hm hS
  have hn : n ≤ 96 := by rw [← hdn]; exact hR.1.1
  have hW := Lib.hid (fun W (h : Bp W A n c D) => rwhole_ok A n c D W h hR.1)
  have hN := Lib.hid (fun W => numbers_any t ht W)
  have hl1 := hD.le
  have hl2 := hD.cap
  have hmk := mkBools n (by omega) D t
  obtain ⟨a0, a1, a2, a3, a4, a5, a6, a7, ht8⟩ := len8 ht
  have hbv : bigV t = .agg #[.int .i64 a0, .int .i64 a1, .int .i64 a2, .int .i64 a3, .int .i64 a4, .int .i64 a5, .int .i64 a6, .int .i64 a7] := by rw [ht8]; rfl
  have HT := Lib.hid ht8
  rw [hbv] at hN ⊢
  clear hD hR ht hdn ht8 hbv
  have HX0 := Lib.hid (blk11 w (.cells #[.int .i64 a0, .int .i64 a1, .int .i64 a2, .int .i64 a3, .int .i64 a4, .int .i64 a5, .int .i64 a6, .int .i64 a7] 36))
  have HB0 := Lib.hid (below_al w (.cells #[.int .i64 a0, .int .i64 a1, .int .i64 a2, .int .i64 a3, .int .i64 a4, .int .i64 a5, .int .i64 a6, .int .i64 a7] 36))
  have hgl := (Array.getElem?_eq_some_iff.1 HX0.out).1
  go_enter Try.func70, Try.ntmps70
  go_upto_region 1 with (fail)
  generalize w.alloc (.cells #[.int .i64 a0, .int .i64 a1, .int .i64 a2, .int .i64 a3, .int .i64 a4, .int .i64 a5, .int .i64 a6, .int .i64 a7] 36) = W1 at *
  generalize hgb : w.heap.size = gb at *
  have HGB := Lib.hid hgb
  clear hgb
  go_upto_region 3 with (go_at_call 83; refine (hW.out _ (HD.out.below (by rw [HGB.out]; exact HB0.out))).mono ?_; rintro e w2 ⟨rfl, hw⟩; have hw' := hw.symm; subst hw'; clear hw)
  go_upto_region 4 with (fail)
  have HS0 : Hid (SeenB (W1.alloc (.cells (seenA n D t 0) 4)) W1.heap.size n D t 0) := Lib.hid ⟨_, blk11 W1 _⟩
  have HX1 := Lib.hid (blk_below HX0.out (below_al W1 (.cells (seenA n D t 0) 4)) hgl)
  have HB1 := Lib.hid (HB0.out.alloc (by have := HB0.out.size; have := HGB.out; omega) (.cells (seenA n D t 0) 4))
  have hgb1 : gb < W1.heap.size := hgl
  clear HX0 HB0 hW hmk hgl
  generalize W1.alloc (.cells (seenA n D t 0) 4) = W2 at *
  generalize W1.heap.size = sb at *
  obtain ⟨d0, d1, d2, d3, d4, d5, d6, d7⟩ := big8 HX1.out
  have hgl := (Array.getElem?_eq_some_iff.1 HX1.out).1
  have hsl : sb < W2.heap.size := by obtain ⟨T, h⟩ := HS0.out; exact (Array.getElem?_eq_some_iff.1 h).1
  go_upto_region 5 with (go_at_call 40; refine (hN.out _).mono ?_; rintro e w3 ⟨⟨Al, cl, rfl, hrl⟩, hB⟩; have HRL := Lib.hid hrl; have HS1 : Hid (SeenB w3 sb n D t 0) := Lib.hid (by obtain ⟨T, h⟩ := HS0.out; exact ⟨T, blk_below h hB hsl⟩); have HX2 := Lib.hid (blk_below HX1.out hB hgl); have HB2 := Lib.hid (by have := HB1.out; rw [← HGB.out] at this; exact below_then this hB); clear hrl hB)
  clear d0 d1 d2 d3 d4 d5 d6 d7 HX1 HB1 HS0 hgl hsl hN
  obtain ⟨lb, lo, rfl, _, hcl⟩ := HRL.out.form (by rw [iv_length, HT.out]; simp)
  have hcl1 := HRL.out.le
  have hcl2 := HRL.out.cap
  have HCL : Hid (∀ j, j < 8 → w3.cell? ⟨lb, lo + j, none⟩ = some (.int .i64 (val D t j))) := Lib.hid (fun j hj => by
    have hjl : j < t.length := by rw [HT.out]; simpa using hj
    have := hcl j (by rw [iv_length]; exact hjl)
    rw [iv_at] at this
    rw [this, val_top D t hj, tp, List.getD_eq_getElem?_getD, List.getElem?_eq_getElem hjl]
    rfl)
  clear hcl HRL
  go_wp2
  go_loopw [7] (fun v wr => ∃ i : Nat, i ≤ 8 ∧ v = .int .i64 i ∧ Hid (SeenB wr sb n D t i) ∧ Hid (Fr (· = sb) w3 wr)) (fun v _ => 8 - (Go.RowKit.intOf v).toNat)
  case atStart => exact ⟨0, by omega, rfl, HS1, Fr.refl _ _⟩
  case round =>
    obtain ⟨i, hi, rfl, HS, HF⟩ := hrel
    by_cases hlt : i < 8
    · have hci : wr.cell? ⟨lb, lo + i, none⟩ = some (.int .i64 (val D t i)) := by
        have h1 := HCL.out i hlt
        exact (HF.out.cell (p := ⟨lb, lo + i, none⟩) (fun e => by simp only at e; subst e; exact HS1.out.noint h1) h1).trans h1
      have HC := Lib.hid (fun W h => HV.out sb i (val D t i) W (by omega) rfl h)
      generalize val D t i = x at *
      go_wp2_with (go_at_call 84; refine (HC.out _ HS.out).mono ?_; rintro e w4 ⟨rfl, hs, hf⟩; have HS4 := Lib.hid hs; have HF4 := Lib.hid (HF.out.trans hf); clear hs hf)
      exact ⟨⟨i + 1, by omega, by go_num, HS4, HF4⟩, by simp [Go.RowKit.intOf] <;> omega⟩
    · have HS8 : Hid (SeenB wr sb n D t 8) := Lib.hid (by have := HS.out; rwa [show i = 8 by omega] at this)
      clear HS
      have HX3 : Hid (wr.heap[gb]? = _) := Lib.hid ((HF.out.block gb (Array.getElem?_eq_some_iff.1 HX2.out).1 (by omega)).trans HX2.out)
      have HB3 : Hid (Below w.heap.size w wr) := Lib.hid (HB2.out.trans (HF.out.below (B := w.heap.size) HB2.out.size (fun k hk => by have := HGB.out; omega)))
      have H6 : Hid (val D t 6 = a6) := Lib.hid (by rw [val_top D t (by omega), HT.out]; rfl)
      have H7 : Hid (val D t 7 = a7) := Lib.hid (by rw [val_top D t (by omega), HT.out]; rfl)
      have hlen : D.length = n := HD.out.len
      clear HCL HS1 HF HX2 HB2 HT
      obtain ⟨W4, hW4⟩ : ∃ W4, W4 = wr := ⟨_, rfl⟩
      subst hW4
      go_wp2
      go_loopw [8] (fun v wr2 => ∃ i : Nat, i ≤ 32 ∧ v = .int .i64 i ∧ Hid (SeenB wr2 sb n D t (8 + i)) ∧ Hid (Fr (· = sb) W4 wr2)) (fun v _ => 32 - (Go.RowKit.intOf v).toNat)
      case atStart => exact ⟨0, by omega, rfl, HS8, Fr.refl _ _⟩
      case round =>
        obtain ⟨i, hi, rfl, HS2, HF⟩ := hrel
        have HX4 : Hid (wr.heap[gb]? = _) := Lib.hid ((HF.out.block gb (Array.getElem?_eq_some_iff.1 HX3.out).1 (by omega)).trans HX3.out)
        have HB4 : Hid (Below w.heap.size w wr) := Lib.hid (HB3.out.trans (HF.out.below (B := w.heap.size) HB3.out.size (fun k hk => by have := HGB.out; omega)))
        obtain ⟨d0, d1, d2, d3, d4, d5, d6, d7⟩ := big8 HX4.out
        by_cases hlt : i < 32
        · by_cases h6 : a6 = 0
          · subst h6
            have HS3 : Hid (SeenB wr sb n D t (8 + (i + 1))) := Lib.hid (by
              obtain ⟨T, h⟩ := HS2.out
              refine ⟨T, ?_⟩
              rw [← Nat.add_assoc, seenA_zero]
              · exact h
              · have e6 := H6.out
                rw [val_top D t (by omega)] at e6
                rw [val, if_neg (by omega), if_pos (by omega), vI, if_pos e6])
            clear HS2
            go_wp2
            exact ⟨⟨i + 1, by omega, by go_num, HS3, HF⟩, by simp [Go.RowKit.intOf] <;> omega⟩
          · obtain ⟨q, hq, hq0, hqn⟩ := ptr_nat HR.out (p := 6) (by omega) (by rw [H6.out]; exact h6)
            have e6 := hq.symm.trans H6.out
            subst e6
            obtain ⟨b, off, rb, ro, c', rfl, hcr, hc1, hc2, hrow⟩ := bp_ptr (HD.out.below HB4.out) HR.out.1 (q := q) (by omega)
            obtain ⟨hci, hx0, hx1⟩ := hrow i hlt
            have ev : at2 D (q : Int) i = val D t (8 + i) := by
              have := H6.out
              rw [val_top D t (by omega)] at this
              rw [val, if_neg (by omega), if_pos (by omega), vI, if_neg (by rw [this]; exact h6), this, Nat.add_sub_cancel_left]
            have HC := Lib.hid (fun W h => HV.out sb (8 + i) (at2 D (q : Int) i) W (by omega) ev h)
            generalize at2 D (q : Int) i = x at *
            clear hrow ev hq
            have hb6 : ((q : Int) != 0) = true := by simpa using hq0
            go_wp2_with (go_at_call 84; refine (HC.out _ HS2.out).mono ?_; rintro e w4 ⟨rfl, hs, hf⟩; have HS4 := Lib.hid hs; have HF4 := Lib.hid (HF.out.trans hf); clear hs hf)
            go_roundw
            case rel => exact ⟨i + 1, by omega, by go_num, HS4, HF4⟩
            case measure => simp [Go.RowKit.intOf] <;> omega
        · have HS9 : Hid (SeenB wr sb n D t 40) := Lib.hid (by have := HS2.out; rwa [show 8 + i = 40 by omega] at this)
          clear HS2 HF HS8 HX3 HB3 d0 d1 d2 d3 d4 d5 d6
          obtain ⟨W5, hW5⟩ : ∃ W5, W5 = wr := ⟨_, rfl⟩
          subst hW5
          by_cases h7 : a7 = 0
          · subst h7
            clear HS9 HV HX4
            go_wp2
            go_loopw [9, 10, 11] (fun v _ _ wr2 => v = .int .i64 0 ∧ wr2 = W5) (fun _ _ _ _ => 0)
            case atStart => exact ⟨rfl, rfl⟩
            case round =>
              obtain ⟨rfl, hw⟩ := hrel
              have hw' := hw.symm
              subst hw'
              go_wp2
              go_ret
              exact ⟨rfl, HB4.out⟩
          · obtain ⟨q, hq, hq0, hqn⟩ := ptr_nat HR.out (p := 7) (by omega) (by rw [H7.out]; exact h7)
            have e7 := hq.symm.trans H7.out
            subst e7
            have hb7 : ((q : Int) != 0) = true := by simpa using hq0
            obtain ⟨b, off, rb, ro, c', rfl, hcr, hc1, hc2, hrow⟩ := bp_ptr (HD.out.below HB4.out) HR.out.1 (q := q) (by omega)
            have HROW : Hid (∀ i, i < 32 → W5.cell? ⟨rb, ro + i, none⟩ = some (.int .u8 (val D t (40 + 33 * i))) ∧ 0 ≤ val D t (40 + 33 * i) ∧ val D t (40 + 33 * i) ≤ 255) := Lib.hid (fun i hi => by
              have ev : at2 D (q : Int) i = val D t (40 + 33 * i) := by
                have := H7.out
                rw [val_top D t (by omega)] at this
                rw [val, if_neg (by omega), if_neg (by omega), if_pos (by omega), vD, if_neg (by rw [this]; exact h7), this, show (40 + 33 * i - 40) / 33 = i by omega]
              rw [← ev]
              exact hrow i hi)
            clear hrow hq d7
            go_wp2
            go_loopw [9, 10, 11] (fun v _ _ wr2 => ∃ i : Nat, i ≤ 32 ∧ v = .int .i64 i ∧ Hid (SeenB wr2 sb n D t (40 + 33 * i)) ∧ Hid (Fr (· = sb) W5 wr2)) (fun v _ _ _ => 32 - (Go.RowKit.intOf v).toNat)
            case atStart => exact ⟨0, by omega, rfl, HS9, Fr.refl _ _⟩
            case round =>
              obtain ⟨i, hi, rfl, HS3, HF⟩ := hrel
              have HX5 : Hid (wr.heap[gb]? = _) := Lib.hid ((HF.out.block gb (Array.getElem?_eq_some_iff.1 HX4.out).1 (by omega)).trans HX4.out)
              have HB5 : Hid (Below w.heap.size w wr) := Lib.hid (HB4.out.trans (HF.out.below (B := w.heap.size) HB4.out.size (fun k hk => by have := HGB.out; omega)))
              obtain ⟨d0, d1, d2, d3, d4, d5, d6, d7⟩ := big8 HX5.out
              by_cases hlt : i < 32
              · obtain ⟨hci, hx0, hx1⟩ := HROW.out i hlt
                have hcr2 : wr.cell? ⟨b, off + q, none⟩ = _ := (HF.out.cell (p := ⟨b, off + q, none⟩) (fun e => by simp only at e; subst e; exact HS9.out.nosl hcr) hcr).trans hcr
                have hci2 := (HF.out.cell (p := ⟨rb, ro + i, none⟩) (fun e => by simp only at e; subst e; exact HS9.out.noint hci) hci).trans hci
                have HC := Lib.hid (fun W h => HV.out sb (40 + 33 * i) (val D t (40 + 33 * i)) W (by omega) rfl h)
                clear hci hcr
                by_cases hv : val D t (40 + 33 * i) = 0
                · have HZ : Hid (∀ W, SeenB W sb n D t (40 + 33 * i + 1) → SeenB W sb n D t (40 + 33 * (i + 1))) := Lib.hid (by
                    rintro W ⟨T, h⟩
                    refine ⟨T, ?_⟩
                    rw [show 40 + 33 * (i + 1) = 40 + 33 * i + 1 + 32 by omega, seenA_zeros]
                    · exact h
                    · intro k hk
                      have e2 : vD D t i = 0 := by
                        rw [val, if_neg (by omega), if_neg (by omega), if_pos (by omega), show (40 + 33 * i - 40) / 33 = i by omega] at hv
                        exact hv
                      rw [val, if_neg (by omega), if_neg (by omega), if_neg (by omega), vE, show (40 + 33 * i + 1 + k - 40) / 33 = i by omega, if_pos e2])
                  rw [hv] at HC hci2
                  clear hv hx0 hx1
                  go_upto_region 21 with (go_at_call 84; refine (HC.out _ HS3.out).mono ?_; rintro e w4 ⟨rfl, hs, hf⟩; have HS4 := Lib.hid (HZ.out _ hs); have HF4 := Lib.hid (HF.out.trans hf); clear hs hf)
                  clear HC HS3 HF HX5 HB5 d0 d1 d2 d3 d4 d5 d6 d7 hcr2 hci2
                  go_wp2
                  go_loopw [11] (fun v wr2 => v = .int .i64 0 ∧ wr2 = w4) (fun _ _ => 0)
                  case atStart => exact ⟨rfl, rfl⟩
                  case round =>
                    obtain ⟨rfl, hw⟩ := hrel
                    have hw' := hw.symm
                    subst hw'
                    go_wp2
                    go_roundw
                    case rel => exact ⟨i + 1, by omega, by go_num, HS4, HF4⟩
                    case measure => simp [Go.RowKit.intOf] <;> omega
                · obtain ⟨p, hp, hp0, hpn⟩ := ptr_nat HR.out (p := 40 + 33 * i) (by omega) hv
                  have hbp : ((p : Int) != 0) = true := by simpa using hp0
                  rw [hp] at HC hci2 hx0 hx1
                  obtain ⟨b', off', rb', ro', c2, eA, hcr3, hc3, hc4, hrow⟩ := bp_ptr (HD.out.below HB5.out) HR.out.1 (q := p) (by omega)
                  injection eA with eA; injection eA with eA1 eA2; subst eA1; subst eA2
                  have HROW2 : Hid (∀ k, k < 32 → wr.cell? ⟨rb', ro' + k, none⟩ = some (.int .u8 (val D t (40 + 33 * i + 1 + k))) ∧ 0 ≤ val D t (40 + 33 * i + 1 + k) ∧ val D t (40 + 33 * i + 1 + k) ≤ 255) := Lib.hid (fun k hk => by
                    have ev : at2 D (p : Int) k = val D t (40 + 33 * i + 1 + k) := by
                      have e2 : vD D t i = (p : Int) := by
                        rw [val, if_neg (by omega), if_neg (by omega), if_pos (by omega), show (40 + 33 * i - 40) / 33 = i by omega] at hp
                        exact hp
                      rw [val, if_neg (by omega), if_neg (by omega), if_neg (by omega), vE, show (40 + 33 * i + 1 + k - 40) / 33 = i by omega, e2, if_neg (by omega), show (40 + 33 * i + 1 + k - 40) % 33 - 1 = k by omega]
                    rw [← ev]
                    exact hrow k hk)
                  clear hrow hv hp
                  go_upto_region 21 with (go_at_call 84; refine (HC.out _ HS3.out).mono ?_; rintro e w4 ⟨rfl, hs, hf⟩; have HS4 := Lib.hid hs; have HF4 := Lib.hid hf; clear hs hf)
                  obtain ⟨W6, hW6⟩ : ∃ W6, W6 = wr := ⟨_, rfl⟩
                  subst hW6
                  clear HC d0 d1 d2 d3 d4 d5 d6 d7 hcr2 hci2 HX5
                  go_wp2
                  go_loopw [11] (fun v wr2 => ∃ k : Nat, k ≤ 32 ∧ v = .int .i64 k ∧ Hid (SeenB wr2 sb n D t (40 + 33 * i + 1 + k)) ∧ Hid (Fr (· = sb) W6 wr2)) (fun v _ => 32 - (Go.RowKit.intOf v).toNat)
                  case atStart => exact ⟨0, by omega, rfl, HS4, HF4⟩
                  case round =>
                    obtain ⟨k, hk, rfl, HS5, HF5⟩ := hrel
                    by_cases hlk : k < 32
                    · obtain ⟨hck, hy0, hy1⟩ := HROW2.out k hlk
                      have hcr4 := (HF5.out.cell (p := ⟨b, off + p, none⟩) (fun e => by simp only at e; subst e; exact HS3.out.nosl hcr3) hcr3).trans hcr3
                      have hck2 := (HF5.out.cell (p := ⟨rb', ro' + k, none⟩) (fun e => by simp only at e; subst e; exact HS3.out.noint hck) hck).trans hck
                      have HC := Lib.hid (fun W h => HV.out sb (40 + 33 * i + 1 + k) (val D t (40 + 33 * i + 1 + k)) W (by omega) rfl h)
                      clear hck
                      generalize val D t (40 + 33 * i + 1 + k) = y at *
                      go_wp2_with (go_at_call 84; refine (HC.out _ HS5.out).mono ?_; rintro e w5 ⟨rfl, hs, hf⟩; have HS6 := Lib.hid hs; have HF6 := Lib.hid (HF5.out.trans hf); clear hs hf)
                      go_roundw
                      case rel => exact ⟨k + 1, by omega, by go_num, HS6, HF6⟩
                      case measure => simp [Go.RowKit.intOf] <;> omega
                    · have HS7 : Hid (SeenB wr sb n D t (40 + 33 * (i + 1))) := Lib.hid (by have := HS5.out; rwa [show 40 + 33 * i + 1 + k = 40 + 33 * (i + 1) by omega] at this)
                      have HF7 := Lib.hid (HF.out.trans HF5.out)
                      clear HS5 HF5
                      go_wp2
                      go_roundw
                      case rel => exact ⟨i + 1, by omega, by go_num, HS7, HF7⟩
                      case measure => simp [Go.RowKit.intOf] <;> omega
              · clear HS3 HF HV
                go_wp2
                go_ret
                exact ⟨rfl, HB5.out⟩
end Go.Proofs.Ytcgfoaihfncppaa
/- Walks of big's reference: at. -/
set_option linter.unusedSimpArgs false
set_option linter.unusedVariables false
namespace Go.Proofs.Ytcgfoaihfncppaa
open Go.RowKit Go.Sel Go.Sel.Gra Go.Sel.Bg Go.Sel.Mer Go.Shelf

theorem wayN (k : Nat) : (k < 6 → wayL (k : Int) = [(k : Int)]) ∧ (¬ k < 6 → k < 38 → wayL (k : Int) = [6, ((k - 6 : Nat) : Int)]) ∧ (¬ k < 38 → wayL (k : Int) = [7, (((k - 38) / 32 : Nat) : Int), (((k - 38) % 32 : Nat) : Int)]) := by
  refine ⟨fun h => by rw [wayL, if_pos (by omega)], fun h h2 => ?_, fun h => ?_⟩
  · rw [wayL, if_neg (by omega), if_pos (by omega)]
    congr 2; omega
  · rw [wayL, if_neg (by omega), if_neg (by omega)]
    have e1 : ((k : Int) - 38) / 32 = (((k - 38) / 32 : Nat) : Int) := by omega
    have e2 : ((k : Int) - 38) % 32 = (((k - 38) % 32 : Nat) : Int) := by omega
    rw [e1, e2]
set_option maxRecDepth 100000 in
set_option maxHeartbeats 4000000 in
theorem rat_ok (A : Option Addr) (n c : Nat) (D : List (List Int)) (t : List Int) (k : Nat) (hk : k < 1062) (ht : t.length = 8) (w : World) (hD : Bp w A n c D) (hR : Rt D t) :
    Calls Try.prog 74 #[.slice A n c, bigV t, .int .i64 (k : Int)] w fun e w' => e = .returned (.int .i64 (atK D t k)) ∧ Below w.heap.size w w' := by
  have HD := Lib.hid hD
  have HR := Lib.hid hR
  have hdn := hD.len
  have hn : n ≤ 96 := by rw [← hdn]; exact hR.1.1
  have hl1 := hD.le
  have hl2 := hD.cap
  have HWY := Lib.hid (fun W => rWay_ok (k : Int) (show big (k : Int) by unfold big; omega) W)
  obtain ⟨a0, a1, a2, a3, a4, a5, a6, a7, ht8⟩ := len8 ht
  have hbv : bigV t = .agg #[.int .i64 a0, .int .i64 a1, .int .i64 a2, .int .i64 a3, .int .i64 a4, .int .i64 a5, .int .i64 a6, .int .i64 a7] := by rw [ht8]; rfl
  have H6 : Hid (tp t 6 = a6) := Lib.hid (by rw [ht8]; rfl)
  have H7 : Hid (tp t 7 = a7) := Lib.hid (by rw [ht8]; rfl)
  have HAT := Lib.hid (atK_eq D t hk)
  rw [hbv]
  have hw3 := wayN k
  have HX0 := Lib.hid (blk11 w (.cells #[.int .i64 a0, .int .i64 a1, .int .i64 a2, .int .i64 a3, .int .i64 a4, .int .i64 a5, .int .i64 a6, .int .i64 a7] 36))
  have HB0 := Lib.hid (below_al w (.cells #[.int .i64 a0, .int .i64 a1, .int .i64 a2, .int .i64 a3, .int .i64 a4, .int .i64 a5, .int .i64 a6, .int .i64 a7] 36))
  have hgl := (Array.getElem?_eq_some_iff.1 HX0.out).1
  have HTK : Hid (∀ W : World, W.heap[w.heap.size]? = some (.cells #[.int .i64 a0, .int .i64 a1, .int .i64 a2, .int .i64 a3, .int .i64 a4, .int .i64 a5, .int .i64 a6, .int .i64 a7] 36 (0, 0)) → k < 6 → W.cell? ⟨w.heap.size, k, none⟩ = some (.int .i64 (tp t k))) := Lib.hid (fun W h h6 => by
    rw [blk_cell h, ht8]
    have : k = 0 ∨ k = 1 ∨ k = 2 ∨ k = 3 ∨ k = 4 ∨ k = 5 := by omega
    rcases this with rfl | rfl | rfl | rfl | rfl | rfl <;> rfl)
  clear hD hR ht ht8 hbv
  by_cases h6 : k < 6
  · rw [hw3.1 h6] at HWY
    rw [HAT.out, if_pos h6]
    clear hw3
    go_enter Try.func74, Try.ntmps74
    go_upto_region 1 with (fail)
    generalize w.alloc (.cells #[.int .i64 a0, .int .i64 a1, .int .i64 a2, .int .i64 a3, .int .i64 a4, .int .i64 a5, .int .i64 a6, .int .i64 a7] 36) = W1 at *
    generalize hgb : w.heap.size = gb at *
    have HGB := Lib.hid hgb
    clear hgb
    go_wp2_with (go_at_call 16; refine (HWY.out _).mono ?_; rintro e w2 ⟨⟨Aw, cw, rfl, hw⟩, hB⟩; have hki := HTK.out _ (blk_below HX0.out hB hgl) h6; have hlw := hw.le; have hlc := hw.cap; have HB2 := Lib.hid (by have := HB0.out; rw [← HGB.out] at this; exact below_then this hB); clear hw hB)
    go_ret
    exact ⟨rfl, by have := HB2.out; rwa [HGB.out] at this⟩
  · by_cases h38 : k < 38
    · rw [hw3.2.1 h6 h38] at HWY
      have HAT2 : Hid (atK D t k = if a6 = 0 then 0 else at2 D a6 (k - 6)) := Lib.hid (by rw [HAT.out, if_neg h6, if_pos h38, vI, H6.out])
      clear hw3 HTK HAT
      obtain ⟨j, hj⟩ : ∃ j, j = k - 6 := ⟨_, rfl⟩
      have hj32 : j < 32 := by omega
      have hj32i : (j : Int) < 32 := by omega
      rw [← hj] at HWY HAT2
      clear hj
      go_enter Try.func74, Try.ntmps74
      go_upto_region 1 with (fail)
      generalize w.alloc (.cells #[.int .i64 a0, .int .i64 a1, .int .i64 a2, .int .i64 a3, .int .i64 a4, .int .i64 a5, .int .i64 a6, .int .i64 a7] 36) = W1 at *
      generalize hgb : w.heap.size = gb at *
      have HGB := Lib.hid hgb
      clear hgb
      go_upto_region 2 with (go_at_call 16; refine (HWY.out _).mono ?_; rintro e w2 ⟨⟨Aw, cw, rfl, hw⟩, hB⟩; have HW2 := Lib.hid hw; have HX2 := Lib.hid (blk_below HX0.out hB hgl); have HB2 := Lib.hid (by have := HB0.out; rw [← HGB.out] at this; exact below_then this hB); clear hw hB)
      obtain ⟨ab, ao, rfl, _, hcw⟩ := HW2.out.form (by simp)
      have hcw1 : w2.cell? ⟨ab, ao + 1, none⟩ = some (.int .i64 (j : Int)) := hcw 1 (by simp)
      have hlw := HW2.out.le
      have hlc := HW2.out.cap
      clear hcw HW2 HX0 HB0 HWY hgl
      obtain ⟨d0, d1, d2, d3, d4, d5, d6, d7⟩ := big8 HX2.out
      clear d0 d1 d2 d3 d4 d5 d7
      simp only [List.length_cons, List.length_nil, Nat.zero_add] at hlw hlc ⊢
      by_cases hz : a6 = 0
      · have HAT3 : Hid (atK D t k = 0) := Lib.hid (HAT2.out.trans (if_pos hz))
        subst hz
        have HB3 : Hid (Below w.heap.size w w2.drew) := Lib.hid HB2.out.drew
        go_upto_region 6 with (fail)
        have HS : At (fun w' : World => w'.cell? ⟨gb, 6, none⟩ = some (.int .i64 0)) w2.drew := d6
        refine wp_region_lexD HS [0, 1, 2, 3, 4, 5, 6, 7, 8, 9, 10, 11, 12, 13, 14, 15, 16, 17, 18, 19, 20, 21] (by kernel_rfl) (by kernel_rfl) (fun _ _ d _ _ h => by cases d <;> exact h) ?_
        refine lexD_take (by kernel_rfl) (by kernel_rfl) HS (fun w9 h9 => by obtain s0 := h9; go_simp; first | done | rfl) (fun K hK => ?_); go_simp; refine hK _ ?_; clear hK K
        refine lexD_take (by kernel_rfl) (by kernel_rfl) HS (fun w9 h9 => by obtain s0 := h9; go_simp; first | done | rfl) (fun K hK => ?_); go_simp; refine hK _ ?_; clear hK K
        refine lexD_take (by kernel_rfl) (by kernel_rfl) HS (fun w9 h9 => by obtain s0 := h9; go_simp; first | done | rfl) (fun K hK => ?_); go_simp; refine hK _ ?_; clear hK K
        refine lexD_take (by kernel_rfl) (by kernel_rfl) HS (fun w9 h9 => by obtain s0 := h9; go_simp; first | done | rfl) (fun K hK => ?_); go_simp; refine hK _ ?_; clear hK K
        refine lexD_skip (by kernel_rfl) (by kernel_rfl) HS (fun K hK => ?_); go_simp; refine hK _ ?_; clear hK K
        refine lexD_skip (by kernel_rfl) (by kernel_rfl) HS (fun K hK => ?_); go_simp; refine hK _ ?_; clear hK K
        refine lexD_skip (by kernel_rfl) (by kernel_rfl) HS (fun K hK => ?_); go_simp; refine hK _ ?_; clear hK K
        refine lexD_take (by kernel_rfl) (by kernel_rfl) HS (fun w9 h9 => by obtain s0 := h9; go_simp; first | done | rfl) (fun K hK => ?_); go_simp; refine hK _ ?_; clear hK K
        refine lexD_take (by kernel_rfl) (by kernel_rfl) HS (fun w9 h9 => by obtain s0 := h9; go_simp; first | done | rfl) (fun K hK => ?_); go_simp; refine hK _ ?_; clear hK K
        refine lexD_skip (by kernel_rfl) (by kernel_rfl) HS (fun K hK => ?_); go_simp; refine hK _ ?_; clear hK K
        refine lexD_skip (by kernel_rfl) (by kernel_rfl) HS (fun K hK => ?_); go_simp; refine hK _ ?_; clear hK K
        refine lexD_skip (by kernel_rfl) (by kernel_rfl) HS (fun K hK => ?_); go_simp; refine hK _ ?_; clear hK K
        refine lexD_skip (by kernel_rfl) (by kernel_rfl) HS (fun K hK => ?_); go_simp; refine hK _ ?_; clear hK K
        refine lexD_skip (by kernel_rfl) (by kernel_rfl) HS (fun K hK => ?_); go_simp; refine hK _ ?_; clear hK K
        refine lexD_skip (by kernel_rfl) (by kernel_rfl) HS (fun K hK => ?_); go_simp; refine hK _ ?_; clear hK K
        refine lexD_skip (by kernel_rfl) (by kernel_rfl) HS (fun K hK => ?_); go_simp; refine hK _ ?_; clear hK K
        refine lexD_skip (by kernel_rfl) (by kernel_rfl) HS (fun K hK => ?_); go_simp; refine hK _ ?_; clear hK K
        refine lexD_skip (by kernel_rfl) (by kernel_rfl) HS (fun K hK => ?_); go_simp; refine hK _ ?_; clear hK K
        refine lexD_skip (by kernel_rfl) (by kernel_rfl) HS (fun K hK => ?_); go_simp; refine hK _ ?_; clear hK K
        refine lexD_skip (by kernel_rfl) (by kernel_rfl) HS (fun K hK => ?_); go_simp; refine hK _ ?_; clear hK K
        refine lexD_take (by kernel_rfl) (by kernel_rfl) HS (fun w9 h9 => by obtain s0 := h9; go_simp; first | done | rfl) (fun K hK => ?_); go_simp; refine hK _ ?_; clear hK K
        refine lexD_take (by kernel_rfl) (by kernel_rfl) HS (fun w9 h9 => by obtain s0 := h9; go_simp; first | done | rfl) (fun K hK => ?_); go_simp; refine hK _ ?_; clear hK K
        refine lexD_nil ?_
        go_wp2
        go_ret
        exact ⟨by rw [HAT3.out]; rfl, by have := HB3.out; rwa [HGB.out] at this⟩
      · obtain ⟨q, hq, hq0, hqn⟩ := ptr_nat HR.out (p := 6) (by omega) (by rw [val_top D t (by omega), H6.out]; exact hz)
        have e6 := hq.symm.trans ((val_top D t (by omega)).trans H6.out)
        subst e6
        have hbq : ((q : Int) != 0) = true := by simpa using hq0
        have hqn2 : q < n := by omega
        have HAT3 : Hid (atK D t k = at2 D (q : Int) j) := Lib.hid (HAT2.out.trans (if_neg hz))
        clear HAT2
        obtain ⟨b, off, rb, ro, c', rfl, hcr, hc1, hc2, hrow⟩ := bp_ptr (HD.out.below HB2.out) HR.out.1 (q := q) (by omega)
        obtain ⟨hx, hx0, hx1⟩ := hrow j hj32
        generalize at2 D (q : Int) j = x at *
        clear hrow hq
        have hwr : IntKind.i64.wrap x = x := IntWalk.i64_in _ (by omega)
        go_upto_region 5 with (fail)
        have HS : At (fun w' : World => w'.cell? ⟨gb, 6, none⟩ = some (.int .i64 (q : Int)) ∧ w'.cell? ⟨ab, ao + 1, none⟩ = some (.int .i64 (j : Int)) ∧ w'.cell? ⟨b, off + q, none⟩ = some (.slice (some ⟨rb, ro, none⟩) 32 c') ∧ w'.cell? ⟨rb, ro + j, none⟩ = some (.int .u8 x)) w2.drew := ⟨d6, hcw1, hcr, hx⟩
        have HB3 : Hid (Below w.heap.size w w2.drew) := Lib.hid HB2.out.drew
        refine wp_region_lexD HS [0, 1, 2, 3, 4, 5, 6, 7, 8, 9, 10, 11] (by kernel_rfl) (by kernel_rfl) (fun _ _ d _ _ h => by cases d <;> exact h) ?_
        refine lexD_take (by kernel_rfl) (by kernel_rfl) HS (fun w9 h9 => by obtain ⟨s0, s1, s2, s3⟩ := h9; go_simp; first | done | rfl) (fun K hK => ?_); go_simp; refine hK _ ?_; clear hK K
        refine lexD_take (by kernel_rfl) (by kernel_rfl) HS (fun w9 h9 => by obtain ⟨s0, s1, s2, s3⟩ := h9; go_simp; first | done | rfl) (fun K hK => ?_); go_simp; refine hK _ ?_; clear hK K
        refine lexD_take (by kernel_rfl) (by kernel_rfl) HS (fun w9 h9 => by obtain ⟨s0, s1, s2, s3⟩ := h9; go_simp; first | done | rfl) (fun K hK => ?_); go_simp; refine hK _ ?_; clear hK K
        refine lexD_take (by kernel_rfl) (by kernel_rfl) HS (fun w9 h9 => by obtain ⟨s0, s1, s2, s3⟩ := h9; go_simp; first | done | rfl) (fun K hK => ?_); go_simp; refine hK _ ?_; clear hK K
        refine lexD_take (by kernel_rfl) (by kernel_rfl) HS (fun w9 h9 => by obtain ⟨s0, s1, s2, s3⟩ := h9; go_simp; first | done | rfl) (fun K hK => ?_); go_simp; refine hK _ ?_; clear hK K
        refine lexD_take (by kernel_rfl) (by kernel_rfl) HS (fun w9 h9 => by obtain ⟨s0, s1, s2, s3⟩ := h9; go_simp; first | done | rfl) (fun K hK => ?_); go_simp; refine hK _ ?_; clear hK K
        refine lexD_take (by kernel_rfl) (by kernel_rfl) HS (fun w9 h9 => by obtain ⟨s0, s1, s2, s3⟩ := h9; go_simp; first | done | rfl) (fun K hK => ?_); go_simp; refine hK _ ?_; clear hK K
        refine lexD_take (by kernel_rfl) (by kernel_rfl) HS (fun w9 h9 => by obtain ⟨s0, s1, s2, s3⟩ := h9; go_simp; first | done | rfl) (fun K hK => ?_); go_simp; refine hK _ ?_; clear hK K
        refine lexD_take (by kernel_rfl) (by kernel_rfl) HS (fun w9 h9 => by obtain ⟨s0, s1, s2, s3⟩ := h9; go_simp; first | done | rfl) (fun K hK => ?_); go_simp; refine hK _ ?_; clear hK K
        refine lexD_take (by kernel_rfl) (by kernel_rfl) HS (fun w9 h9 => by obtain ⟨s0, s1, s2, s3⟩ := h9; go_simp; first | done | rfl) (fun K hK => ?_); go_simp; refine hK _ ?_; clear hK K
        refine lexD_take (by kernel_rfl) (by kernel_rfl) HS (fun w9 h9 => by obtain ⟨s0, s1, s2, s3⟩ := h9; go_simp; first | done | rfl) (fun K hK => ?_); go_simp; refine hK _ ?_; clear hK K
        refine lexD_take (by kernel_rfl) (by kernel_rfl) HS (fun w9 h9 => by obtain ⟨s0, s1, s2, s3⟩ := h9; go_simp; first | done | rfl) (fun K hK => ?_); go_simp; refine hK _ ?_; clear hK K
        refine lexD_nil ?_
        go_wp2
        go_ret
        exact ⟨by rw [HAT3.out]; rfl, by have := HB3.out; rwa [HGB.out] at this⟩
    · rw [hw3.2.2 h38] at HWY
      have HAT2 : Hid (atK D t k = vE D t ((k - 38) / 32) ((k - 38) % 32)) := Lib.hid (by rw [HAT.out, if_neg h6, if_neg h38])
      clear hw3 HTK HAT
      obtain ⟨i, hi⟩ : ∃ i, i = (k - 38) / 32 := ⟨_, rfl⟩
      obtain ⟨j, hj⟩ : ∃ j, j = (k - 38) % 32 := ⟨_, rfl⟩
      have hj32 : j < 32 := by omega
      have hj32i : (j : Int) < 32 := by omega
      have hi32 : i < 32 := by omega
      have hi32i : (i : Int) < 32 := by omega
      rw [← hj, ← hi] at HWY HAT2
      clear hj hi
      go_enter Try.func74, Try.ntmps74
      go_upto_region 1 with (fail)
      generalize w.alloc (.cells #[.int .i64 a0, .int .i64 a1, .int .i64 a2, .int .i64 a3, .int .i64 a4, .int .i64 a5, .int .i64 a6, .int .i64 a7] 36) = W1 at *
      generalize hgb : w.heap.size = gb at *
      have HGB := Lib.hid hgb
      clear hgb
      go_upto_region 2 with (go_at_call 16; refine (HWY.out _).mono ?_; rintro e w2 ⟨⟨Aw, cw, rfl, hw⟩, hB⟩; have HW2 := Lib.hid hw; have HX2 := Lib.hid (blk_below HX0.out hB hgl); have HB2 := Lib.hid (by have := HB0.out; rw [← HGB.out] at this; exact below_then this hB); clear hw hB)
      obtain ⟨ab, ao, rfl, _, hcw⟩ := HW2.out.form (by simp)
      have hcw1 : w2.cell? ⟨ab, ao + 1, none⟩ = some (.int .i64 (i : Int)) := hcw 1 (by simp)
      have hcw2 : w2.cell? ⟨ab, ao + 2, none⟩ = some (.int .i64 (j : Int)) := hcw 2 (by simp)
      have hlw := HW2.out.le
      have hlc := HW2.out.cap
      clear hcw HW2 HX0 HB0 HWY hgl
      obtain ⟨d0, d1, d2, d3, d4, d5, d6, d7⟩ := big8 HX2.out
      clear d0 d1 d2 d3 d4 d5 d6
      simp only [List.length_cons, List.length_nil, Nat.zero_add] at hlw hlc ⊢
      have HB3 : Hid (Below w.heap.size w w2.drew) := Lib.hid HB2.out.drew
      have HB4 : Hid (Below w.heap.size w w2.drew.drew) := Lib.hid HB2.out.drew.drew
      by_cases hz : a7 = 0
      · have HAT3 : Hid (atK D t k = 0) := Lib.hid (by rw [HAT2.out, vE, vD, H7.out, if_pos hz, if_pos rfl])
        subst hz
        go_upto_region 6 with (fail)
        have HS : At (fun w' : World => w'.cell? ⟨gb, 7, none⟩ = some (.int .i64 0)) w2.drew := d7
        refine wp_region_lexD HS [0, 1, 2, 3, 4, 5, 6, 7, 8, 9, 10, 11, 12, 13, 14, 15, 16, 17, 18, 19, 20, 21] (by kernel_rfl) (by kernel_rfl) (fun _ _ d _ _ h => by cases d <;> exact h) ?_
        refine lexD_take (by kernel_rfl) (by kernel_rfl) HS (fun w9 h9 => by obtain s0 := h9; go_simp; first | done | rfl) (fun K hK => ?_); go_simp; refine hK _ ?_; clear hK K
        refine lexD_take (by kernel_rfl) (by kernel_rfl) HS (fun w9 h9 => by obtain s0 := h9; go_simp; first | done | rfl) (fun K hK => ?_); go_simp; refine hK _ ?_; clear hK K
        refine lexD_take (by kernel_rfl) (by kernel_rfl) HS (fun w9 h9 => by obtain s0 := h9; go_simp; first | done | rfl) (fun K hK => ?_); go_simp; refine hK _ ?_; clear hK K
        refine lexD_take (by kernel_rfl) (by kernel_rfl) HS (fun w9 h9 => by obtain s0 := h9; go_simp; first | done | rfl) (fun K hK => ?_); go_simp; refine hK _ ?_; clear hK K
        refine lexD_take (by kernel_rfl) (by kernel_rfl) HS (fun w9 h9 => by obtain s0 := h9; go_simp; first | done | rfl) (fun K hK => ?_); go_simp; refine hK _ ?_; clear hK K
        refine lexD_take (by kernel_rfl) (by kernel_rfl) HS (fun w9 h9 => by obtain s0 := h9; go_simp; first | done | rfl) (fun K hK => ?_); go_simp; refine hK _ ?_; clear hK K
        refine lexD_take (by kernel_rfl) (by kernel_rfl) HS (fun w9 h9 => by obtain s0 := h9; go_simp; first | done | rfl) (fun K hK => ?_); go_simp; refine hK _ ?_; clear hK K
        refine lexD_take (by kernel_rfl) (by kernel_rfl) HS (fun w9 h9 => by obtain s0 := h9; go_simp; first | done | rfl) (fun K hK => ?_); go_simp; refine hK _ ?_; clear hK K
        refine lexD_take (by kernel_rfl) (by kernel_rfl) HS (fun w9 h9 => by obtain s0 := h9; go_simp; first | done | rfl) (fun K hK => ?_); go_simp; refine hK _ ?_; clear hK K
        refine lexD_skip (by kernel_rfl) (by kernel_rfl) HS (fun K hK => ?_); go_simp; refine hK _ ?_; clear hK K
        refine lexD_skip (by kernel_rfl) (by kernel_rfl) HS (fun K hK => ?_); go_simp; refine hK _ ?_; clear hK K
        refine lexD_skip (by kernel_rfl) (by kernel_rfl) HS (fun K hK => ?_); go_simp; refine hK _ ?_; clear hK K
        refine lexD_skip (by kernel_rfl) (by kernel_rfl) HS (fun K hK => ?_); go_simp; refine hK _ ?_; clear hK K
        refine lexD_skip (by kernel_rfl) (by kernel_rfl) HS (fun K hK => ?_); go_simp; refine hK _ ?_; clear hK K
        refine lexD_skip (by kernel_rfl) (by kernel_rfl) HS (fun K hK => ?_); go_simp; refine hK _ ?_; clear hK K
        refine lexD_skip (by kernel_rfl) (by kernel_rfl) HS (fun K hK => ?_); go_simp; refine hK _ ?_; clear hK K
        refine lexD_skip (by kernel_rfl) (by kernel_rfl) HS (fun K hK => ?_); go_simp; refine hK _ ?_; clear hK K
        refine lexD_skip (by kernel_rfl) (by kernel_rfl) HS (fun K hK => ?_); go_simp; refine hK _ ?_; clear hK K
        refine lexD_skip (by kernel_rfl) (by kernel_rfl) HS (fun K hK => ?_); go_simp; refine hK _ ?_; clear hK K
        refine lexD_skip (by kernel_rfl) (by kernel_rfl) HS (fun K hK => ?_); go_simp; refine hK _ ?_; clear hK K
        refine lexD_take (by kernel_rfl) (by kernel_rfl) HS (fun w9 h9 => by obtain s0 := h9; go_simp; first | done | rfl) (fun K hK => ?_); go_simp; refine hK _ ?_; clear hK K
        refine lexD_take (by kernel_rfl) (by kernel_rfl) HS (fun w9 h9 => by obtain s0 := h9; go_simp; first | done | rfl) (fun K hK => ?_); go_simp; refine hK _ ?_; clear hK K
        refine lexD_nil ?_
        go_wp2
        go_ret
        exact ⟨by rw [HAT3.out]; rfl, by have := HB3.out; rwa [HGB.out] at this⟩
      · obtain ⟨q, hq, hq0, hqn⟩ := ptr_nat HR.out (p := 7) (by omega) (by rw [val_top D t (by omega), H7.out]; exact hz)
        have e7 := hq.symm.trans ((val_top D t (by omega)).trans H7.out)
        subst e7
        have hbq : ((q : Int) != 0) = true := by simpa using hq0
        have hqn2 : q < n := by omega
        have evD : Hid (vD D t i = at2 D (q : Int) i) := Lib.hid (by rw [vD, H7.out, if_neg hz])
        obtain ⟨b, off, rb, ro, c', rfl, hcr, hc1, hc2, hrow⟩ := bp_ptr (HD.out.below HB2.out) HR.out.1 (q := q) (by omega)
        obtain ⟨hx, hx0, hx1⟩ := hrow i hi32
        clear hrow hq
        have HAT3 : Hid (atK D t k = if at2 D (q : Int) i = 0 then 0 else at2 D (at2 D (q : Int) i) j) := Lib.hid (by rw [HAT2.out, vE, evD.out])
        have hve : Hid (val D t (40 + 33 * i) = at2 D (q : Int) i) := Lib.hid (by rw [val, if_neg (by omega), if_neg (by omega), if_pos (by omega), show (40 + 33 * i - 40) / 33 = i by omega, evD.out])
        have hlt1 : 40 + 33 * i < 1096 := by omega
        clear HAT2 evD
        generalize at2 D (q : Int) i = x at *
        by_cases hxz : x = 0
        · have HAT4 : Hid (atK D t k = 0) := Lib.hid (HAT3.out.trans (if_pos hxz))
          subst hxz
          go_upto_region 6 with (fail)
          have HS : At (fun w' : World => w'.cell? ⟨gb, 7, none⟩ = some (.int .i64 (q : Int)) ∧ w'.cell? ⟨ab, ao + 1, none⟩ = some (.int .i64 (i : Int)) ∧ w'.cell? ⟨b, off + q, none⟩ = some (.slice (some ⟨rb, ro, none⟩) 32 c') ∧ w'.cell? ⟨rb, ro + i, none⟩ = some (.int .u8 0)) w2.drew := ⟨d7, hcw1, hcr, hx⟩
          refine wp_region_lexD HS [0, 1, 2, 3, 4, 5, 6, 7, 8, 9, 10, 11, 12, 13, 14, 15, 16, 17, 18, 19, 20, 21] (by kernel_rfl) (by kernel_rfl) (fun _ _ d _ _ h => by cases d <;> exact h) ?_
          refine lexD_take (by kernel_rfl) (by kernel_rfl) HS (fun w9 h9 => by obtain ⟨s0, s1, s2, s3⟩ := h9; go_simp; first | done | rfl) (fun K hK => ?_); go_simp; refine hK _ ?_; clear hK K
          refine lexD_take (by kernel_rfl) (by kernel_rfl) HS (fun w9 h9 => by obtain ⟨s0, s1, s2, s3⟩ := h9; go_simp; first | done | rfl) (fun K hK => ?_); go_simp; refine hK _ ?_; clear hK K
          refine lexD_take (by kernel_rfl) (by kernel_rfl) HS (fun w9 h9 => by obtain ⟨s0, s1, s2, s3⟩ := h9; go_simp; first | done | rfl) (fun K hK => ?_); go_simp; refine hK _ ?_; clear hK K
          refine lexD_take (by kernel_rfl) (by kernel_rfl) HS (fun w9 h9 => by obtain ⟨s0, s1, s2, s3⟩ := h9; go_simp; first | done | rfl) (fun K hK => ?_); go_simp; refine hK _ ?_; clear hK K
          refine lexD_take (by kernel_rfl) (by kernel_rfl) HS (fun w9 h9 => by obtain ⟨s0, s1, s2, s3⟩ := h9; go_simp; first | done | rfl) (fun K hK => ?_); go_simp; refine hK _ ?_; clear hK K
          refine lexD_take (by kernel_rfl) (by kernel_rfl) HS (fun w9 h9 => by obtain ⟨s0, s1, s2, s3⟩ := h9; go_simp; first | done | rfl) (fun K hK => ?_); go_simp; refine hK _ ?_; clear hK K
          refine lexD_take (by kernel_rfl) (by kernel_rfl) HS (fun w9 h9 => by obtain ⟨s0, s1, s2, s3⟩ := h9; go_simp; first | done | rfl) (fun K hK => ?_); go_simp; refine hK _ ?_; clear hK K
          refine lexD_take (by kernel_rfl) (by kernel_rfl) HS (fun w9 h9 => by obtain ⟨s0, s1, s2, s3⟩ := h9; go_simp; first | done | rfl) (fun K hK => ?_); go_simp; refine hK _ ?_; clear hK K
          refine lexD_take (by kernel_rfl) (by kernel_rfl) HS (fun w9 h9 => by obtain ⟨s0, s1, s2, s3⟩ := h9; go_simp; first | done | rfl) (fun K hK => ?_); go_simp; refine hK _ ?_; clear hK K
          refine lexD_take (by kernel_rfl) (by kernel_rfl) HS (fun w9 h9 => by obtain ⟨s0, s1, s2, s3⟩ := h9; go_simp; first | done | rfl) (fun K hK => ?_); go_simp; refine hK _ ?_; clear hK K
          refine lexD_take (by kernel_rfl) (by kernel_rfl) HS (fun w9 h9 => by obtain ⟨s0, s1, s2, s3⟩ := h9; go_simp; first | done | rfl) (fun K hK => ?_); go_simp; refine hK _ ?_; clear hK K
          refine lexD_take (by kernel_rfl) (by kernel_rfl) HS (fun w9 h9 => by obtain ⟨s0, s1, s2, s3⟩ := h9; go_simp; first | done | rfl) (fun K hK => ?_); go_simp; refine hK _ ?_; clear hK K
          refine lexD_take (by kernel_rfl) (by kernel_rfl) HS (fun w9 h9 => by obtain ⟨s0, s1, s2, s3⟩ := h9; go_simp; first | done | rfl) (fun K hK => ?_); go_simp; refine hK _ ?_; clear hK K
          refine lexD_take (by kernel_rfl) (by kernel_rfl) HS (fun w9 h9 => by obtain ⟨s0, s1, s2, s3⟩ := h9; go_simp; first | done | rfl) (fun K hK => ?_); go_simp; refine hK _ ?_; clear hK K
          refine lexD_take (by kernel_rfl) (by kernel_rfl) HS (fun w9 h9 => by obtain ⟨s0, s1, s2, s3⟩ := h9; go_simp; first | done | rfl) (fun K hK => ?_); go_simp; refine hK _ ?_; clear hK K
          refine lexD_take (by kernel_rfl) (by kernel_rfl) HS (fun w9 h9 => by obtain ⟨s0, s1, s2, s3⟩ := h9; go_simp; first | done | rfl) (fun K hK => ?_); go_simp; refine hK _ ?_; clear hK K
          refine lexD_take (by kernel_rfl) (by kernel_rfl) HS (fun w9 h9 => by obtain ⟨s0, s1, s2, s3⟩ := h9; go_simp; first | done | rfl) (fun K hK => ?_); go_simp; refine hK _ ?_; clear hK K
          refine lexD_take (by kernel_rfl) (by kernel_rfl) HS (fun w9 h9 => by obtain ⟨s0, s1, s2, s3⟩ := h9; go_simp; first | done | rfl) (fun K hK => ?_); go_simp; refine hK _ ?_; clear hK K
          refine lexD_take (by kernel_rfl) (by kernel_rfl) HS (fun w9 h9 => by obtain ⟨s0, s1, s2, s3⟩ := h9; go_simp; first | done | rfl) (fun K hK => ?_); go_simp; refine hK _ ?_; clear hK K
          refine lexD_take (by kernel_rfl) (by kernel_rfl) HS (fun w9 h9 => by obtain ⟨s0, s1, s2, s3⟩ := h9; go_simp; first | done | rfl) (fun K hK => ?_); go_simp; refine hK _ ?_; clear hK K
          refine lexD_take (by kernel_rfl) (by kernel_rfl) HS (fun w9 h9 => by obtain ⟨s0, s1, s2, s3⟩ := h9; go_simp; first | done | rfl) (fun K hK => ?_); go_simp; refine hK _ ?_; clear hK K
          refine lexD_take (by kernel_rfl) (by kernel_rfl) HS (fun w9 h9 => by obtain ⟨s0, s1, s2, s3⟩ := h9; go_simp; first | done | rfl) (fun K hK => ?_); go_simp; refine hK _ ?_; clear hK K
          refine lexD_nil ?_
          go_wp2
          go_ret
          exact ⟨by rw [HAT4.out]; rfl, by have := HB3.out; rwa [HGB.out] at this⟩
        · obtain ⟨p, hp, hp0, hpn⟩ := ptr_nat HR.out (p := 40 + 33 * i) hlt1 (by rw [hve.out]; exact hxz)
          have ex := hp.symm.trans hve.out
          subst ex
          have hbx : ((p : Int) != 0) = true := by simpa using hp0
          have hpn2 : p < n := by omega
          obtain ⟨b', off', rb', ro', c2, eA, hcr3, hc3, hc4, hrow⟩ := bp_ptr (HD.out.below HB2.out) HR.out.1 (q := p) (by omega)
          injection eA with eA; injection eA with eA1 eA2; subst eA1; subst eA2
          obtain ⟨hy, hy0, hy1⟩ := hrow j hj32
          have HAT4 : Hid (atK D t k = at2 D (p : Int) j) := Lib.hid (by rw [HAT3.out, if_neg hxz])
          generalize at2 D (p : Int) j = y at *
          clear hrow hp HAT3 hve
          have hwr : IntKind.i64.wrap y = y := IntWalk.i64_in _ (by omega)
          go_upto_region 6 with (fail)
          have HS : At (fun w' : World => w'.cell? ⟨gb, 7, none⟩ = some (.int .i64 (q : Int)) ∧ w'.cell? ⟨ab, ao + 1, none⟩ = some (.int .i64 (i : Int)) ∧ w'.cell? ⟨b, off + q, none⟩ = some (.slice (some ⟨rb, ro, none⟩) 32 c') ∧ w'.cell? ⟨rb, ro + i, none⟩ = some (.int .u8 (p : Int))) w2.drew := ⟨d7, hcw1, hcr, hx⟩
          have HS2 : At (fun w' : World => w'.cell? ⟨gb, 7, none⟩ = some (.int .i64 (q : Int)) ∧ w'.cell? ⟨ab, ao + 1, none⟩ = some (.int .i64 (i : Int)) ∧ w'.cell? ⟨b, off + q, none⟩ = some (.slice (some ⟨rb, ro, none⟩) 32 c') ∧ w'.cell? ⟨rb, ro + i, none⟩ = some (.int .u8 (p : Int)) ∧ w'.cell? ⟨b, off + p, none⟩ = some (.slice (some ⟨rb', ro', none⟩) 32 c2) ∧ w'.cell? ⟨ab, ao + 2, none⟩ = some (.int .i64 (j : Int)) ∧ w'.cell? ⟨rb', ro' + j, none⟩ = some (.int .u8 y)) w2.drew.drew := ⟨d7, hcw1, hcr, hx, hcr3, hcw2, hy⟩
          refine wp_region_lexD HS [0, 1, 2, 3, 4, 5, 6, 7, 8, 9, 10, 11, 12, 13, 14, 15, 16, 17, 18, 19, 20, 21] (by kernel_rfl) (by kernel_rfl) (fun _ _ d _ _ h => by cases d <;> exact h) ?_
          refine lexD_take (by kernel_rfl) (by kernel_rfl) HS (fun w9 h9 => by obtain ⟨s0, s1, s2, s3⟩ := h9; go_simp; first | done | rfl) (fun K hK => ?_); go_simp; refine hK _ ?_; clear hK K
          refine lexD_take (by kernel_rfl) (by kernel_rfl) HS (fun w9 h9 => by obtain ⟨s0, s1, s2, s3⟩ := h9; go_simp; first | done | rfl) (fun K hK => ?_); go_simp; refine hK _ ?_; clear hK K
          refine lexD_take (by kernel_rfl) (by kernel_rfl) HS (fun w9 h9 => by obtain ⟨s0, s1, s2, s3⟩ := h9; go_simp; first | done | rfl) (fun K hK => ?_); go_simp; refine hK _ ?_; clear hK K
          refine lexD_take (by kernel_rfl) (by kernel_rfl) HS (fun w9 h9 => by obtain ⟨s0, s1, s2, s3⟩ := h9; go_simp; first | done | rfl) (fun K hK => ?_); go_simp; refine hK _ ?_; clear hK K
          refine lexD_take (by kernel_rfl) (by kernel_rfl) HS (fun w9 h9 => by obtain ⟨s0, s1, s2, s3⟩ := h9; go_simp; first | done | rfl) (fun K hK => ?_); go_simp; refine hK _ ?_; clear hK K
          refine lexD_take (by kernel_rfl) (by kernel_rfl) HS (fun w9 h9 => by obtain ⟨s0, s1, s2, s3⟩ := h9; go_simp; first | done | rfl) (fun K hK => ?_); go_simp; refine hK _ ?_; clear hK K
          refine lexD_take (by kernel_rfl) (by kernel_rfl) HS (fun w9 h9 => by obtain ⟨s0, s1, s2, s3⟩ := h9; go_simp; first | done | rfl) (fun K hK => ?_); go_simp; refine hK _ ?_; clear hK K
          refine lexD_take (by kernel_rfl) (by kernel_rfl) HS (fun w9 h9 => by obtain ⟨s0, s1, s2, s3⟩ := h9; go_simp; first | done | rfl) (fun K hK => ?_); go_simp; refine hK _ ?_; clear hK K
          refine lexD_take (by kernel_rfl) (by kernel_rfl) HS (fun w9 h9 => by obtain ⟨s0, s1, s2, s3⟩ := h9; go_simp; first | done | rfl) (fun K hK => ?_); go_simp; refine hK _ ?_; clear hK K
          refine lexD_take (by kernel_rfl) (by kernel_rfl) HS (fun w9 h9 => by obtain ⟨s0, s1, s2, s3⟩ := h9; go_simp; first | done | rfl) (fun K hK => ?_); go_simp; refine hK _ ?_; clear hK K
          refine lexD_take (by kernel_rfl) (by kernel_rfl) HS (fun w9 h9 => by obtain ⟨s0, s1, s2, s3⟩ := h9; go_simp; first | done | rfl) (fun K hK => ?_); go_simp; refine hK _ ?_; clear hK K
          refine lexD_take (by kernel_rfl) (by kernel_rfl) HS (fun w9 h9 => by obtain ⟨s0, s1, s2, s3⟩ := h9; go_simp; first | done | rfl) (fun K hK => ?_); go_simp; refine hK _ ?_; clear hK K
          refine lexD_take (by kernel_rfl) (by kernel_rfl) HS (fun w9 h9 => by obtain ⟨s0, s1, s2, s3⟩ := h9; go_simp; first | done | rfl) (fun K hK => ?_); go_simp; refine hK _ ?_; clear hK K
          refine lexD_take (by kernel_rfl) (by kernel_rfl) HS (fun w9 h9 => by obtain ⟨s0, s1, s2, s3⟩ := h9; go_simp; first | done | rfl) (fun K hK => ?_); go_simp; refine hK _ ?_; clear hK K
          refine lexD_take (by kernel_rfl) (by kernel_rfl) HS (fun w9 h9 => by obtain ⟨s0, s1, s2, s3⟩ := h9; go_simp; first | done | rfl) (fun K hK => ?_); go_simp; refine hK _ ?_; clear hK K
          refine lexD_take (by kernel_rfl) (by kernel_rfl) HS (fun w9 h9 => by obtain ⟨s0, s1, s2, s3⟩ := h9; go_simp; first | done | rfl) (fun K hK => ?_); go_simp; refine hK _ ?_; clear hK K
          refine lexD_take (by kernel_rfl) (by kernel_rfl) HS (fun w9 h9 => by obtain ⟨s0, s1, s2, s3⟩ := h9; go_simp; first | done | rfl) (fun K hK => ?_); go_simp; refine hK _ ?_; clear hK K
          refine lexD_take (by kernel_rfl) (by kernel_rfl) HS (fun w9 h9 => by obtain ⟨s0, s1, s2, s3⟩ := h9; go_simp; first | done | rfl) (fun K hK => ?_); go_simp; refine hK _ ?_; clear hK K
          refine lexD_take (by kernel_rfl) (by kernel_rfl) HS (fun w9 h9 => by obtain ⟨s0, s1, s2, s3⟩ := h9; go_simp; first | done | rfl) (fun K hK => ?_); go_simp; refine hK _ ?_; clear hK K
          refine lexD_take (by kernel_rfl) (by kernel_rfl) HS (fun w9 h9 => by obtain ⟨s0, s1, s2, s3⟩ := h9; go_simp; first | done | rfl) (fun K hK => ?_); go_simp; refine hK _ ?_; clear hK K
          refine lexD_take (by kernel_rfl) (by kernel_rfl) HS (fun w9 h9 => by obtain ⟨s0, s1, s2, s3⟩ := h9; go_simp; first | done | rfl) (fun K hK => ?_); go_simp; refine hK _ ?_; clear hK K
          refine lexD_take (by kernel_rfl) (by kernel_rfl) HS (fun w9 h9 => by obtain ⟨s0, s1, s2, s3⟩ := h9; go_simp; first | done | rfl) (fun K hK => ?_); go_simp; refine hK _ ?_; clear hK K
          refine lexD_nil ?_
          go_upto_region 7 with (fail)
          refine wp_region_lexD HS2 [0, 1, 2, 3, 4, 5, 6, 7, 8, 9, 10, 11, 12, 13, 14, 15, 16, 17, 18, 19] (by kernel_rfl) (by kernel_rfl) (fun _ _ d _ _ h => by cases d <;> exact h) ?_
          refine lexD_take (by kernel_rfl) (by kernel_rfl) HS2 (fun w9 h9 => by obtain ⟨s0, s1, s2, s3, s4, s5, s6⟩ := h9; go_simp; first | done | rfl) (fun K hK => ?_); go_simp; refine hK _ ?_; clear hK K
          refine lexD_take (by kernel_rfl) (by kernel_rfl) HS2 (fun w9 h9 => by obtain ⟨s0, s1, s2, s3, s4, s5, s6⟩ := h9; go_simp; first | done | rfl) (fun K hK => ?_); go_simp; refine hK _ ?_; clear hK K
          refine lexD_take (by kernel_rfl) (by kernel_rfl) HS2 (fun w9 h9 => by obtain ⟨s0, s1, s2, s3, s4, s5, s6⟩ := h9; go_simp; first | done | rfl) (fun K hK => ?_); go_simp; refine hK _ ?_; clear hK K
          refine lexD_take (by kernel_rfl) (by kernel_rfl) HS2 (fun w9 h9 => by obtain ⟨s0, s1, s2, s3, s4, s5, s6⟩ := h9; go_simp; first | done | rfl) (fun K hK => ?_); go_simp; refine hK _ ?_; clear hK K
          refine lexD_take (by kernel_rfl) (by kernel_rfl) HS2 (fun w9 h9 => by obtain ⟨s0, s1, s2, s3, s4, s5, s6⟩ := h9; go_simp; first | done | rfl) (fun K hK => ?_); go_simp; refine hK _ ?_; clear hK K
          refine lexD_take (by kernel_rfl) (by kernel_rfl) HS2 (fun w9 h9 => by obtain ⟨s0, s1, s2, s3, s4, s5, s6⟩ := h9; go_simp; first | done | rfl) (fun K hK => ?_); go_simp; refine hK _ ?_; clear hK K
          refine lexD_take (by kernel_rfl) (by kernel_rfl) HS2 (fun w9 h9 => by obtain ⟨s0, s1, s2, s3, s4, s5, s6⟩ := h9; go_simp; first | done | rfl) (fun K hK => ?_); go_simp; refine hK _ ?_; clear hK K
          refine lexD_take (by kernel_rfl) (by kernel_rfl) HS2 (fun w9 h9 => by obtain ⟨s0, s1, s2, s3, s4, s5, s6⟩ := h9; go_simp; first | done | rfl) (fun K hK => ?_); go_simp; refine hK _ ?_; clear hK K
          refine lexD_take (by kernel_rfl) (by kernel_rfl) HS2 (fun w9 h9 => by obtain ⟨s0, s1, s2, s3, s4, s5, s6⟩ := h9; go_simp; first | done | rfl) (fun K hK => ?_); go_simp; refine hK _ ?_; clear hK K
          refine lexD_take (by kernel_rfl) (by kernel_rfl) HS2 (fun w9 h9 => by obtain ⟨s0, s1, s2, s3, s4, s5, s6⟩ := h9; go_simp; first | done | rfl) (fun K hK => ?_); go_simp; refine hK _ ?_; clear hK K
          refine lexD_take (by kernel_rfl) (by kernel_rfl) HS2 (fun w9 h9 => by obtain ⟨s0, s1, s2, s3, s4, s5, s6⟩ := h9; go_simp; first | done | rfl) (fun K hK => ?_); go_simp; refine hK _ ?_; clear hK K
          refine lexD_take (by kernel_rfl) (by kernel_rfl) HS2 (fun w9 h9 => by obtain ⟨s0, s1, s2, s3, s4, s5, s6⟩ := h9; go_simp; first | done | rfl) (fun K hK => ?_); go_simp; refine hK _ ?_; clear hK K
          refine lexD_take (by kernel_rfl) (by kernel_rfl) HS2 (fun w9 h9 => by obtain ⟨s0, s1, s2, s3, s4, s5, s6⟩ := h9; go_simp; first | done | rfl) (fun K hK => ?_); go_simp; refine hK _ ?_; clear hK K
          refine lexD_take (by kernel_rfl) (by kernel_rfl) HS2 (fun w9 h9 => by obtain ⟨s0, s1, s2, s3, s4, s5, s6⟩ := h9; go_simp; first | done | rfl) (fun K hK => ?_); go_simp; refine hK _ ?_; clear hK K
          refine lexD_take (by kernel_rfl) (by kernel_rfl) HS2 (fun w9 h9 => by obtain ⟨s0, s1, s2, s3, s4, s5, s6⟩ := h9; go_simp; first | done | rfl) (fun K hK => ?_); go_simp; refine hK _ ?_; clear hK K
          refine lexD_take (by kernel_rfl) (by kernel_rfl) HS2 (fun w9 h9 => by obtain ⟨s0, s1, s2, s3, s4, s5, s6⟩ := h9; go_simp; first | done | rfl) (fun K hK => ?_); go_simp; refine hK _ ?_; clear hK K
          refine lexD_take (by kernel_rfl) (by kernel_rfl) HS2 (fun w9 h9 => by obtain ⟨s0, s1, s2, s3, s4, s5, s6⟩ := h9; go_simp; first | done | rfl) (fun K hK => ?_); go_simp; refine hK _ ?_; clear hK K
          refine lexD_take (by kernel_rfl) (by kernel_rfl) HS2 (fun w9 h9 => by obtain ⟨s0, s1, s2, s3, s4, s5, s6⟩ := h9; go_simp; first | done | rfl) (fun K hK => ?_); go_simp; refine hK _ ?_; clear hK K
          refine lexD_take (by kernel_rfl) (by kernel_rfl) HS2 (fun w9 h9 => by obtain ⟨s0, s1, s2, s3, s4, s5, s6⟩ := h9; go_simp; first | done | rfl) (fun K hK => ?_); go_simp; refine hK _ ?_; clear hK K
          refine lexD_take (by kernel_rfl) (by kernel_rfl) HS2 (fun w9 h9 => by obtain ⟨s0, s1, s2, s3, s4, s5, s6⟩ := h9; go_simp; first | done | rfl) (fun K hK => ?_); go_simp; refine hK _ ?_; clear hK K
          refine lexD_nil ?_
          go_wp2
          go_ret
          exact ⟨by rw [HAT4.out]; rfl, by have := HB4.out; rwa [HGB.out] at this⟩
end Go.Proofs.Ytcgfoaihfncppaa
