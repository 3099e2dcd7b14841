/- Six ints are the same as themselves. -/
import Derived.Test.YtcgfoaihfncppaaKBgCe
import Derived.ChangeKeysEq
import Derived.Test.YtcgfoaihfncppaaKBgCv
import Derived.Test.YtcgfoaihfncppaaKBhV
import Derived.Test.YtcgfoaihfncppaaKBhw0
import Derived.Test.YtcgfoaihfncppaaKBhT
set_option linter.unusedSimpArgs false
set_option linter.unusedVariables false
namespace Go.Proofs.Ytcgfoaihfncppaa
open Go.RowKit Go.Sel Go.Sel.Gra Go.Sel.Bg Go.Sel.Mer Go.Shelf

set_option maxRecDepth 100000 in
theorem eq6_same (x0 x1 x2 x3 x4 x5 : Int) (W : World) : (Op.equalIn 9999 34 (.agg #[.int .i64 x0, .int .i64 x1, .int .i64 x2, .int .i64 x3, .int .i64 x4, .int .i64 x5]) (.agg #[.int .i64 x0, .int .i64 x1, .int .i64 x2, .int .i64 x3, .int .i64 x4, .int .i64 x5])).run Try.prog W = .ok true W := by
  obtain ⟨i, hi⟩ : ∃ i, Try.prog.info? 3 = some i := ⟨_, rfl⟩
  have hc : Try.prog.cellsOf 3 = 1 := by kernel_rfl
  have hp : ∀ j (h : j < 6), ∀ W, (part 3 #[.int .i64 x0, .int .i64 x1, .int .i64 x2, .int .i64 x3, .int .i64 x4, .int .i64 x5] j).run Try.prog W = .ok (#[Value.int .i64 x0, .int .i64 x1, .int .i64 x2, .int .i64 x3, .int .i64 x4, .int .i64 x5][j]'(by simpa using h)) W := fun j h W => by
    have : j = 0 ∨ j = 1 ∨ j = 2 ∨ j = 3 ∨ j = 4 ∨ j = 5 := by omega
    rcases this with rfl | rfl | rfl | rfl | rfl | rfl <;> rfl
  have he : ∀ (d : Nat) (a : Int) W, (Op.equalIn (d + 1) 3 (.int .i64 a) (.int .i64 a)).run Try.prog W = .ok true W := fun d a W => by
    simp [Op.equalIn, run_underlying Try.underlying3]
  have r6 : List.range 6 = [0, 1, 2, 3, 4, 5] := rfl
  have := run_equalIn_array (P := Try.prog) (w := W) 9998 (t := 34) #[.int .i64 x0, .int .i64 x1, .int .i64 x2, .int .i64 x3, .int .i64 x4, .int .i64 x5] #[.int .i64 x0, .int .i64 x1, .int .i64 x2, .int .i64 x3, .int .i64 x4, .int .i64 x5] Try.underlying34 hi
  rw [this, r6, hc]
  have h9 : ∀ (a : Int) W, (Op.equalIn 9998 3 (.int .i64 a) (.int .i64 a)).run Try.prog W = .ok true W := fun a W => he 9997 a W
  simp only [Op.eqItems, Sem.run_bind, Nat.mul_one, Nat.zero_mul, Nat.one_mul, hp 0 (by omega), hp 1 (by omega), hp 2 (by omega), hp 3 (by omega), hp 4 (by omega), hp 5 (by omega), Result.andThen_ok, h9, Bool.not_true, Bool.false_eq_true, if_false]
  simp [h9, hp 0 (by omega), hp 1 (by omega), hp 2 (by omega), hp 3 (by omega), hp 4 (by omega), hp 5 (by omega)]
end Go.Proofs.Ytcgfoaihfncppaa
/- Walk of BigEmpty (printed by gen_bhx.py). -/
set_option linter.unusedSimpArgs false
set_option linter.unusedVariables false
namespace Go.Proofs.Ytcgfoaihfncppaa
open Go.RowKit Go.Sel Go.Sel.Gra Go.Sel.Bg Go.Sel.Mer Go.Shelf

set_option maxRecDepth 100000 in
set_option maxHeartbeats 4000000 in
theorem law_BigEmpty (A : Option Addr) (n c : Nat) (L : List Pu) (o : Int) (w : World) (hL : Pd w A n c L) (ho0 : 0 ≤ o) (ho1 : o ≤ 65535) :
    Calls Try.prog 7 #[.slice A n c, .int .u16 o] w fun e w' => e = .returned (.bool true) ∧ Below w.heap.size w w' := by
  have HMD := Lib.hid (fun W (h : Pd W A n c L) => made_any A n c L W h)
  have HL := Lib.hid hL
  have hl1 := hL.rd.le
  have hl2 := hL.rd.cap
  have et3 : o.tmod 1063 = o % 1063 := Int.tmod_eq_emod_of_nonneg ho0
  obtain ⟨k, hk⟩ : ∃ k : Nat, o % 1063 = (k : Int) := ⟨(o % 1063).toNat, by omega⟩
  have hk1 : k ≤ 1062 := by omega
  clear hL
  go_enter Try.func7, Try.ntmps7
  go_upto_region 1 with (fail)
  have HBR : Hid (Below w.heap.size w w) := Lib.hid (Below.refl _ _)
  go_upto_region 2 with (go_at_call 12; refine (HMD.out _ HL.out).mono ?_; rintro e w1 ⟨⟨A2, c2, D, t, rfl, hM, hD⟩, hB⟩; obtain ⟨a0, a1, a2, a3, a4, a5, a6, a7, ht8⟩ := len8 hM.len; have HT8 := Lib.hid ht8; rw [show bigV t = .agg #[.int .i64 a0, .int .i64 a1, .int .i64 a2, .int .i64 a3, .int .i64 a4, .int .i64 a5, .int .i64 a6, .int .i64 a7] from by rw [ht8]; rfl]; have HF := Lib.hid (laid_file HBR.out hB (t := t) (o := (.cells #[.int .i64 a0, .int .i64 a1, .int .i64 a2, .int .i64 a3, .int .i64 a4, .int .i64 a5, .int .i64 a6, .int .i64 a7] 36)) (by rw [ht8]; rfl)); have HM := Lib.hid hM; have HD := Lib.hid (hD.below (below_al w1 (.cells #[.int .i64 a0, .int .i64 a1, .int .i64 a2, .int .i64 a3, .int .i64 a4, .int .i64 a5, .int .i64 a6, .int .i64 a7] 36))); clear hM hD hB ht8)
  have HX1 := Lib.hid HF.out.1
  have HB1 := Lib.hid HF.out.2.1
  clear HF HBR HMD
  generalize w1.alloc (.cells #[.int .i64 a0, .int .i64 a1, .int .i64 a2, .int .i64 a3, .int .i64 a4, .int .i64 a5, .int .i64 a6, .int .i64 a7] 36) = W1 at *
  obtain ⟨fb, HFB⟩ : ∃ fb, Hid (w1.heap.size = fb) := ⟨_, rfl⟩
  rw [HFB.out] at HX1 ⊢
  have htl := HM.out.len
  have hrt := HM.out.rt
  have hk0 : ∀ p, p < 1062 → atK D t p ≠ 0 → 0 ≤ p := fun _ _ _ => Nat.zero_le _
  have HALL := Lib.hid (fun W (h : Bp W A2 60 c2 D) => All_ok A2 60 c2 D t htl W h hrt)
  have HINN := Lib.hid (fun W (h : Bp W A2 60 c2 D) => Inner_ok A2 60 c2 D t htl W h hrt)
  have hr0 := cutL_right hrt htl 0
  have hrk := cutL_right hrt htl k
  have HC0 := Lib.hid (fun W (h : Bp W A2 60 c2 D) => Cut_ok A2 60 c2 D t 0 (by omega) htl hr0.2.1 W h hrt)
  have HCK := Lib.hid (fun W (h : Bp W A2 60 c2 D) => Cut_ok A2 60 c2 D t k hk1 htl hrk.2.1 W h hrt)
  have HZ0 := Lib.hid (cut0_zero HM.out)
  have HW0 := Lib.hid hr0.1.1
  have hl0 := (cutL_none hrt htl 0 hk0).1
  have hf0 := cutL_free hrt htl 0 hk0
  rw [hl0, hf0] at HC0
  have HPL : Hid (∀ x ∈ plL (cutL D t k).out (cutL D t k).l, x < (k : Int)) := Lib.hid (fun x hx => by
    obtain ⟨p, hp, hne, rfl⟩ := mem_plL.1 hx
    rw [hrk.2.2 p hp] at hne
    split at hne
    · exact absurd rfl hne
    · omega)
  have hbl0 : (blL D t).length = (plL D t).length := blL_len D t
  have hpl96 := plL_len hrt
  have hil : (inL D t).length ≤ 34 := by rw [inL, List.length_map]; exact innD_len D t
  have HRK := Lib.hid hrk.1
  have hlk := hrk.2.1
  have hpk96 := plL_len hrk.1
  generalize (cutL D t k).out = DK at *
  generalize (cutL D t k).l = tK at *
  generalize (cutL D t k).free = fK at *
  have HALK := Lib.hid (fun (A3 : Option Addr) (c3 : Nat) W (h : Bp W A3 60 c3 DK) => All_ok A3 60 c3 DK tK hlk W h HRK.out)
  have HRTK := Lib.hid (fun (A3 : Option Addr) (c3 : Nat) W (h : Bp W A3 60 c3 DK) => Right_ok A3 60 c3 DK tK hlk W h HRK.out)
  obtain ⟨z0, z1, z2, z3, z4, z5, z6, z7, hzk⟩ := len8 hlk
  have HZK8 := Lib.hid hzk
  have hbv : bigV t = .agg #[.int .i64 a0, .int .i64 a1, .int .i64 a2, .int .i64 a3, .int .i64 a4, .int .i64 a5, .int .i64 a6, .int .i64 a7] := by rw [HT8.out]; rfl
  have hbk : bigV tK = .agg #[.int .i64 z0, .int .i64 z1, .int .i64 z2, .int .i64 z3, .int .i64 z4, .int .i64 z5, .int .i64 z6, .int .i64 z7] := by rw [hzk]; rfl
  have hb0 : bigV [0, 0, 0, 0, 0, 0, 0, 0] = .agg #[.int .i64 0, .int .i64 0, .int .i64 0, .int .i64 0, .int .i64 0, .int .i64 0, .int .i64 0, .int .i64 0] := rfl
  rw [hbv] at HALL HINN HC0 HCK
  rw [hb0] at HC0
  rw [hbk] at HCK HALK HRTK
  have hx1 : W1.heap[fb]? = some (.cells #[.int .i64 a0, .int .i64 a1, .int .i64 a2, .int .i64 a3, .int .i64 a4, .int .i64 a5, .int .i64 a6, .int .i64 a7] 36 (0, 0)) := by have := HX1.out; unfold boxB at this; rw [HT8.out] at this; exact this
  have HV1 := Lib.hid hx1
  generalize (cutL D t 0).out = D0 at *
  clear hr0 hrk hk0 hl0 hf0 hzk hlk hbv hbk hb0 hrt htl HX1 hx1
  generalize (plL D t).length = np at *
  generalize (inL D t).length = ni at *
  obtain ⟨d0, d1, d2, d3, d4, d5, d6, d7⟩ := big8 HV1.out
  go_upto_region 3 with (go_at_call 22; refine (HALL.out _ HD.out).mono ?_; rintro e w2 ⟨⟨A3, c3, A4, c4, rfl, h3, h4⟩, hB⟩; have hq3 := h3.le; have hq3c := h3.cap; have hq4 := h4.le; have hq4c := h4.cap; have HD2 := Lib.hid (HD.out.below hB); have HV2 := Lib.hid (blk_below HV1.out hB (Array.getElem?_eq_some_iff.1 HV1.out).1); have HB2 := Lib.hid (below_then HB1.out hB); clear h3 h4 hB)
  clear d0 d1 d2 d3 d4 d5 d6 d7 HD HV1 HB1 HALL
  obtain ⟨d0, d1, d2, d3, d4, d5, d6, d7⟩ := big8 HV2.out
  go_upto_region 4 with (go_at_call 25; refine (HINN.out _ HD2.out).mono ?_; rintro e w3 ⟨⟨A5, c5, rfl, h5⟩, hB⟩; have hq5 := h5.le; have hq5c := h5.cap; have HD3 := Lib.hid (HD2.out.below hB); have HV3 := Lib.hid (blk_below HV2.out hB (Array.getElem?_eq_some_iff.1 HV2.out).1); have HB3 := Lib.hid (below_then HB2.out hB); clear h5 hB)
  clear d0 d1 d2 d3 d4 d5 d6 d7 HD2 HV2 HB2 HINN
  obtain ⟨d0, d1, d2, d3, d4, d5, d6, d7⟩ := big8 HV3.out
  go_upto_region 5 with (go_at_call 26; refine (HC0.out _ HD3.out).mono ?_; rintro e w4 ⟨⟨g, c6, gs, A7, c7, rfl, h6, h7⟩, hB⟩; have hq7 := h7.le; have hq7c := h7.cap; have HF := Lib.hid (laid_file HB3.out hB (t := [0, 0, 0, 0, 0, 0, 0, 0]) (o := .cells #[.int .i64 0, .int .i64 0, .int .i64 0, .int .i64 0, .int .i64 0, .int .i64 0, .int .i64 0, .int .i64 0] 36) rfl); have HW4 := Lib.hid (h6.bp.below (below_al w4 (.cells #[.int .i64 0, .int .i64 0, .int .i64 0, .int .i64 0, .int .i64 0, .int .i64 0, .int .i64 0, .int .i64 0] 36))); have HD4 := Lib.hid (HD3.out.below HF.out.2.2); have HV4 := Lib.hid (blk_below HV3.out HF.out.2.2 (Array.getElem?_eq_some_iff.1 HV3.out).1); clear h6 h7 hB)
  clear d0 d1 d2 d3 d4 d5 d6 d7 HD3 HV3 HB3 HC0
  have HY4 : Hid ((w4.alloc (.cells #[.int .i64 0, .int .i64 0, .int .i64 0, .int .i64 0, .int .i64 0, .int .i64 0, .int .i64 0, .int .i64 0] 36)).heap[w4.heap.size]? = some (.cells #[.int .i64 0, .int .i64 0, .int .i64 0, .int .i64 0, .int .i64 0, .int .i64 0, .int .i64 0, .int .i64 0] 36 (0, 0))) := Lib.hid HF.out.1
  have HB4 := Lib.hid HF.out.2.1
  clear HF
  generalize w4.alloc (.cells #[.int .i64 0, .int .i64 0, .int .i64 0, .int .i64 0, .int .i64 0, .int .i64 0, .int .i64 0, .int .i64 0] 36) = W4 at *
  obtain ⟨hb, HHB⟩ : ∃ hb, Hid (w4.heap.size = hb) := ⟨_, rfl⟩
  rw [HHB.out] at HY4 ⊢
  have hq6 := eq6_same 0 0 0 0 0 0
  have hsum : ((np + ni : Nat) : Int) = (np : Int) + (ni : Int) := by omega
  have hg1 := HW4.out.le
  have hg2 := HW4.out.cap
  obtain ⟨e0, e1, e2, e3, e4, e5, e6, e7⟩ := big8 HY4.out
  go_upto_region 7 with (fail)
  clear e0 e1 e2 e3 e4 e5 e6 e7 HY4 hq6 hsum
  have HROW : Hid (∀ q, q < 60 → ∃ rb ro cr, W4.cell? ⟨g, q, none⟩ = some (.slice (some ⟨rb, ro, none⟩) 32 cr) ∧ 32 ≤ cr ∧ cr ≤ 9223372036854775807 ∧ ∀ i, i < 32 → W4.cell? ⟨rb, ro + i, none⟩ = some (.int .u8 0)) := Lib.hid (fun q hq => by
    obtain ⟨b, off, rb, ro, cr, eA, h1, h2, h3, h4⟩ := bp_ptr HW4.out HW0.out hq
    injection eA with eA; injection eA with e1 e2; subst e1; subst e2
    refine ⟨rb, ro, cr, by rw [← h1]; simp, h2, h3, fun i hi => ?_⟩
    have h5 := (h4 i hi).1
    have h6 : at2 D0 (q : Int) i = 0 := HZ0.out q hq i hi
    rw [h6] at h5
    exact h5)
  clear HZ0 HW0 HW4
  obtain ⟨W5, hW5⟩ : ∃ W5, W5 = W4 := ⟨_, rfl⟩
  subst hW5
  go_wp2
  go_loopw [16, 17] (fun v _ wr => ∃ q : Nat, q ≤ 60 ∧ v = .int .i64 q ∧ wr = W5) (fun v _ _ => 60 - (Go.RowKit.intOf v).toNat)
  case atStart => exact ⟨0, by omega, rfl, rfl⟩
  case round =>
    obtain ⟨q, hq, rfl, hw⟩ := hrel
    have hw' := hw.symm
    subst hw'
    by_cases hlt : q < 60
    · obtain ⟨rb, ro, cr, hc1, hc2, hc3, hc4⟩ := HROW.out q hlt
      have HC4 := Lib.hid hc4
      clear hc4
      go_wp2
      go_loopw [17] (fun v wr => ∃ i : Nat, i ≤ 32 ∧ v = .int .i64 i ∧ wr = W5) (fun v _ => 32 - (Go.RowKit.intOf v).toNat)
      case atStart => exact ⟨0, by omega, rfl, rfl⟩
      case round =>
        obtain ⟨i, hi, rfl, hw⟩ := hrel
        have hw' := hw.symm
        subst hw'
        by_cases hli : i < 32
        · have hci := HC4.out i hli
          go_wp2
          exact ⟨⟨i + 1, by omega, by go_num, trivial⟩, by simp [Go.RowKit.intOf] <;> omega⟩
        · go_wp2
          go_roundw
          case rel => exact ⟨q + 1, by omega, by go_num, trivial⟩
          case measure => simp [Go.RowKit.intOf] <;> omega
    · clear HROW
      obtain ⟨d0, d1, d2, d3, d4, d5, d6, d7⟩ := big8 HV4.out
      go_upto_region 16 with (go_at_call 26; refine (HCK.out _ HD4.out).mono ?_; rintro e w6 ⟨⟨g9, c9, gs9, A9, c9', rfl, h6, h7⟩, hB⟩; have hq9 := h7.le; have hq9c := h7.cap; have HF := Lib.hid (laid_file HB4.out hB (t := tK) (o := (.cells #[.int .i64 z0, .int .i64 z1, .int .i64 z2, .int .i64 z3, .int .i64 z4, .int .i64 z5, .int .i64 z6, .int .i64 z7] 36)) (by rw [HZK8.out]; rfl)); have HW6 := Lib.hid (h6.bp.below (below_al w6 (.cells #[.int .i64 z0, .int .i64 z1, .int .i64 z2, .int .i64 z3, .int .i64 z4, .int .i64 z5, .int .i64 z6, .int .i64 z7] 36))); clear h6 h7 hB)
      clear d0 d1 d2 d3 d4 d5 d6 d7 HD4 HV4 HB4 HCK
      have HY6 : Hid ((w6.alloc (.cells #[.int .i64 z0, .int .i64 z1, .int .i64 z2, .int .i64 z3, .int .i64 z4, .int .i64 z5, .int .i64 z6, .int .i64 z7] 36)).heap[w6.heap.size]? = some (.cells #[.int .i64 z0, .int .i64 z1, .int .i64 z2, .int .i64 z3, .int .i64 z4, .int .i64 z5, .int .i64 z6, .int .i64 z7] 36 (0, 0))) := Lib.hid (by have := HF.out.1; unfold boxB at this; rw [HZK8.out] at this; exact this)
      have HB6 := Lib.hid HF.out.2.1
      clear HF
      generalize w6.alloc (.cells #[.int .i64 z0, .int .i64 z1, .int .i64 z2, .int .i64 z3, .int .i64 z4, .int .i64 z5, .int .i64 z6, .int .i64 z7] 36) = W6 at *
      obtain ⟨jb, HJB⟩ : ∃ jb, Hid (w6.heap.size = jb) := ⟨_, rfl⟩
      rw [HJB.out] at HY6 ⊢
      obtain ⟨d0, d1, d2, d3, d4, d5, d6, d7⟩ := big8 HY6.out
      go_upto_region 17 with (go_at_call 22; refine (HALK.out _ _ _ HW6.out).mono ?_; rintro e w7 ⟨⟨A3, c3, A4, c4, rfl, h3, h4⟩, hB⟩; have hq3 := h3.le; have hq3c := h3.cap; have HR7 := Lib.hid h3; have HW7 := Lib.hid (HW6.out.below hB); have HY7 := Lib.hid (blk_below HY6.out hB (Array.getElem?_eq_some_iff.1 HY6.out).1); have HB7 := Lib.hid (below_then HB6.out hB); clear h3 h4 hB)
      clear d0 d1 d2 d3 d4 d5 d6 d7 HW6 HY6 HB6 HALK
      by_cases hz : (plL DK tK).length = 0
      · have hzI : ((((plL DK tK).length : Nat) : Int) == 0) = true := by rw [hz]; rfl
        generalize (plL DK tK).length = pn at *
        subst hz
        go_wp2_with (first
          | (go_at_call 10; refine (live_any _).mono ?_; rintro e w8 ⟨rfl, hB⟩; have HW8 := Lib.hid (HW7.out.below hB); have HB8 := Lib.hid (below_then HB7.out hB); obtain ⟨d0, d1, d2, d3, d4, d5, d6, d7⟩ := big8 (blk_below HY7.out hB (Array.getElem?_eq_some_iff.1 HY7.out).1); clear hB)
          | (go_at_call 15; refine (HRTK.out _ _ _ HW8.out).mono ?_; rintro e w9 ⟨rfl, hB⟩; have HB9 := Lib.hid (below_then HB8.out hB); clear hB))
        go_ret
        exact ⟨rfl, HB9.out⟩
      · obtain ⟨pn, hpn⟩ : ∃ pn, (plL DK tK).length = pn + 1 := ⟨(plL DK tK).length - 1, by omega⟩
        have hlt1 : pn < (plL DK tK).length := by omega
        have hx := HPL.out _ (List.getElem_mem hlt1)
        obtain ⟨pb, po, rfl, _, hpc⟩ := HR7.out.form (by rw [iv_length]; omega)
        have hpc1 := hpc pn (by rw [iv_length]; exact hlt1)
        rw [iv_at] at hpc1
        have HPC := Lib.hid hpc1
        generalize (plL DK tK)[pn] = px at *
        rw [hpn] at hq3 HR7 hpk96 ⊢
        have hzI : (((pn + 1 : Nat) : Int) == 0) = false := by
          have h : ((pn + 1 : Nat) : Int) ≠ 0 := by omega
          simpa using h
        have hsubI : (((pn + 1 : Nat) : Int) - 1) = (pn : Int) := by omega
        have hwrp : IntKind.i64.wrap (((pn + 1 : Nat) : Int) - 1) = (pn : Int) := by rw [hsubI]; exact IntWalk.i64_in _ (by omega)
        have hpI : (pn : Int) < ((pn + 1 : Nat) : Int) := by omega
        have hxl : decide (px < (k : Int)) = true := decide_eq_true hx
        clear hpc hpc1 hpn hz hlt1 HR7
        go_wp2_with (first
          | (go_at_call 10; refine (live_any _).mono ?_; rintro e w8 ⟨rfl, hB⟩; have HW8 := Lib.hid (HW7.out.below hB); have HB8 := Lib.hid (below_then HB7.out hB); have HP8 := Lib.hid (keep_cell HPC.out hB); obtain ⟨d0, d1, d2, d3, d4, d5, d6, d7⟩ := big8 (blk_below HY7.out hB (Array.getElem?_eq_some_iff.1 HY7.out).1); clear hB)
          | (go_at_call 15; refine (HRTK.out _ _ _ HW8.out).mono ?_; rintro e w9 ⟨rfl, hB⟩; have HB9 := Lib.hid (below_then HB8.out hB); have hp9 := keep_cell HP8.out hB; clear hB))
        go_ret
        exact ⟨rfl, HB9.out⟩
end Go.Proofs.Ytcgfoaihfncppaa
