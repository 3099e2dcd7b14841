/- Walks of graph's laws: GraphComes. -/
import Derived.Test.YtefgkomcmknigaaGraB
import Derived.Test.YtefgkomcmknigaaGra6
set_option linter.unusedSimpArgs false
set_option linter.unusedVariables false
namespace Go.Proofs.Ytefgkomcmknigaa
open Go.RowKit Go.Sel Go.Sel.Gra Go.Shelf

attribute [local go_sem] Oper.semAt_some

theorem readyL_length (D : List (List Int)) (s t : List Int) : (readyL D s t).length ≤ D.length := by
  rw [readyL]
  split
  · rw [thoseL, List.length_map]
    exact Nat.le_trans (List.length_filter_le _ _) (by simp)
  · simp

set_option maxRecDepth 100000 in
set_option maxHeartbeats 8000000 in
theorem law_GraphComes (A : Option Addr) (n c : Nat) (D : List (List Int)) (A1 : Option Addr) (n1 c1 : Nat) (xs1 : List Int) (A2 : Option Addr) (n2 c2 : Nat) (xs2 : List Int) (W : World) (hD : Dp W A n c D)
    (hr1 : Rd W A1 n1 c1 (iv .i64 xs1)) (hl1 : xs1.length = n1) (hr2 : Rd W A2 n2 c2 (iv .i64 xs2)) (hl2 : xs2.length = n2) :
    Calls Try.prog 11 #[.slice A n c, .slice A1 n1 c1, .slice A2 n2 c2] W fun e W' => e = .returned (.bool true) ∧ Below W.heap.size W W' := by
  have HD := Lib.hid hD
  have l1 := hD.le
  have l2 := hD.cap
  have m1 := hr1.le
  have m2 := hr1.cap
  have k1 := hr2.le
  have k2 := hr2.cap
  have HR2 := Lib.hid hr2
  have HL2 := Lib.hid hl2
  have HEL : Hid ((fewD D).length = min n 40) := by show _ = _; rw [fewD_length, hD.len]
  have HS1 : Hid (Rd W A1 (min n1 60) c1 (iv .i64 (xs1.take (min n1 60)))) := by
    have h := Rd.upto hr1 (min n1 60) (by omega)
    rw [iv, ← List.map_take] at h
    exact h
  have HT1 : Hid ((xs1.take (min n1 60)).length = min n1 60) := by show _ = _; simp; omega
  have HS2 : Hid (Rd W A2 (min n2 60) c2 (iv .i64 (xs2.take (min n2 60)))) := by
    have h := Rd.upto hr2 (min n2 60) (by omega)
    rw [iv, ← List.map_take] at h
    exact h
  have HT2 : Hid ((xs2.take (min n2 60)).length = min n2 60) := by show _ = _; simp; omega
  clear hD hr1 hr2 hl1 hl2
  go_enter Try.func11, Try.ntmps11
  go_upto_region 2 with (go_at_call 12; (with_reducible refine (few_any _ _ _ D _ HD.out).mono ?_); rintro e w1 ⟨⟨A3, c3, rfl, hd⟩, hB⟩; have HE := Lib.hid hd; have HB1 := Lib.hid hB; clear hd hB)
  have hN40 : min n 40 ≤ 40 := by omega
  generalize fewD D = E at *
  generalize min n 40 = N at *
  have hnil : ∀ w : World, Rd w none 0 0 (iv .i64 []) := fun w => Rd.nil (by omega)
  have HNIL := Lib.hid hnil
  clear hnil
  cases hr : rightD E with
  | false =>
    have HR := Lib.hid hr
    have HC : Hid (∀ s t, readyL E s t = []) := fun s t => by simp [readyL, hr]
    clear hr
    go_wp2_with (first
      | (go_at_call 17; (with_reducible refine (Right_any _ _ _ E _ HE.out).mono ?_); rw [HR.out]; rintro e w2 ⟨rfl, hB⟩; have HE2 := Lib.hid (HE.out.below hB); have HB2 := Lib.hid (below_then HB1.out hB); clear hB)
      | (go_at_call 14; (with_reducible refine (live_any _).mono ?_); rintro e w3 ⟨rfl, hB⟩; have HE3 := Lib.hid (HE2.out.below hB); have HB3 := Lib.hid (below_then HB2.out hB); clear hB)
      | (go_at_call 26; (with_reducible refine (Ready_any _ _ _ E _ _ _ [] _ _ _ [] _ HE3.out (HNIL.out _) rfl (HNIL.out _) rfl).mono ?_); rw [HC.out]; rintro e w5 ⟨⟨A4, c4, rfl, _⟩, hB⟩; have HB4 := Lib.hid (below_then HB3.out hB); clear hB))
    go_ret
    exact ⟨rfl, HB4.out⟩
  | true =>
    have HR := Lib.hid hr
    clear hr
    have hM : min n2 60 ≤ n2 ∧ min n2 60 ≤ 60 := by omega
    obtain ⟨hM1, hM2⟩ := hM
    have HWL := Lib.hid (closeL_length E (xs1.take (min n1 60)))
    have HNL := Lib.hid (readyL_length E (closeL E (xs1.take (min n1 60))) (xs2.take (min n2 60)))
    have hEL := HEL.out
    have hwl : (closeL E (xs1.take (min n1 60))).length ≤ 40 := by have := HWL.out; omega
    have hnl : (readyL E (closeL E (xs1.take (min n1 60))) (xs2.take (min n2 60))).length ≤ 40 := by have := HNL.out; omega
    have P1 : Hid (closedB E (closeL E (xs1.take (min n1 60)) ++ readyL E (closeL E (xs1.take (min n1 60))) (xs2.take (min n2 60))) = true) := ready_closed (close_closed HR.out _)
    have P2 : Hid (∀ x : Int, 0 ≤ x → x < (N : Int) → x ∈ xs2.take (min n2 60) → x ∉ closeL E (xs1.take (min n1 60)) ++ readyL E (closeL E (xs1.take (min n1 60))) (xs2.take (min n2 60)) → closedB E ((closeL E (xs1.take (min n1 60)) ++ readyL E (closeL E (xs1.take (min n1 60))) (xs2.take (min n2 60))) ++ [x]) = false) :=
      fun x h0 h1 hs hn => ready_most h0 (by rw [hEL]; exact h1) hs hn
    clear HWL HNL hEL
    go_upto_region 6 with (first
      | (go_at_call 17; (with_reducible refine (Right_any _ _ _ E _ HE.out).mono ?_); rw [HR.out]; rintro e w2 ⟨rfl, hB⟩; have HE2 := Lib.hid (HE.out.below hB); have HB2 := Lib.hid (below_then HB1.out hB); clear hB HE HB1)
      | (go_at_call 27; (with_reducible refine (some_any A1 n1 c1 _ m1 m2).mono ?_); rintro e w4 ⟨rfl, rfl⟩)
      | (go_at_call 27; (with_reducible refine (some_any A2 n2 c2 _ k1 k2).mono ?_); rintro e w4 ⟨rfl, rfl⟩)
      | (go_at_call 29; (with_reducible refine (Close_any _ _ _ E _ _ _ (xs1.take (min n1 60)) _ HE2.out (HS1.out.below HB2.out) HT1.out).mono ?_); rintro e w5 ⟨⟨A6, c6, rfl, hr⟩, hB⟩; have HC5 := Lib.hid hr; have HE5 := Lib.hid (HE2.out.below hB); have HB5 := Lib.hid (below_then HB2.out hB); clear hr hB HE2 HB2)
      | (go_at_call 26; (with_reducible refine (Ready_any _ _ _ E _ _ _ (closeL E (xs1.take (min n1 60))) _ _ _ (xs2.take (min n2 60)) _ HE5.out HC5.out rfl (HS2.out.below HB5.out) HT2.out).mono ?_); rintro e w6 ⟨⟨A7, c7, rfl, hr⟩, hB⟩; have HC6 := Lib.hid hr; have HK6 := Lib.hid (HC5.out.below hB); have HE6 := Lib.hid (HE5.out.below hB); have HB6 := Lib.hid (below_then HB5.out hB); clear hr hB HC5 HE5 HB5))
    generalize readyL E (closeL E (xs1.take (min n1 60))) (xs2.take (min n2 60)) = Y at *
    generalize closeL E (xs1.take (min n1 60)) = C at *
    have hcl := HK6.out.le
    have hcc := HK6.out.cap
    have hyl := HC6.out.le
    have hyc := HC6.out.cap
    generalize hCl : C.length = cl at *
    generalize hYl : Y.length = yl at *
    have HCL := Lib.hid hCl
    have HYL := Lib.hid hYl
    clear hCl hYl
    go_upto_region 7 with (first
      | (at_builtin; refine wpList_cat (w6.alloc (.cells #[] 3)) rfl (.tmp 34) (.tmp 35) 27 3 rfl w6.heap.size (.int .i64 0) 8 Try.underlying27 infoInt rfl _ 0 [] rfl (own_empty w6 _) A6 cl c6 (iv .i64 C) rfl (HK6.out.below (below_al _ _)) (by have := HCL.out; simp; omega) (iv_one _ _) (by simp) (by omega) (by omega) ?_; intro v7 w7 ho hg; rw [Nat.zero_add] at ho; have HO7 := Lib.hid ho; have HX7 := Lib.hid (below_grown (below_al w6 (.cells #[] 3)) hg (by simp) (own_row (own_empty w6 3))); clear ho hg)
      | (at_builtin; refine wpList_cat _ rfl (.tmp 36) (.tmp 37) 27 3 rfl w6.heap.size (.int .i64 0) 8 Try.underlying27 infoInt rfl _ cl ([] ++ iv .i64 C) rfl HO7.out A7 yl c7 (iv .i64 Y) rfl (HC6.out.below HX7.out) (by have := HYL.out; rw [iv, List.length_map]; exact this) (iv_one _ _) HX7.out.size (by omega) (by omega) ?_; intro v8 w8 ho hg; have HO8 := Lib.hid ho; have HX8 := Lib.hid (below_grown HX7.out hg HX7.out.size (own_row HO7.out)); clear ho hg; obtain ⟨A8, c8, rfl, hl8, hr8⟩ := rd_cat HO8.out; have HR8 := Lib.hid hr8; have HL8 := Lib.hid hl8; clear hl8 hr8))
    have HB8 : Hid (Below W.heap.size W w8) := below_then HB6.out HX8.out
    have HE8 : Hid (Dp w8 A3 N c3 E) := HE6.out.below HX8.out
    clear HX7 HX8 HO7 HO8 HC6 HK6 HE6 HB6 HCL HYL
    generalize C ++ Y = Z at *
    have hn : N ≤ 1000 := by omega
    have hzl : cl + yl ≤ 80 := by omega
    generalize cl + yl = zl at *
    have hz1 := HR8.out.le
    have hz2 := HR8.out.cap
    go_upto_block 0 with (go_at_call 31; (with_reducible refine (Closed_any _ _ _ E _ _ _ Z _ HE8.out HR8.out HL8.out hn).mono ?_); rw [P1.out]; rintro e w9 ⟨rfl, hB⟩; have HB9 := Lib.hid (below_then HB8.out hB); have HE9 := Lib.hid (HE8.out.below hB); have HR9 := Lib.hid (HR8.out.below hB); clear hB HB8 HE8 HR8)
    generalize hMM : min n2 60 = M at *
    have HMM := Lib.hid hMM
    clear hMM
    go_wp2
    go_loopw [11, 12] (fun i _ wr => ∃ k : Nat, k ≤ M ∧ i = .int .i64 k ∧ Hid (Below w9.heap.size w9 wr)) (fun i _ _ => M - (intOf i).toNat)
    case atStart => exact ⟨0, by omega, by go_num, Below.refl _ _⟩
    case round =>
      obtain ⟨k, hk, rfl, HW⟩ := hrel
      by_cases hlt : k < M
      · have hkx : k < xs2.length := by have := HL2.out; omega
        obtain ⟨b, off, rfl, _, hc⟩ := (HR2.out.below (below_then HB9.out HW.out)).form (by have := HL2.out; simp; omega)
        have hck := hc k (by simp; omega)
        rw [iv_at] at hck
        have HIN : Hid (xs2[k] ∈ xs2.take M) := by
          show _ ∈ _
          rw [List.mem_take_iff_getElem]
          exact ⟨k, by omega, rfl⟩
        clear hc
        generalize xs2[k] = x at *
        have HER := Lib.hid (HE9.out.below HW.out)
        have HRR := Lib.hid (HR9.out.below HW.out)
        rcases (show x < 0 ∨ (0 ≤ x ∧ x < (N : Int)) ∨ (0 ≤ x ∧ (N : Int) ≤ x) by omega) with h | ⟨h, h'⟩ | ⟨h, h'⟩
        · have q1 : decide (x < 0) = true := by simpa using h
          go_wp2_with (go_at_call 27; (with_reducible refine (some_any _ n2 c2 _ k1 k2).mono ?_); rw [HMM.out]; rintro e w4 ⟨rfl, rfl⟩)
          go_roundw
          case rel => exact ⟨k + 1, by omega, by go_num, HW⟩
          case measure => simp [intOf]; omega
        · have q1 : decide (x < 0) = false := by simp; omega
          have q2 : decide ((N : Int) ≤ x) = false := by simp; omega
          cases hz : decide (x ∈ Z) with
          | true =>
            have HZ := Lib.hid hz
            clear hz
            go_wp2_with (first
              | (go_at_call 27; (with_reducible refine (some_any _ n2 c2 _ k1 k2).mono ?_); rw [HMM.out]; rintro e w4 ⟨rfl, rfl⟩)
              | (go_at_call 18; (with_reducible refine (Has_any _ _ _ Z _ _ HRR.out HL8.out).mono ?_); rw [HZ.out]; rintro e w10 ⟨rfl, rfl⟩))
            go_roundw
            case rel => exact ⟨k + 1, by omega, by go_num, HW⟩
            case measure => simp [intOf]; omega
          | false =>
            have HZ := Lib.hid hz
            have HF : Hid (closedB E (Z ++ [x]) = false) := P2.out x h h' HIN.out (by simpa using hz)
            clear hz
            go_wp2_with (first
              | (go_at_call 27; (with_reducible refine (some_any _ n2 c2 _ k1 k2).mono ?_); rw [HMM.out]; rintro e w4 ⟨rfl, rfl⟩)
              | (go_at_call 18; (with_reducible refine (Has_any _ _ _ Z _ _ HRR.out HL8.out).mono ?_); rw [HZ.out]; rintro e w10 ⟨rfl, rfl⟩)
              | (at_builtin; refine wpList_cat (w10.alloc (.cells #[] 3)) rfl (.tmp 68) (.tmp 69) 27 3 rfl w10.heap.size (.int .i64 0) 8 Try.underlying27 infoInt rfl _ 0 [] rfl (own_empty w10 _) A8 zl c8 (iv .i64 Z) rfl (HRR.out.below (below_al _ _)) (by have := HL8.out; rw [iv, List.length_map]; exact this) (iv_one _ _) (by simp) (by omega) (by omega) ?_; intro v11 w11 ho hg; rw [Nat.zero_add, List.nil_append] at ho; have HO11 := Lib.hid ho; have HX11 := Lib.hid (below_grown (below_al w10 (.cells #[] 3)) hg (by simp) (own_row (own_empty w10 3))); clear ho hg)
              | (at_builtin; refine wpList_push w11 rfl (.tmp 70) (.tmp 72) 27 3 rfl w10.heap.size (.int .i64 0) 8 Try.underlying27 infoInt rfl (by omega) _ zl _ (.int .i64 x) rfl rfl rfl HO11.out HX11.out.size (by omega) rfl ?_; intro g cap w12 ho hg hat hlt1; have HO12 := Lib.hid ho; have HX12 := Lib.hid (below_grown HX11.out hg HX11.out.size (own_row HO11.out)); clear ho hg hat; obtain ⟨A12, c12, hv12, hl12, hr12⟩ := rd_own HO12.out; cases hv12; have HR12 : Hid (Rd w12 (some ⟨g, 0, none⟩) (zl + 1) cap (iv .i64 (Z ++ [x]))) := (by show Rd _ _ _ _ _; rw [iv, List.map_append]; exact hr12); have HL12 : Hid ((Z ++ [x]).length = zl + 1) := (by show _ = _; have := HL8.out; simp; exact this); clear hl12 hr12)
              | (go_at_call 31; (with_reducible refine (Closed_any _ _ _ E _ _ _ (Z ++ [x]) _ (HER.out.below HX12.out) HR12.out HL12.out hn).mono ?_); rw [HF.out]; rintro e w13 ⟨rfl, hB⟩; have HB13 := Lib.hid (below_then HW.out (below_then HX12.out hB)); clear hB))
            go_roundw
            case rel => exact ⟨k + 1, by omega, by go_num, HB13⟩
            case measure => simp [intOf]; omega
        · have q1 : decide (x < 0) = false := by simp; omega
          have q2 : decide ((N : Int) ≤ x) = true := by simpa using h'
          go_wp2_with (go_at_call 27; (with_reducible refine (some_any _ n2 c2 _ k1 k2).mono ?_); rw [HMM.out]; rintro e w4 ⟨rfl, rfl⟩)
          go_roundw
          case rel => exact ⟨k + 1, by omega, by go_num, HW⟩
          case measure => simp [intOf]; omega
      · obtain rfl : k = M := by omega
        go_wp2_with (first
          | (go_at_call 27; (with_reducible refine (some_any _ n2 c2 _ k1 k2).mono ?_); rw [HMM.out]; rintro e w4 ⟨rfl, rfl⟩)
          | (go_at_call 14; (with_reducible refine (live_any _).mono ?_); rintro e wa ⟨rfl, hB⟩; have HYa := Lib.hid (below_then HW.out hB); clear hB))
        go_ret
        exact ⟨rfl, below_then HB9.out HYa.out⟩
end Go.Proofs.Ytefgkomcmknigaa
