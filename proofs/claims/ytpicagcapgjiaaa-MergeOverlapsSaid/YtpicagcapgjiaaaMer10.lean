/- Walks of merge's laws: ref06.DepsOf; MergeClosed. -/
import Derived.Test.YtpicagcapgjiaaaMer9
import Derived.Test.YtpicagcapgjiaaaMerL
import Derived.Test.YtpicagcapgjiaaaGra7
set_option linter.unusedSimpArgs false
set_option linter.unusedVariables false
namespace Go.Proofs.Ytpicagcapgjiaaa
open Go.RowKit Go.Sel Go.Sel.Gra Go.Sel.Mer Go.Shelf

set_option maxRecDepth 100000 in
set_option maxHeartbeats 4000000 in
theorem DepsOf_any (A : Option Addr) (n c : Nat) (L : List It) (w : World) (hL : Ip w A n c L) (hn : n ≤ 1000) :
    Calls Try.prog 37 #[.slice A n c] w fun e w' => (∃ A' c', e = .returned (.slice A' n c') ∧ Dp w' A' n c' (depsL L)) ∧ Below w.heap.size w w' := by
  have l1 := hL.le
  have l2 := hL.cap
  obtain ⟨ss, hS⟩ := hL
  have HS := Lib.hid hS
  have HLN := Lib.hid hS.len
  have HSN := Lib.hid hS.slen
  clear hS
  go_enter Try.func37, Try.ntmps37
  go_wp2
  go_loopw [3, 4] (fun v i wr => ∃ k : Nat, k ≤ n ∧ i = .int .i64 k ∧ Hid (wr.ownsRow w.heap.size 23 1 v k ((ss.take k).map sv)) ∧ Hid (Below w.heap.size w wr)) (fun _ i _ => n - (intOf i).toNat)
  case atStart => exact ⟨0, by omega, rfl, World.ownsRow_nil _ _ _ _, Below.refl _ _⟩
  case round =>
    obtain ⟨k, hk, rfl, HO, HW⟩ := hrel
    by_cases hlt : k < n
    · have hks : k < ss.length := by have := HSN.out; omega
      obtain ⟨b, off, rfl, hb, c0, c1, c2, c3⟩ := (HS.out.below HW.out).at_ hlt
      have HTK : Hid ((ss.take (k + 1)).map sv = (ss.take k).map sv ++ [sv ss[k]]) := by
        show _ = _
        rw [List.take_succ_eq_append_getElem hks, List.map_append]; rfl
      generalize hs : ss[k] = q at *
      obtain ⟨qa, qn, qc⟩ := q
      simp only [sv] at c3 HTK
      clear hs
      go_wp2_with (at_builtin; refine wpList_push wr rfl (.tmp 11) (.tmp 17) 22 23 rfl w.heap.size (.slice none 0 0) 24 Try.underlying22 infoInts' rfl (by omega) _ k _ (.slice qa qn qc) rfl rfl rfl HO.out HW.out.size (by omega) rfl ?_; intro g cap w1 ho hg hat hlt1; have HO1 := Lib.hid ho; have HW1 := Lib.hid (below_grown HW.out hg HW.out.size (own_row HO.out)); clear ho hg hat)
      go_roundw
      case rel => exact ⟨k + 1, by omega, by go_num, by rw [HTK.out]; exact HO1.out, HW1⟩
      case measure => simp [intOf] <;> omega
    · obtain rfl : k = n := by omega
      go_wp2
      go_ret
      obtain ⟨A5, c5, rfl, hl5, hr5⟩ := rd_own HO.out
      rw [List.take_of_length_le (by have := HSN.out; omega)] at hr5
      refine ⟨⟨A5, c5, rfl, Dp.mk_ ss (by rw [depsL_length]; exact HLN.out) HSN.out hr5 fun j hj => ?_⟩, HW.out⟩
      have h5 := (HS.out.below HW.out).deps j hj
      rw [nth_depsL (by have := HLN.out; have := HSN.out; omega)]
      exact h5

theorem msome_rd {w : World} {A : Option Addr} {n c : Nat} {xs : List Int} (hr : Rd w A n c (iv .i64 xs)) (hl : xs.length = n) : Rd w A (min n 40) c (iv .i64 (xs.take (min n 40))) ∧ (xs.take (min n 40)).length = min n 40 := by
  refine ⟨?_, by simp; omega⟩
  have h := Rd.upto hr (min n 40) (by omega)
  rw [iv, ← List.map_take] at h
  exact h
theorem closeLM_length (D : List (List Int)) (s : List Int) : (closeL D s).length ≤ D.length := by
  rw [closeL]
  split
  · rw [thoseL, List.length_map]
    exact Nat.le_trans (List.length_filter_le _ _) (by simp)
  · simp

set_option maxRecDepth 100000 in
set_option maxHeartbeats 8000000 in
theorem law_MergeClosed (A : Option Addr) (n c : Nat) (L : List It) (A1 : Option Addr) (n1 c1 : Nat) (xs1 : List Int) (W : World) (hL : Ip W A n c L) (hr1 : Rd W A1 n1 c1 (iv .i64 xs1)) (hl1 : xs1.length = n1) :
    Calls Try.prog 8 #[.slice A n c, .slice A1 n1 c1] W fun e W' => e = .returned (.bool true) ∧ Below W.heap.size W W' := by
  have HL := Lib.hid hL
  have HEL : Hid ((fewI L).length = min n 24) := by show _ = _; rw [fewI_length, hL.len, Nat.min_comm]
  have l1 := hL.le
  have l2 := hL.cap
  have m1 := hr1.le
  have m2 := hr1.cap
  have HS := Lib.hid (msome_rd hr1 hl1).1
  have HT := Lib.hid (msome_rd hr1 hl1).2
  clear hL hr1 hl1
  go_enter Try.func8, Try.ntmps8
  go_upto_region 2 with (go_at_call 22; (with_reducible refine (mfew_any _ _ _ L _ HL.out).mono ?_); rintro e w1 ⟨⟨A3, c3, rfl, hd⟩, hB⟩; have HE := Lib.hid hd; have HB1 := Lib.hid hB; clear hd hB)
  have hN24 : min n 24 ≤ 24 := by omega
  generalize fewI L = E at *
  generalize min n 24 = N at *
  generalize xs1.take (min n1 40) = S at *
  cases hr : mrightB E with
  | false =>
    have HR := Lib.hid hr
    have HX : Hid (∀ s, expandL E s = []) := fun s => by simp [expandL, hr]
    clear hr
    go_wp2_with (first
      | (go_at_call 24; (with_reducible refine (mRight_any _ _ _ E _ HE.out).mono ?_); rw [HR.out]; rintro e w2 ⟨rfl, hB⟩; have HE2 := Lib.hid (HE.out.below hB); have HB2 := Lib.hid (below_then HB1.out hB); clear hB)
      | (go_at_call 23; (with_reducible refine (mlive_any _).mono ?_); rintro e w3 ⟨rfl, hB⟩; have HE3 := Lib.hid (HE2.out.below hB); have HB3 := Lib.hid (below_then HB2.out hB); clear hB)
      | (go_at_call 33; (with_reducible refine (msome_any A1 n1 c1 _ m1 m2).mono ?_); rintro e w4 ⟨rfl, hw⟩; have hw := hw.symm; subst hw)
      | (go_at_call 32; (with_reducible refine (mExpand_any _ _ _ E _ _ _ S _ HE3.out (HS.out.below HB3.out) HT.out).mono ?_); rw [HX.out]; rintro e w5 ⟨⟨A4, c4, rfl, _⟩, hB⟩; have HB4 := Lib.hid (below_then HB3.out hB); clear hB))
    go_ret
    exact ⟨rfl, HB4.out⟩
  | true =>
    have HR := Lib.hid hr
    have HC : Hid (closedB (depsL E) (expandL E (closeL (mdepsL E) S)) = true) := exp_closed hr (close_closed (mdeps_right hr) S)
    have HM : Hid ((closeL (mdepsL E) S).length ≤ (expandL E (closeL (mdepsL E) S)).length) := exp_more hr
    have HXL : Hid ((expandL E (closeL (mdepsL E) S)).length ≤ 24) := by
      show _ ≤ _
      rw [expandL, if_pos hr, List.length_map]
      have := List.length_filter_le (fun i : Nat => decide (gAt (gls E E.length) (i : Int) ∈ closeL (mdepsL E) S)) (List.range E.length)
      have := HEL.out
      simp only [List.length_range] at *
      omega
    clear hr
    generalize hcl : closeL (mdepsL E) S = Z at *
    have HZ := Lib.hid hcl
    clear hcl
    generalize hex : expandL E Z = X at *
    have HX := Lib.hid hex
    clear hex
    have hq1 : decide ((Z.length : Int) ≤ (X.length : Int)) = true := by have := HM.out; simp; omega
    have hb1 := HM.out
    have hb2 := HXL.out
    go_wp2_with (first
      | (go_at_call 24; (with_reducible refine (mRight_any _ _ _ E _ HE.out).mono ?_); rw [HR.out]; rintro e w2 ⟨rfl, hB⟩; have HE2 := Lib.hid (HE.out.below hB); have HB2 := Lib.hid (below_then HB1.out hB); clear hB)
      | (go_at_call 29; (with_reducible refine (mDeps_any _ _ _ E _ HE2.out (by omega)).mono ?_); rintro e w3 ⟨⟨A4, c4, rfl, hd4⟩, hB⟩; have HD4 := Lib.hid hd4; have HE3 := Lib.hid (HE2.out.below hB); have HB3 := Lib.hid (below_then HB2.out hB); clear hB hd4)
      | (go_at_call 33; (with_reducible refine (msome_any A1 n1 c1 _ m1 m2).mono ?_); rintro e w4 ⟨rfl, hw⟩; have hw := hw.symm; subst hw)
      | (go_at_call 20; (with_reducible refine (Close_any _ _ _ (mdepsL E) _ _ _ S _ HD4.out (HS.out.below HB3.out) HT.out).mono ?_); rw [HZ.out]; rintro e w5 ⟨⟨A5, c5, rfl, hd5⟩, hB⟩; have HZ5 := Lib.hid hd5; have HE5 := Lib.hid (HE3.out.below hB); have HB5 := Lib.hid (below_then HB3.out hB); clear hB hd5)
      | (go_at_call 32; (with_reducible refine (mExpand_any _ _ _ E _ _ _ Z _ HE5.out HZ5.out rfl).mono ?_); rw [HX.out]; rintro e w6 ⟨⟨A6, c6, rfl, hd6⟩, hB⟩; have HX6 := Lib.hid hd6; have HE6 := Lib.hid (HE5.out.below hB); have HB6 := Lib.hid (below_then HB5.out hB); clear hB hd6)
      | (go_at_call 23; (with_reducible refine (mlive_any _).mono ?_); rintro e w7 ⟨rfl, hB⟩; have HX7 := Lib.hid (HX6.out.below hB); have HE7 := Lib.hid (HE6.out.below hB); have HB7 := Lib.hid (below_then HB6.out hB); clear hB)
      | (go_at_call 37; (with_reducible refine (DepsOf_any _ _ _ E _ HE7.out (by omega)).mono ?_); rintro e w8 ⟨⟨A8, c8, rfl, hd8⟩, hB⟩; have HD8 := Lib.hid hd8; have HX8 := Lib.hid (HX7.out.below hB); have HB8 := Lib.hid (below_then HB7.out hB); clear hB hd8)
      | (go_at_call 36; (with_reducible refine (Closed_any _ _ _ (depsL E) _ _ _ X _ HD8.out HX8.out rfl (by omega)).mono ?_); rw [HC.out]; rintro e w9 ⟨rfl, hB⟩; have HB9 := Lib.hid (below_then HB8.out hB); clear hB))
    go_ret
    exact ⟨rfl, HB9.out⟩
end Go.Proofs.Ytpicagcapgjiaaa
