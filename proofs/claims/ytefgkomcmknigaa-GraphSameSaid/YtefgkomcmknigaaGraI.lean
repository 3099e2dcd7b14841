/- Walks of graph's laws: GraphSame. -/
import Derived.Test.YtefgkomcmknigaaGraG
import Derived.Test.YtefgkomcmknigaaGraU
import Derived.BigQuiet
import Derived.IntWalk
set_option linter.unusedSimpArgs false
set_option linter.unusedVariables false
namespace Go.Proofs.Ytefgkomcmknigaa
open Go.RowKit Go.Sel Go.Sel.Gra Go.Shelf

attribute [local go_sem] Oper.semAt_some

set_option maxRecDepth 100000 in
set_option maxHeartbeats 8000000 in
theorem law_GraphSame (A : Option Addr) (n c : Nat) (D : List (List Int)) (a b : Int) (W : World) (hD : Dp W A n c D) :
    Calls Try.prog 4 #[.slice A n c, .int .i64 a, .int .i64 b] W fun e W' => e = .returned (.bool true) ∧ Below W.heap.size W W' := by
  have HD := Lib.hid hD
  have l1 := hD.le
  have l2 := hD.cap
  have HEL : Hid ((fewD D).length = min n 40) := by show _ = _; rw [fewD_length, hD.len]
  clear hD
  go_enter Try.func4, Try.ntmps4
  go_upto_region 3 with (first
    | (go_at_call 12; (with_reducible refine (few_any _ _ _ D _ HD.out).mono ?_); rintro e w1 ⟨⟨A3, c3, rfl, hd⟩, hB⟩; have HE := Lib.hid hd; have HB1 := Lib.hid hB; clear hd hB)
    | (go_at_call 13; (with_reducible refine (Thin_all _ _ _ (fewD D) _ HE.out).mono ?_); rintro e w2 ⟨⟨A4, c4, rfl, hd⟩, hB⟩; have HT := Lib.hid hd; have HE2 := Lib.hid (HE.out.below hB); have HB2 := Lib.hid (below_then HB1.out hB); clear hd hB HE HB1))
  have hN40 : min n 40 ≤ 40 := by omega
  generalize fewD D = E at *
  generalize min n 40 = N at *
  cases hr : rightD E with
  | false =>
    have HR := Lib.hid hr
    have HTE : Hid ((thinD E).length = 0) := by show _ = _; simp [thinD, hr]
    rw [HTE.out]
    rw [HTE.out] at HT
    clear hr
    go_wp2_with (first
      | (go_at_call 17; (with_reducible refine (Right_any _ _ _ E _ HE2.out).mono ?_); rw [HR.out]; rintro e w3 ⟨rfl, hB⟩; have HB3 := Lib.hid (below_then HB2.out hB); clear hB)
      | (go_at_call 14; (with_reducible refine (live_any _).mono ?_); rintro e w4 ⟨rfl, hB⟩; have HB4 := Lib.hid (below_then HB3.out hB); clear hB))
    go_ret
    exact ⟨rfl, HB4.out⟩
  | true =>
    have HR := Lib.hid hr
    have HTE : Hid ((thinD E).length = N) := (thinD_length hr).trans HEL.out
    rw [HTE.out]
    rw [HTE.out] at HT
    clear hr
    go_upto_block 0 with (go_at_call 17; (with_reducible refine (Right_any _ _ _ E _ HE2.out).mono ?_); rw [HR.out]; rintro e w3 ⟨rfl, hB⟩; have HB3 := Lib.hid (below_then HB2.out hB); have HE3 := Lib.hid (HE2.out.below hB); have HT3 := Lib.hid (HT.out.below hB); clear hB HE2 HB2 HT)
    have t1 := HT3.out.le
    have t2 := HT3.out.cap
    have e1 := HE3.out.le
    have e2 := HE3.out.cap
    go_wp2_with (fail)
    go_loopw [9, 10] (fun i _ wr => ∃ k : Nat, k ≤ N ∧ i = .int .i64 k ∧ Hid (Below w3.heap.size w3 wr)) (fun i _ _ => N - (intOf i).toNat)
    case atStart => exact ⟨0, by omega, by go_num, Below.refl _ _⟩
    case round =>
      rename World => w4
      obtain ⟨k, hk, rfl, HW⟩ := hrel
      by_cases hlt : k < N
      · obtain ⟨b1, off1, A1, n1, c1, rfl, hc1, hn1, hrd1⟩ := (HE3.out.below HW.out).at_ hlt
        obtain ⟨b2, off2, A2, n2, c2, rfl, hc2, hn2, hrd2⟩ := (HT3.out.below HW.out).at_ hlt
        rw [nth_thinD HR.out (by have := HEL.out; omega)] at hn2 hrd2
        have p1 := hrd1.le
        have p2 := hrd1.cap
        have p3 := hrd2.le
        have p4 := hrd2.cap
        have HN1 := Lib.hid hn1
        have HN2 := Lib.hid hn2
        have HR1 := Lib.hid hrd1
        have HR2 := Lib.hid hrd2
        have HC1 := Lib.hid hc1
        have HC2 := Lib.hid hc2
        have HSUB : Hid (∀ x ∈ thinRow E k, x ∈ nth E k) := fun x hx => sub_thinRow HR.out hx
        have HSO := Lib.hid (thinRow_sorted E k)
        clear hn1 hn2 hrd1 hrd2 hc1 hc2
        generalize thinRow E k = L at *
        generalize nth E k = R at *
        go_wp2_with (fail)
        go_loopw [10] (fun i wr => ∃ j : Nat, j ≤ n2 ∧ i = .int .i64 j ∧ Hid (Below w4.heap.size w4 wr)) (fun i _ => n2 - (intOf i).toNat)
        case atStart => exact ⟨0, by omega, by go_num, Below.refl _ _⟩
        case round =>
          obtain ⟨j, hj, rfl, HW2⟩ := hrel
          have hc1 := keep_cell HC1.out HW2.out
          have hc2 := keep_cell HC2.out HW2.out
          by_cases hjl : j < n2
          · have hxl : j < L.length := by have := HN2.out; omega
            obtain ⟨b3, off3, rfl, _, hc3⟩ := (HR2.out.below HW2.out).form (by simp; omega)
            have hcj := hc3 j (by simpa using hxl)
            rw [iv_at] at hcj
            have HIN : Hid (decide (L[j] ∈ R) = true) := by show _ = _; simpa using HSUB.out _ (List.getElem_mem hxl)
            have HRQ : Hid (∀ q, Rd (wr.drewN q) A1 n1 c1 (iv .i64 R)) := fun q => (HR1.out.below HW2.out).below (Go.Sel.below_drewN wr q)
            have HWQ : Hid (∀ q, Below w4.heap.size w4 (wr.drewN q)) := fun q => Below.then_drewN HW2.out q
            have b1' : (k : Int) < (N : Int) := by omega
            have b2' : (j : Int) < (n2 : Int) := by omega
            have HHAS : Hid (∀ q, Calls Try.prog 18 #[.slice A1 n1 c1, .int .i64 L[j]] (wr.drewN q) fun e w' => e = .returned (.bool true) ∧ w' = wr.drewN q) := fun q => (Has_any A1 n1 c1 R L[j] (wr.drewN q) (HRQ.out q) HN1.out).mono (fun e w' h => by rw [HIN.out] at h; exact h)
            by_cases hj0 : j = 0
            · subst hj0
              have q1 : decide ((0 : Int) < ((0 : Nat) : Int)) = false := by decide
              have q0 : decide ((0 : Int) < 0) = false := by decide
              have b0 : (0 : Int) < (n2 : Int) := by omega
              have hcj0 : wr.cell? ⟨b3, off3, none⟩ = some (.int .i64 L[0]) := hcj
              clear hc3
              generalize L[0] = x at *
              go_wp2_with (fail)
              go_quiet ((go_at_call 18; refine Calls.quiet_of_same (HHAS.out _)))
              go_wp2_with (fail)
              go_roundw
              case rel => exact ⟨0 + 1, by omega, by go_num, HWQ.out _⟩
              case measure => simp [intOf]; omega
            · obtain ⟨q, rfl⟩ : ∃ q, j = q + 1 := ⟨j - 1, by omega⟩
              have hcq := hc3 q (by simp; omega)
              rw [iv_at] at hcq
              have HLT : Hid (L[q]'(by omega) < L[q + 1]) := by
                show _ < _
                exact (List.pairwise_iff_getElem.1 HSO.out) q (q + 1) (by omega) hxl (by omega)
              clear hc3
              generalize L[q + 1] = x at *
              generalize L[q]'(by omega) = y at *
              have q1 : decide ((0 : Int) < ((q + 1 : Nat) : Int)) = true := by simp
              have q2 : decide (x ≤ y) = false := by have := HLT.out; simp; omega
              have q3 : IntKind.i64.wrap (((q + 1 : Nat) : Int) - 1) = (q : Int) := by
                have e : ((q + 1 : Nat) : Int) - 1 = (q : Int) := by omega
                rw [e]; exact IntWalk.i64_in _ (by omega)
              have q4 : (q : Int) < (n2 : Int) := by omega
              go_wp2_with (fail)
              go_quiet ((go_at_call 18; refine Calls.quiet_of_same (HHAS.out _)))
              go_wp2_with (fail)
              go_roundw
              case rel => exact ⟨q + 1 + 1, by omega, by go_num, HWQ.out _⟩
              case measure => simp [intOf] <;> omega
          · obtain rfl : j = n2 := by omega
            go_wp2_with (fail)
            go_roundw
            case rel => exact ⟨k + 1, by omega, by go_num, HW.out.trans (HW2.out.mono HW.out.size)⟩
            case measure => simp [intOf]; omega
      · obtain rfl : k = N := by omega
        have HTR : Hid (rightD (thinD E) = true) := thin_right HR.out
        have HTB : Hid (beforeB (thinD E) a b = beforeB E a b) := thin_before HR.out a b
        have HTD : Hid (depthI (thinD E) a = depthI E a) := thin_depth HR.out a
        have HTT : Hid (thinD (thinD E) = thinD E) := thin_thin HR.out
        have hq1 := beq_self_b (beforeB E a b)
        have hq2 := int_beq_self (depthI E a)
        have hq3 := int_beq_self (k : Int)
        have HE4 := Lib.hid (HE3.out.below HW.out)
        have HT4 := Lib.hid (HT3.out.below HW.out)
        have HB4 : Hid (Below W.heap.size W w4) := below_then HB3.out HW.out
        clear HE3 HT3 HB3 HW
        go_wp2_with (first
          | (go_at_call 14; (with_reducible refine (live_any _).mono ?_); rintro e wa ⟨rfl, hB⟩; have HBa := Lib.hid (below_then HB4.out hB); have HEa := Lib.hid (HE4.out.below hB); have HTa := Lib.hid (HT4.out.below hB); clear hB)
          | (go_at_call 17; (with_reducible refine (Right_any _ _ _ (thinD E) _ HTa.out).mono ?_); rw [HTR.out]; rintro e wb ⟨rfl, hB⟩; have HBb := Lib.hid (below_then HBa.out hB); have HEb := Lib.hid (HEa.out.below hB); have HTb := Lib.hid (HTa.out.below hB); clear hB)
          | (go_at_call 19; (with_reducible refine (Before_any _ _ _ (thinD E) _ _ _ HTb.out).mono ?_); rw [HTB.out]; rintro e wc ⟨rfl, hB⟩; have HBc := Lib.hid (below_then HBb.out hB); have HEc := Lib.hid (HEb.out.below hB); have HTc := Lib.hid (HTb.out.below hB); clear hB)
          | (go_at_call 19; (with_reducible refine (Before_any _ _ _ E _ _ _ HEc.out).mono ?_); rintro e wd ⟨rfl, hB⟩; have HBd := Lib.hid (below_then HBc.out hB); have HEd := Lib.hid (HEc.out.below hB); have HTd := Lib.hid (HTc.out.below hB); clear hB)
          | (go_at_call 20; (with_reducible refine (Depth_any _ _ _ (thinD E) _ _ HTd.out).mono ?_); rw [HTD.out]; rintro e we ⟨rfl, hB⟩; have HBe := Lib.hid (below_then HBd.out hB); have HEe := Lib.hid (HEd.out.below hB); have HTe := Lib.hid (HTd.out.below hB); clear hB)
          | (go_at_call 20; (with_reducible refine (Depth_any _ _ _ E _ _ HEe.out).mono ?_); rintro e wf ⟨rfl, hB⟩; have HBf := Lib.hid (below_then HBe.out hB); have HTf := Lib.hid (HTe.out.below hB); clear hB)
          | (go_at_call 13; (with_reducible refine (Thin_all _ _ _ (thinD E) _ HTf.out).mono ?_); rw [HTT.out, HTE.out]; rintro e wg ⟨⟨Ag, cg, rfl, hd⟩, hB⟩; have HTg := Lib.hid hd; have HTg2 := Lib.hid (HTf.out.below hB); have HBg := Lib.hid (below_then HBf.out hB); clear hB hd)
          | (go_at_call 15; (with_reducible refine (rSame_any _ _ _ _ _ (thinD E) _ HTg.out HTg2.out).mono ?_); rintro e wh ⟨rfl, qq, rfl⟩))
        go_ret
        exact ⟨rfl, below_then HBg.out (Go.Sel.below_drewN _ _)⟩
end Go.Proofs.Ytefgkomcmknigaa
