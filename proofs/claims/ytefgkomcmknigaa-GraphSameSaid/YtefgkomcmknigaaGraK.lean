/- Walks of graph's laws: GraphCloses. -/
import Derived.Test.YtefgkomcmknigaaGraB
import Derived.Test.YtefgkomcmknigaaGraJ
set_option linter.unusedSimpArgs false
set_option linter.unusedVariables false
namespace Go.Proofs.Ytefgkomcmknigaa
open Go.RowKit Go.Sel Go.Sel.Gra Go.Shelf

attribute [local go_sem] Oper.semAt_some

theorem rd_some {w : World} {A : Option Addr} {n c : Nat} {xs : List Int} (hr : Rd w A n c (iv .i64 xs)) (hl : xs.length = n) : Rd w A (min n 60) c (iv .i64 (xs.take (min n 60))) ∧ (xs.take (min n 60)).length = min n 60 := by
  have h := Rd.upto hr (min n 60) (by omega)
  rw [iv, ← List.map_take] at h
  exact ⟨h, by simp; omega⟩
theorem beq_self_b (b : Bool) : (b == b) = true := by simp

set_option maxRecDepth 100000 in
set_option maxHeartbeats 8000000 in
theorem law_GraphCloses (A : Option Addr) (n c : Nat) (D : List (List Int)) (A1 : Option Addr) (n1 c1 : Nat) (xs1 : List Int) (W : World) (hD : Dp W A n c D)
    (hr1 : Rd W A1 n1 c1 (iv .i64 xs1)) (hl1 : xs1.length = n1) :
    Calls Try.prog 9 #[.slice A n c, .slice A1 n1 c1] W fun e W' => e = .returned (.bool true) ∧ Below W.heap.size W W' := by
  have HD := Lib.hid hD
  have l1 := hD.le
  have l2 := hD.cap
  have m1 := hr1.le
  have m2 := hr1.cap
  have HS1 := Lib.hid (rd_some hr1 hl1).1
  have HT1 := Lib.hid (rd_some hr1 hl1).2
  clear hD hr1 hl1
  go_enter Try.func9, Try.ntmps9
  go_upto_region 2 with (first
    | (go_at_call 12; (with_reducible refine (few_any _ _ _ D _ HD.out).mono ?_); rintro e w1 ⟨⟨A3, c3, rfl, hd⟩, hB⟩; have HE := Lib.hid hd; have HB1 := Lib.hid hB; clear hd hB)
    | (go_at_call 27; (with_reducible refine (some_any A1 n1 c1 _ m1 m2).mono ?_); rintro e w4 ⟨rfl, rfl⟩))
  have hN : min n 40 ≤ 1000 := by omega
  generalize fewD D = E at *
  generalize min n 40 = N at *
  generalize hT : xs1.take (min n1 60) = T at *
  clear hT
  have hM : min n1 60 ≤ 60 := by omega
  generalize min n1 60 = M at *
  go_wp2_with (first
    | (go_at_call 14; (with_reducible refine (live_any _).mono ?_); rintro e wa ⟨rfl, hB⟩; have HBa := Lib.hid (below_then HB1.out hB); have HEa := Lib.hid (HE.out.below hB); clear hB)
    | (go_at_call 17; (with_reducible refine (Right_any _ _ _ E _ HEa.out).mono ?_); rintro e wb ⟨rfl, hB⟩; have HBb := Lib.hid (below_then HBa.out hB); have HEb := Lib.hid (HEa.out.below hB); clear hB)
    | (go_at_call 30; (with_reducible refine (rRight_any _ _ _ E _ HEb.out).mono ?_); rintro e wc ⟨rfl, hw⟩; have hw := hw.symm; subst hw; have hq1 := beq_self_b (rightD E))
    | (go_at_call 31; (with_reducible refine (Closed_any _ _ _ E _ _ _ T _ HEb.out (HS1.out.below HBb.out) HT1.out hN).mono ?_); rintro e wd ⟨rfl, hB⟩; have HBd := Lib.hid (below_then HBb.out hB); have HEd := Lib.hid (HEb.out.below hB); clear hB)
    | (go_at_call 32; (with_reducible refine (rClosed_any _ _ _ E _ _ _ T _ HEd.out (HS1.out.below HBd.out) HT1.out).mono ?_); rintro e we ⟨rfl, hB⟩; have HBe := Lib.hid (below_then HBd.out hB); have HEe := Lib.hid (HEd.out.below hB); have hq2 := beq_self_b (closedB E T); clear hB)
    | (go_at_call 29; (with_reducible refine (Close_any _ _ _ E _ _ _ T _ HEe.out (HS1.out.below HBe.out) HT1.out).mono ?_); rintro e wf ⟨⟨Af, cf, rfl, hr⟩, hB⟩; have HRf := Lib.hid hr; have HBf := Lib.hid (below_then HBe.out hB); have HEf := Lib.hid (HEe.out.below hB); clear hB hr)
    | (go_at_call 33; (with_reducible refine (rClose_any _ _ _ E _ _ _ T _ HEf.out (HS1.out.below HBf.out) HT1.out).mono ?_); rintro e wg ⟨⟨Ag, cg, rfl, hr⟩, hB⟩; have HRg := Lib.hid hr; have HRf2 := Lib.hid (HRf.out.below hB); have HBg := Lib.hid (below_then HBf.out hB); clear hB hr)
    | (go_at_call 22; (with_reducible refine (Same1_any _ _ _ _ _ _ (closeL E T) (closeL E T) _ HRf2.out HRg.out rfl rfl).mono ?_); rw [decide_eq_true (rfl : closeL E T = closeL E T)]; rintro e wh ⟨rfl, qq, rfl⟩))
  go_ret
  exact ⟨rfl, below_then HBg.out (Go.Sel.below_drewN _ _)⟩
end Go.Proofs.Ytefgkomcmknigaa
