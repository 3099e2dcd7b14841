/- Walks of graph's laws: GraphTells. -/
import Derived.Test.YtefgkomcmknigaaGraK
import Derived.Test.YtefgkomcmknigaaGraN
import Derived.Test.YtefgkomcmknigaaGra5
set_option linter.unusedSimpArgs false
set_option linter.unusedVariables false
namespace Go.Proofs.Ytefgkomcmknigaa
open Go.RowKit Go.Sel Go.Sel.Gra Go.Shelf

attribute [local go_sem] Oper.semAt_some

theorem int_beq_self (x : Int) : (x == x) = true := by simp

set_option maxRecDepth 100000 in
set_option maxHeartbeats 8000000 in
theorem law_GraphTells (A : Option Addr) (n c : Nat) (D : List (List Int)) (a b : Int) (W : World) (hD : Dp W A n c D) :
    Calls Try.prog 5 #[.slice A n c, .int .i64 a, .int .i64 b] W fun e W' => e = .returned (.bool true) ∧ Below W.heap.size W W' := by
  have HD := Lib.hid hD
  have l1 := hD.le
  have l2 := hD.cap
  clear hD
  go_enter Try.func5, Try.ntmps5
  go_upto_region 2 with (go_at_call 12; (with_reducible refine (few_any _ _ _ D _ HD.out).mono ?_); rintro e w1 ⟨⟨A3, c3, rfl, hd⟩, hB⟩; have HE := Lib.hid hd; have HB1 := Lib.hid hB; clear hd hB)
  generalize fewD D = E at *
  generalize min n 40 = N at *
  have hq1 := beq_self_b (beforeB E a b)
  have hq2 := int_beq_self (depthI E a)
  go_wp2_with (first
    | (go_at_call 14; (with_reducible refine (live_any _).mono ?_); rintro e wa ⟨rfl, hB⟩; have HBa := Lib.hid (below_then HB1.out hB); have HEa := Lib.hid (HE.out.below hB); clear hB)
    | (go_at_call 19; (with_reducible refine (Before_any _ _ _ E _ _ _ HEa.out).mono ?_); rintro e wb ⟨rfl, hB⟩; have HBb := Lib.hid (below_then HBa.out hB); have HEb := Lib.hid (HEa.out.below hB); clear hB)
    | (go_at_call 21; (with_reducible refine (rBefore_any _ _ _ E _ _ _ HEb.out).mono ?_); rintro e wc ⟨rfl, hB⟩; have HBc := Lib.hid (below_then HBb.out hB); have HEc := Lib.hid (HEb.out.below hB); clear hB)
    | (go_at_call 23; (with_reducible refine (Above_any _ _ _ E _ _ HEc.out).mono ?_); rintro e wf ⟨⟨Af, cf, rfl, hr⟩, hB⟩; have HRf := Lib.hid hr; have HBf := Lib.hid (below_then HBc.out hB); have HEf := Lib.hid (HEc.out.below hB); clear hB hr)
    | (go_at_call 24; (with_reducible refine (rAbove_any _ _ _ E _ _ HEf.out).mono ?_); rintro e wg ⟨⟨Ag, cg, rfl, hr⟩, hB⟩; have HRg := Lib.hid hr; have HRf2 := Lib.hid (HRf.out.below hB); have HBg := Lib.hid (below_then HBf.out hB); have HEg := Lib.hid (HEf.out.below hB); clear hB hr)
    | (go_at_call 22; (with_reducible refine (Same1_any _ _ _ _ _ _ (aboveL E a) (aboveL E a) _ HRf2.out HRg.out rfl rfl).mono ?_); rw [decide_eq_true (rfl : aboveL E a = aboveL E a)]; rintro e wh ⟨rfl, qq, rfl⟩; have HEh := Lib.hid (HEg.out.below (Go.Sel.below_drewN _ qq)); have HBh := Lib.hid (below_then HBg.out (Go.Sel.below_drewN _ qq)))
    | (go_at_call 20; (with_reducible refine (Depth_any _ _ _ E _ _ HEh.out).mono ?_); rintro e wi ⟨rfl, hB⟩; have HBi := Lib.hid (below_then HBh.out hB); have HEi := Lib.hid (HEh.out.below hB); clear hB)
    | (go_at_call 25; (with_reducible refine (rDepth_any _ _ _ E _ _ HEi.out).mono ?_); rintro e wj ⟨rfl, hB⟩; have HBj := Lib.hid (below_then HBi.out hB); clear hB))
  go_ret
  exact ⟨rfl, HBj.out⟩
end Go.Proofs.Ytefgkomcmknigaa
