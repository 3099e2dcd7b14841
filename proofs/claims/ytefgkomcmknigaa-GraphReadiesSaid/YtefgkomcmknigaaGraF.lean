/- Walks of graph's laws: GraphReadies. -/
import Derived.Test.YtefgkomcmknigaaGraC
import Derived.Test.YtefgkomcmknigaaGraK
import Derived.Test.YtefgkomcmknigaaGraM
set_option linter.unusedSimpArgs false
set_option linter.unusedVariables false
namespace Go.Proofs.Ytefgkomcmknigaa
open Go.RowKit Go.Sel Go.Sel.Gra Go.Shelf

attribute [local go_sem] Oper.semAt_some

set_option maxRecDepth 100000 in
set_option maxHeartbeats 8000000 in
theorem law_GraphReadies (A : Option Addr) (n c : Nat) (D : List (List Int)) (A1 : Option Addr) (n1 c1 : Nat) (xs1 : List Int) (A2 : Option Addr) (n2 c2 : Nat) (xs2 : List Int) (W : World) (hD : Dp W A n c D)
    (hr1 : Rd W A1 n1 c1 (iv .i64 xs1)) (hl1 : xs1.length = n1) (hr2 : Rd W A2 n2 c2 (iv .i64 xs2)) (hl2 : xs2.length = n2) :
    Calls Try.prog 7 #[.slice A n c, .slice A1 n1 c1, .slice A2 n2 c2] W fun e W' => e = .returned (.bool true) ∧ Below W.heap.size W W' := by
  have HD := Lib.hid hD
  have l1 := hD.le
  have l2 := hD.cap
  have m1 := hr1.le
  have m2 := hr1.cap
  have k1 := hr2.le
  have k2 := hr2.cap
  have HS1 := Lib.hid (rd_some hr1 hl1).1
  have HT1 := Lib.hid (rd_some hr1 hl1).2
  have HS2 := Lib.hid (rd_some hr2 hl2).1
  have HT2 := Lib.hid (rd_some hr2 hl2).2
  clear hD hr1 hl1 hr2 hl2
  go_enter Try.func7, Try.ntmps7
  go_upto_region 2 with (go_at_call 12; (with_reducible refine (few_any _ _ _ D _ HD.out).mono ?_); rintro e w1 ⟨⟨A3, c3, rfl, hd⟩, hB⟩; have HE := Lib.hid hd; have HB1 := Lib.hid hB; clear hd hB)
  generalize fewD D = E at *
  generalize min n 40 = N at *
  go_wp2_with (first
    | (go_at_call 14; (with_reducible refine (live_any _).mono ?_); rintro e wa ⟨rfl, hB⟩; have HBa := Lib.hid (below_then HB1.out hB); have HEa := Lib.hid (HE.out.below hB); clear hB)
    | (go_at_call 27; (with_reducible refine (some_any A1 n1 c1 _ m1 m2).mono ?_); rintro e w4 ⟨rfl, hw⟩; have hw := hw.symm; subst hw)
    | (go_at_call 27; (with_reducible refine (some_any A2 n2 c2 _ k1 k2).mono ?_); rintro e w4 ⟨rfl, hw⟩; have hw := hw.symm; subst hw)
    | (go_at_call 26; (with_reducible refine (Ready_any _ _ _ E _ _ _ (xs1.take (min n1 60)) _ _ _ (xs2.take (min n2 60)) _ HEa.out (HS1.out.below HBa.out) HT1.out (HS2.out.below HBa.out) HT2.out).mono ?_); rintro e wf ⟨⟨Af, cf, rfl, hr⟩, hB⟩; have HRf := Lib.hid hr; have HBf := Lib.hid (below_then HBa.out hB); have HEf := Lib.hid (HEa.out.below hB); clear hB hr)
    | (go_at_call 28; (with_reducible refine (rReady_any _ _ _ E _ _ _ (xs1.take (min n1 60)) _ _ _ (xs2.take (min n2 60)) _ HEf.out (HS1.out.below HBf.out) HT1.out (HS2.out.below HBf.out) HT2.out).mono ?_); rintro e wg ⟨⟨Ag, cg, rfl, hr⟩, hB⟩; have HRg := Lib.hid hr; have HRf2 := Lib.hid (HRf.out.below hB); have HBg := Lib.hid (below_then HBf.out hB); clear hB hr)
    | (go_at_call 22; (with_reducible refine (Same1_any _ _ _ _ _ _ (readyL E (xs1.take (min n1 60)) (xs2.take (min n2 60))) (readyL E (xs1.take (min n1 60)) (xs2.take (min n2 60))) _ HRf2.out HRg.out rfl rfl).mono ?_); rw [decide_eq_true (rfl : readyL E (xs1.take (min n1 60)) (xs2.take (min n2 60)) = readyL E (xs1.take (min n1 60)) (xs2.take (min n2 60)))]; rintro e wh ⟨rfl, qq, rfl⟩))
  go_ret
  exact ⟨rfl, below_then HBg.out (Go.Sel.below_drewN _ _)⟩
end Go.Proofs.Ytefgkomcmknigaa
