/- Walks of graph's laws: GraphThins. -/
import Derived.Test.YtefgkomcmknigaaGraK
import Derived.Test.YtefgkomcmknigaaGraV
set_option linter.unusedSimpArgs false
set_option linter.unusedVariables false
namespace Go.Proofs.Ytefgkomcmknigaa
open Go.RowKit Go.Sel Go.Sel.Gra Go.Shelf

attribute [local go_sem] Oper.semAt_some

set_option maxRecDepth 100000 in
set_option maxHeartbeats 8000000 in
theorem law_GraphThins (A : Option Addr) (n c : Nat) (D : List (List Int)) (W : World) (hD : Dp W A n c D) :
    Calls Try.prog 3 #[.slice A n c] W fun e W' => e = .returned (.bool true) ∧ Below W.heap.size W W' := by
  have HD := Lib.hid hD
  have l1 := hD.le
  have l2 := hD.cap
  clear hD
  go_enter Try.func3, Try.ntmps3
  go_upto_region 3 with (first
    | (go_at_call 12; (with_reducible refine (few_any _ _ _ D _ HD.out).mono ?_); rintro e w1 ⟨⟨A3, c3, rfl, hd⟩, hB⟩; have HE := Lib.hid hd; have HB1 := Lib.hid hB; clear hd hB)
    | (go_at_call 13; (with_reducible refine (Thin_all _ _ _ (fewD D) _ HE.out).mono ?_); rintro e w2 ⟨⟨A4, c4, rfl, hd⟩, hB⟩; have HT := Lib.hid hd; have HE2 := Lib.hid (HE.out.below hB); have HB2 := Lib.hid (below_then HB1.out hB); clear hd hB))
  generalize hE : fewD D = E at *
  have HED := Lib.hid hE
  clear hE
  generalize hN : min n 40 = N at *
  have HNN := Lib.hid hN
  clear hN
  go_wp2_with (first
    | (go_at_call 14; (with_reducible refine (live_any _).mono ?_); rintro e wa ⟨rfl, hB⟩; have HBa := Lib.hid (below_then HB2.out hB); have HEa := Lib.hid (HE2.out.below hB); have HTa := Lib.hid (HT.out.below hB); clear hB)
    | (go_at_call 16; (with_reducible refine (rThin_any _ _ _ E _ HEa.out).mono ?_); rintro e wb ⟨⟨A5, c5, rfl, hd⟩, hB⟩; have HTb := Lib.hid hd; have HTa2 := Lib.hid (HTa.out.below hB); have HBb := Lib.hid (below_then HBa.out hB); have HEb := Lib.hid (HEa.out.below hB); clear hB hd)
    | (go_at_call 15; (with_reducible refine (rSame_any _ _ _ _ _ (thinD E) _ HTa2.out HTb.out).mono ?_); rintro e wc ⟨rfl, qq, rfl⟩; have HEc := Lib.hid (HEb.out.below (Go.Sel.below_drewN _ qq)); have HBc := Lib.hid (below_then HBb.out (Go.Sel.below_drewN _ qq)))
    | (go_at_call 12; (with_reducible refine (few_any _ _ _ D _ (HD.out.below HBc.out)).mono ?_); rw [HED.out, HNN.out]; rintro e wd ⟨⟨A6, c6, rfl, hd⟩, hB⟩; have HEd := Lib.hid hd; have HEd2 := Lib.hid (HEc.out.below hB); have HBd := Lib.hid (below_then HBc.out hB); clear hd hB)
    | (go_at_call 15; (with_reducible refine (rSame_any _ _ _ _ _ E _ HEd2.out HEd.out).mono ?_); rintro e we ⟨rfl, qq, rfl⟩))
  go_ret
  exact ⟨rfl, below_then HBd.out (Go.Sel.below_drewN _ _)⟩
end Go.Proofs.Ytefgkomcmknigaa
