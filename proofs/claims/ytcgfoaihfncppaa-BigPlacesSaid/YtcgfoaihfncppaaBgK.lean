/- Walks of big's laws: BigPlaces. -/
import Derived.Test.YtcgfoaihfncppaaBgJ
set_option linter.unusedSimpArgs false
set_option linter.unusedVariables false
namespace Go.Proofs.Ytcgfoaihfncppaa
open Go.RowKit Go.Sel Go.Sel.Gra Go.Sel.Bg Go.Sel.Mer Go.Shelf

set_option maxRecDepth 100000 in
set_option maxHeartbeats 4000000 in
theorem law_BigPlaces (a b : Int) (w : World) (ha0 : 0 ≤ a) (ha1 : a ≤ 65535) (hb0 : 0 ≤ b) (hb1 : b ≤ 65535) : Calls Try.prog 3 #[.int .u16 a, .int .u16 b] w fun e w' => e = .returned (.bool true) ∧ Below w.heap.size w w' := by
  have HI := Lib.hid (show big (a % 1062) from ⟨by omega, by omega⟩)
  have HK := Lib.hid (show big (b % 1062) from ⟨by omega, by omega⟩)
  go_enter Try.func3, Try.ntmps3
  go_upto_region 2 with (fail)
  generalize a % 1062 = i at *
  generalize b % 1062 = k at *
  have HW : Hid (∀ x, big x → ∀ W, Calls Try.prog 9 #[.int .i64 x] W fun e w' => (∃ A c, e = .returned (.tuple #[.slice A (wayL x).length c, .int .i64 0]) ∧ Rd w' A (wayL x).length c (iv .i64 (wayL x))) ∧ Below W.heap.size W w') := Lib.hid fun x hx W => Way_ok x hx W
  have hli := wayL_len i
  have hlk := wayL_len k
  have HIN := Lib.hid (wayL_inj HI.out.1 HK.out.1)
  generalize hwi : wayL i = wi at *
  generalize hwk : wayL k = wk at *
  have HWI : Hid (∀ W, Calls Try.prog 9 #[.int .i64 i] W fun e w' => (∃ A c, e = .returned (.tuple #[.slice A wi.length c, .int .i64 0]) ∧ Rd w' A wi.length c (iv .i64 wi)) ∧ Below W.heap.size W w') := Lib.hid fun W => by have := HW.out i HI.out W; rwa [hwi] at this
  have HWK : Hid (∀ W, Calls Try.prog 9 #[.int .i64 k] W fun e w' => (∃ A c, e = .returned (.tuple #[.slice A wk.length c, .int .i64 0]) ∧ Rd w' A wk.length c (iv .i64 wk)) ∧ Below W.heap.size W w') := Lib.hid fun W => by have := HW.out k HK.out W; rwa [hwk] at this
  clear hwi hwk HW
  have hdec : decide (wi = wk) = (i == k) := by rw [Bool.eq_iff_iff, decide_eq_true_eq, beq_iff_eq]; exact HIN.out
  have h1 : (1 : Int) ≤ ((wi.length : Nat) : Int) := by omega
  have h2 : ((wi.length : Nat) : Int) ≤ 3 := by omega
  go_upto_region 3 with (go_at_call 9; refine (HWI.out _).mono ?_; rintro e w1 ⟨⟨A, c, rfl, hr⟩, hB⟩; have HR := Lib.hid hr; have HB := Lib.hid hB; clear hr hB)
  go_upto_region 4 with (go_at_call 9; refine (HWK.out _).mono ?_; rintro e w2 ⟨⟨A2, c2, rfl, hr⟩, hB⟩; have HR2 := Lib.hid hr; have HR1 := Lib.hid (HR.out.below hB); have HB2 := Lib.hid (below_then HB.out hB); clear hr hB)
  go_wp2_with (first
    | (go_at_call 10; refine (live_any _).mono ?_; rintro e w3 ⟨rfl, hB⟩; have HR3 := Lib.hid (HR1.out.below hB); have HR4 := Lib.hid (HR2.out.below hB); have HB3 := Lib.hid (below_then HB2.out hB); clear hB)
    | (go_at_call 11; refine (Same1_any A A2 _ _ c c2 wi wk _ HR3.out HR4.out rfl rfl).mono ?_; rintro e w4 ⟨rfl, q, rfl⟩; have HB4 := Lib.hid (HB3.out.trans (Sel.below_drewN w3 q |>.mono HB3.out.size))))
  go_ret
  exact ⟨rfl, HB4.out⟩
end Go.Proofs.Ytcgfoaihfncppaa
