/- Walks of merge: each; the first function of Deps. -/
import Derived.Test.YtpicagcapgjiaaaMer2
import Derived.Test.YtpicagcapgjiaaaMerV
set_option linter.unusedSimpArgs false
set_option linter.unusedVariables false
namespace Go.Proofs.Ytpicagcapgjiaaa
open Go.RowKit Go.Sel Go.Sel.Gra Go.Sel.Mer Go.Shelf

set_option maxHeartbeats 2000000 in
/-- each: J a t holds when a groups and t items of the next are over. -/
theorem each_any (gf : Nat) (lb : Array Value) (eg : ∀ args w, (callFunc gf args).run Try.prog w = .ok (.enter gf args) w) (A : Option Addr) (n c : Nat) (D : List (List Int)) (w : World) (J : Nat → Nat → World → Prop) (hn : n ≤ c) (hc : c ≤ 9223372036854775807)
    (ss : List (Option Addr × Nat × Nat)) (hread : ∀ a t W, J a t W → DpS W A n c D ss)
    (hstep : ∀ a t W (x : Int), a < n → (nth D a)[t]? = some x → J a t W → Calls Try.prog gf (#[.int .i64 (a : Int), .int .i64 x] ++ lb) W fun e W' => e = .returned (.tuple #[]) ∧ J a (t + 1) W')
    (hnext : ∀ a W, a < n → J a (nth D a).length W → J (a + 1) 0 W) (h0 : J 0 0 w) :
    Calls Try.prog 71 #[.slice A n c, .func (.func gf) #[] lb] w fun e w' => e = .returned (.tuple #[]) ∧ J n 0 w' := by
  have HR := Lib.hid hread
  have HS := Lib.hid hstep
  have HX := Lib.hid hnext
  have H0 := Lib.hid h0
  clear hread hstep hnext h0
  go_enter Try.func71, Try.ntmps71
  go_wp2
  go_loopw [4, 5, 7, 10] (fun _ _ _ v wr => ∃ a : Nat, a ≤ n ∧ v = .int .i64 a ∧ Hid (J a 0 wr)) (fun _ _ _ v _ => n - (intOf v).toNat)
  case atStart => exact ⟨0, by omega, rfl, H0⟩
  case round =>
    obtain ⟨a, ha, rfl, HJ⟩ := hrel
    by_cases hlt : a < n
    · obtain ⟨b, off, A', n', c', rfl, hcell, hss, hl, hrd⟩ := (HR.out _ _ _ HJ.out).at_ hlt
      have l1 := hrd.le
      have l2 := hrd.cap
      have HL := Lib.hid hl
      have HROW : Hid (∀ t W, J a t W → Rd W A' n' c' (iv .i64 (nth D a))) := fun t W hJ => by
        obtain ⟨b2, off2, A2, n2, c2, e2, hcell2, hss2, hl2, hrd2⟩ := (HR.out _ _ _ hJ).at_ hlt
        rw [hss] at hss2
        injection hss2 with hss2
        injection hss2 with q1 q2
        injection q2 with q2 q3
        subst q1; subst q2; subst q3
        exact hrd2
      clear hl hrd hss
      go_wp2
      go_loopw [7, 17] (fun _ v wx => ∃ t : Nat, t ≤ n' ∧ v = .int .i64 t ∧ Hid (J a t wx)) (fun _ v _ => n' - (intOf v).toNat)
      case atStart => exact ⟨0, by omega, rfl, HJ⟩
      case round =>
        obtain ⟨t, ht, rfl, HJt⟩ := hrel
        by_cases htl : t < n'
        · have hxl : t < (nth D a).length := by have := HL.out; omega
          obtain ⟨b3, off3, rfl, _, hc3⟩ := (HROW.out t _ HJt.out).form (by simp; omega)
          have hck := hc3 t (by simpa using hxl)
          rw [iv_at] at hck
          clear hc3
          have hcall := HS.out a t _ (nth D a)[t] hlt (List.getElem?_eq_getElem hxl) HJt.out
          generalize (nth D a)[t] = x at *
          have HC := Lib.hid hcall
          clear hcall
          go_wp2_with (go_at_fn gf; refine HC.out.mono ?_; rintro e w' ⟨rfl, hJ'⟩; have HJ' := Lib.hid hJ'; clear hJ')
          go_roundw
          case rel => exact ⟨t + 1, by omega, by go_num, HJ'⟩
          case measure => simp [intOf]; omega
        · obtain rfl : t = n' := by omega
          go_wp2
          go_roundw
          case rel => exact ⟨a + 1, by omega, by go_num, HX.out a _ hlt (by rw [HL.out]; exact HJt.out)⟩
          case measure => simp [intOf]; omega
    · obtain rfl : a = n := by omega
      go_wp2
      go_end0
      exact ⟨rfl, HJ.out⟩
end Go.Proofs.Ytpicagcapgjiaaa
