/- Walks of graph's reference: Same, Ups. -/
import Derived.Test.YtpicagcapgjiaaaGraN
import Derived.Test.YtpicagcapgjiaaaGraT
set_option linter.unusedSimpArgs false
set_option linter.unusedVariables false
namespace Go.Proofs.Ytpicagcapgjiaaa
open Go.RowKit Go.Sel Go.Sel.Gra Go.Shelf

attribute [local go_sem] Oper.semAt_some

theorem drew_q (w : World) (q : Nat) : (w.drewN q).drew = w.drewN (q + 1) := by
  induction q with
  | zero => rfl
  | succ q ih => simp only [World.drewN, World.drew]; simp [Nat.add_assoc]

set_option maxRecDepth 100000 in
set_option maxHeartbeats 4000000 in
/-- Like rows are the same. -/
theorem rSame_any (A A1 : Option Addr) (n c c1 : Nat) (D : List (List Int)) (w : World) (hD : Dp w A n c D) (hD1 : Dp w A1 n c1 D) :
    Calls Try.prog 26 #[.slice A n c, .slice A1 n c1] w fun e w' => e = .returned (.bool true) ∧ ∃ q, w' = w.drewN q := by
  have l1 := hD.le
  have l2 := hD.cap
  have l3 := hD1.le
  have l4 := hD1.cap
  have HD := Lib.hid hD
  have HD1 := Lib.hid hD1
  have q0 : ((n : Int) != (n : Int)) = false := by simp
  clear hD hD1
  go_enter Try.func26, Try.ntmps26
  go_wp2
  go_loopw [5, 6] (fun i _ wr => ∃ k : Nat, k ≤ n ∧ i = .int .i64 k ∧ Hid (∃ q, wr = w.drewN q)) (fun i _ _ => n - (intOf i).toNat)
  case atStart => exact ⟨0, by omega, by go_num, ⟨0, rfl⟩⟩
  case round =>
    rename World => w1
    obtain ⟨k, hk, rfl, HQ⟩ := hrel
    have HB : Hid (Below w.heap.size w w1) := by
      obtain ⟨q, hq⟩ := HQ.out
      rw [hq]; exact Go.Sel.below_drewN _ _
    by_cases hlt : k < n
    · obtain ⟨b, off, A', n', c', rfl, hc, hn', hrd⟩ := (HD.out.below HB.out).at_ hlt
      obtain ⟨b1, off1, A1', n1', c1', rfl, hc1, hn1', hrd1⟩ := (HD1.out.below HB.out).at_ hlt
      obtain rfl : n1' = n' := by omega
      have hl1 := hrd.le
      have hl2 := hrd.cap
      have hl3 := hrd1.le
      have hl4 := hrd1.cap
      have HNL := Lib.hid hn'
      have HRD := Lib.hid hrd
      have HRD1 := Lib.hid hrd1
      have q1 : ((n1' : Int) != (n1' : Int)) = false := by simp
      clear hn' hn1' hrd hrd1
      go_wp2_with (fail)
      go_region
      have HQ1 : Hid (∃ q, w1.drew = w.drewN q) := by
        obtain ⟨q, hq⟩ := HQ.out
        exact ⟨q + 1, by rw [hq, drew_q]⟩
      have hcd := keep_cell hc (show Below w1.heap.size w1 w1.drew from ⟨rfl, rfl, rfl, Nat.le_refl _, fun _ _ => rfl⟩)
      have hcd1 := keep_cell hc1 (show Below w1.heap.size w1 w1.drew from ⟨rfl, rfl, rfl, Nat.le_refl _, fun _ _ => rfl⟩)
      have HRD2 : Hid (Rd w1.drew A' n1' c' (iv .i64 (nth D k))) := HRD.out.below (show Below w1.heap.size w1 w1.drew from ⟨rfl, rfl, rfl, Nat.le_refl _, fun _ _ => rfl⟩)
      have HRD3 : Hid (Rd w1.drew A1' n1' c1' (iv .i64 (nth D k))) := HRD1.out.below (show Below w1.heap.size w1 w1.drew from ⟨rfl, rfl, rfl, Nat.le_refl _, fun _ _ => rfl⟩)
      clear hc hc1 HRD HRD1 HB HQ
      generalize w1.drew = w2 at *
      have HCD := Lib.hid hcd
      have HCD1 := Lib.hid hcd1
      clear hcd hcd1
      go_wp2_with (fail)
      go_loopw [6] (fun i wr => ∃ j : Nat, j ≤ n1' ∧ i = .int .i64 j ∧ Hid (∃ q, wr = w2.drewN q)) (fun i _ => n1' - (intOf i).toNat)
      case atStart => exact ⟨0, by omega, by go_num, ⟨0, rfl⟩⟩
      case round =>
        obtain ⟨j, hj, rfl, HQ2⟩ := hrel
        have HB2 : Hid (Below w2.heap.size w2 wr) := by
          obtain ⟨q, hq⟩ := HQ2.out
          rw [hq]; exact Go.Sel.below_drewN _ _
        have hcd := keep_cell HCD.out HB2.out
        have hcd1 := keep_cell HCD1.out HB2.out
        by_cases hlt2 : j < n1'
        · have hxl : j < (nth D k).length := by have := HNL.out; omega
          obtain ⟨b2, off2, rfl, _, hc2⟩ := (HRD2.out.below HB2.out).form (by simp; omega)
          obtain ⟨b3, off3, rfl, _, hc3⟩ := (HRD3.out.below HB2.out).form (by simp; omega)
          have hcj := hc2 j (by simpa using hxl)
          have hcj3 := hc3 j (by simpa using hxl)
          rw [iv_at] at hcj hcj3
          clear hc2 hc3
          generalize (nth D k)[j] = x at *
          have q2 : (x != x) = false := by simp
          go_wp2_with (fail)
          go_region
          go_wp2_with (fail)
          go_roundw
          case rel =>
            refine ⟨j + 1, by omega, by go_num, ?_⟩
            obtain ⟨q, hq⟩ := HQ2.out
            exact ⟨q + 1, by rw [hq, drew_q]⟩
          case measure => simp [intOf] <;> omega
        · obtain rfl : j = n1' := by omega
          go_wp2_with (fail)
          go_roundw
          case rel =>
            refine ⟨k + 1, by omega, by go_num, ?_⟩
            obtain ⟨q, hq⟩ := HQ1.out
            obtain ⟨q2, hq2⟩ := HQ2.out
            exact ⟨q + q2, by rw [hq2, hq]; simp [World.drewN, Nat.add_assoc]⟩
          case measure => simp [intOf] <;> omega
    · obtain rfl : k = n := by omega
      go_wp2_with (fail)
      go_ret
      exact ⟨rfl, HQ.out⟩
end Go.Proofs.Ytpicagcapgjiaaa
