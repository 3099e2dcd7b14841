/- Walks of merge's reference: ref04.Right, ref06.Right. -/
import Derived.Test.YtpicagcapgjiaaaMer10
import Derived.Test.YtpicagcapgjiaaaGraE
set_option linter.unusedSimpArgs false
set_option linter.unusedVariables false
namespace Go.Proofs.Ytpicagcapgjiaaa
open Go.RowKit Go.Sel Go.Sel.Gra Go.Sel.Mer Go.Shelf

set_option maxHeartbeats 1000000 in
theorem rpRight_any (x : It) (w : World) :
    Calls Try.prog 67 #[.agg #[.int .i64 x.b, .int .i64 x.o, .string x.s]] w fun e w' => e = .returned (.bool (prightB x)) ∧ Below w.heap.size w w' := by
  have HE : Hid (∀ b : Bool, (prightB x = true ↔ b = true) → prightB x = b) := fun b h => Bool.eq_iff_iff.2 h
  have HI := Lib.hid (pright_iff (x := x))
  generalize prightB x = r at *
  obtain ⟨b, o, s, ds⟩ := x
  simp only at *
  by_cases h1 : ¬ (0 ≤ b)
  · have hr : r = false := HE.out _ (by rw [HI.out]; simp; omega)
    subst hr
    go_enter Try.func67, Try.ntmps67
    go_wp2
    go_ret
    exact ⟨rfl, below_al _ _⟩
  by_cases h2 : ¬ (b < 96)
  · have hr : r = false := HE.out _ (by rw [HI.out]; simp; omega)
    subst hr
    go_enter Try.func67, Try.ntmps67
    go_wp2
    go_ret
    exact ⟨rfl, below_al _ _⟩
  by_cases h3 : ¬ (0 ≤ o)
  · have hr : r = false := HE.out _ (by rw [HI.out]; simp; omega)
    subst hr
    go_enter Try.func67, Try.ntmps67
    go_wp2
    go_ret
    exact ⟨rfl, below_al _ _⟩
  by_cases h4 : ¬ (o < 32)
  · have hr : r = false := HE.out _ (by rw [HI.out]; simp; omega)
    subst hr
    go_enter Try.func67, Try.ntmps67
    go_wp2
    go_ret
    exact ⟨rfl, below_al _ _⟩
  by_cases h5 : ¬ (1 ≤ (s.size : Int))
  · have hr : r = false := HE.out _ (by rw [HI.out]; simp; omega)
    subst hr
    go_enter Try.func67, Try.ntmps67
    go_wp2
    go_ret
    exact ⟨rfl, below_al _ _⟩
  by_cases h6 : ¬ ((s.size : Int) ≤ 32 - o)
  · have hr : r = false := HE.out _ (by rw [HI.out]; simp; omega)
    subst hr
    go_enter Try.func67, Try.ntmps67
    go_wp2
    go_ret
    exact ⟨rfl, below_al _ _⟩
  · have hr : r = true := HE.out _ (by rw [HI.out]; simp; omega)
    subst hr
    simp only [Classical.not_not] at h1 h2 h3 h4 h5 h6
    go_enter Try.func67, Try.ntmps67
    go_wp2
    go_ret
    exact ⟨rfl, below_al _ _⟩

set_option maxRecDepth 100000 in
set_option maxHeartbeats 2000000 in
theorem rmRight_any (A : Option Addr) (n c : Nat) (L : List It) (w : World) (hL : Ip w A n c L) :
    Calls Try.prog 25 #[.slice A n c] w fun e w' => e = .returned (.bool (mrightB L)) ∧ Below w.heap.size w w' := by
  have HL := Lib.hid hL
  have HN := Lib.hid hL.len
  have l1 := hL.le
  have l2 := hL.cap
  clear hL
  by_cases hl : n ≤ 64
  · have hq0 : decide ((64 : Int) < (n : Int)) = false := decide_eq_false (by omega)
    go_enter Try.func25, Try.ntmps25
    go_wp2
    go_loopw [3] (fun v wr => ∃ k : Nat, k ≤ n ∧ v = .int .i64 k ∧ Hid (∀ j, j < k → prightB (nthI L j) = true) ∧ Hid (Below w.heap.size w wr)) (fun v _ => n - (intOf v).toNat)
    case atStart => exact ⟨0, by omega, rfl, Lib.hid (fun j hj => by omega), Below.refl _ _⟩
    case round =>
      obtain ⟨k, hk, rfl, hz, HB⟩ := hrel
      by_cases hlt : k < n
      · obtain ⟨b, off, A', n', c', rfl, hb, c0, c1, c2, c3, hd, hr⟩ := (HL.out.below HB.out).at_ hlt
        clear hd hr
        have HP : Hid (∀ wx, Calls Try.prog 67 #[.agg #[.int .i64 (nthI L k).b, .int .i64 (nthI L k).o, .string (nthI L k).s]] wx fun e w' => e = .returned (.bool (prightB (nthI L k))) ∧ Below wx.heap.size wx w') := fun wx => rpRight_any (nthI L k) wx
        cases hq : prightB (nthI L k) with
        | true =>
          have HQ := Lib.hid hq
          rw [hq] at HP
          clear hq
          generalize hx : nthI L k = x at *
          have HX := Lib.hid hx
          clear hx
          go_wp2_with (go_at_call 67; (with_reducible refine (HP.out _).mono ?_); rintro e w2 ⟨rfl, hB⟩; have HB2 := Lib.hid (below_then HB.out hB); clear hB)
          go_roundw
          case rel => exact ⟨k + 1, by omega, by go_num, Lib.hid (fun j hj => by
            by_cases hjk : j = k
            · subst hjk; rw [HX.out]; exact HQ.out
            · exact hz.out j (by omega)), HB2⟩
          case measure => simp [intOf]; omega
        | false =>
          have HF := Lib.hid (mright_bad (L := L) (k := k) (by have := HN.out; omega) hq)
          rw [hq] at HP
          clear hq
          generalize nthI L k = x at *
          go_wp2_with (go_at_call 67; (with_reducible refine (HP.out _).mono ?_); rintro e w2 ⟨rfl, hB⟩; have HB2 := Lib.hid (below_then HB.out hB); clear hB)
          go_ret
          exact ⟨ret_bool HF.out.symm, HB2.out⟩
      · obtain rfl : k = n := by omega
        have HE := Lib.hid (mright_end (L := L) (by have := HN.out; omega) (fun j hj => hz.out j (by have := HN.out; omega)))
        go_wp2_with (first
          | (go_at_call 37; (with_reducible refine (DepsOf_any A _ c L _ (HL.out.below HB.out) (by omega)).mono ?_); rintro e w2 ⟨⟨A2, c2, rfl, hd⟩, hB⟩; have HD := Lib.hid hd; have HB2 := Lib.hid (below_then HB.out hB); clear hd hB)
          | (go_at_call 68; (with_reducible refine (rRight_any A2 _ _ (depsL L) _ HD.out).mono ?_); rw [← HE.out]; rintro e w3 ⟨rfl, hw⟩; have hw := hw.symm; subst hw))
        go_ret
        exact ⟨rfl, HB2.out⟩
  · have HF := Lib.hid (mright_long (L := L) (by have := HN.out; omega))
    have hq0 : decide ((64 : Int) < (n : Int)) = true := decide_eq_true (by omega)
    go_enter Try.func25, Try.ntmps25
    go_wp2
    go_ret
    exact ⟨ret_bool HF.out.symm, Below.refl _ _⟩
end Go.Proofs.Ytpicagcapgjiaaa
