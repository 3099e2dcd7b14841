/- Walks of merge's reference: SameItems of the same; MergeOverlaps. -/
import Derived.Test.YtpicagcapgjiaaaMo5
import Derived.Test.YtpicagcapgjiaaaMer10
import Derived.Test.YtpicagcapgjiaaaGraU
import Derived.Test.YtpicagcapgjiaaaMer9
set_option linter.unusedSimpArgs false
set_option linter.unusedVariables false
namespace Go.Proofs.Ytpicagcapgjiaaa
open Go.RowKit Go.Sel Go.Sel.Gra Go.Sel.Mer Go.Shelf

theorem neq_patch (w : World) (b o : Int) (s : ByteArray) : (binOp .neq 42 (.agg #[.int .i64 b, .int .i64 o, .string s]) (.agg #[.int .i64 b, .int .i64 o, .string s])).run Try.prog w = .ok (.bool false) w := by
  go_simp

set_option maxRecDepth 100000 in
set_option maxHeartbeats 4000000 in
theorem SameItems_any (A : Option Addr) (n c : Nat) (L : List It) (A1 : Option Addr) (c1 : Nat) (w : World) (hL : Ip w A n c L) (hL1 : Ip w A1 n c1 L) (hn : n ≤ 1000) :
    Calls Try.prog 38 #[.slice A n c, .slice A1 n c1] w fun e w' => e = .returned (.bool true) ∧ Below w.heap.size w w' := by
  have HL := Lib.hid hL
  have HM := Lib.hid hL1
  have l1 := hL.le
  have l2 := hL.cap
  have l3 := hL1.le
  have l4 := hL1.cap
  have hneq := neq_patch
  clear hL hL1
  have q0 : ((n : Int) != (n : Int)) = false := by simp
  go_enter Try.func38, Try.ntmps38
  go_wp2
  go_loopw [5] (fun v wr => ∃ k : Nat, k ≤ n ∧ v = .int .i64 k ∧ Hid (Below w.heap.size w wr)) (fun v _ => n - (intOf v).toNat)
  case atStart => exact ⟨0, by omega, rfl, Below.refl _ _⟩
  case round =>
    obtain ⟨k, hk, rfl, HB⟩ := hrel
    by_cases hlt : k < n
    · obtain ⟨b, off, A', n', c', rfl, hb, p0, p1, p2, p3, hd, hr⟩ := (HL.out.below HB.out).at_ hlt
      obtain ⟨b1, off1, A1', n1', c1', rfl, hb1, s0, s1, s2, s3, hd1, hr1⟩ := (HM.out.below HB.out).at_ hlt
      generalize nthI L k = x at *
      have HS : At (fun w' : World => w'.cell? ⟨b, off + k * 4, none⟩ = some (.int .i64 x.b) ∧ w'.cell? ⟨b, off + k * 4 + 1, none⟩ = some (.int .i64 x.o) ∧ w'.cell? ⟨b, off + k * 4 + 2, none⟩ = some (.string x.s) ∧ w'.cell? ⟨b1, off1 + k * 4, none⟩ = some (.int .i64 x.b) ∧ w'.cell? ⟨b1, off1 + k * 4 + 1, none⟩ = some (.int .i64 x.o) ∧ w'.cell? ⟨b1, off1 + k * 4 + 2, none⟩ = some (.string x.s)) wr.drew := ⟨p0, p1, p2, s0, s1, s2⟩
      have HBD : Hid (Below w.heap.size w wr.drew) := HB.out.drew
      have k1 : (0 : Int) ≤ (k : Int) := by omega
      have k2 : (k : Int) < (n : Int) := by omega
      clear p0 p1 p2 p3 s0 s1 s2 s3 hd hr hd1 hr1 hb hb1
      go_upto_region 6 with (fail)
      refine wp_region_lexD HS [0, 1, 2, 3, 4, 5, 6, 7, 8, 9, 10] (by kernel_rfl) (by kernel_rfl) (fun _ _ d _ _ h => by cases d <;> exact h) ?_
      repeat (refine lexD_take (by decide) (by kernel_rfl) HS (fun w9 h9 => by obtain ⟨s0, s1, s2, s3, s4, s5⟩ := h9; go_simp; first | done | rfl) (fun K hK => ?_); go_simp; refine hK _ ?_; clear hK K)
      refine lexD_nil ?_
      go_wp2
      go_roundw
      case rel => exact ⟨k + 1, by omega, by go_num, HBD⟩
      case measure => simp [intOf] <;> omega
    · obtain rfl : k = n := by omega
      go_wp2_with (first
        | (go_at_call 37; (with_reducible refine (DepsOf_any A k c L _ (HL.out.below HB.out) hn).mono ?_); rintro e w2 ⟨⟨A2, c2, rfl, hd⟩, hB⟩; have HD2 := Lib.hid hd; have HM2 := Lib.hid ((HM.out.below HB.out).below hB); have HB2 := Lib.hid (below_then HB.out hB); clear hd hB)
        | (go_at_call 37; (with_reducible refine (DepsOf_any A1 k c1 L _ HM2.out hn).mono ?_); rintro e w3 ⟨⟨A3, c3, rfl, hd⟩, hB⟩; have HD3 := Lib.hid hd; have HE3 := Lib.hid (HD2.out.below hB); have HB3 := Lib.hid (below_then HB2.out hB); clear hd hB)
        | (go_at_call 26; (with_reducible refine (rSame_any _ _ _ _ _ (depsL L) _ HE3.out HD3.out).mono ?_); rintro e w4 ⟨rfl, q4, rfl⟩))
      go_ret
      exact ⟨rfl, Below.then_drewN HB3.out _⟩

set_option maxRecDepth 100000 in
set_option maxHeartbeats 4000000 in
theorem law_MergeOverlaps (A : Option Addr) (n c : Nat) (L : List It) (W : World) (hL : Pp W A n c L) :
    Calls Try.prog 9 #[.slice A n c] W fun e W' => e = .returned (.bool true) ∧ Below W.heap.size W W' := by
  have b1 := hL.le
  have b2 := hL.cap
  have hM : ∃ M, M = min n 66 := ⟨_, rfl⟩
  obtain ⟨M, hM⟩ := hM
  have HL := Lib.hid (hL.upto (show M ≤ n by omega))
  clear hL
  generalize L.take M = L at *
  have HOL : Hid ((ovL L).length ≤ 64) := by
    show _ ≤ _
    unfold ovL
    split
    · rename_i h; simpa using h.1
    · simp
  by_cases hn8 : 66 < n
  · obtain rfl : M = 66 := by omega
    clear hM
    have q0 : decide ((66 : Int) < (n : Int)) = true := by simp; omega
    go_enter Try.func9, Try.ntmps9
    go_wp2_with (first
      | (go_at_call 23; (with_reducible refine (mlive_any _).mono ?_); rintro e w1 ⟨rfl, hB⟩; have HL1 := Lib.hid (HL.out.below hB); have HB1 := Lib.hid hB; clear hB)
      | (go_at_call 39; (with_reducible refine (mOverlaps_any _ _ _ L _ HL1.out).mono ?_); rintro e w2 ⟨⟨A2, c2, rfl, hd⟩, hB⟩; have HX2 := Lib.hid hd; have HL2 := Lib.hid (HL1.out.below hB); have HB2 := Lib.hid (below_then HB1.out hB); clear hd hB)
      | (go_at_call 40; (with_reducible refine (rOverlaps_any _ _ _ L _ HL2.out).mono ?_); rintro e w3 ⟨⟨A3, c3, rfl, hd⟩, hB⟩; have HX3 := Lib.hid (HX2.out.below hB); have HY3 := Lib.hid hd; have HB3 := Lib.hid (below_then HB2.out hB); clear hd hB; have hol := HOL.out)
      | (go_at_call 38; (with_reducible refine (SameItems_any _ _ _ (ovL L) _ _ _ HX3.out HY3.out (by omega)).mono ?_); rintro e w4 ⟨rfl, hB⟩; have HB4 := Lib.hid (below_then HB3.out hB); clear hB))
    go_ret
    exact ⟨rfl, HB4.out⟩
  · obtain rfl : M = n := by omega
    clear hM
    have q0 : decide ((66 : Int) < (M : Int)) = false := by simp; omega
    go_enter Try.func9, Try.ntmps9
    go_wp2_with (first
      | (go_at_call 23; (with_reducible refine (mlive_any _).mono ?_); rintro e w1 ⟨rfl, hB⟩; have HL1 := Lib.hid (HL.out.below hB); have HB1 := Lib.hid hB; clear hB)
      | (go_at_call 39; (with_reducible refine (mOverlaps_any _ _ _ L _ HL1.out).mono ?_); rintro e w2 ⟨⟨A2, c2, rfl, hd⟩, hB⟩; have HX2 := Lib.hid hd; have HL2 := Lib.hid (HL1.out.below hB); have HB2 := Lib.hid (below_then HB1.out hB); clear hd hB)
      | (go_at_call 40; (with_reducible refine (rOverlaps_any _ _ _ L _ HL2.out).mono ?_); rintro e w3 ⟨⟨A3, c3, rfl, hd⟩, hB⟩; have HX3 := Lib.hid (HX2.out.below hB); have HY3 := Lib.hid hd; have HB3 := Lib.hid (below_then HB2.out hB); clear hd hB; have hol := HOL.out)
      | (go_at_call 38; (with_reducible refine (SameItems_any _ _ _ (ovL L) _ _ _ HX3.out HY3.out (by omega)).mono ?_); rintro e w4 ⟨rfl, hB⟩; have HB4 := Lib.hid (below_then HB3.out hB); clear hB))
    go_ret
    exact ⟨rfl, HB4.out⟩
end Go.Proofs.Ytpicagcapgjiaaa
