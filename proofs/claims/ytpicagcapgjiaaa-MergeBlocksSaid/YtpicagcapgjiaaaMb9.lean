/- Walks of merge's laws: MergeBlocks, MergeAll. -/
import Derived.Test.YtpicagcapgjiaaaMb4
import Derived.Test.YtpicagcapgjiaaaMb7
import Derived.Test.YtpicagcapgjiaaaMb8
import Derived.Test.YtpicagcapgjiaaaMer10
set_option linter.unusedSimpArgs false
set_option linter.unusedVariables false
namespace Go.Proofs.Ytpicagcapgjiaaa
open Go.RowKit Go.Sel Go.Sel.Gra Go.Sel.Mer Go.Shelf

theorem nth_take {D : List (List Int)} {k i : Nat} (h : i < k) : nth (D.take k) i = nth D i := by simp [nth, List.getD_eq_getElem?_getD, List.getElem?_take_of_lt h]

set_option maxRecDepth 100000 in
set_option maxHeartbeats 8000000 in
theorem law_MergeBlocks (A : Option Addr) (n c : Nat) (L : List It) (A1 : Option Addr) (n1 c1 : Nat) (xs1 : List Int) (A2 : Option Addr) (n2 c2 : Nat) (D0 : List (List Int)) (W : World) (hL : Ip W A n c L) (hr1 : Rd W A1 n1 c1 (iv .i64 xs1)) (hl1 : xs1.length = n1)
    (hD : Bp W A2 n2 c2 D0) (hs0 : ∀ i, i < n2 → (nth D0 i).length ≤ 140737488351232) :
    Calls Try.prog 10 #[.slice A n c, .slice A1 n1 c1, .slice A2 n2 c2] W fun e W' => e = .returned (.bool true) ∧ Below W.heap.size W W' := by
  have HL := Lib.hid hL
  have l1 := hL.le
  have l2 := hL.cap
  have m1 := hr1.le
  have m2 := hr1.cap
  have b1 := hD.le
  have b2 := hD.cap
  have HS := Lib.hid (msome_rd hr1 hl1).1
  have HT := Lib.hid (msome_rd hr1 hl1).2
  have hM : ∃ M, M = min n2 8 := ⟨_, rfl⟩
  obtain ⟨M, hM⟩ := hM
  have HD := Lib.hid (hD.upto (show M ≤ n2 by omega))
  have HSZ : Hid (∀ i, i < M → (nth (D0.take M) i).length ≤ 140737488351232) := fun i hi => by rw [nth_take hi]; exact hs0 i (by omega)
  clear hL hr1 hl1 hD hs0
  generalize D0.take M = D at *
  by_cases hn8 : 8 < n2
  · obtain rfl : M = 8 := by omega
    clear hM
    have q0 : decide ((8 : Int) < (n2 : Int)) = true := by simp; omega
    go_enter Try.func10, Try.ntmps10
    go_wp2_with (first
      | (go_at_call 22; (with_reducible refine (mfew_any _ _ _ L _ HL.out).mono ?_); rintro e w1 ⟨⟨A3, c3, rfl, hd⟩, hB⟩; have HE := Lib.hid hd; have HB1 := Lib.hid hB; have HD1 := Lib.hid (HD.out.below hB); clear hd hB; generalize fewI L = E at *; generalize xs1.take (min n1 40) = S at *; have HX : Hid (∃ X, X = blocksL E S D) := ⟨_, rfl⟩)
      | (go_at_call 41; (with_reducible refine (Copy_any A2 8 c2 D _ HD1.out (by omega) HSZ.out).mono ?_); rintro e w2 ⟨⟨A4, c4, rfl, hw⟩, hB⟩; have HO2 := Lib.hid hw.bp; have HE2 := Lib.hid (HE.out.below hB); have HD2 := Lib.hid (HD1.out.below hB); have HB2 := Lib.hid (below_then HB1.out hB); clear hw hB)
      | (go_at_call 33; (with_reducible refine (msome_any A1 n1 c1 _ m1 m2).mono ?_); rintro e w4 ⟨rfl, hw⟩; have hw := hw.symm; subst hw)
      | (go_at_call 42; (with_reducible refine (Blocks_any _ _ _ E _ _ _ S _ _ _ D _ HE2.out (HS.out.below HB2.out) HT.out HO2.out (by omega) HSZ.out).mono ?_); rintro e w5 ⟨⟨A5, c5, rfl, hw⟩, hB⟩; have HX5 := Lib.hid hw.bp; have HO5 := Lib.hid (HO2.out.below hB); have HE5 := Lib.hid (HE2.out.below hB); have HD5 := Lib.hid (HD2.out.below hB); have HB5 := Lib.hid (below_then HB2.out hB); clear hw hB)
      | (go_at_call 23; (with_reducible refine (mlive_any _).mono ?_); rintro e w6 ⟨rfl, hB⟩; have HX6 := Lib.hid (HX5.out.below hB); have HO6 := Lib.hid (HO5.out.below hB); have HE6 := Lib.hid (HE5.out.below hB); have HD6 := Lib.hid (HD5.out.below hB); have HB6 := Lib.hid (below_then HB5.out hB); clear hB)
      | (go_at_call 44; (with_reducible refine (rBlocks_any _ _ _ E _ _ _ S _ _ _ D _ HE6.out (HS.out.below HB6.out) HT.out HD6.out (by omega) HSZ.out).mono ?_); rintro e w7 ⟨⟨A7, c7, rfl, hw⟩, hB⟩; have HY7 := Lib.hid hw.bp; have HX7 := Lib.hid (HX6.out.below hB); have HO7 := Lib.hid (HO6.out.below hB); have HD7 := Lib.hid (HD6.out.below hB); have HB7 := Lib.hid (below_then HB6.out hB); clear hw hB; generalize blocksL E S D = X at *)
      | (go_at_call 43; (with_reducible refine (SameBlocks_any _ _ _ X _ _ _ X _ HX7.out HY7.out).mono ?_); rintro e w8 ⟨rfl, hB⟩; have HO8 := Lib.hid (HO7.out.below hB); have HD8 := Lib.hid (HD7.out.below hB); have HB8 := Lib.hid (below_then HB7.out hB); clear hB HX7)
      | (go_at_call 43; (with_reducible refine (SameBlocks_any _ _ _ D _ _ _ D _ HO8.out HD8.out).mono ?_); rintro e w9 ⟨rfl, hB⟩; have HB9 := Lib.hid (below_then HB8.out hB); clear hB))
    go_ret
    exact ⟨rfl, HB9.out⟩
  · obtain rfl : M = n2 := by omega
    clear hM
    have q0 : decide ((8 : Int) < (M : Int)) = false := by simp; omega
    go_enter Try.func10, Try.ntmps10
    go_wp2_with (first
      | (go_at_call 22; (with_reducible refine (mfew_any _ _ _ L _ HL.out).mono ?_); rintro e w1 ⟨⟨A3, c3, rfl, hd⟩, hB⟩; have HE := Lib.hid hd; have HB1 := Lib.hid hB; have HD1 := Lib.hid (HD.out.below hB); clear hd hB; generalize fewI L = E at *; generalize xs1.take (min n1 40) = S at *; have HX : Hid (∃ X, X = blocksL E S D) := ⟨_, rfl⟩)
      | (go_at_call 41; (with_reducible refine (Copy_any A2 M c2 D _ HD1.out (by omega) HSZ.out).mono ?_); rintro e w2 ⟨⟨A4, c4, rfl, hw⟩, hB⟩; have HO2 := Lib.hid hw.bp; have HE2 := Lib.hid (HE.out.below hB); have HD2 := Lib.hid (HD1.out.below hB); have HB2 := Lib.hid (below_then HB1.out hB); clear hw hB)
      | (go_at_call 33; (with_reducible refine (msome_any A1 n1 c1 _ m1 m2).mono ?_); rintro e w4 ⟨rfl, hw⟩; have hw := hw.symm; subst hw)
      | (go_at_call 42; (with_reducible refine (Blocks_any _ _ _ E _ _ _ S _ _ _ D _ HE2.out (HS.out.below HB2.out) HT.out HO2.out (by omega) HSZ.out).mono ?_); rintro e w5 ⟨⟨A5, c5, rfl, hw⟩, hB⟩; have HX5 := Lib.hid hw.bp; have HO5 := Lib.hid (HO2.out.below hB); have HE5 := Lib.hid (HE2.out.below hB); have HD5 := Lib.hid (HD2.out.below hB); have HB5 := Lib.hid (below_then HB2.out hB); clear hw hB)
      | (go_at_call 23; (with_reducible refine (mlive_any _).mono ?_); rintro e w6 ⟨rfl, hB⟩; have HX6 := Lib.hid (HX5.out.below hB); have HO6 := Lib.hid (HO5.out.below hB); have HE6 := Lib.hid (HE5.out.below hB); have HD6 := Lib.hid (HD5.out.below hB); have HB6 := Lib.hid (below_then HB5.out hB); clear hB)
      | (go_at_call 44; (with_reducible refine (rBlocks_any _ _ _ E _ _ _ S _ _ _ D _ HE6.out (HS.out.below HB6.out) HT.out HD6.out (by omega) HSZ.out).mono ?_); rintro e w7 ⟨⟨A7, c7, rfl, hw⟩, hB⟩; have HY7 := Lib.hid hw.bp; have HX7 := Lib.hid (HX6.out.below hB); have HO7 := Lib.hid (HO6.out.below hB); have HD7 := Lib.hid (HD6.out.below hB); have HB7 := Lib.hid (below_then HB6.out hB); clear hw hB; generalize blocksL E S D = X at *)
      | (go_at_call 43; (with_reducible refine (SameBlocks_any _ _ _ X _ _ _ X _ HX7.out HY7.out).mono ?_); rintro e w8 ⟨rfl, hB⟩; have HO8 := Lib.hid (HO7.out.below hB); have HD8 := Lib.hid (HD7.out.below hB); have HB8 := Lib.hid (below_then HB7.out hB); clear hB HX7)
      | (go_at_call 43; (with_reducible refine (SameBlocks_any _ _ _ D _ _ _ D _ HO8.out HD8.out).mono ?_); rintro e w9 ⟨rfl, hB⟩; have HB9 := Lib.hid (below_then HB8.out hB); clear hB))
    go_ret
    exact ⟨rfl, HB9.out⟩
end Go.Proofs.Ytpicagcapgjiaaa
