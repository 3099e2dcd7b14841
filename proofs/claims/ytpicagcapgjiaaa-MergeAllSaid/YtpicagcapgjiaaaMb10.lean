/- Walks of merge's laws: MergeAll. -/
import Derived.Test.YtpicagcapgjiaaaMb4
import Derived.Test.YtpicagcapgjiaaaMb7
import Derived.Test.YtpicagcapgjiaaaMerL
set_option linter.unusedSimpArgs false
set_option linter.unusedVariables false
namespace Go.Proofs.Ytpicagcapgjiaaa
open Go.RowKit Go.Sel Go.Sel.Gra Go.Sel.Mer Go.Shelf

theorem nth_take' {D : List (List Int)} {k i : Nat} (h : i < k) : nth (D.take k) i = nth D i := by simp [nth, List.getD_eq_getElem?_getD, List.getElem?_take_of_lt h]
def rangeI (k : Nat) : List Int := (List.range k).map fun i : Nat => (i : Int)
@[simp] theorem rangeI_length (k : Nat) : (rangeI k).length = k := by simp [rangeI]
theorem rangeI_succ (k : Nat) : rangeI (k + 1) = rangeI k ++ [(k : Int)] := by simp [rangeI, List.range_succ]
theorem mem_rangeI {k : Nat} {x : Int} : x ∈ rangeI k ↔ 0 ≤ x ∧ x < (k : Int) := by
  simp only [rangeI, List.mem_map, List.mem_range]
  constructor
  · rintro ⟨i, h, rfl⟩; omega
  · rintro ⟨h1, h2⟩; exact ⟨x.toNat, by omega, by omega⟩
theorem all_blocks (L : List It) (D : List (List Int)) : blocksL L (rangeI L.length) D = blocksL L (expandL L (rangeI (groupsL L).length)) D := by
  unfold blocksL
  cases hr : mrightB L with
  | false => rfl
  | true =>
    simp only [if_true]
    refine blocksK_congr D _ fun i hi => ?_
    rw [mem_rangeI, mem_expandL hr, mem_rangeI, groupsL_length hr]
    have h1 := gls_lt L L.length i hi
    have h2 : gAt (gls L L.length) (i : Int) = ((gls L L.length).getD i 0 : Int) := by simp [gAt]
    constructor
    · rintro ⟨h3, h4⟩; exact ⟨h3, h4, by omega, by omega⟩
    · rintro ⟨h3, h4, _⟩; exact ⟨h3, h4⟩

set_option maxRecDepth 100000 in
set_option maxHeartbeats 8000000 in
theorem law_MergeAll (A : Option Addr) (n c : Nat) (L : List It) (A2 : Option Addr) (n2 c2 : Nat) (D0 : List (List Int)) (W : World) (hL : Ip W A n c L)
    (hD : Bp W A2 n2 c2 D0) (hs0 : ∀ i, i < n2 → (nth D0 i).length ≤ 140737488351232) :
    Calls Try.prog 11 #[.slice A n c, .slice A2 n2 c2] W fun e W' => e = .returned (.bool true) ∧ Below W.heap.size W W' := by
  have HL := Lib.hid hL
  have l1 := hL.le
  have l2 := hL.cap
  have b1 := hD.le
  have b2 := hD.cap
  have hM : ∃ M, M = min n2 8 := ⟨_, rfl⟩
  obtain ⟨M, hM⟩ := hM
  have HD := Lib.hid (hD.upto (show M ≤ n2 by omega))
  have HSZ : Hid (∀ i, i < M → (nth (D0.take M) i).length ≤ 140737488351232) := fun i hi => by rw [nth_take' hi]; exact hs0 i (by omega)
  have HEL : Hid ((fewI L).length = min n 24) := by show _ = _; rw [fewI_length, hL.len, Nat.min_comm]
  clear hL hD hs0
  generalize D0.take M = D at *
  by_cases hn8 : 8 < n2
  · obtain rfl : M = 8 := by omega
    clear hM
    have q0 : decide ((8 : Int) < (n2 : Int)) = true := by simp; omega
    go_enter Try.func11, Try.ntmps11
    go_wp2_with (go_at_call 22; (with_reducible refine (mfew_any _ _ _ L _ HL.out).mono ?_); rintro e w1 ⟨⟨A3, c3, rfl, hd⟩, hB⟩; have HE := Lib.hid hd; have HB1 := Lib.hid hB; have HD1 := Lib.hid (HD.out.below hB); clear hd hB; generalize fewI L = E at *)
    have hN24 : min n 24 ≤ 24 := by omega
    have e1 := HE.out.le
    have e2 := HE.out.cap
    generalize min n 24 = N at *
    go_loopw [5, 7] (fun v i wr => ∃ k : Nat, k ≤ N ∧ i = .int .i64 k ∧ Hid (wr.ownsRow w1.heap.size 3 1 v k (iv .i64 (rangeI k))) ∧ Hid (Below w1.heap.size w1 wr)) (fun _ i _ => N - (intOf i).toNat)
    case atStart => exact ⟨0, by omega, rfl, World.ownsRow_nil _ _ _ _, Below.refl _ _⟩
    case round =>
      obtain ⟨k, hk, rfl, HO, HB⟩ := hrel
      by_cases hlt : k < N
      · go_wp2_with (at_builtin; refine wpList_push wr rfl (.tmp 22) (.tmp 24) 23 3 rfl w1.heap.size (.int .i64 0) 8 Try.underlying23 infoInt rfl (by omega) _ k _ (.int .i64 k) rfl rfl rfl HO.out HB.out.size (by omega) rfl ?_; intro g cap w2 ho hg hat hlt1; have HO2 := Lib.hid ho; have HB2 := Lib.hid (below_grown HB.out hg HB.out.size (own_row HO.out)); clear ho hg hat)
        go_roundw
        case rel => exact ⟨k + 1, by omega, by go_num, by show World.ownsRow _ _ _ _ _ _ _; rw [rangeI_succ]; simpa [iv] using HO2.out, HB2⟩
        case measure => simp [intOf] <;> omega
      · obtain rfl : k = N := by omega
        obtain ⟨A5, c5, rfl, _, hr5⟩ := rd_own HO.out
        have HI := Lib.hid hr5
        have HE2 := Lib.hid (HE.out.below HB.out)
        have HD2 := Lib.hid (HD1.out.below HB.out)
        have HB2 := Lib.hid (below_then HB1.out HB.out)
        have d1 := hr5.le
        have d2 := hr5.cap
        clear hr5 HO HB HE HD1 HB1
        go_wp2
        rename World => wq
        go_loopw [6, 8] (fun v i wt => ∃ q : Nat, q ≤ (groupsL E).length ∧ i = .int .i64 q ∧ Hid (wt.ownsRow wq.heap.size 3 1 v q (iv .i64 (rangeI q))) ∧ Hid (Below wq.heap.size wq wt)) (fun _ i _ => (groupsL E).length - (intOf i).toNat)
        case atStart => exact ⟨0, by omega, rfl, World.ownsRow_nil _ _ _ _, Below.refl _ _⟩
        case round =>
          rename World => wt
          obtain ⟨q, hq, rfl, HO, HB⟩ := hrel
          have hG : (groupsL E).length ≤ 24 := by have := groupsL_le E; have := HEL.out; omega
          by_cases hlt : q < (groupsL E).length
          · go_wp2_with (first
              | (go_at_call 27; (with_reducible refine (mGroups_any _ _ _ E _ (HE2.out.below HB.out)).mono ?_); rintro e w3 ⟨⟨A6, c6, rfl, hd⟩, hB⟩; have HO3 := Lib.hid (own_below HO.out hB (Nat.le_refl _)); have HB3 := Lib.hid (below_then HB.out hB); clear hd hB)
              | (at_builtin; refine wpList_push w3 rfl (.tmp 33) (.tmp 35) 23 3 rfl wq.heap.size (.int .i64 0) 8 Try.underlying23 infoInt rfl (by omega) _ q _ (.int .i64 q) rfl rfl rfl HO3.out HB3.out.size (by omega) rfl ?_; intro g cap w4 ho hg hat hlt1; have HO4 := Lib.hid ho; have HB4 := Lib.hid (below_grown HB3.out hg HB3.out.size (own_row HO3.out)); clear ho hg hat))
            go_roundw
            case rel => exact ⟨q + 1, by omega, by go_num, by show World.ownsRow _ _ _ _ _ _ _; rw [rangeI_succ]; simpa [iv] using HO4.out, HB4⟩
            case measure => simp [intOf] <;> omega
          · obtain rfl : q = (groupsL E).length := by omega
            obtain ⟨A7, c7, rfl, _, hr7⟩ := rd_own HO.out
            have HJ := Lib.hid hr7
            have HI3 := Lib.hid (HI.out.below HB.out)
            have HE3 := Lib.hid (HE2.out.below HB.out)
            have HD3 := Lib.hid (HD2.out.below HB.out)
            have HB3 := Lib.hid (below_then HB2.out HB.out)
            have d3 := hr7.le
            have d4 := hr7.cap
            have HALL : Hid (blocksL E (expandL E (rangeI (groupsL E).length)) D = blocksL E (rangeI k) D) := by show _ = _; rw [← HEL.out]; exact (all_blocks E D).symm
            have HNIL : Hid (∀ w : World, Rd w none 0 0 (iv .i64 [])) := fun w => Rd.nil (by omega)
            clear hr7 HO HB HI HE2 HD2 HB2
            generalize hGr : rangeI (groupsL E).length = R at *
            have HRL : Hid (R.length = (groupsL E).length) := by show _ = _; rw [← hGr]; simp
            clear hGr
            generalize hXe : blocksL E (rangeI k) D = X at *
            have HXE := Lib.hid hXe
            have HIL : Hid ((rangeI k).length = k) := rangeI_length k
            clear hXe
            generalize rangeI k = I at *
            go_wp2_with (first
              | (go_at_call 27; (with_reducible refine (mGroups_any _ _ _ E _ HE3.out).mono ?_); rintro e w4 ⟨⟨A6, c6, rfl, hd⟩, hB⟩; have HJ4 := Lib.hid (HJ.out.below hB); have HI4 := Lib.hid (HI3.out.below hB); have HE4 := Lib.hid (HE3.out.below hB); have HD4 := Lib.hid (HD3.out.below hB); have HB4 := Lib.hid (below_then HB3.out hB); clear hd hB HE3)
              | (go_at_call 23; (with_reducible refine (mlive_any _).mono ?_); rintro e w5 ⟨rfl, hB⟩; have HJ5 := Lib.hid (HJ4.out.below hB); have HI5 := Lib.hid (HI4.out.below hB); have HE5 := Lib.hid (HE4.out.below hB); have HD5 := Lib.hid (HD4.out.below hB); have HB5 := Lib.hid (below_then HB4.out hB); clear hB)
              | (go_at_call 42; (with_reducible refine (Blocks_any _ _ _ E _ _ _ I _ _ _ D _ HE5.out HI5.out HIL.out HD5.out (by omega) HSZ.out).mono ?_); rintro e w6 ⟨⟨A8, c8, rfl, hw⟩, hB⟩; rw [HXE.out] at hw; have HX6 := Lib.hid hw.bp; have HJ6 := Lib.hid (HJ5.out.below hB); have HE6 := Lib.hid (HE5.out.below hB); have HD6 := Lib.hid (HD5.out.below hB); have HB6 := Lib.hid (below_then HB5.out hB); clear hw hB HI5)
              | (go_at_call 32; (with_reducible refine (mExpand_any _ _ _ E _ _ _ R _ HE6.out HJ6.out HRL.out).mono ?_); rintro e w7 ⟨⟨A9, c9, rfl, hd⟩, hB⟩; have HZ7 := Lib.hid hd; have HX7 := Lib.hid (HX6.out.below hB); have HE7 := Lib.hid (HE6.out.below hB); have HD7 := Lib.hid (HD6.out.below hB); have HB7 := Lib.hid (below_then HB6.out hB); clear hd hB)
              | (go_at_call 42; (with_reducible refine (Blocks_any _ _ _ E _ _ _ (expandL E R) _ _ _ D _ HE7.out HZ7.out rfl HD7.out (by omega) HSZ.out).mono ?_); rintro e w8 ⟨⟨A10, c10, rfl, hw⟩, hB⟩; rw [HALL.out] at hw; have HY8 := Lib.hid hw.bp; have HX8 := Lib.hid (HX7.out.below hB); have HE8 := Lib.hid (HE7.out.below hB); have HD8 := Lib.hid (HD7.out.below hB); have HB8 := Lib.hid (below_then HB7.out hB); clear hw hB HZ7)
              | (go_at_call 43; (with_reducible refine (SameBlocks_any _ _ _ X _ _ _ X _ HX8.out HY8.out).mono ?_); rintro e w9 ⟨rfl, hB⟩; have HE9 := Lib.hid (HE8.out.below hB); have HD9 := Lib.hid (HD8.out.below hB); have HB9 := Lib.hid (below_then HB8.out hB); clear hB)
              | (go_at_call 42; (with_reducible refine (Blocks_any _ _ _ E _ _ _ [] _ _ _ D _ HE9.out (HNIL.out _) List.length_nil HD9.out (by omega) HSZ.out).mono ?_); rintro e w10 ⟨⟨A11, c11, rfl, hw⟩, hB⟩; have HB10 := Lib.hid (below_then HB9.out hB); clear hw hB))
            go_ret
            exact ⟨rfl, HB10.out⟩
  · obtain rfl : M = n2 := by omega
    clear hM
    have q0 : decide ((8 : Int) < (M : Int)) = false := by simp; omega
    go_enter Try.func11, Try.ntmps11
    go_wp2_with (go_at_call 22; (with_reducible refine (mfew_any _ _ _ L _ HL.out).mono ?_); rintro e w1 ⟨⟨A3, c3, rfl, hd⟩, hB⟩; have HE := Lib.hid hd; have HB1 := Lib.hid hB; have HD1 := Lib.hid (HD.out.below hB); clear hd hB; generalize fewI L = E at *)
    have hN24 : min n 24 ≤ 24 := by omega
    have e1 := HE.out.le
    have e2 := HE.out.cap
    generalize min n 24 = N at *
    go_loopw [5, 7] (fun v i wr => ∃ k : Nat, k ≤ N ∧ i = .int .i64 k ∧ Hid (wr.ownsRow w1.heap.size 3 1 v k (iv .i64 (rangeI k))) ∧ Hid (Below w1.heap.size w1 wr)) (fun _ i _ => N - (intOf i).toNat)
    case atStart => exact ⟨0, by omega, rfl, World.ownsRow_nil _ _ _ _, Below.refl _ _⟩
    case round =>
      obtain ⟨k, hk, rfl, HO, HB⟩ := hrel
      by_cases hlt : k < N
      · go_wp2_with (at_builtin; refine wpList_push wr rfl (.tmp 22) (.tmp 24) 23 3 rfl w1.heap.size (.int .i64 0) 8 Try.underlying23 infoInt rfl (by omega) _ k _ (.int .i64 k) rfl rfl rfl HO.out HB.out.size (by omega) rfl ?_; intro g cap w2 ho hg hat hlt1; have HO2 := Lib.hid ho; have HB2 := Lib.hid (below_grown HB.out hg HB.out.size (own_row HO.out)); clear ho hg hat)
        go_roundw
        case rel => exact ⟨k + 1, by omega, by go_num, by show World.ownsRow _ _ _ _ _ _ _; rw [rangeI_succ]; simpa [iv] using HO2.out, HB2⟩
        case measure => simp [intOf] <;> omega
      · obtain rfl : k = N := by omega
        obtain ⟨A5, c5, rfl, _, hr5⟩ := rd_own HO.out
        have HI := Lib.hid hr5
        have HE2 := Lib.hid (HE.out.below HB.out)
        have HD2 := Lib.hid (HD1.out.below HB.out)
        have HB2 := Lib.hid (below_then HB1.out HB.out)
        have d1 := hr5.le
        have d2 := hr5.cap
        clear hr5 HO HB HE HD1 HB1
        go_wp2
        rename World => wq
        go_loopw [6, 8] (fun v i wt => ∃ q : Nat, q ≤ (groupsL E).length ∧ i = .int .i64 q ∧ Hid (wt.ownsRow wq.heap.size 3 1 v q (iv .i64 (rangeI q))) ∧ Hid (Below wq.heap.size wq wt)) (fun _ i _ => (groupsL E).length - (intOf i).toNat)
        case atStart => exact ⟨0, by omega, rfl, World.ownsRow_nil _ _ _ _, Below.refl _ _⟩
        case round =>
          rename World => wt
          obtain ⟨q, hq, rfl, HO, HB⟩ := hrel
          have hG : (groupsL E).length ≤ 24 := by have := groupsL_le E; have := HEL.out; omega
          by_cases hlt : q < (groupsL E).length
          · go_wp2_with (first
              | (go_at_call 27; (with_reducible refine (mGroups_any _ _ _ E _ (HE2.out.below HB.out)).mono ?_); rintro e w3 ⟨⟨A6, c6, rfl, hd⟩, hB⟩; have HO3 := Lib.hid (own_below HO.out hB (Nat.le_refl _)); have HB3 := Lib.hid (below_then HB.out hB); clear hd hB)
              | (at_builtin; refine wpList_push w3 rfl (.tmp 33) (.tmp 35) 23 3 rfl wq.heap.size (.int .i64 0) 8 Try.underlying23 infoInt rfl (by omega) _ q _ (.int .i64 q) rfl rfl rfl HO3.out HB3.out.size (by omega) rfl ?_; intro g cap w4 ho hg hat hlt1; have HO4 := Lib.hid ho; have HB4 := Lib.hid (below_grown HB3.out hg HB3.out.size (own_row HO3.out)); clear ho hg hat))
            go_roundw
            case rel => exact ⟨q + 1, by omega, by go_num, by show World.ownsRow _ _ _ _ _ _ _; rw [rangeI_succ]; simpa [iv] using HO4.out, HB4⟩
            case measure => simp [intOf] <;> omega
          · obtain rfl : q = (groupsL E).length := by omega
            obtain ⟨A7, c7, rfl, _, hr7⟩ := rd_own HO.out
            have HJ := Lib.hid hr7
            have HI3 := Lib.hid (HI.out.below HB.out)
            have HE3 := Lib.hid (HE2.out.below HB.out)
            have HD3 := Lib.hid (HD2.out.below HB.out)
            have HB3 := Lib.hid (below_then HB2.out HB.out)
            have d3 := hr7.le
            have d4 := hr7.cap
            have HALL : Hid (blocksL E (expandL E (rangeI (groupsL E).length)) D = blocksL E (rangeI k) D) := by show _ = _; rw [← HEL.out]; exact (all_blocks E D).symm
            have HNIL : Hid (∀ w : World, Rd w none 0 0 (iv .i64 [])) := fun w => Rd.nil (by omega)
            clear hr7 HO HB HI HE2 HD2 HB2
            generalize hGr : rangeI (groupsL E).length = R at *
            have HRL : Hid (R.length = (groupsL E).length) := by show _ = _; rw [← hGr]; simp
            clear hGr
            generalize hXe : blocksL E (rangeI k) D = X at *
            have HXE := Lib.hid hXe
            have HIL : Hid ((rangeI k).length = k) := rangeI_length k
            clear hXe
            generalize rangeI k = I at *
            go_wp2_with (first
              | (go_at_call 27; (with_reducible refine (mGroups_any _ _ _ E _ HE3.out).mono ?_); rintro e w4 ⟨⟨A6, c6, rfl, hd⟩, hB⟩; have HJ4 := Lib.hid (HJ.out.below hB); have HI4 := Lib.hid (HI3.out.below hB); have HE4 := Lib.hid (HE3.out.below hB); have HD4 := Lib.hid (HD3.out.below hB); have HB4 := Lib.hid (below_then HB3.out hB); clear hd hB HE3)
              | (go_at_call 23; (with_reducible refine (mlive_any _).mono ?_); rintro e w5 ⟨rfl, hB⟩; have HJ5 := Lib.hid (HJ4.out.below hB); have HI5 := Lib.hid (HI4.out.below hB); have HE5 := Lib.hid (HE4.out.below hB); have HD5 := Lib.hid (HD4.out.below hB); have HB5 := Lib.hid (below_then HB4.out hB); clear hB)
              | (go_at_call 42; (with_reducible refine (Blocks_any _ _ _ E _ _ _ I _ _ _ D _ HE5.out HI5.out HIL.out HD5.out (by omega) HSZ.out).mono ?_); rintro e w6 ⟨⟨A8, c8, rfl, hw⟩, hB⟩; rw [HXE.out] at hw; have HX6 := Lib.hid hw.bp; have HJ6 := Lib.hid (HJ5.out.below hB); have HE6 := Lib.hid (HE5.out.below hB); have HD6 := Lib.hid (HD5.out.below hB); have HB6 := Lib.hid (below_then HB5.out hB); clear hw hB HI5)
              | (go_at_call 32; (with_reducible refine (mExpand_any _ _ _ E _ _ _ R _ HE6.out HJ6.out HRL.out).mono ?_); rintro e w7 ⟨⟨A9, c9, rfl, hd⟩, hB⟩; have HZ7 := Lib.hid hd; have HX7 := Lib.hid (HX6.out.below hB); have HE7 := Lib.hid (HE6.out.below hB); have HD7 := Lib.hid (HD6.out.below hB); have HB7 := Lib.hid (below_then HB6.out hB); clear hd hB)
              | (go_at_call 42; (with_reducible refine (Blocks_any _ _ _ E _ _ _ (expandL E R) _ _ _ D _ HE7.out HZ7.out rfl HD7.out (by omega) HSZ.out).mono ?_); rintro e w8 ⟨⟨A10, c10, rfl, hw⟩, hB⟩; rw [HALL.out] at hw; have HY8 := Lib.hid hw.bp; have HX8 := Lib.hid (HX7.out.below hB); have HE8 := Lib.hid (HE7.out.below hB); have HD8 := Lib.hid (HD7.out.below hB); have HB8 := Lib.hid (below_then HB7.out hB); clear hw hB HZ7)
              | (go_at_call 43; (with_reducible refine (SameBlocks_any _ _ _ X _ _ _ X _ HX8.out HY8.out).mono ?_); rintro e w9 ⟨rfl, hB⟩; have HE9 := Lib.hid (HE8.out.below hB); have HD9 := Lib.hid (HD8.out.below hB); have HB9 := Lib.hid (below_then HB8.out hB); clear hB)
              | (go_at_call 42; (with_reducible refine (Blocks_any _ _ _ E _ _ _ [] _ _ _ D _ HE9.out (HNIL.out _) List.length_nil HD9.out (by omega) HSZ.out).mono ?_); rintro e w10 ⟨⟨A11, c11, rfl, hw⟩, hB⟩; have HB10 := Lib.hid (below_then HB9.out hB); clear hw hB))
            go_ret
            exact ⟨rfl, HB10.out⟩
end Go.Proofs.Ytpicagcapgjiaaa
