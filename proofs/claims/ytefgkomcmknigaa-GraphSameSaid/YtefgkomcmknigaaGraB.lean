/- Walks of graph's laws: GraphLeast. -/
import Derived.Test.YtefgkomcmknigaaGraT
import Derived.Test.YtefgkomcmknigaaGra7
import Derived.Test.YtefgkomcmknigaaGra4
set_option linter.unusedSimpArgs false
set_option linter.unusedVariables false
namespace Go.Proofs.Ytefgkomcmknigaa
open Go.RowKit Go.Sel Go.Sel.Gra Go.Shelf

attribute [local go_sem] Oper.semAt_some

def inN (N : Nat) (x : Int) : Bool := decide (0 ≤ x) && decide (x < (N : Int))
/-- Those of the first k that are numbers of deps. -/
def goodK (xs : List Int) (N k : Nat) : List Int := (xs.take k).filter (inN N)
theorem goodK_zero (xs : List Int) (N : Nat) : goodK xs N 0 = [] := rfl
theorem goodK_in {xs : List Int} {N k : Nat} (h : k < xs.length) (hg : inN N xs[k] = true) : goodK xs N (k + 1) = goodK xs N k ++ [xs[k]] := by
  rw [goodK, List.take_succ_eq_append_getElem h, List.filter_append]
  simp [goodK, hg]
theorem goodK_out {xs : List Int} {N k : Nat} (h : k < xs.length) (hg : inN N xs[k] = false) : goodK xs N (k + 1) = goodK xs N k := by
  rw [goodK, List.take_succ_eq_append_getElem h, List.filter_append]
  simp [goodK, hg]
theorem goodK_length (xs : List Int) (N k : Nat) : (goodK xs N k).length ≤ k := Nat.le_trans (List.length_filter_le _ _) (by simp; omega)
theorem goodK_mem {xs : List Int} {N k : Nat} {a : Int} (h : a ∈ goodK xs N k) : 0 ≤ a ∧ a < (N : Int) := by
  have := (List.mem_filter.1 h).2
  simpa [inN] using this
theorem fewD_length (D : List (List Int)) : (fewD D).length = min D.length 40 := by simp [fewD]; omega
theorem closeL_length (D : List (List Int)) (s : List Int) : (closeL D s).length ≤ D.length := by
  rw [closeL]
  split
  · rw [thoseL, List.length_map]
    exact Nat.le_trans (List.length_filter_le _ _) (by simp)
  · simp

set_option maxRecDepth 100000 in
set_option maxHeartbeats 8000000 in
theorem law_GraphLeast (A : Option Addr) (n c : Nat) (D : List (List Int)) (A1 : Option Addr) (n1 c1 : Nat) (xs1 : List Int) (A2 : Option Addr) (n2 c2 : Nat) (xs2 : List Int) (W : World) (hD : Dp W A n c D)
    (hr1 : Rd W A1 n1 c1 (iv .i64 xs1)) (hl1 : xs1.length = n1) (hr2 : Rd W A2 n2 c2 (iv .i64 xs2)) (hl2 : xs2.length = n2) :
    Calls Try.prog 10 #[.slice A n c, .slice A1 n1 c1, .slice A2 n2 c2] W fun e W' => e = .returned (.bool true) ∧ Below W.heap.size W W' := by
  have HD := Lib.hid hD
  have l1 := hD.le
  have l2 := hD.cap
  have m1 := hr1.le
  have m2 := hr1.cap
  have k1 := hr2.le
  have k2 := hr2.cap
  have HR1 := Lib.hid hr1
  have HR2 := Lib.hid hr2
  have HL1 := Lib.hid hl1
  have HL2 := Lib.hid hl2
  have HEL : Hid ((fewD D).length = min n 40) := by show _ = _; rw [fewD_length, hD.len]
  have HS1 : Hid (Rd W A1 (min n1 60) c1 (iv .i64 (xs1.take (min n1 60)))) := by
    have h := Rd.upto hr1 (min n1 60) (by omega)
    rw [iv, ← List.map_take] at h
    exact h
  have HT1 : Hid ((xs1.take (min n1 60)).length = min n1 60) := by show _ = _; simp; omega
  have HS2 : Hid (Rd W A2 (min n2 60) c2 (iv .i64 (xs2.take (min n2 60)))) := by
    have h := Rd.upto hr2 (min n2 60) (by omega)
    rw [iv, ← List.map_take] at h
    exact h
  have HT2 : Hid ((xs2.take (min n2 60)).length = min n2 60) := by show _ = _; simp; omega
  clear hD hr1 hr2 hl1 hl2
  go_enter Try.func10, Try.ntmps10
  go_upto_region 2 with (go_at_call 12; (with_reducible refine (few_any _ _ _ D _ HD.out).mono ?_); rintro e w1 ⟨⟨A3, c3, rfl, hd⟩, hB⟩; have HE := Lib.hid hd; have HB1 := Lib.hid hB; clear hd hB)
  have hN40 : min n 40 ≤ 40 := by omega
  generalize fewD D = E at *
  generalize min n 40 = N at *
  cases hr : rightD E with
  | false =>
    have HR := Lib.hid hr
    have HC : Hid (∀ s, closeL E s = []) := fun s => by simp [closeL, hr]
    clear hr
    go_wp2_with (first
      | (go_at_call 17; (with_reducible refine (Right_any _ _ _ E _ HE.out).mono ?_); rw [HR.out]; rintro e w2 ⟨rfl, hB⟩; have HE2 := Lib.hid (HE.out.below hB); have HB2 := Lib.hid (below_then HB1.out hB); clear hB)
      | (go_at_call 14; (with_reducible refine (live_any _).mono ?_); rintro e w3 ⟨rfl, hB⟩; have HE3 := Lib.hid (HE2.out.below hB); have HB3 := Lib.hid (below_then HB2.out hB); clear hB)
      | (go_at_call 27; (with_reducible refine (some_any A1 n1 c1 _ m1 m2).mono ?_); rintro e w4 ⟨rfl, rfl⟩)
      | (go_at_call 29; (with_reducible refine (Close_any _ _ _ E _ _ _ (xs1.take (min n1 60)) _ HE3.out (HS1.out.below HB3.out) HT1.out).mono ?_); rw [HC.out]; rintro e w5 ⟨⟨A4, c4, rfl, _⟩, hB⟩; have HB4 := Lib.hid (below_then HB3.out hB); clear hB))
    go_ret
    exact ⟨rfl, HB4.out⟩
  | true =>
    have HR := Lib.hid hr
    clear hr
    go_upto_block 0 with (go_at_call 17; (with_reducible refine (Right_any _ _ _ E _ HE.out).mono ?_); rw [HR.out]; rintro e w2 ⟨rfl, hB⟩; have HE2 := Lib.hid (HE.out.below hB); have HB2 := Lib.hid (below_then HB1.out hB); clear hB HE HB1)
    have hM : min n1 60 ≤ n1 ∧ min n1 60 ≤ 60 := by omega
    generalize hMM : min n1 60 = M at *
    have HMM := Lib.hid hMM
    clear hMM
    obtain ⟨hM1, hM2⟩ := hM
    go_wp2
    go_loopw [8, 9] (fun v i wr => ∃ k : Nat, k ≤ M ∧ i = .int .i64 k ∧ Hid (wr.ownsRow w2.heap.size 3 1 v (goodK xs1 N k).length (iv .i64 (goodK xs1 N k))) ∧ Hid (Below w2.heap.size w2 wr)) (fun _ i _ => M - (intOf i).toNat)
    case atStart => exact ⟨0, by omega, by go_num, World.ownsRow_nil _ _ _ _, Below.refl _ _⟩
    case round =>
      obtain ⟨k, hk, rfl, HO, HW⟩ := hrel
      by_cases hlt : k < M
      · have hkx : k < xs1.length := by have := HL1.out; omega
        obtain ⟨b, off, rfl, _, hc⟩ := (HR1.out.below (below_then HB2.out HW.out)).form (by have := HL1.out; simp; omega)
        have hck := hc k (by simp; omega)
        rw [iv_at] at hck
        have HGI := Lib.hid (goodK_in (N := N) hkx)
        have HGO := Lib.hid (goodK_out (N := N) hkx)
        have hlen := goodK_length xs1 N k
        have hkl : k < xs1.length := hkx
        clear hc
        generalize hx : xs1[k] = x at *
        clear hx
        rcases (show x < 0 ∨ (0 ≤ x ∧ x < (N : Int)) ∨ (0 ≤ x ∧ (N : Int) ≤ x) by omega) with h | ⟨h, h'⟩ | ⟨h, h'⟩
        · have q1 : decide (0 ≤ x) = false := by simp; omega
          have HG := Lib.hid (HGO.out (by simp [inN, q1]))
          go_wp2_with (go_at_call 27; (with_reducible refine (some_any _ n1 c1 _ m1 m2).mono ?_); rw [HMM.out]; rintro e w4 ⟨rfl, rfl⟩)
          go_roundw
          case rel => exact ⟨k + 1, by omega, by go_num, by rw [HG.out]; exact HO, HW⟩
          case measure => simp [intOf]; omega
        · have q1 : decide (0 ≤ x) = true := by simpa using h
          have q2 : decide (x < (N : Int)) = true := by simpa using h'
          have HG := Lib.hid (HGI.out (by simp [inN, q1, q2]))
          go_wp2_with (first
            | (go_at_call 27; (with_reducible refine (some_any _ n1 c1 _ m1 m2).mono ?_); rw [HMM.out]; rintro e w4 ⟨rfl, rfl⟩)
            | (at_builtin; refine wpList_push w4 rfl (.tmp 49) (.tmp 54) 27 3 rfl w2.heap.size (.int .i64 0) 8 Try.underlying27 infoInt rfl (by omega) _ (goodK xs1 N k).length _ (.int .i64 x) rfl rfl rfl HO.out HW.out.size (by omega) rfl ?_; intro g cap w6 ho hg hat hlt1; have HO6 := Lib.hid ho; have HW6 := Lib.hid (below_grown HW.out hg HW.out.size (own_row HO.out)); clear ho hg hat))
          go_roundw
          case rel =>
            refine ⟨k + 1, by omega, by go_num, ?_, HW6⟩
            rw [HG.out, List.length_append, List.length_singleton, iv, List.map_append]
            exact HO6
          case measure => simp [intOf]; omega
        · have q1 : decide (0 ≤ x) = true := by simpa using h
          have q2 : decide (x < (N : Int)) = false := by simpa using h'
          have HG := Lib.hid (HGO.out (by simp [inN, q1, q2]))
          go_wp2_with (go_at_call 27; (with_reducible refine (some_any _ n1 c1 _ m1 m2).mono ?_); rw [HMM.out]; rintro e w4 ⟨rfl, rfl⟩)
          go_roundw
          case rel => exact ⟨k + 1, by omega, by go_num, by rw [HG.out]; exact HO, HW⟩
          case measure => simp [intOf]; omega
      · obtain rfl : k = M := by omega
        obtain ⟨A5, c5, rfl, hl5, hr5⟩ := rd_own HO.out
        have hs60 := goodK_length xs1 N k
        have HLE := Lib.hid (closeL_length E (goodK xs1 N k))
        have HS3 := Lib.hid hr5
        have P1 : Hid (∀ a ∈ goodK xs1 N k, a ∈ closeL E (goodK xs1 N k)) := fun a ha => close_has HR.out (goodK_mem ha).1 (by rw [HEL.out]; exact (goodK_mem ha).2) ha
        have P2 : Hid (∀ a ∈ closeL E (goodK xs1 N k), a ∈ closeL E (goodK xs1 N k ++ xs2.take (min n2 60))) := close_least (close_closed HR.out _) (fun a ha h0 h1 => close_has HR.out h0 h1 (List.mem_append_left _ ha))
        have P3 : Hid (closedB E (closeL E (goodK xs1 N k)) = true) := close_closed HR.out _
        have P5 : Hid (closedB E (closeL E (goodK xs1 N k ++ xs2.take (min n2 60))) = true) := close_closed HR.out _
        have P4 : Hid (closeL E (closeL E (goodK xs1 N k)) = closeL E (goodK xs1 N k)) := close_close _
        have HW3 : Hid (Below W.heap.size W wr) := below_then HB2.out HW.out
        have HE3 : Hid (Dp wr A3 N c3 E) := HE2.out.below HW.out
        clear hl5 hr5 HO HW HE2 HB2
        have HSL : Hid ((goodK xs1 N k).length = (goodK xs1 N k).length) := rfl
        generalize goodK xs1 N k = S at *
        generalize hSl : S.length = sl at *
        have HSN := Lib.hid hSl
        clear hSl HSL
        go_upto_region 11 with (first
          | (go_at_call 27; (with_reducible refine (some_any _ n1 c1 _ m1 m2).mono ?_); rw [HMM.out]; rintro e w4 ⟨rfl, rfl⟩)
          | (go_at_call 29; (with_reducible refine (Close_any _ _ _ E _ _ _ S _ HE3.out HS3.out HSN.out).mono ?_); rintro e w5 ⟨⟨A6, c6, rfl, hr⟩, hB⟩; have HC5 := Lib.hid hr; have HE5 := Lib.hid (HE3.out.below hB); have HB5 := Lib.hid (below_then HW3.out hB); have HS5 := Lib.hid (HS3.out.below hB); clear hr hB))
        go_upto_region 12 with (first
          | (at_builtin; refine wpList_cat (w5.alloc (.cells #[] 3)) rfl (.tmp 60) (.tmp 61) 27 3 rfl w5.heap.size (.int .i64 0) 8 Try.underlying27 infoInt rfl _ 0 [] rfl (own_empty w5 3) A5 sl c5 (iv .i64 S) rfl (HS5.out.below (below_al _ _)) (by have := HSN.out; simp; omega) (iv_one _ _) (by simp) (by omega) (by omega) ?_; intro v6 w6 ho hg; rw [Nat.zero_add] at ho; have HO6 := Lib.hid ho; have HX6 := Lib.hid (below_grown (below_al w5 (.cells #[] 3)) hg (by simp) (own_row (own_empty w5 3))); clear ho hg)
          | (at_builtin; refine wpList_cat _ rfl (.tmp 62) (.tmp 64) 27 3 rfl w5.heap.size (.int .i64 0) 8 Try.underlying27 infoInt rfl _ sl ([] ++ iv .i64 S) rfl HO6.out A2 (min n2 60) c2 (iv .i64 (xs2.take (min n2 60))) rfl (HS2.out.below (below_then HB5.out HX6.out)) (by have := HT2.out; rw [iv, List.length_map]; exact this) (iv_one _ _) HX6.out.size (by omega) (by omega) ?_; intro v8 w8 ho hg; have HO8 := Lib.hid ho; have HX8 := Lib.hid (below_grown HX6.out hg HX6.out.size (own_row HO6.out)); clear ho hg; obtain ⟨A8, c8, rfl, hl8, hr8⟩ := rd_cat HO8.out; have HR8 := Lib.hid hr8; have HL8 := Lib.hid hl8; clear hl8 hr8)
          | (go_at_call 27; (with_reducible refine (some_any A2 n2 c2 _ k1 k2).mono ?_); rintro e w7 ⟨rfl, rfl⟩)
          | (go_at_call 29; (with_reducible refine (Close_any _ _ _ E _ _ _ (S ++ xs2.take (min n2 60)) _ (HE5.out.below HX8.out) HR8.out HL8.out).mono ?_); rintro e w9 ⟨⟨A9, c9, rfl, hr⟩, hB⟩; have HC9 := Lib.hid hr; have HX9 := Lib.hid (below_then HX8.out hB); clear hr hB))
        have HB9 : Hid (Below W.heap.size W w9) := below_then HB5.out HX9.out
        have HE9 : Hid (Dp w9 A3 N c3 E) := HE5.out.below HX9.out
        have HS9 : Hid (Rd w9 A5 sl c5 (iv .i64 S)) := HS5.out.below HX9.out
        have HK9 : Hid (Rd w9 A6 (closeL E S).length c6 (iv .i64 (closeL E S))) := HC5.out.below HX9.out
        clear HX6 HX8 HX9 HO6 HO8 HR8 HL8 HC5 HS5 HB5 HE5 HW3 HS3 HE3
        generalize closeL E (S ++ xs2.take (min n2 60)) = O at *
        generalize closeL E S = C at *
        have hcl := HK9.out.le
        have hcc := HK9.out.cap
        have hsl := HS9.out.le
        have hsc := HS9.out.cap
        generalize hCl : C.length = cl at *
        have HCL := Lib.hid hCl
        clear hCl
        go_wp2
        go_loopw [12] (fun i wr => ∃ k : Nat, k ≤ sl ∧ i = .int .i64 k ∧ wr = w9) (fun i _ => sl - (intOf i).toNat)
        case atStart => exact ⟨0, by omega, by go_num, rfl⟩
        case round =>
          obtain ⟨j, hj, rfl, rfl⟩ := hrel
          by_cases hlt : j < sl
          · obtain ⟨b, off, rfl, _, hc⟩ := HS9.out.form (by have := HSN.out; simp; omega)
            have hjs : j < S.length := by have := HSN.out; omega
            have hck := hc j (by simp; omega)
            rw [iv_at] at hck
            have HM : Hid (decide (S[j] ∈ C) = true) := by show _ = _; simpa using P1.out _ (List.getElem_mem hjs)
            clear hc
            generalize S[j] = x at *
            go_wp2_with (go_at_call 18; (with_reducible refine (Has_any _ _ _ C _ _ HK9.out HCL.out).mono ?_); rw [HM.out]; rintro e w10 ⟨rfl, rfl⟩)
            go_roundw
            case rel => exact ⟨j + 1, by omega, by go_num, trivial⟩
            case measure => simp [intOf]; omega
          · obtain rfl : j = sl := by omega
            go_wp2
            go_loopw [13] (fun i w3 => ∃ k : Nat, k ≤ cl ∧ i = .int .i64 k ∧ w3 = wr) (fun i _ => cl - (intOf i).toNat)
            case atStart => exact ⟨0, by omega, by go_num, rfl⟩
            case round =>
              obtain ⟨q, hq, rfl, rfl⟩ := hrel
              by_cases hlt2 : q < cl
              · obtain ⟨b, off, rfl, _, hc⟩ := HK9.out.form (by have := HCL.out; simp; omega)
                have hjs : q < C.length := by have := HCL.out; omega
                have hck := hc q (by simp; omega)
                rw [iv_at] at hck
                have HM : Hid (decide (C[q] ∈ O) = true) := by show _ = _; simpa using P2.out _ (List.getElem_mem hjs)
                clear hc
                generalize C[q] = x at *
                go_wp2_with (go_at_call 18; (with_reducible refine (Has_any _ _ _ O _ _ HC9.out rfl).mono ?_); rw [HM.out]; rintro e w10 ⟨rfl, rfl⟩)
                go_roundw
                case rel => exact ⟨q + 1, by omega, by go_num, trivial⟩
                case measure => simp [intOf]; omega
              · obtain rfl : q = cl := by omega
                have hn : N ≤ 1000 := by omega
                have HQ : Hid (decide (closeL E C = C) = true) := by show _ = _; simpa using P4.out
                go_wp2_with (first
                  | (go_at_call 14; (with_reducible refine (live_any _).mono ?_); rintro e wa ⟨rfl, hB⟩; have HYa := Lib.hid hB; clear hB)
                  | (go_at_call 31; (with_reducible refine (Closed_any _ _ _ E _ _ _ C _ (HE9.out.below HYa.out) (HK9.out.below HYa.out) HCL.out hn).mono ?_); rw [P3.out]; rintro e wb ⟨rfl, hB⟩; have HYb := Lib.hid (below_then HYa.out hB); clear hB)
                  | (go_at_call 31; (with_reducible refine (Closed_any _ _ _ E _ _ _ O _ (HE9.out.below HYb.out) (HC9.out.below HYb.out) rfl hn).mono ?_); rw [P5.out]; rintro e wc ⟨rfl, hB⟩; have HYc := Lib.hid (below_then HYb.out hB); clear hB)
                  | (go_at_call 29; (with_reducible refine (Close_any _ _ _ E _ _ _ C _ (HE9.out.below HYc.out) (HK9.out.below HYc.out) HCL.out).mono ?_); rintro e wd ⟨⟨Ad, cd, rfl, hr⟩, hB⟩; have HRd := Lib.hid hr; have HYd := Lib.hid (below_then HYc.out hB); clear hB hr)
                  | (go_at_call 22; (with_reducible refine (Same1_any _ _ _ _ _ _ (closeL E C) C _ HRd.out (HK9.out.below HYd.out) rfl HCL.out).mono ?_); rw [HQ.out]; rintro e we ⟨rfl, qq, rfl⟩))
                go_ret
                exact ⟨rfl, below_then HB9.out (below_then HYd.out (Go.Sel.below_drewN _ _))⟩
end Go.Proofs.Ytefgkomcmknigaa
