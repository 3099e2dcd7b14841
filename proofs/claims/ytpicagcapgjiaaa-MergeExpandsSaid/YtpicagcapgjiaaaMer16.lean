/- Walks of merge's reference: ref06.Expand; MergeExpands. -/
import Derived.Test.YtpicagcapgjiaaaMer15
import Derived.Test.YtpicagcapgjiaaaMer10
set_option linter.unusedSimpArgs false
set_option linter.unusedVariables false
namespace Go.Proofs.Ytpicagcapgjiaaa
open Go.RowKit Go.Sel Go.Sel.Gra Go.Sel.Mer Go.Shelf

/-- Whether item i is in one of the first k groups, and those are among s. -/
def inG (L : List It) (s : List Int) (i k : Nat) : Bool := (List.range k).any fun g : Nat => decide ((g : Int) ∈ s) && decide ((i : Int) ∈ nth (groupsL L) g)
theorem inG_succ (L : List It) (s : List Int) (i k : Nat) : inG L s i (k + 1) = (inG L s i k || (decide ((k : Int) ∈ s) && decide ((i : Int) ∈ nth (groupsL L) k))) := by
  unfold inG
  rw [List.range_succ, List.any_append]; simp
theorem inG_all {L : List It} (hr : mrightB L = true) (s : List Int) {i : Nat} (hi : i < L.length) : inG L s i (groupsL L).length = decide (gAt (gls L L.length) (i : Int) ∈ s) := by
  have hlt := gls_lt L L.length i hi
  rw [Bool.eq_iff_iff, inG, List.any_eq_true, decide_eq_true_eq, groupsL_length hr]
  constructor
  · rintro ⟨g, h1, h2⟩
    rw [Bool.and_eq_true, decide_eq_true_eq, decide_eq_true_eq, nth_groupsL hr (List.mem_range.1 h1)] at h2
    have := (row_nat h2.2).2.2
    rw [this]; exact h2.1
  · intro h
    refine ⟨(gls L L.length).getD i 0, List.mem_range.2 hlt, ?_⟩
    rw [Bool.and_eq_true, decide_eq_true_eq, decide_eq_true_eq, nth_groupsL hr hlt]
    exact ⟨by simpa [gAt] using h, mem_rowOf.2 ⟨i, rfl, by rw [gls_length]; exact hi, rfl⟩⟩
def expR (L : List It) (s : List Int) (i : Nat) : List Int := ((List.range i).filter fun m : Nat => decide (gAt (gls L L.length) (m : Int) ∈ s)).map fun m : Nat => (m : Int)
theorem expR_succ (L : List It) (s : List Int) (i : Nat) : expR L s (i + 1) = if decide (gAt (gls L L.length) (i : Int) ∈ s) = true then expR L s i ++ [(i : Int)] else expR L s i := by
  rw [expR, List.range_succ, List.filter_append, List.map_append, filt1 (rfl : decide (gAt (gls L L.length) (i : Int) ∈ s) = _)]
  split <;> simp [expR]
theorem expR_all {L : List It} (hr : mrightB L = true) (s : List Int) : expR L s L.length = expandL L s := by rw [expandL, if_pos hr]; rfl
theorem expR_length (L : List It) (s : List Int) (i : Nat) : (expR L s i).length ≤ i := by
  rw [expR, List.length_map]
  exact Nat.le_trans (List.length_filter_le _ _) (by simp)

set_option maxRecDepth 100000 in
set_option maxHeartbeats 8000000 in
theorem rExpand_any (A : Option Addr) (n c : Nat) (L : List It) (A1 : Option Addr) (n1 c1 : Nat) (s : List Int) (w : World) (hL : Ip w A n c L) (hs : Rd w A1 n1 c1 (iv .i64 s)) (hsl : s.length = n1) :
    Calls Try.prog 34 #[.slice A n c, .slice A1 n1 c1] w fun e w' => (∃ A' c', e = .returned (.slice A' (expandL L s).length c') ∧ Rd w' A' (expandL L s).length c' (iv .i64 (expandL L s))) ∧ Below w.heap.size w w' := by
  have HL := Lib.hid hL
  have HN := Lib.hid hL.len
  have HS := Lib.hid hs
  have HSL := Lib.hid hsl
  have l1 := hL.le
  have l2 := hL.cap
  clear hL hs hsl
  cases hr : mrightB L with
  | false =>
    have HR := Lib.hid hr
    have HE : Hid (expandL L s = []) := by show _ = _; simp [expandL, hr]
    have HG : Hid (groupsL L = []) := by show _ = _; simp [groupsL, hr]
    rw [HE.out]
    clear hr
    go_enter Try.func34, Try.ntmps34
    go_upto_region 3 with (go_at_call 28; (with_reducible refine (rGroups_any A n c L _ HL.out).mono ?_); rw [HG.out]; rintro e w1 ⟨⟨Ag, cg, rfl, hg⟩, hB⟩; have HB1 := Lib.hid hB; have HL1 := Lib.hid (HL.out.below hB); clear hg hB)
    go_wp2
    go_loopw [6, 7, 8, 9] (fun v6 _ _ _ wr => v6 = .slice none 0 0 ∧ Hid (Below w1.heap.size w1 wr)) (fun _ _ _ _ _ => 0)
    case atStart => exact ⟨rfl, Below.refl _ _⟩
    case round =>
      obtain ⟨rfl, HW⟩ := hrel
      go_wp2_with (go_at_call 25; (with_reducible refine (rmRight_any A n c L _ (HL1.out.below HW.out)).mono ?_); rw [HR.out]; rintro e w2 ⟨rfl, hB⟩; have HB2 := Lib.hid (below_then HB1.out (below_then HW.out hB)); clear hB)
      go_ret
      exact ⟨⟨none, 0, rfl, Rd.nil (by omega)⟩, HB2.out⟩
  | true =>
    have HR := Lib.hid hr
    have hn64 : n ≤ 64 := by have := mright_len hr; have := HN.out; omega
    have HGL : Hid ((groupsL L).length ≤ n) := by show _ ≤ _; rw [← HN.out]; exact groupsL_le L
    have HIN : Hid (∀ i, i < n → inG L s i (groupsL L).length = decide (gAt (gls L L.length) (i : Int) ∈ s)) := fun i hi => inG_all hr s (by have := HN.out; omega)
    have HSU : Hid (∀ i k, inG L s i (k + 1) = (inG L s i k || (decide ((k : Int) ∈ s) && decide ((i : Int) ∈ nth (groupsL L) k)))) := inG_succ L s
    have HEX : Hid (expR L s n = expandL L s) := by show _ = _; rw [← HN.out]; exact expR_all hr s
    rw [← HEX.out]
    clear hr
    generalize hgg : groupsL L = GR at *
    have HGG := Lib.hid hgg
    clear hgg
    go_enter Try.func34, Try.ntmps34
    go_upto_region 3 with (go_at_call 28; (with_reducible refine (rGroups_any A n c L _ HL.out).mono ?_); rw [HGG.out]; rintro e w1 ⟨⟨Ag, cg, rfl, hg⟩, hB⟩; have HG := Lib.hid hg; have HB1 := Lib.hid hB; have HL1 := Lib.hid (HL.out.below hB); clear hg hB)
    have g1 := HG.out.le
    have g2 := HG.out.cap
    have g3 := HGL.out
    generalize GR.length = G at *
    go_wp2
    go_loopw [6, 7, 8, 9] (fun v6 v7 _ _ wr => ∃ i : Nat, i ≤ n ∧ v7 = .int .i64 i ∧ Hid (wr.ownsRow w1.heap.size 3 1 v6 (expR L s i).length (iv .i64 (expR L s i))) ∧ Hid (Below w1.heap.size w1 wr)) (fun _ v7 _ _ _ => n - (intOf v7).toNat)
    case atStart => exact ⟨0, by omega, rfl, World.ownsRow_nil _ _ _ _, Below.refl _ _⟩
    case round =>
      obtain ⟨i, hi, rfl, HO, HW⟩ := hrel
      have HES := Lib.hid (expR_succ L s i)
      have hel := expR_length L s i
      by_cases hlt : i < n
      · go_upto_region 7 with (go_at_call 25; (with_reducible refine (rmRight_any A n c L _ (HL1.out.below HW.out)).mono ?_); rw [HR.out]; rintro e w2 ⟨rfl, hB⟩; have HW2 := Lib.hid (below_then HW.out hB); have HO2 := Lib.hid (own_below HO.out hB (Nat.le_refl _)); clear hB)
        go_wp2
        go_loopw [8, 9] (fun v8 v9 wx => ∃ k : Nat, k ≤ G ∧ v9 = .int .i64 k ∧ v8 = .bool (inG L s i k) ∧ w2 = wx) (fun _ v9 _ => G - (intOf v9).toNat)
        case atStart => exact ⟨0, by omega, rfl, rfl, rfl⟩
        case round =>
          obtain ⟨k, hk, rfl, rfl, rfl⟩ := hrel
          by_cases hkG : k < G
          · have HS1 := Lib.hid (HSU.out i k)
            have HRS := Lib.hid (HS.out.below (below_then HB1.out HW2.out))
            obtain ⟨gb, go, A', n', c', rfl, d1, d2, d3⟩ := (HG.out.below HW2.out).at_ hkG
            have HD2 := Lib.hid d2
            have HD3 := Lib.hid d3
            have d4 := d3.le
            have d5 := d3.cap
            clear d2 d3
            cases hin : inG L s i k with
            | true =>
              rw [hin, Bool.true_or] at HS1
              go_wp2
              go_roundw
              case rel => exact ⟨k + 1, by omega, by go_num, by rw [HS1.out], trivial⟩
              case measure => simp [intOf] <;> omega
            | false =>
              rw [hin, Bool.false_or] at HS1
              clear hin
              cases hks : decide ((k : Int) ∈ s) with
              | false =>
                have HKS := Lib.hid hks
                rw [hks, Bool.false_and] at HS1
                clear hks
                go_wp2_with (go_at_call 21; (with_reducible refine (Has_any _ _ _ s _ _ HRS.out HSL.out).mono ?_); rw [HKS.out]; rintro e w10 ⟨rfl, hw⟩; have hw := hw.symm; subst hw)
                go_roundw
                case rel => exact ⟨k + 1, by omega, by go_num, by rw [HS1.out], trivial⟩
                case measure => simp [intOf] <;> omega
              | true =>
                have HKS := Lib.hid hks
                rw [hks, Bool.true_and] at HS1
                clear hks
                go_wp2_with (first
                  | (go_at_call 21; (with_reducible refine (Has_any _ _ _ s _ _ HRS.out HSL.out).mono ?_); rw [HKS.out]; rintro e w10 ⟨rfl, hw⟩; have hw := hw.symm; subst hw)
                  | (go_at_call 21; (with_reducible refine (Has_any _ _ _ (nth GR k) _ _ HD3.out HD2.out).mono ?_); rw [← HS1.out]; rintro e w11 ⟨rfl, hw⟩; have hw := hw.symm; subst hw))
                go_roundw
                case rel => exact ⟨k + 1, by omega, by go_num, rfl, trivial⟩
                case measure => simp [intOf] <;> omega
          · obtain rfl : k = G := by omega
            have HI := Lib.hid (HIN.out i hlt)
            rw [HI.out]
            cases hb : decide (gAt (gls L L.length) (i : Int) ∈ s) with
            | true =>
              rw [hb, if_pos rfl] at HES
              clear hb
              go_wp2_with (at_builtin; refine wpList_push w2 rfl (.tmp 43) (.tmp 45) 23 3 rfl w1.heap.size (.int .i64 0) 8 Try.underlying23 infoInt rfl (by omega) _ (expR L s i).length _ (.int .i64 (i : Int)) rfl rfl rfl HO2.out HW2.out.size (by omega) rfl ?_; intro g cap w5 ho hg hat hlt1; have HO5 := Lib.hid ho; have HW5 := Lib.hid (below_grown HW2.out hg HW2.out.size (own_row HO2.out)); clear ho hg hat)
              go_roundw
              case rel => exact ⟨i + 1, by omega, by go_num, by show World.ownsRow _ _ _ _ _ _ _; rw [HES.out]; simpa [iv] using HO5.out, HW5⟩
              case measure => simp [intOf] <;> omega
            | false =>
              rw [hb, if_neg (by decide)] at HES
              clear hb
              go_wp2
              go_roundw
              case rel => exact ⟨i + 1, by omega, by go_num, by show World.ownsRow _ _ _ _ _ _ _; rw [HES.out]; exact HO2.out, HW2⟩
              case measure => simp [intOf] <;> omega
      · obtain rfl : i = n := by omega
        go_wp2_with (go_at_call 25; (with_reducible refine (rmRight_any A _ c L _ (HL1.out.below HW.out)).mono ?_); rw [HR.out]; rintro e w2 ⟨rfl, hB⟩; have HW2 := Lib.hid (below_then HW.out hB); have HO2 := Lib.hid (own_below HO.out hB (Nat.le_refl _)); clear hB)
        obtain ⟨A5, c5, hv5, hl5, hr5⟩ := rd_own HO2.out
        subst hv5
        go_ret
        exact ⟨⟨A5, c5, rfl, hr5⟩, below_then HB1.out HW2.out⟩

set_option maxRecDepth 100000 in
set_option maxHeartbeats 4000000 in
theorem law_MergeExpands (A : Option Addr) (n c : Nat) (L : List It) (A1 : Option Addr) (n1 c1 : Nat) (xs1 : List Int) (W : World) (hL : Ip W A n c L) (hr1 : Rd W A1 n1 c1 (iv .i64 xs1)) (hl1 : xs1.length = n1) :
    Calls Try.prog 5 #[.slice A n c, .slice A1 n1 c1] W fun e W' => e = .returned (.bool true) ∧ Below W.heap.size W W' := by
  have HL := Lib.hid hL
  have HEL : Hid ((fewI L).length = min n 24) := by show _ = _; rw [fewI_length, hL.len, Nat.min_comm]
  have l1 := hL.le
  have l2 := hL.cap
  have m1 := hr1.le
  have m2 := hr1.cap
  have HS := Lib.hid (msome_rd hr1 hl1).1
  have HT := Lib.hid (msome_rd hr1 hl1).2
  clear hL hr1 hl1
  go_enter Try.func5, Try.ntmps5
  go_upto_region 2 with (go_at_call 22; (with_reducible refine (mfew_any _ _ _ L _ HL.out).mono ?_); rintro e w1 ⟨⟨A3, c3, rfl, hd⟩, hB⟩; have HE := Lib.hid hd; have HB1 := Lib.hid hB; clear hd hB)
  generalize fewI L = E at *
  generalize min n 24 = N at *
  generalize xs1.take (min n1 40) = S at *
  generalize hx : expandL E S = X at *
  have HX := Lib.hid hx
  clear hx
  go_wp2_with (first
    | (go_at_call 23; (with_reducible refine (mlive_any _).mono ?_); rintro e w2 ⟨rfl, hB⟩; have HE2 := Lib.hid (HE.out.below hB); have HB2 := Lib.hid (below_then HB1.out hB); clear hB)
    | (go_at_call 33; (with_reducible refine (msome_any A1 n1 c1 _ m1 m2).mono ?_); rintro e w4 ⟨rfl, hw⟩; have hw := hw.symm; subst hw)
    | (go_at_call 32; (with_reducible refine (mExpand_any _ _ _ E _ _ _ S _ HE2.out (HS.out.below HB2.out) HT.out).mono ?_); rw [HX.out]; rintro e w5 ⟨⟨A5, c5, rfl, hd5⟩, hB⟩; have HX5 := Lib.hid hd5; have HE5 := Lib.hid (HE2.out.below hB); have HB5 := Lib.hid (below_then HB2.out hB); clear hB hd5)
    | (go_at_call 34; (with_reducible refine (rExpand_any _ _ _ E _ _ _ S _ HE5.out (HS.out.below HB5.out) HT.out).mono ?_); rw [HX.out]; rintro e w6 ⟨⟨A6, c6, rfl, hd6⟩, hB⟩; have HX6 := Lib.hid hd6; have HY6 := Lib.hid (HX5.out.below hB); have HB6 := Lib.hid (below_then HB5.out hB); clear hB hd6)
    | (go_at_call 31; (with_reducible refine (Same1_any _ _ _ _ _ _ X X _ HY6.out HX6.out rfl rfl).mono ?_); rw [show decide (X = X) = true by simp]; rintro e w7 ⟨rfl, q, hq⟩; have HB7 : Hid (Below W.heap.size W w7) := (by subst hq; exact below_then HB6.out (Sel.below_drewN _ q)); clear hq))
  go_ret
  exact ⟨rfl, HB7.out⟩
end Go.Proofs.Ytpicagcapgjiaaa
