/- Walks of big's reference: Inner (printed by gen_bhe.py). -/
import Derived.Test.YtcgfoaihfncppaaKBgAl
import Derived.Test.YtcgfoaihfncppaaKBgA
import Derived.Test.YtcgfoaihfncppaaKBgO
set_option linter.unusedSimpArgs false
set_option linter.unusedVariables false
namespace Go.Proofs.Ytcgfoaihfncppaa
open Go.RowKit Go.Sel Go.Sel.Gra Go.Sel.Bg Go.Sel.Mer Go.Shelf
/-- The blocks of pointers that the first i pointers of Double say. -/
def inE (D : List (List Int)) (t : List Int) (i : Nat) : List Int := (innE D t i).map (·.1)
theorem inE_zero {D : List (List Int)} {t : List Int} {i : Nat} (h : vD D t i = 0) : inE D t (i + 1) = inE D t i := by simp [inE, innE_succ, h]
theorem inE_one {D : List (List Int)} {t : List Int} {i : Nat} (h : vD D t i ≠ 0) : inE D t (i + 1) = inE D t i ++ [vD D t i] := by simp [inE, innE_succ, h]
theorem inE_len (D : List (List Int)) (t : List Int) (i : Nat) : (inE D t i).length ≤ i := by rw [inE, List.length_map]; exact innE_len D t i
theorem inL_eq (D : List (List Int)) (t : List Int) : inL D t = (if tp t 6 = 0 then [] else [tp t 6]) ++ if tp t 7 = 0 then [] else tp t 7 :: inE D t 32 := by
  unfold inL innD innI inE
  split <;> split <;> simp

set_option maxRecDepth 100000 in
set_option maxHeartbeats 4000000 in
theorem rInner_ok (A : Option Addr) (n c : Nat) (D : List (List Int)) (t : List Int) (ht : t.length = 8) (w : World) (hD : Bp w A n c D) (hR : Rt D t) :
    Calls Try.prog 72 #[.slice A n c, bigV t] w fun e w' => (∃ A2 c2, e = .returned (.tuple #[.slice A2 (inL D t).length c2, .int .i64 0]) ∧ Rd w' A2 (inL D t).length c2 (iv .i64 (inL D t))) ∧ Below w.heap.size w w' := by
  have HD := Lib.hid hD
  have HR := Lib.hid hR
  have hl1 := hD.le
  have hl2 := hD.cap
  have hdn := hD.len
  have HRT := Lib.hid (fun W (h : Bp W A n c D) => rRight_ok A n c D t ht W h hR)
  have HIN := Lib.hid (inL_eq D t)
  obtain ⟨a0, a1, a2, a3, a4, a5, a6, a7, ht8⟩ := len8 ht
  have hbv : bigV t = .agg #[.int .i64 a0, .int .i64 a1, .int .i64 a2, .int .i64 a3, .int .i64 a4, .int .i64 a5, .int .i64 a6, .int .i64 a7] := by rw [ht8]; rfl
  have H6 : Hid (tp t 6 = a6) := Lib.hid (by rw [ht8]; rfl)
  have H7 : Hid (tp t 7 = a7) := Lib.hid (by rw [ht8]; rfl)
  rw [H6.out, H7.out] at HIN
  rw [hbv] at HRT ⊢
  clear hD hR ht ht8 hbv
  have HX0 := Lib.hid (blk11 w (.cells #[.int .i64 a0, .int .i64 a1, .int .i64 a2, .int .i64 a3, .int .i64 a4, .int .i64 a5, .int .i64 a6, .int .i64 a7] 36))
  have HB0 := Lib.hid (below_al w (.cells #[.int .i64 a0, .int .i64 a1, .int .i64 a2, .int .i64 a3, .int .i64 a4, .int .i64 a5, .int .i64 a6, .int .i64 a7] 36))
  have hgl := (Array.getElem?_eq_some_iff.1 HX0.out).1
  go_enter Try.func72, Try.ntmps72
  go_upto_region 1 with (fail)
  obtain ⟨d0, d1, d2, d3, d4, d5, d6, d7⟩ := big8 HX0.out
  generalize w.alloc (.cells #[.int .i64 a0, .int .i64 a1, .int .i64 a2, .int .i64 a3, .int .i64 a4, .int .i64 a5, .int .i64 a6, .int .i64 a7] 36) = W1 at *
  obtain ⟨gb, HGB⟩ : ∃ gb, Hid (w.heap.size = gb) := ⟨_, rfl⟩
  rw [HGB.out] at HX0 hgl d0 d1 d2 d3 d4 d5 d6 d7 ⊢
  go_upto_region 3 with (go_at_call 70; refine (HRT.out _ (HD.out.below HB0.out)).mono ?_; rintro e w2 ⟨rfl, hB⟩; have HX2 := Lib.hid (blk_below HX0.out hB hgl); have HB2 := Lib.hid (below_then HB0.out hB); clear hB)
  clear d0 d1 d2 d3 d4 d5 d6 d7 HX0 HB0 hgl HRT
  obtain ⟨W2, hW2⟩ : ∃ W2, W2 = w2 := ⟨_, rfl⟩
  subst hW2
  have hs2 := HB2.out.size
  have hg2 : gb < W2.heap.size := (Array.getElem?_eq_some_iff.1 HX2.out).1
  have HO2 : Hid (W2.ownsRow (gb + 1) 3 1 (.slice none 0 0) 0 (iv .i64 [])) := Lib.hid (World.ownsRow_nil _ _ _ _)
  have hm : (0 : Nat) ≤ 1 := by omega
  by_cases h6 : a6 = 0
  · rw [if_pos h6] at HIN
    subst h6
    obtain ⟨d0, d1, d2, d3, d4, d5, d6, d7⟩ := big8 HX2.out
    by_cases h7 : a7 = 0
    · rw [if_pos h7] at HIN
      subst h7
      go_wp2
      go_ret2
      obtain ⟨A2, c2, e2, _, hr2⟩ := rd_ownN (by omega) HO2.out
      cases e2
      have e : inL D t = ([] : List Int) := HIN.out
      rw [e]
      exact ⟨⟨_, _, rfl, hr2⟩, HB2.out⟩
    · rw [if_neg h7] at HIN
      have hb7 : (a7 != 0) = true := by simpa using h7
      go_upto_region 8 with (at_builtin; refine wpList_push W2 rfl _ _ 23 3 rfl (gb + 1) (.int .i64 0) 8 Try.underlying23 infoInt8 rfl (by omega) (.slice none 0 0) 0 _ (.int .i64 a7) rfl rfl rfl HO2.out (by omega) (by omega) rfl ?_; intro g7 cap7 w5 ho hg hat hlt1; have HO5 := Lib.hid ho; have HG := Lib.hid hg; clear ho hg hat)
      have HX5 : Hid (w5.heap[gb]? = _) := Lib.hid ((HG.out.block gb hg2 (fun e => by have := own_row HO2.out gb e.symm; omega)).trans HX2.out)
      have HB5 := Lib.hid (below_grown HB2.out HG.out hs2 (fun j hj => by have := own_row HO2.out j hj; have := HGB.out; omega))
      clear d0 d1 d2 d3 d4 d5 d6 d7 HX2 HB2 HG HO2 hs2 hg2
      obtain ⟨W5, hW5⟩ : ∃ W5, W5 = w5 := ⟨_, rfl⟩
      subst hW5
      obtain ⟨q, hq, hq0, hqn⟩ := ptr_nat HR.out (p := 7) (by omega) (by rw [val_top D t (by omega), H7.out]; exact h7)
      have e7 := hq.symm.trans ((val_top D t (by omega)).trans H7.out)
      subst e7
      have hqn2 : q < n := by omega
      have HVD : Hid (∀ i, at2 D (q : Int) i = vD D t i) := Lib.hid (fun i => by rw [vD, H7.out, if_neg h7])
      clear hq h7
      have HO6 : Hid (W5.ownsRow (gb + 1) 3 1 (.slice (some ⟨g7, 0, none⟩) (0 + 1) cap7) (0 + 1 + 0) (iv .i64 (([] : List Int) ++ [(q : Int)] ++ inE D t 0))) := Lib.hid (by simpa [iv, inE, innE] using HO5.out)
      clear HO5
      go_wp2
      go_loopw [6, 7, 8] (fun v6 v7 _ wr => ∃ (i m c6 : Nat) (A6 : Option Addr), i ≤ 32 ∧ v7 = .int .i64 i ∧ v6 = .slice A6 (0 + 1 + m) c6 ∧ Hid (m = (inE D t i).length) ∧ Hid (wr.ownsRow (gb + 1) 3 1 (.slice A6 (0 + 1 + m) c6) (0 + 1 + m) (iv .i64 (([] : List Int) ++ [(q : Int)] ++ inE D t i))) ∧ Hid (boxB wr gb [a0, a1, a2, a3, a4, a5, 0, (q : Int)]) ∧ Hid (Below w.heap.size w wr)) (fun _ v _ _ => 32 - (Go.RowKit.intOf v).toNat)
      case atStart => exact ⟨0, 0, cap7, some ⟨g7, 0, none⟩, by omega, rfl, rfl, rfl, HO6, HX5, HB5⟩
      case round =>
        clear HX5 HB5 HO6
        obtain ⟨i, m, c6, A6, hi, rfl, rfl, HM, HO, HX, HB⟩ := hrel
        have hsr := HB.out.size
        have hgr : gb < wr.heap.size := (Array.getElem?_eq_some_iff.1 HX.out).1
        obtain ⟨d0, d1, d2, d3, d4, d5, d6, d7⟩ := big8 HX.out
        have hm1 : m ≤ 32 := by have := inE_len D t i; have := HM.out; omega
        by_cases hlt : i < 32
        · obtain ⟨b, off, rb, ro, c', rfl, hcr, hc1, hc2, hrow⟩ := bp_ptr (HD.out.below HB.out) HR.out.1 (q := q) hqn2
          obtain ⟨hx, hx0, hx1⟩ := hrow i hlt
          rw [HVD.out] at hx hx0 hx1
          have HP0 : Hid (vD D t i = 0 → inE D t (i + 1) = inE D t i) := Lib.hid inE_zero
          have HP1 : Hid (vD D t i ≠ 0 → inE D t (i + 1) = inE D t i ++ [vD D t i]) := Lib.hid inE_one
          clear hrow
          generalize vD D t i = x at *
          by_cases hxz : x = 0
          · subst hxz
            have HMn : Hid (m = (inE D t (i + 1)).length) := Lib.hid (by rw [HP0.out rfl]; exact HM.out)
            rw [← HP0.out rfl] at HO
            clear HP0 HP1
            go_wp2
            exact ⟨⟨i + 1, m, c6, A6, by omega, by go_num, rfl, HMn, HO, HX, HB⟩, by simp [Go.RowKit.intOf] <;> omega⟩
          · have hbx : (x != 0) = true := by simpa using hxz
            have hwr : IntKind.i64.wrap x = x := IntWalk.i64_in _ (by omega)
            have HMn : Hid (m + 1 = (inE D t (i + 1)).length) := Lib.hid (by rw [HP1.out hxz, List.length_append, ← HM.out]; rfl)
            have HL1 : Hid (iv .i64 (([] : List Int) ++ [(q : Int)] ++ inE D t (i + 1)) = iv .i64 (([] : List Int) ++ [(q : Int)] ++ inE D t i) ++ [.int .i64 x]) := Lib.hid (by rw [HP1.out hxz]; simp [iv])
            clear HP0 HP1
            go_wp2_with (at_builtin; refine wpList_push wr rfl _ _ 23 3 rfl (gb + 1) (.int .i64 0) 8 Try.underlying23 infoInt8 rfl (by omega) (.slice A6 (0 + 1 + m) c6) (0 + 1 + m) _ (.int .i64 x) rfl rfl rfl HO.out (by omega) (by omega) rfl ?_; intro g8 cap8 w6 ho hg hat hlt1; have HO7 := Lib.hid ho; have HG := Lib.hid hg; clear ho hg hat)
            have HX7 : Hid (w6.heap[gb]? = _) := Lib.hid ((HG.out.block gb hgr (fun e => by have := own_row HO.out gb e.symm; omega)).trans HX.out)
            have HB7 := Lib.hid (below_grown HB.out HG.out hsr (fun j hj => by have := own_row HO.out j hj; have := HGB.out; omega))
            rw [← HL1.out] at HO7
            exact ⟨⟨i + 1, m + 1, cap8, some ⟨g8, 0, none⟩, by omega, by go_num, rfl, HMn, HO7, HX7, HB7⟩, by simp [Go.RowKit.intOf] <;> omega⟩
        · have hi2 : i = 32 := by omega
          rw [hi2] at HO HM
          clear d0 d1 d2 d3 d4 d5 d6 d7
          go_wp2
          go_ret2
          obtain ⟨A2, c2, e2, _, hr2⟩ := rd_ownN (by omega) HO.out
          cases e2
          have e : inL D t = ([] : List Int) ++ [(q : Int)] ++ inE D t 32 := by rw [HIN.out]; rfl
          have el : (inL D t).length = 0 + 1 + m := by rw [e, HM.out]; simp; omega
          rw [el, e]
          exact ⟨⟨_, _, rfl, hr2⟩, HB.out⟩
  · rw [if_neg h6] at HIN
    have hb6 : (a6 != 0) = true := by simpa using h6
    obtain ⟨d0, d1, d2, d3, d4, d5, d6, d7⟩ := big8 HX2.out
    go_upto_region 6 with (at_builtin; refine wpList_push W2 rfl _ _ 23 3 rfl (gb + 1) (.int .i64 0) 8 Try.underlying23 infoInt8 rfl (by omega) (.slice none 0 0) 0 _ (.int .i64 a6) rfl rfl rfl HO2.out (by omega) (by omega) rfl ?_; intro g cap w4 ho hg hat hlt1; have HO3 := Lib.hid ho; have HG := Lib.hid hg; clear ho hg hat)
    have HX3 : Hid (w4.heap[gb]? = _) := Lib.hid ((HG.out.block gb hg2 (fun e => by have := own_row HO2.out gb e.symm; omega)).trans HX2.out)
    have HB3 := Lib.hid (below_grown HB2.out HG.out hs2 (fun j hj => by have := own_row HO2.out j hj; have := HGB.out; omega))
    clear d0 d1 d2 d3 d4 d5 d6 d7 HX2 HB2 HG HO2 hs2 hg2 h6 hb6
    obtain ⟨W3, hW3⟩ : ∃ W3, W3 = w4 := ⟨_, rfl⟩
    subst hW3
    have hs2 := HB3.out.size
    have hg2 : gb < W3.heap.size := (Array.getElem?_eq_some_iff.1 HX3.out).1
    obtain ⟨d0, d1, d2, d3, d4, d5, d6, d7⟩ := big8 HX3.out
    by_cases h7 : a7 = 0
    · rw [if_pos h7] at HIN
      subst h7
      go_wp2
      go_ret2
      obtain ⟨A2, c2, e2, _, hr2⟩ := rd_ownN (by omega) HO3.out
      cases e2
      have e : inL D t = [a6] := HIN.out
      rw [e]
      exact ⟨⟨_, _, rfl, hr2⟩, HB3.out⟩
    · rw [if_neg h7] at HIN
      have hb7 : (a7 != 0) = true := by simpa using h7
      go_upto_region 8 with (at_builtin; refine wpList_push W3 rfl _ _ 23 3 rfl (gb + 1) (.int .i64 0) 8 Try.underlying23 infoInt8 rfl (by omega) (.slice (some ⟨g, 0, none⟩) (0 + 1) cap) 1 _ (.int .i64 a7) rfl rfl rfl HO3.out (by omega) (by omega) rfl ?_; intro g7 cap7 w5 ho hg hat hlt1; have HO5 := Lib.hid ho; have HG := Lib.hid hg; clear ho hg hat)
      have HX5 : Hid (w5.heap[gb]? = _) := Lib.hid ((HG.out.block gb hg2 (fun e => by have := own_row HO3.out gb e.symm; omega)).trans HX3.out)
      have HB5 := Lib.hid (below_grown HB3.out HG.out hs2 (fun j hj => by have := own_row HO3.out j hj; have := HGB.out; omega))
      clear d0 d1 d2 d3 d4 d5 d6 d7 HX3 HB3 HG HO3 hs2 hg2
      obtain ⟨W5, hW5⟩ : ∃ W5, W5 = w5 := ⟨_, rfl⟩
      subst hW5
      obtain ⟨q, hq, hq0, hqn⟩ := ptr_nat HR.out (p := 7) (by omega) (by rw [val_top D t (by omega), H7.out]; exact h7)
      have e7 := hq.symm.trans ((val_top D t (by omega)).trans H7.out)
      subst e7
      have hqn2 : q < n := by omega
      have HVD : Hid (∀ i, at2 D (q : Int) i = vD D t i) := Lib.hid (fun i => by rw [vD, H7.out, if_neg h7])
      clear hq h7
      have HO6 : Hid (W5.ownsRow (gb + 1) 3 1 (.slice (some ⟨g7, 0, none⟩) (1 + 1) cap7) (1 + 1 + 0) (iv .i64 ([a6] ++ [(q : Int)] ++ inE D t 0))) := Lib.hid (by simpa [iv, inE, innE] using HO5.out)
      clear HO5
      go_wp2
      go_loopw [6, 7, 8] (fun v6 v7 _ wr => ∃ (i m c6 : Nat) (A6 : Option Addr), i ≤ 32 ∧ v7 = .int .i64 i ∧ v6 = .slice A6 (1 + 1 + m) c6 ∧ Hid (m = (inE D t i).length) ∧ Hid (wr.ownsRow (gb + 1) 3 1 (.slice A6 (1 + 1 + m) c6) (1 + 1 + m) (iv .i64 ([a6] ++ [(q : Int)] ++ inE D t i))) ∧ Hid (boxB wr gb [a0, a1, a2, a3, a4, a5, a6, (q : Int)]) ∧ Hid (Below w.heap.size w wr)) (fun _ v _ _ => 32 - (Go.RowKit.intOf v).toNat)
      case atStart => exact ⟨0, 0, cap7, some ⟨g7, 0, none⟩, by omega, rfl, rfl, rfl, HO6, HX5, HB5⟩
      case round =>
        clear HX5 HB5 HO6
        obtain ⟨i, m, c6, A6, hi, rfl, rfl, HM, HO, HX, HB⟩ := hrel
        have hsr := HB.out.size
        have hgr : gb < wr.heap.size := (Array.getElem?_eq_some_iff.1 HX.out).1
        obtain ⟨d0, d1, d2, d3, d4, d5, d6, d7⟩ := big8 HX.out
        have hm1 : m ≤ 32 := by have := inE_len D t i; have := HM.out; omega
        by_cases hlt : i < 32
        · obtain ⟨b, off, rb, ro, c', rfl, hcr, hc1, hc2, hrow⟩ := bp_ptr (HD.out.below HB.out) HR.out.1 (q := q) hqn2
          obtain ⟨hx, hx0, hx1⟩ := hrow i hlt
          rw [HVD.out] at hx hx0 hx1
          have HP0 : Hid (vD D t i = 0 → inE D t (i + 1) = inE D t i) := Lib.hid inE_zero
          have HP1 : Hid (vD D t i ≠ 0 → inE D t (i + 1) = inE D t i ++ [vD D t i]) := Lib.hid inE_one
          clear hrow
          generalize vD D t i = x at *
          by_cases hxz : x = 0
          · subst hxz
            have HMn : Hid (m = (inE D t (i + 1)).length) := Lib.hid (by rw [HP0.out rfl]; exact HM.out)
            rw [← HP0.out rfl] at HO
            clear HP0 HP1
            go_wp2
            exact ⟨⟨i + 1, m, c6, A6, by omega, by go_num, rfl, HMn, HO, HX, HB⟩, by simp [Go.RowKit.intOf] <;> omega⟩
          · have hbx : (x != 0) = true := by simpa using hxz
            have hwr : IntKind.i64.wrap x = x := IntWalk.i64_in _ (by omega)
            have HMn : Hid (m + 1 = (inE D t (i + 1)).length) := Lib.hid (by rw [HP1.out hxz, List.length_append, ← HM.out]; rfl)
            have HL1 : Hid (iv .i64 ([a6] ++ [(q : Int)] ++ inE D t (i + 1)) = iv .i64 ([a6] ++ [(q : Int)] ++ inE D t i) ++ [.int .i64 x]) := Lib.hid (by rw [HP1.out hxz]; simp [iv])
            clear HP0 HP1
            go_wp2_with (at_builtin; refine wpList_push wr rfl _ _ 23 3 rfl (gb + 1) (.int .i64 0) 8 Try.underlying23 infoInt8 rfl (by omega) (.slice A6 (1 + 1 + m) c6) (1 + 1 + m) _ (.int .i64 x) rfl rfl rfl HO.out (by omega) (by omega) rfl ?_; intro g8 cap8 w6 ho hg hat hlt1; have HO7 := Lib.hid ho; have HG := Lib.hid hg; clear ho hg hat)
            have HX7 : Hid (w6.heap[gb]? = _) := Lib.hid ((HG.out.block gb hgr (fun e => by have := own_row HO.out gb e.symm; omega)).trans HX.out)
            have HB7 := Lib.hid (below_grown HB.out HG.out hsr (fun j hj => by have := own_row HO.out j hj; have := HGB.out; omega))
            rw [← HL1.out] at HO7
            exact ⟨⟨i + 1, m + 1, cap8, some ⟨g8, 0, none⟩, by omega, by go_num, rfl, HMn, HO7, HX7, HB7⟩, by simp [Go.RowKit.intOf] <;> omega⟩
        · have hi2 : i = 32 := by omega
          rw [hi2] at HO HM
          clear d0 d1 d2 d3 d4 d5 d6 d7
          go_wp2
          go_ret2
          obtain ⟨A2, c2, e2, _, hr2⟩ := rd_ownN (by omega) HO.out
          cases e2
          have e : inL D t = [a6] ++ [(q : Int)] ++ inE D t 32 := by rw [HIN.out]; rfl
          have el : (inL D t).length = 1 + 1 + m := by rw [e, HM.out]; simp; omega
          rw [el, e]
          exact ⟨⟨_, _, rfl, hr2⟩, HB.out⟩
end Go.Proofs.Ytcgfoaihfncppaa
/- Boxes with files; small words. -/
set_option linter.unusedSimpArgs false
set_option linter.unusedVariables false
namespace Go.Sel.Bg
open Go.RowKit Go.Sel Go.Sel.Gra
theorem posK_ontoh {q : Nat} (hq : q < 1096) (hn : ¬ inP q) : ∃ p, p < 1062 ∧ posK p = q := by
  unfold inP at hn
  by_cases h6 : q < 6
  · exact ⟨q, by omega, by unfold posK; rw [if_pos h6]⟩
  · by_cases h40 : q < 40
    · exact ⟨q - 2, by omega, by unfold posK; rw [if_neg (by omega), if_pos (by omega)]; omega⟩
    · exact ⟨38 + 32 * ((q - 40) / 33) + ((q - 40) % 33 - 1), by omega, by unfold posK; rw [if_neg (by omega), if_neg (by omega)]; omega⟩
end Go.Sel.Bg
namespace Go.Proofs.Ytcgfoaihfncppaa
open Go.RowKit Go.Sel Go.Sel.Gra Go.Sel.Bg Go.Sel.Mer Go.Shelf
/-- A box with a file, all of whose numbers are stored anew. -/
theorem set8_fr (w : World) (B : Nat) (v0 v1 v2 v3 v4 v5 v6 v7 : Value) :
    Fr (· = B) w ((((((((w.setCell ⟨B, 0, none⟩ v0).setCell ⟨B, 1, none⟩ v1).setCell ⟨B, 2, none⟩ v2).setCell ⟨B, 3, none⟩ v3).setCell ⟨B, 4, none⟩ v4).setCell ⟨B, 5, none⟩ v5).setCell ⟨B, 6, none⟩ v6).setCell ⟨B, 7, none⟩ v7) :=
  have h : ∀ {W : World} (j : Nat) (v : Value), Fr (· = B) w W → Fr (· = B) w (W.setCell ⟨B, j, none⟩ v) := fun j v h => Fr.setCell (S := (· = B)) h (p := ⟨B, j, none⟩) (.inl rfl) v
  h _ _ (h _ _ (h _ _ (h _ _ (h _ _ (h _ _ (h _ _ (h _ _ (Fr.refl _ w))))))))
theorem box_nob {w : World} {b : Nat} {t : List Int} (h : boxB w b t) : ∀ j x, w.cell? ⟨b, j, none⟩ ≠ some (.int .u8 x) := fun j x hc => by
  rw [blk_cell h] at hc
  have := Array.mem_of_getElem? hc
  simp [iv] at this

theorem below_alloc_then {w w1 w2 : World} (h : Below w.heap.size w w1) (h2 : Below w1.heap.size w1 w2) (o : Obj) : Below w.heap.size w (w2.alloc o) :=
  (below_then h h2).alloc (below_then h h2).size o
theorem bigV8 (a0 a1 a2 a3 a4 a5 a6 a7 : Int) : bigV [a0, a1, a2, a3, a4, a5, a6, a7] = .agg #[.int .i64 a0, .int .i64 a1, .int .i64 a2, .int .i64 a3, .int .i64 a4, .int .i64 a5, .int .i64 a6, .int .i64 a7] := rfl

end Go.Proofs.Ytcgfoaihfncppaa
/- Walks of big's reference: may. -/
set_option linter.unusedSimpArgs false
set_option linter.unusedVariables false
namespace Go.Proofs.Ytcgfoaihfncppaa
open Go.RowKit Go.Sel Go.Sel.Gra Go.Sel.Bg Go.Sel.Mer Go.Shelf

theorem mem_inE {D : List (List Int)} {t : List Int} {x : Int} : ∀ i, x ∈ inE D t i ↔ x ≠ 0 ∧ ∃ j, j < i ∧ vD D t j = x
  | 0 => by simp [inE, innE]
  | i + 1 => by
    by_cases h : vD D t i = 0
    · rw [inE_zero h, mem_inE i]
      constructor
      · rintro ⟨h0, j, hj, e⟩; exact ⟨h0, j, by omega, e⟩
      · rintro ⟨h0, j, hj, e⟩
        refine ⟨h0, j, ?_, e⟩
        by_cases e2 : j = i
        · subst e2; omega
        · omega
    · rw [inE_one h, List.mem_append, mem_inE i, List.mem_singleton]
      constructor
      · rintro (⟨h0, j, hj, e⟩ | e)
        · exact ⟨h0, j, by omega, e⟩
        · exact ⟨by rw [e]; exact h, i, by omega, e.symm⟩
      · rintro ⟨h0, j, hj, e⟩
        by_cases e2 : j = i
        · subst e2; exact .inr e.symm
        · exact .inl ⟨h0, j, by omega, e⟩
/-- What All and Inner tell are the blocks that are pointed to. -/
theorem taken_iff {D : List (List Int)} {t : List Int} {x : Int} (hx : x ≠ 0) : x ∈ blL D t ++ inL D t ↔ tkB D t x = true := by
  have v6 : val D t 6 = tp t 6 := val_top _ _ (by omega)
  have v7 : val D t 7 = tp t 7 := val_top _ _ (by omega)
  have vd : ∀ j, val D t (40 + 33 * j) = vD D t j := fun j => by
    rw [val, if_neg (by omega), if_neg (by omega), if_pos (by omega), show (40 + 33 * j - 40) / 33 = j by omega]
  rw [tkB_iff, List.mem_append, inL_eq, List.mem_append, blL, List.mem_map]
  constructor
  · rintro (⟨k, hk, e⟩ | h | h)
    · obtain ⟨h1, h2⟩ := mem_plN.1 hk
      exact ⟨posK k, posK_lt h1, e⟩
    · split at h
      · simp at h
      · exact ⟨6, by omega, by rw [v6]; simpa using (List.mem_singleton.1 h).symm⟩
    · split at h
      · simp at h
      · rcases List.mem_cons.1 h with h | h
        · exact ⟨7, by omega, by rw [v7]; exact h.symm⟩
        · obtain ⟨_, j, hj, e⟩ := (mem_inE 32).1 h
          exact ⟨40 + 33 * j, by omega, by rw [vd]; exact e⟩
  · rintro ⟨p, hp, e⟩
    by_cases hin : inP p
    · refine .inr ?_
      rcases hin with rfl | rfl | ⟨h1, h2⟩
      · rw [v6] at e
        exact .inl (by rw [if_neg (by omega)]; simp [e])
      · rw [v7] at e
        exact .inr (by rw [if_neg (by omega)]; simp [e])
      · have e1 := vd ((p - 40) / 33)
        rw [show 40 + 33 * ((p - 40) / 33) = p by omega, e] at e1
        have h7 : tp t 7 ≠ 0 := fun h => by rw [vD, if_pos h] at e1; exact hx e1
        exact .inr (by rw [if_neg h7]; exact List.mem_cons_of_mem _ ((mem_inE 32).2 ⟨hx, (p - 40) / 33, by omega, e1.symm⟩))
    · obtain ⟨k, hk, rfl⟩ := posK_ontoh hp hin
      exact .inl ⟨k, mem_plN.2 ⟨hk, by rw [atK, e]; exact hx⟩, e⟩

set_option maxRecDepth 100000 in
set_option maxHeartbeats 8000000 in
theorem rmay_any (A : Option Addr) (n c : Nat) (D : List (List Int)) (t : List Int) (k : Nat) (b : Int) (Af : Option Addr) (nf cf : Nat) (F : List Int) (ht : t.length = 8) (w : World) (hD : Bp w A n c D) (hR : Rt D t) (hF : Rd w Af nf cf (iv .i64 F)) (hlF : F.length = nf) (hO : RgPut n k b F) :
    Calls Try.prog 52 #[.slice A n c, bigV t, .int .i64 (k : Int), .int .i64 b, .slice Af nf cf] w fun e w' => e = .returned (.int .i64 (errL D t k b F)) ∧ Below w.heap.size w w' := by
  have HD := Lib.hid hD
  have HF := Lib.hid hF
  have HLF := Lib.hid hlF
  have HO := Lib.hid hO
  have hl1 := hD.le
  have hl2 := hD.cap
  have hf1 := hF.le
  have hf2 := hF.cap
  have hk0 : (0 : Int) ≤ (k : Int) := by omega
  have hk1 : (k : Int) < 1062 := by have := hO.hk; omega
  have hb0 := hO.b0
  have hb1 := hO.b1
  have HRT := Lib.hid (fun W (h : Bp W A n c D) => rRight_ok A n c D t ht W h hR)
  have HALL := Lib.hid (fun W (h : Bp W A n c D) => rAll_ok A n c D t ht W h hR)
  have HINN := Lib.hid (fun W (h : Bp W A n c D) => rInner_ok A n c D t ht W h hR)
  have HAT := Lib.hid (fun W (h : Bp W A n c D) => rat_ok A n c D t k hO.hk ht W h hR)
  have HPLN := Lib.hid (plL_len hR)
  have HTK : Hid (∀ x : Int, x ≠ 0 → decide (x ∈ blL D t ++ inL D t) = tkB D t x) := Lib.hid (fun x hx => by rw [Bool.eq_iff_iff, decide_eq_true_eq]; exact taken_iff hx)
  have HE : Hid (errL D t k b F = _) := Lib.hid (by unfold errL; exact rfl)
  have HBLL : Hid ((blL D t).length = (plL D t).length) := Lib.hid (blL_len D t)
  have hil : (inL D t).length ≤ 34 := by rw [inL, List.length_map]; exact innD_len D t
  obtain ⟨a0, a1, a2, a3, a4, a5, a6, a7, ht8⟩ := len8 ht
  have hbv : bigV t = .agg #[.int .i64 a0, .int .i64 a1, .int .i64 a2, .int .i64 a3, .int .i64 a4, .int .i64 a5, .int .i64 a6, .int .i64 a7] := by rw [ht8]; rfl
  rw [hbv] at HRT HALL HINN HAT ⊢
  clear hD hR ht ht8 hbv hF hlF hO
  have HX0 := Lib.hid (blk11 w (.cells #[.int .i64 a0, .int .i64 a1, .int .i64 a2, .int .i64 a3, .int .i64 a4, .int .i64 a5, .int .i64 a6, .int .i64 a7] 36))
  have HB0 := Lib.hid (below_al w (.cells #[.int .i64 a0, .int .i64 a1, .int .i64 a2, .int .i64 a3, .int .i64 a4, .int .i64 a5, .int .i64 a6, .int .i64 a7] 36))
  have hgl := (Array.getElem?_eq_some_iff.1 HX0.out).1
  go_enter Try.func52, Try.ntmps52
  go_upto_region 1 with (fail)
  obtain ⟨d0, d1, d2, d3, d4, d5, d6, d7⟩ := big8 HX0.out
  generalize w.alloc (.cells #[.int .i64 a0, .int .i64 a1, .int .i64 a2, .int .i64 a3, .int .i64 a4, .int .i64 a5, .int .i64 a6, .int .i64 a7] 36) = W1 at *
  obtain ⟨gb, HGB⟩ : ∃ gb, Hid (w.heap.size = gb) := ⟨_, rfl⟩
  rw [HGB.out] at HX0 hgl d0 d1 d2 d3 d4 d5 d6 d7 ⊢
  go_upto_region 5 with (go_at_call 70; refine (HRT.out _ (HD.out.below HB0.out)).mono ?_; rintro e w2 ⟨rfl, hB⟩; have HX2 := Lib.hid (blk_below HX0.out hB hgl); have HB2 := Lib.hid (below_then HB0.out hB); clear hB)
  clear d0 d1 d2 d3 d4 d5 d6 d7 HX0 HB0 hgl HRT
  obtain ⟨W2, hW2⟩ : ∃ W2, W2 = w2 := ⟨_, rfl⟩
  subst hW2
  go_wp2
  go_loopw [11] (fun v wr => ∃ i : Nat, i ≤ nf ∧ v = .int .i64 i ∧ wr = W2) (fun v _ => nf - (Go.RowKit.intOf v).toNat)
  case atStart => exact ⟨0, by omega, rfl, rfl⟩
  case round =>
    obtain ⟨i, hi, rfl, hw⟩ := hrel
    have hw' := hw.symm
    subst hw'
    clear hw
    by_cases hlt : i < nf
    · have hil2 : i < F.length := by rw [HLF.out]; exact hlt
      obtain ⟨rb, ro, rfl, hrb, hrc⟩ := (HF.out.below HB2.out).form (by simp; omega)
      have hcx := hrc i (by simpa using hil2)
      rw [iv_at] at hcx
      have hF0 := HO.out.f _ (List.getElem_mem hil2)
      obtain ⟨hF1, hF2⟩ := hF0
      generalize F[i] = x at *
      clear hrc
      go_wp2
      exact ⟨⟨i + 1, by omega, by go_num, trivial⟩, by simp [Go.RowKit.intOf] <;> omega⟩
    · have hgl2 := (Array.getElem?_eq_some_iff.1 HX2.out).1
      obtain ⟨d0, d1, d2, d3, d4, d5, d6, d7⟩ := big8 HX2.out
      go_upto_region 11 with (go_at_call 71; refine (HALL.out _ (HD.out.below HB2.out)).mono ?_; rintro e w3 ⟨⟨A2, c2, A3, c3, rfl, h2, h3⟩, hB⟩; have H3 := Lib.hid h3; have HX3 := Lib.hid (blk_below HX2.out hB hgl2); have HB3 := Lib.hid (below_then HB2.out hB); clear h2 h3 hB)
      clear d0 d1 d2 d3 d4 d5 d6 d7 HX2 HB2 hgl2 HALL
      have hgl3 := (Array.getElem?_eq_some_iff.1 HX3.out).1
      obtain ⟨d0, d1, d2, d3, d4, d5, d6, d7⟩ := big8 HX3.out
      go_upto_region 12 with (go_at_call 72; refine (HINN.out _ (HD.out.below HB3.out)).mono ?_; rintro e w4 ⟨⟨A4, c4, rfl, h4⟩, hB⟩; have H4 := Lib.hid h4; have H34 := Lib.hid (H3.out.below hB); have HX4 := Lib.hid (blk_below HX3.out hB hgl3); have HB4 := Lib.hid (below_then HB3.out hB); clear h4 hB)
      clear d0 d1 d2 d3 d4 d5 d6 d7 HX3 HB3 hgl3 H3 HINN
      obtain ⟨W4, hW4⟩ : ∃ W4, W4 = w4 := ⟨_, rfl⟩
      subst hW4
      have hpl96 := HPLN.out
      have hbl96 : (blL D t).length ≤ 96 := by rw [HBLL.out]; exact hpl96
      obtain ⟨v5, w5, hr5, ho5, hg5, ha5⟩ := run_extend (P := Try.prog) (w := W4.alloc (.cells #[] 3)) W4.heap.size 23 23 3 (.int .i64 0) 8 Try.underlying23 infoInt8 rfl _ 0 [] (own_empty W4 3 W4.heap.size (Nat.le_refl _)) A3 (plL D t).length c3 (iv .i64 (blL D t)) (H34.out.alloc _) (by rw [iv_length, HBLL.out]) (one_iv _ _) (by simp only [maxLen]; omega) (by omega) (by simp)
      have HB5 : Hid (Below W4.heap.size W4 w5) := Lib.hid (below_grown (below_al W4 _) hg5 (by simp) (fun j hj => by simp [Value.ownBlock] at hj; omega))
      have hs5 := HB5.out.size
      obtain ⟨v6, w6, hr6, ho6, hg6, ha6⟩ := run_extend (P := Try.prog) (w := w5) W4.heap.size 23 23 3 (.int .i64 0) 8 Try.underlying23 infoInt8 rfl v5 _ _ ho5 A4 (inL D t).length c4 (iv .i64 (inL D t)) (H4.out.below HB5.out) (iv_length _ _) (one_iv _ _) (by simp only [maxLen]; omega) (by omega) hs5
      have HB6 : Hid (Below W4.heap.size W4 w6) := Lib.hid (below_grown HB5.out hg6 hs5 (fun j hj => own_row ho5 j hj))
      have HR5 := Lib.hid hr5
      have HR6 := Lib.hid hr6
      have HB7 := Lib.hid (below_then HB4.out HB6.out)
      obtain ⟨A6, c6, rfl, _, hrd⟩ := rd_ownN (by omega) ho6
      have HRD : Hid (Rd w6 A6 (0 + (plL D t).length + (inL D t).length) c6 (iv .i64 (blL D t ++ inL D t))) := Lib.hid (by simpa [iv] using hrd)
      have HLT : Hid ((blL D t ++ inL D t).length = 0 + (plL D t).length + (inL D t).length) := Lib.hid (by rw [List.length_append, HBLL.out]; omega)
      have HX6 := Lib.hid (blk_below HX4.out HB6.out (Array.getElem?_eq_some_iff.1 HX4.out).1)
      clear ho5 hg5 ha5 ho6 hg6 ha6 hr5 hr6 hrd HB5 HB4 HX4 H34 H4 HBLL HB6 hs5 hbl96
      generalize hT : blL D t ++ inL D t = T at *
      clear hT
      generalize hnt : 0 + (plL D t).length + (inL D t).length = nt at *
      have hnt2 : nt ≤ 200 := by omega
      clear hnt
      go_upto_region 13 with (first
        | (at_builtin; refine wpList_append_run rfl _ _ _ _ rfl _ _ _ rfl rfl HR5.out ?_)
        | (at_builtin; refine wpList_append_run rfl _ _ _ _ rfl _ _ _ rfl rfl HR6.out ?_))
      clear HR5 HR6
      have HH : Hid (∀ (x : Int) W, x ≠ 0 → Rd W A6 nt c6 (iv .i64 T) → Calls Try.prog 73 #[.slice A6 nt c6, .int .i64 x] W fun e w' => e = .returned (.bool (tkB D t x)) ∧ w' = W) := Lib.hid (fun x W hx h => by
        have := rhas_any A6 nt c6 T x W h HLT.out
        rwa [HTK.out x hx] at this)
      have hf6 := HRD.out.le
      have hf7 := HRD.out.cap
      clear HTK HLT
      have HH0 := Lib.hid (HH.out b w6 (by omega) HRD.out)
      have HHF := Lib.hid (rhas_any Af nf cf F b w6 (HF.out.below HB7.out) HLF.out)
      generalize htb : tkB D t b = tb at *
      clear htb
      cases tb with
      | true =>
        have HE2 : Hid (errL D t k b F = 6) := Lib.hid (by rw [HE.out]; simp)
        clear HE
        go_wp2_with (go_at_call 73; (with_reducible refine HH0.out.mono ?_); rintro e w7 ⟨rfl, hw⟩; have hw' := hw.symm; subst hw'; clear hw)
        go_ret
        exact ⟨by rw [HE2.out]; rfl, HB7.out⟩
      | false =>
        by_cases hbF : b ∈ F
        · have HE2 : Hid (errL D t k b F = 6) := Lib.hid (by rw [HE.out]; simp [hbF])
          rw [decide_eq_true hbF] at HHF
          clear HE
          go_wp2_with (first
            | (go_at_call 73; (with_reducible refine HH0.out.mono ?_); rintro e w7 ⟨rfl, hw⟩; have hw' := hw.symm; subst hw'; clear hw)
            | (go_at_call 73; (with_reducible refine HHF.out.mono ?_); rintro e w7 ⟨rfl, hw⟩; have hw' := hw.symm; subst hw'; clear hw))
          go_ret
          exact ⟨by rw [HE2.out]; rfl, HB7.out⟩
        · have HE2 : Hid (errL D t k b F = if ((List.range F.length).any (badF D t F)) = true then 6 else if atK D t k ≠ 0 then 12 else 0) := Lib.hid (by rw [HE.out]; simp [hbF])
          rw [decide_eq_false hbF] at HHF
          clear HE hbF
          go_upto_region 15 with (first
            | (go_at_call 73; (with_reducible refine HH0.out.mono ?_); rintro e w7 ⟨rfl, hw⟩; have hw' := hw.symm; subst hw'; clear hw)
            | (go_at_call 73; (with_reducible refine HHF.out.mono ?_); rintro e w7 ⟨rfl, hw⟩; have hw' := hw.symm; subst hw'; clear hw))
          clear HH0 HHF
          obtain ⟨W6, hW6⟩ : ∃ W6, W6 = w6 := ⟨_, rfl⟩
          subst hW6
          go_wp2
          go_loopw [17] (fun v wr => ∃ i : Nat, i ≤ nf ∧ v = .int .i64 i ∧ Hid (∀ j, j < i → badF D t F j = false) ∧ Hid (Below W6.heap.size W6 wr)) (fun v _ => nf - (Go.RowKit.intOf v).toNat)
          case atStart => exact ⟨0, by omega, rfl, fun j hj => by omega, Below.refl _ _⟩
          case round =>
            obtain ⟨i2, hi2, rfl, HJ, HBr⟩ := hrel
            have HBw := Lib.hid (below_then HB7.out HBr.out)
            by_cases hlt2 : i2 < nf
            · have hil2 : i2 < F.length := by rw [HLF.out]; exact hlt2
              obtain ⟨rb, ro, hAf, hrb, hrc⟩ := (HF.out.below HBw.out).form (by simp; omega)
              have hcx := hrc i2 (by simpa using hil2)
              rw [iv_at] at hcx
              have hF0 := HO.out.f _ (List.getElem_mem hil2)
              have hxe : F.getD i2 0 = F[i2] := by rw [List.getD_eq_getElem?_getD, List.getElem?_eq_getElem hil2]; rfl
              have hrt := ((HF.out.below HBw.out).below (Sel.below_drewN wr 1)).upto i2 (by omega)
              have e : (iv .i64 F).take i2 = iv .i64 (F.take i2) := by simp [iv, List.map_take]
              rw [e] at hrt
              have HCX0 := Lib.hid (rhas_any Af i2 cf (F.take i2) F[i2] wr.drew hrt (by simp; omega))
              have HBF : Hid (badF D t F i2 = (tkB D t F[i2] || decide (F[i2] ∈ F.take i2))) := Lib.hid (by unfold badF; rw [hxe])
              have HHX := Lib.hid (HH.out F[i2] wr.drew (by omega) ((HRD.out.below HBr.out).below (Sel.below_drewN wr 1)))
              have HBAD : Hid (badF D t F i2 = true → errL D t k b F = 6) := Lib.hid (fun h => by rw [HE2.out, if_pos (List.any_eq_true.2 ⟨i2, List.mem_range.2 hil2, h⟩)])
              clear hrc hrt e hxe hF0
              generalize F[i2] = x at *
              generalize htx : tkB D t x = tx at *
              clear htx
              subst hAf
              have hsl : ∀ W, (Instr.slice 23 (.slice (some ⟨rb, ro, none⟩) nf cf) none (some (.int .i64 (i2 : Int))) none).run Try.prog W = .ok (.slice (some ⟨rb, ro, none⟩) i2 cf) W := fun W => by
                rw [run_slice_h W 23 (some ⟨rb, ro, none⟩) nf cf (by kernel_rfl) .i64 (i2 : Int) (by omega) (by omega)]
                rw [show (sizeOf (Try.prog.elem 23)).run Try.prog W = .ok 1 W by kernel_rfl]
                have hc0 : cf ≠ 0 := by omega
                simp [Result.andThen, sliced, hc0, Addr.add]
              have hltI : (i2 : Int) < (nf : Int) := by omega
              go_upto_region 18 with (fail)
              have HS : At (fun w' : World => w'.cell? ⟨rb, ro + i2, none⟩ = some (.int .i64 x)) wr.drew := hcx
              have HBd : Hid (Below W6.heap.size W6 wr.drew) := Lib.hid HBr.out.drew
              have HBwd : Hid (Below w.heap.size w wr.drew) := Lib.hid HBw.out.drew
              refine wp_region_lexD HS [0, 1, 2, 3, 4, 6, 7, 8, 9, 10, 11, 12, 13, 15] (by kernel_rfl) (by kernel_rfl) (fun _ _ d _ _ h => by cases d <;> exact h) ?_
              generalize wr.drew = W7 at *
              cases tx with
              | true =>
                refine lexD_take (by kernel_rfl) (by kernel_rfl) HS (fun w9 h9 => by have s0 : w9.cell? _ = _ := h9; go_simp; first | done | rfl) (fun K hK => ?_); go_simp; refine hK _ ?_; clear hK K
                refine lexD_take (by kernel_rfl) (by kernel_rfl) HS (fun w9 h9 => by have s0 : w9.cell? _ = _ := h9; go_simp; first | done | rfl) (fun K hK => ?_); go_simp; refine hK _ ?_; clear hK K
                refine lexD_take (by kernel_rfl) (by kernel_rfl) HS (fun w9 h9 => by have s0 : w9.cell? _ = _ := h9; go_simp; first | done | rfl) (fun K hK => ?_); go_simp; refine hK _ ?_; clear hK K
                refine lexD_take (by kernel_rfl) (by kernel_rfl) HS (fun w9 h9 => by have s0 : w9.cell? _ = _ := h9; go_simp; first | done | rfl) (fun K hK => ?_); go_simp; refine hK _ ?_; clear hK K
                refine lexD_take (by kernel_rfl) (by kernel_rfl) HS (fun w9 h9 => by have s0 : w9.cell? _ = _ := h9; go_simp; first | done | rfl) (fun K hK => ?_); go_simp; refine hK _ ?_; clear hK K
                refine lexD_do (by kernel_rfl) (by kernel_rfl) (fun K hK => ?_); go_simp; (with_reducible refine HHX.out.mono ?_); rintro e w8 ⟨rfl, hw⟩; have hw' := hw.symm; subst hw'; clear hw; refine hK _ _ (fun _ => HS) ?_; clear hK K
                refine lexD_take (by kernel_rfl) (by kernel_rfl) HS (fun w9 h9 => by have s0 : w9.cell? _ = _ := h9; go_simp; first | done | rfl) (fun K hK => ?_); go_simp; refine hK _ ?_; clear hK K
                refine lexD_skip (by kernel_rfl) (by kernel_rfl) HS (fun K hK => ?_); go_simp; refine hK _ ?_; clear hK K
                refine lexD_skip (by kernel_rfl) (by kernel_rfl) HS (fun K hK => ?_); go_simp; refine hK _ ?_; clear hK K
                refine lexD_skip (by kernel_rfl) (by kernel_rfl) HS (fun K hK => ?_); go_simp; refine hK _ ?_; clear hK K
                refine lexD_skip (by kernel_rfl) (by kernel_rfl) HS (fun K hK => ?_); go_simp; refine hK _ ?_; clear hK K
                refine lexD_skip (by kernel_rfl) (by kernel_rfl) HS (fun K hK => ?_); go_simp; refine hK _ ?_; clear hK K
                refine lexD_skip (by kernel_rfl) (by kernel_rfl) HS (fun K hK => ?_); go_simp; refine hK _ ?_; clear hK K
                refine lexD_skip (by kernel_rfl) (by kernel_rfl) HS (fun K hK => ?_); go_simp; refine hK _ ?_; clear hK K
                refine lexD_pass (by kernel_rfl) (by kernel_rfl) HS (fun K hK => ?_); go_simp; refine hK _ ?_; clear hK K
                refine lexD_take (by kernel_rfl) (by kernel_rfl) HS (fun w9 h9 => by have s0 : w9.cell? _ = _ := h9; go_simp; first | done | rfl) (fun K hK => ?_); go_simp; refine hK _ ?_; clear hK K
                refine lexD_nil ?_
                have HE3 := Lib.hid (HBAD.out (by rw [HBF.out]; rfl))
                go_wp2
                go_ret
                exact ⟨by rw [HE3.out]; rfl, HBwd.out⟩
              | false =>
                by_cases hxF : x ∈ F.take i2
                · have HE3 := Lib.hid (HBAD.out (by rw [HBF.out, decide_eq_true hxF]; rfl))
                  rw [decide_eq_true hxF] at HCX0
                  refine lexD_take (by kernel_rfl) (by kernel_rfl) HS (fun w9 h9 => by have s0 : w9.cell? _ = _ := h9; go_simp; first | done | rfl) (fun K hK => ?_); go_simp; refine hK _ ?_; clear hK K
                  refine lexD_take (by kernel_rfl) (by kernel_rfl) HS (fun w9 h9 => by have s0 : w9.cell? _ = _ := h9; go_simp; first | done | rfl) (fun K hK => ?_); go_simp; refine hK _ ?_; clear hK K
                  refine lexD_take (by kernel_rfl) (by kernel_rfl) HS (fun w9 h9 => by have s0 : w9.cell? _ = _ := h9; go_simp; first | done | rfl) (fun K hK => ?_); go_simp; refine hK _ ?_; clear hK K
                  refine lexD_take (by kernel_rfl) (by kernel_rfl) HS (fun w9 h9 => by have s0 : w9.cell? _ = _ := h9; go_simp; first | done | rfl) (fun K hK => ?_); go_simp; refine hK _ ?_; clear hK K
                  refine lexD_take (by kernel_rfl) (by kernel_rfl) HS (fun w9 h9 => by have s0 : w9.cell? _ = _ := h9; go_simp; first | done | rfl) (fun K hK => ?_); go_simp; refine hK _ ?_; clear hK K
                  refine lexD_do (by kernel_rfl) (by kernel_rfl) (fun K hK => ?_); go_simp; (with_reducible refine HHX.out.mono ?_); rintro e w8 ⟨rfl, hw⟩; have hw' := hw.symm; subst hw'; clear hw; refine hK _ _ (fun _ => HS) ?_; clear hK K
                  refine lexD_take (by kernel_rfl) (by kernel_rfl) HS (fun w9 h9 => by have s0 : w9.cell? _ = _ := h9; go_simp; first | done | rfl) (fun K hK => ?_); go_simp; refine hK _ ?_; clear hK K
                  refine lexD_take (by kernel_rfl) (by kernel_rfl) HS (fun w9 h9 => by have s0 : w9.cell? _ = _ := h9; go_simp; first | done | rfl) (fun K hK => ?_); go_simp; refine hK _ ?_; clear hK K
                  refine lexD_take (by kernel_rfl) (by kernel_rfl) HS (fun w9 h9 => by have s0 : w9.cell? _ = _ := h9; go_simp; first | done | rfl) (fun K hK => ?_); go_simp; refine hK _ ?_; clear hK K
                  refine lexD_take (by kernel_rfl) (by kernel_rfl) HS (fun w9 h9 => by have s0 : w9.cell? _ = _ := h9; go_simp; first | done | rfl) (fun K hK => ?_); go_simp; refine hK _ ?_; clear hK K
                  refine lexD_take (by kernel_rfl) (by kernel_rfl) HS (fun w9 h9 => by have s0 : w9.cell? _ = _ := h9; go_simp; first | done | rfl) (fun K hK => ?_); go_simp; refine hK _ ?_; clear hK K
                  refine lexD_take (by kernel_rfl) (by kernel_rfl) HS (fun w9 h9 => by have s0 : w9.cell? _ = _ := h9; go_simp; first | done | rfl) (fun K hK => ?_); go_simp; refine hK _ ?_; clear hK K
                  refine lexD_take (by kernel_rfl) (by kernel_rfl) HS (fun w9 h9 => by have s0 : w9.cell? _ = _ := h9; go_simp; first | done | rfl) (fun K hK => ?_); go_simp; refine hK _ ?_; clear hK K
                  refine lexD_take (by kernel_rfl) (by kernel_rfl) HS (fun w9 h9 => by have s0 : w9.cell? _ = _ := h9; go_simp; first | done | rfl) (fun K hK => ?_); go_simp; refine hK _ ?_; clear hK K
                  refine lexD_do (by kernel_rfl) (by kernel_rfl) (fun K hK => ?_); go_simp; (with_reducible refine HCX0.out.mono ?_); rintro e w8 ⟨rfl, hw⟩; have hw' := hw.symm; subst hw'; clear hw; refine hK _ _ (fun _ => HS) ?_; clear hK K
                  refine lexD_take (by kernel_rfl) (by kernel_rfl) HS (fun w9 h9 => by have s0 : w9.cell? _ = _ := h9; go_simp; first | done | rfl) (fun K hK => ?_); go_simp; refine hK _ ?_; clear hK K
                  refine lexD_nil ?_
                  go_wp2
                  go_ret
                  exact ⟨by rw [HE3.out]; rfl, HBwd.out⟩
                · have HB1 : Hid (badF D t F i2 = false) := Lib.hid (by rw [HBF.out, decide_eq_false hxF]; rfl)
                  rw [decide_eq_false hxF] at HCX0
                  refine lexD_take (by kernel_rfl) (by kernel_rfl) HS (fun w9 h9 => by have s0 : w9.cell? _ = _ := h9; go_simp; first | done | rfl) (fun K hK => ?_); go_simp; refine hK _ ?_; clear hK K
                  refine lexD_take (by kernel_rfl) (by kernel_rfl) HS (fun w9 h9 => by have s0 : w9.cell? _ = _ := h9; go_simp; first | done | rfl) (fun K hK => ?_); go_simp; refine hK _ ?_; clear hK K
                  refine lexD_take (by kernel_rfl) (by kernel_rfl) HS (fun w9 h9 => by have s0 : w9.cell? _ = _ := h9; go_simp; first | done | rfl) (fun K hK => ?_); go_simp; refine hK _ ?_; clear hK K
                  refine lexD_take (by kernel_rfl) (by kernel_rfl) HS (fun w9 h9 => by have s0 : w9.cell? _ = _ := h9; go_simp; first | done | rfl) (fun K hK => ?_); go_simp; refine hK _ ?_; clear hK K
                  refine lexD_take (by kernel_rfl) (by kernel_rfl) HS (fun w9 h9 => by have s0 : w9.cell? _ = _ := h9; go_simp; first | done | rfl) (fun K hK => ?_); go_simp; refine hK _ ?_; clear hK K
                  refine lexD_do (by kernel_rfl) (by kernel_rfl) (fun K hK => ?_); go_simp; (with_reducible refine HHX.out.mono ?_); rintro e w8 ⟨rfl, hw⟩; have hw' := hw.symm; subst hw'; clear hw; refine hK _ _ (fun _ => HS) ?_; clear hK K
                  refine lexD_take (by kernel_rfl) (by kernel_rfl) HS (fun w9 h9 => by have s0 : w9.cell? _ = _ := h9; go_simp; first | done | rfl) (fun K hK => ?_); go_simp; refine hK _ ?_; clear hK K
                  refine lexD_take (by kernel_rfl) (by kernel_rfl) HS (fun w9 h9 => by have s0 : w9.cell? _ = _ := h9; go_simp; first | done | rfl) (fun K hK => ?_); go_simp; refine hK _ ?_; clear hK K
                  refine lexD_take (by kernel_rfl) (by kernel_rfl) HS (fun w9 h9 => by have s0 : w9.cell? _ = _ := h9; go_simp; first | done | rfl) (fun K hK => ?_); go_simp; refine hK _ ?_; clear hK K
                  refine lexD_take (by kernel_rfl) (by kernel_rfl) HS (fun w9 h9 => by have s0 : w9.cell? _ = _ := h9; go_simp; first | done | rfl) (fun K hK => ?_); go_simp; refine hK _ ?_; clear hK K
                  refine lexD_take (by kernel_rfl) (by kernel_rfl) HS (fun w9 h9 => by have s0 : w9.cell? _ = _ := h9; go_simp; first | done | rfl) (fun K hK => ?_); go_simp; refine hK _ ?_; clear hK K
                  refine lexD_take (by kernel_rfl) (by kernel_rfl) HS (fun w9 h9 => by have s0 : w9.cell? _ = _ := h9; go_simp; first | done | rfl) (fun K hK => ?_); go_simp; refine hK _ ?_; clear hK K
                  refine lexD_take (by kernel_rfl) (by kernel_rfl) HS (fun w9 h9 => by have s0 : w9.cell? _ = _ := h9; go_simp; first | done | rfl) (fun K hK => ?_); go_simp; refine hK _ ?_; clear hK K
                  refine lexD_take (by kernel_rfl) (by kernel_rfl) HS (fun w9 h9 => by have s0 : w9.cell? _ = _ := h9; go_simp; first | done | rfl) (fun K hK => ?_); go_simp; refine hK _ ?_; clear hK K
                  refine lexD_do (by kernel_rfl) (by kernel_rfl) (fun K hK => ?_); go_simp; (with_reducible refine HCX0.out.mono ?_); rintro e w8 ⟨rfl, hw⟩; have hw' := hw.symm; subst hw'; clear hw; refine hK _ _ (fun _ => HS) ?_; clear hK K
                  refine lexD_take (by kernel_rfl) (by kernel_rfl) HS (fun w9 h9 => by have s0 : w9.cell? _ = _ := h9; go_simp; first | done | rfl) (fun K hK => ?_); go_simp; refine hK _ ?_; clear hK K
                  refine lexD_nil ?_
                  go_wp2
                  exact ⟨⟨i2 + 1, by omega, by go_num, fun j hj => (if h : j = i2 then h ▸ HB1.out else HJ.out j (by omega)), HBd⟩, by simp [Go.RowKit.intOf] <;> omega⟩
            · have hat : errL D t k b F = if atK D t k ≠ 0 then 12 else 0 := by
                rw [HE2.out, if_neg]
                intro h
                obtain ⟨j, hj, hb⟩ := List.any_eq_true.1 h
                rw [HJ.out j (by have := List.mem_range.1 hj; have := HLF.out; omega)] at hb
                cases hb
              have HERR := Lib.hid hat
              have HXr := Lib.hid (blk_below HX6.out HBr.out (Array.getElem?_eq_some_iff.1 HX6.out).1)
              obtain ⟨d0, d1, d2, d3, d4, d5, d6, d7⟩ := big8 HXr.out
              clear hat HE2 HJ
              generalize atK D t k = ak at *
              by_cases hak : ak = 0
              · have HE3 := Lib.hid (HERR.out.trans (if_neg (fun h => h hak)))
                subst hak
                go_wp2_with (go_at_call 74; (with_reducible refine (HAT.out _ (HD.out.below HBw.out)).mono ?_); rintro e w8 ⟨rfl, hB⟩; have HB8 := Lib.hid (below_then HBw.out hB); clear hB)
                go_ret
                exact ⟨by rw [HE3.out]; rfl, HB8.out⟩
              · have HE3 := Lib.hid (HERR.out.trans (if_pos hak))
                have hbk : (ak != 0) = true := by simpa using hak
                go_wp2_with (go_at_call 74; (with_reducible refine (HAT.out _ (HD.out.below HBw.out)).mono ?_); rintro e w8 ⟨rfl, hB⟩; have HB8 := Lib.hid (below_then HBw.out hB); clear hB)
                go_ret
                exact ⟨by rw [HE3.out]; rfl, HB8.out⟩
end Go.Proofs.Ytcgfoaihfncppaa
