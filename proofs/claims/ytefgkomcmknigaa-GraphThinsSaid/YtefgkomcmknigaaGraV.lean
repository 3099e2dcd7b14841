/- Walks of graph's reference: Thin. -/
import Derived.Test.YtefgkomcmknigaaGraW
set_option linter.unusedSimpArgs false
set_option linter.unusedVariables false
namespace Go.Proofs.Ytefgkomcmknigaa
open Go.RowKit Go.Sel Go.Sel.Gra Go.Shelf

attribute [local go_sem] Oper.semAt_some

/-- Values whose rows are known. -/
theorem dp_rd {w : World} {A : Option Addr} {n c : Nat} {os : List Value} {E : List (List Int)} (hl : E.length = n) (ho : os.length = n) (hb : Rd w A n c os)
    (h : ∀ j, j < n → ∃ A m c, os[j]? = some (.slice A m c) ∧ (nth E j).length = m ∧ Rd w A m c (iv .i64 (nth E j))) : Dp w A n c E := by
  have h' : ∀ j : Fin n, ∃ s : Option Addr × Nat × Nat, os[j.1]? = some (sv s) ∧ (nth E j.1).length = s.2.1 ∧ Rd w s.1 s.2.1 s.2.2 (iv .i64 (nth E j.1)) := fun j => by
    obtain ⟨A, m, c, h1, h2, h3⟩ := h j.1 j.2
    exact ⟨(A, m, c), h1, h2, h3⟩
  have hos : os = (List.ofFn fun j : Fin n => Classical.choose (h' j)).map sv := by
    apply List.ext_getElem?
    intro i
    by_cases hi : i < n
    · rw [(Classical.choose_spec (h' ⟨i, hi⟩)).1]
      simp [hi]
    · rw [List.getElem?_eq_none (by omega), List.getElem?_eq_none (by simp; omega)]
  refine Dp.mk_ (List.ofFn fun j : Fin n => Classical.choose (h' j)) hl (by simp) ?_ ?_
  · rw [← hos]; exact hb
  · intro j hj
    have hj' : j < n := by simpa using hj
    have := (Classical.choose_spec (h' ⟨j, hj'⟩)).2
    simpa using this
def thinP (D : List (List Int)) (i d : Nat) : List Int := ((List.range d).filter fun j : Nat => decide ((j : Int) ∈ nth D i) && !said D i (j : Int)).map fun j : Nat => (j : Int)
theorem thinP_end (D : List (List Int)) (i : Nat) : thinP D i i = thinRow D i := by
  rw [thinP, thinRow, thoseL, List.filter_map, List.filter_filter]
  simp only [marksL_length]
  congr 1
  apply List.filter_congr
  intro j hj
  have hj' : j < i := by simpa using hj
  have e : bit (marksL (nth D i) i) j = decide ((j : Int) ∈ nth D i) := by
    rw [Bool.eq_iff_iff, bit_marksL, decide_eq_true_eq]
    exact ⟨fun h => h.2, fun h => ⟨hj', h⟩⟩
  simp [e, Bool.and_comm]
theorem thinP_in {D : List (List Int)} {i d : Nat} (h : (d : Int) ∈ nth D i) (h' : said D i (d : Int) = false) : thinP D i (d + 1) = thinP D i d ++ [(d : Int)] := by simp [thinP, List.range_succ, h, h']
theorem thinP_out {D : List (List Int)} {i d : Nat} (h : (d : Int) ∉ nth D i ∨ said D i (d : Int) = true) : thinP D i (d + 1) = thinP D i d := by
  rcases h with h | h <;> simp [thinP, List.range_succ, h]
theorem thinP_length (D : List (List Int)) (i d : Nat) : (thinP D i d).length ≤ d := by
  rw [thinP, List.length_map]
  exact Nat.le_trans (List.length_filter_le _ _) (by simp)
def saidT (D : List (List Int)) (i d t : Nat) : Bool := ((nth D i).take t).any fun k => bit (aheadL D k.toNat) d
theorem saidT_succ {D : List (List Int)} {i d t : Nat} (h : t < (nth D i).length) : saidT D i d (t + 1) = (saidT D i d t || bit (aheadL D (nth D i)[t].toNat) d) := by
  rw [saidT, List.take_succ_eq_append_getElem h, List.any_append]
  simp [saidT]
theorem saidT_end {D : List (List Int)} {i d t : Nat} (h : (nth D i).length ≤ t) : saidT D i d t = said D i (d : Int) := by
  rw [saidT, List.take_of_length_le h, said]; simp

set_option maxRecDepth 100000 in
set_option maxHeartbeats 8000000 in
theorem rThin_any (A : Option Addr) (n c : Nat) (D : List (List Int)) (w : World) (hD : Dp w A n c D) :
    Calls Try.prog 16 #[.slice A n c] w fun e w' => (∃ A' c', e = .returned (.slice A' (thinD D).length c') ∧ Dp w' A' (thinD D).length c' (thinD D)) ∧ Below w.heap.size w w' := by
  have hl := hD.len
  have l1 := hD.le
  have l2 := hD.cap
  have HD := Lib.hid hD
  clear hD
  cases hr : rightD D with
  | false =>
    have HR := Lib.hid hr
    have HE : Hid (thinD D = []) := by show _ = _; simp [thinD, hr]
    rw [HE.out]
    clear hl hr
    go_enter Try.func16, Try.ntmps16
    go_wp2_with (go_at_call 30; (with_reducible refine (rRight_any A n c D _ HD.out).mono ?_); rw [HR.out]; rintro e w1 ⟨rfl, hw⟩; have hw := hw.symm; subst hw)
    go_ret
    exact ⟨⟨none, 0, rfl, Dp.nil (by omega)⟩, Below.refl _ _⟩
  | true =>
    have h256 := (right_iff.1 hr).1
    have hn : n ≤ 256 := by omega
    have HR := Lib.hid hr
    have HL := Lib.hid hl
    have hTL := (thinD_length hr).trans hl
    rw [hTL]
    have HTL := Lib.hid hTL
    clear hl hr h256 hTL
    go_enter Try.func16, Try.ntmps16
    go_upto_block 0 with (first
      | (go_at_call 30; (with_reducible refine (rRight_any A n c D _ HD.out).mono ?_); rw [HR.out]; rintro e w1 ⟨rfl, hw⟩; have hw := hw.symm; subst hw)
      | (go_at_call 37; (with_reducible refine (rUps_any A n c D _ HD.out HR.out).mono ?_); rintro e w1 ⟨⟨Au, cu, us, rfl, hul, hur, hus⟩, hB⟩; have HUL := Lib.hid hul; have HUR := Lib.hid hur; have HUS := Lib.hid hus; have HB1 := Lib.hid hB; clear hul hur hus hB))
    have hu1 := HUR.out.le
    have hu2 := HUR.out.cap
    have HD1 : Hid (Dp w1 A n c D) := HD.out.below HB1.out
    go_wp2_with (fail)
    go_loopw [4, 5, 6, 7, 8, 9] (fun v i _ _ _ _ wr => ∃ k : Nat, k ≤ n ∧ i = .int .i64 k ∧ Hid (∃ vs, wr.ownsRow w1.heap.size 27 1 v k vs ∧ ∀ j, j < k → ∃ u, vs[j]? = some u ∧ wr.ownsRow w1.heap.size 3 1 u (thinRow D j).length (iv .i64 (thinRow D j))) ∧ Hid (Below w1.heap.size w1 wr)) (fun _ i _ _ _ _ _ => n - (intOf i).toNat)
    case atStart => exact ⟨0, by omega, by go_num, ⟨[], World.ownsRow_nil _ _ _ _, fun j h => by omega⟩, Below.refl _ _⟩
    case round =>
      rename World => w2
      obtain ⟨k, hk, rfl, HO, HW⟩ := hrel
      by_cases hlt : k < n
      · obtain ⟨vs, ho, hrows⟩ := HO.out
        have HOW := Lib.hid ho
        have HRW := Lib.hid hrows
        clear HO ho hrows
        obtain ⟨b, off, A', n', c', rfl, hc, hn', hrd⟩ := (HD1.out.below HW.out).at_ hlt
        have hl1 := hrd.le
        have hl2 := hrd.cap
        have HNL := Lib.hid hn'
        have HRD := Lib.hid hrd
        have HCE := Lib.hid hc
        clear hn' hrd hc
        go_wp2_with (fail)
        go_loopw [6, 7, 8, 9] (fun l d _ _ wr => ∃ q : Nat, q ≤ k ∧ d = .int .i64 q ∧ Hid (wr.ownsRow w2.heap.size 3 1 l (thinP D k q).length (iv .i64 (thinP D k q))) ∧ Hid (Below w2.heap.size w2 wr)) (fun _ d _ _ _ => k - (intOf d).toNat)
        case atStart => exact ⟨0, by omega, by go_num, World.ownsRow_nil _ _ _ _, Below.refl _ _⟩
        case round =>
          rename World => w3
          obtain ⟨q, hq, rfl, HQ, HW3⟩ := hrel
          have hcell := keep_cell HCE.out HW3.out
          have HRD3 := Lib.hid (HRD.out.below HW3.out)
          have hplen := thinP_length D k q
          by_cases hqk : q < k
          · cases hin : decide ((q : Int) ∈ nth D k) with
            | false =>
              have HIN := Lib.hid hin
              have HP := Lib.hid (thinP_out (D := D) (i := k) (d := q) (.inl (by simpa using hin)))
              clear hin
              go_wp2_with (go_at_call 18; (with_reducible refine (Has_any _ _ _ (nth D k) _ _ HRD3.out HNL.out).mono ?_); rw [HIN.out]; rintro e w10 ⟨rfl, hw⟩; have hw := hw.symm; subst hw)
              go_roundw
              case rel => exact ⟨q + 1, by omega, by go_num, by rw [HP.out]; exact HQ, HW3⟩
              case measure => simp [intOf]; omega
            | true =>
              have HIN := Lib.hid hin
              have HINM : Hid ((q : Int) ∈ nth D k) := by show _ ∈ _; simpa using hin
              clear hin
              go_upto_block 4 with (go_at_call 18; (with_reducible refine (Has_any _ _ _ (nth D k) _ _ HRD3.out HNL.out).mono ?_); rw [HIN.out]; rintro e w10 ⟨rfl, hw⟩; have hw := hw.symm; subst hw)
              have HB13 : Hid (Below w1.heap.size w1 w3) := HW.out.trans (HW3.out.mono HW.out.size)
              go_wp2_with (fail)
              go_loopw [8, 9] (fun s i wr => ∃ t : Nat, t ≤ n' ∧ i = .int .i64 t ∧ s = .bool (saidT D k q t) ∧ wr = w3) (fun _ i _ => n' - (intOf i).toNat)
              case atStart => exact ⟨0, by omega, by go_num, rfl, rfl⟩
              case round =>
                obtain ⟨t, ht, rfl, rfl, rfl⟩ := hrel
                by_cases htn : t < n'
                · have hxl : t < (nth D k).length := by have := HNL.out; omega
                  have HST := Lib.hid (saidT_succ (D := D) (d := q) hxl)
                  cases hs : saidT D k q t with
                  | true =>
                    have HE1 : Hid (saidT D k q (t + 1) = true) := by show _ = _; rw [HST.out, hs]; rfl
                    clear hs
                    go_wp2_with (fail)
                    go_roundw
                    case rel => exact ⟨t + 1, by omega, by go_num, by rw [HE1.out], trivial⟩
                    case measure => simp [intOf]; omega
                  | false =>
                    obtain ⟨b2, off2, rfl, _, hc2⟩ := HRD3.out.form (by simp; omega)
                    have hcj := hc2 t (by simpa using hxl)
                    rw [iv_at] at hcj
                    clear hc2
                    obtain ⟨d0, d1, _⟩ := right_mem HR.out (List.getElem_mem hxl)
                    generalize (nth D k)[t] = x at *
                    obtain ⟨xn, rfl⟩ := Int.eq_ofNat_of_zero_le d0
                    have hxn : xn < n := by omega
                    obtain ⟨bu, offu, rfl, _, hcu⟩ := (HUR.out.below HB13.out).form (by have := HUL.out; omega)
                    obtain ⟨u, hu1, hu2⟩ := HUS.out xn hxn
                    have hcx := hcu xn (by have := HUL.out; omega)
                    obtain ⟨hxu, hxe⟩ := List.getElem?_eq_some_iff.1 hu1
                    rw [hxe] at hcx
                    clear hcu hu1 hxe
                    have hcb := (hu2.keep HB13.out).bit q (by simp; have := HL.out; omega)
                    have HE1 : Hid (saidT D k q (t + 1) = bit (aheadL D xn) q) := by show _ = _; rw [HST.out, hs]; simp
                    have hqn : q < n := by omega
                    clear hs hu2 hxu
                    go_wp2_with (fail)
                    go_roundw
                    case rel => exact ⟨t + 1, by omega, by go_num, by rw [HE1.out], trivial⟩
                    case measure => simp [intOf]; omega
                · obtain rfl : t = n' := by omega
                  have HSE := Lib.hid (saidT_end (D := D) (i := k) (d := q) (t := t) (by have := HNL.out; omega))
                  rw [HSE.out]
                  cases hs : said D k (q : Int) with
                  | true =>
                    have HP := Lib.hid (thinP_out (D := D) (i := k) (d := q) (.inr hs))
                    clear hs
                    go_wp2_with (fail)
                    go_roundw
                    case rel => exact ⟨q + 1, by omega, by go_num, by rw [HP.out]; exact HQ, HW3⟩
                    case measure => simp [intOf]; omega
                  | false =>
                    have HP := Lib.hid (thinP_in HINM.out hs)
                    clear hs
                    go_wp2_with (at_builtin; refine wpList_push wr rfl (.tmp 60) (.tmp 62) 27 3 rfl w2.heap.size (.int .i64 0) 8 Try.underlying27 infoInt rfl (by omega) _ (thinP D k q).length _ (.int .i64 (q : Int)) rfl rfl rfl HQ.out HW3.out.size (by omega) rfl ?_; intro g cap w6 ho hg hat hlt1; have HO6 := Lib.hid ho; have HW6 := Lib.hid (below_grown HW3.out hg HW3.out.size (own_row HQ.out)); clear ho hg hat)
                    go_roundw
                    case rel =>
                      refine ⟨q + 1, by omega, by go_num, ?_, HW6⟩
                      rw [HP.out, List.length_append, List.length_singleton, iv, List.map_append]
                      exact HO6
                    case measure => simp [intOf]; omega
          · obtain rfl : q = k := by omega
            have HTE : Hid (thinP D q q = thinRow D q) := thinP_end D q
            rw [HTE.out] at HQ hplen
            have HO3 : Hid (w3.ownsRow w1.heap.size 27 1 u4 q vs) := own_same HOW.out (fun r hr => HW3.out.block r (HOW.out.lt r hr).2)
            have HR3 : Hid (∀ j, j < q → ∃ u, vs[j]? = some u ∧ w3.ownsRow w1.heap.size 3 1 u (thinRow D j).length (iv .i64 (thinRow D j))) := fun j hj => by
              obtain ⟨u, h1, h2⟩ := HRW.out j hj
              exact ⟨u, h1, own_same h2 (fun r hr => HW3.out.block r (h2.lt r hr).2)⟩
            have HQ3 : Hid (w3.ownsRow w1.heap.size 3 1 u6 (thinRow D q).length (iv .i64 (thinRow D q))) := own_base HQ.out HW.out.size
            have HB13 : Hid (Below w1.heap.size w1 w3) := HW.out.trans (HW3.out.mono HW.out.size)
            obtain ⟨A6, c6, hv6, _, _⟩ := rd_own HQ3.out
            subst hv6
            have hvl : vs.length = q := by simpa using HO3.out.1
            have HVL := Lib.hid hvl
            clear hvl
            go_wp2_with (at_builtin; refine wpList_push w3 rfl (.tmp 64) (.tmp 66) 22 27 rfl w1.heap.size (.slice none 0 0) 24 Try.underlying22 infoInts rfl (by omega) _ q _ (.slice A6 (thinRow D q).length c6) rfl rfl rfl HO3.out HB13.out.size (by omega) rfl ?_; intro g cap w6 ho hg hat hlt1; have HO6 := Lib.hid ho; have HG6 := Lib.hid hg; have HW6 := Lib.hid (below_grown HB13.out hg HB13.out.size (own_row HO3.out)); clear ho hg hat)
            have far : ∀ (v : Value) (m : Nat) (xs : List Value), w3.ownsRow w1.heap.size 3 1 v m xs → w6.ownsRow w1.heap.size 3 1 v m xs := fun v m xs h => own_same h (fun r hr => HG6.out.block r (h.lt r hr).2 (fun e => by
              obtain ⟨cur, hcur⟩ := own_typ HO3.out r e.symm
              obtain ⟨cur2, hcur2⟩ := own_typ h r hr
              rw [hcur] at hcur2; cases hcur2))
            go_roundw
            case rel =>
              refine ⟨q + 1, by omega, by go_num, ⟨_, HO6.out, fun j hj => ?_⟩, HW6⟩
              by_cases e : j = q
              · subst e
                exact ⟨_, by rw [List.getElem?_append_right (by have := HVL.out; omega)]; simp [HVL.out], far _ _ _ HQ3.out⟩
              · obtain ⟨u, h1, h2⟩ := HR3.out j (by omega)
                exact ⟨u, by rw [List.getElem?_append_left (by have := HVL.out; omega)]; exact h1, far _ _ _ h2⟩
            case measure => simp [intOf]; omega
      · obtain rfl : k = n := by omega
        obtain ⟨vs, ho, hrows⟩ := HO.out
        have HOW := Lib.hid ho
        have HRW := Lib.hid hrows
        clear HO ho hrows
        go_wp2_with (fail)
        go_ret
        obtain ⟨A6, c6, rfl, hl6, hr6⟩ := rd_own HOW.out
        refine ⟨⟨A6, c6, rfl, dp_rd HTL.out hl6 hr6 (fun j hj => ?_)⟩, below_then HB1.out HW.out⟩
        obtain ⟨u, h1, h2⟩ := HRW.out j hj
        obtain ⟨A7, c7, rfl, h6, h7⟩ := rd_own h2
        rw [nth_thinD HR.out (by have := HL.out; omega)]
        exact ⟨A7, _, c7, h1, rfl, h7⟩
end Go.Proofs.Ytefgkomcmknigaa
