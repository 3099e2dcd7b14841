/- Walks of graph's laws: GraphMore. -/
import Derived.Test.YtpicagcapgjiaaaGraC
import Derived.Test.YtpicagcapgjiaaaGraK
import Derived.Test.YtpicagcapgjiaaaSel8
import Derived.Test.YtpicagcapgjiaaaGra11
set_option linter.unusedSimpArgs false
set_option linter.unusedVariables false
namespace Go.Proofs.Ytpicagcapgjiaaa
open Go.RowKit Go.Sel Go.Sel.Gra Go.Shelf

attribute [local go_sem] Oper.semAt_some

theorem thoseL_count (m : List Bool) : (thoseL m).length = (List.range m.length).countP fun j => bit m j := by rw [thoseL, List.length_map, List.countP_eq_length_filter]
theorem closeL_length_mono {D : List (List Int)} {s t : List Int} (h : ∀ a ∈ closeL D s, a ∈ closeL D t) : (closeL D s).length ≤ (closeL D t).length := by
  cases hr : rightD D with
  | false => simp [closeL, hr]
  | true =>
    have e1 : closeL D s = thoseL (closeD D (marksL s D.length)) := by simp [closeL, hr]
    have e2 : closeL D t = thoseL (closeD D (marksL t D.length)) := by simp [closeL, hr]
    rw [e1, e2] at h ⊢
    rw [thoseL_count, thoseL_count]
    have l1 : (closeD D (marksL s D.length)).length = D.length := by simp
    have l2 : (closeD D (marksL t D.length)).length = D.length := by simp
    rw [l1, l2]
    exact List.countP_mono_left fun j _ hj => mem_thoseL'.1 (h _ (mem_thoseL'.2 hj))

theorem run_cat {P : Program} (W : World) (t ty e : TypeId) (base : Nat) (z : Value) (bytes : Nat)
    (ht : P.underlying t = some (.slice e)) (hinfo : (P.info? e).map (fun i => (i.zero, i.size, i.bytes)) = some (some z, 1, bytes)) (hz : z.cells.size = 1)
    (v : Value) (n : Nat) (xs : List Value) (HO : W.ownsRow base e 1 v n xs)
    (A : Option Addr) (m c : Nat) (ys : List Value) (hR : Rd W A m c ys) (hm : ys.length = m) (h1 : ∀ u ∈ ys, u.oneCell' = true) (hbase : base ≤ W.heap.size) (hl : n + m ≤ 100000) (hby : bytes ≤ 1000) :
    ∃ v' w1, (Builtin.append_ #[t, t] ty #[v, .slice A m c]).run P W = .ok v' w1 ∧ w1.ownsRow base e 1 v' (n + m) (xs ++ ys) ∧ W.grownBy w1 v.ownBlock := by
  obtain ⟨i0, hi, hz0, hz1, hz2⟩ := info_parts hinfo
  have hb2 : (n + m) * bytes ≤ 140737488355328 := Nat.le_trans (Nat.mul_le_mul hl hby) (by omega)
  rcases hR.at_ with h0 | ⟨b, off, rfl, hc⟩
  · subst h0
    obtain rfl : m = 0 := by simpa using hm.symm
    cases A with
    | none => exact ⟨v, W, run_append_nil (P := P) base t ty e i0 1 ht hi v n xs HO c, by simpa using HO, World.grownBy.refl _ _⟩
    | some ad =>
      obtain ⟨v', w1, h2, h3, h4, _⟩ := run_append_own (P := P) W base t ty e i0 z 1 bytes ht hi hz0 hz1 hz2 hz (by decide) v n xs HO ad 0 c [] rfl (by simp) (by simp) (by simp [maxLen]; omega) hb2 hbase
      exact ⟨v', w1, h2, h3, h4⟩
  · obtain ⟨v', w1, h2, h3, h4, _⟩ := run_append_own (P := P) W base t ty e i0 z 1 bytes ht hi hz0 hz1 hz2 hz (by decide) v n xs HO ⟨b, off, none⟩ m c ys (by omega) (fun j u hj => by
      obtain ⟨hj', rfl⟩ := List.getElem?_eq_some_iff.1 hj
      rw [Addr.add_lit]
      exact hc j hj') h1 (by simp [maxLen]; omega) hb2 hbase
    exact ⟨v', w1, h2, h3, h4⟩

set_option maxRecDepth 100000 in
set_option maxHeartbeats 8000000 in
theorem law_GraphMore (A : Option Addr) (n c : Nat) (D : List (List Int)) (A0 : Option Addr) (n0 c0 : Nat) (xs0 : List Int) (A1 : Option Addr) (n1 c1 : Nat) (xs1 : List Int) (A2 : Option Addr) (n2 c2 : Nat) (xs2 : List Int) (W : World) (hD : Dp W A n c D)
    (hr0 : Rd W A0 n0 c0 (iv .i64 xs0)) (hl0 : xs0.length = n0) (hr1 : Rd W A1 n1 c1 (iv .i64 xs1)) (hl1 : xs1.length = n1) (hr2 : Rd W A2 n2 c2 (iv .i64 xs2)) (hl2 : xs2.length = n2) :
    Calls Try.prog 3 #[.slice A n c, .agg #[.slice A0 n0 c0, .slice A1 n1 c1, .slice A2 n2 c2]] W fun e W' => e = .returned (.bool true) ∧ Below W.heap.size W W' := by
  have HD := Lib.hid hD
  have l1 := hD.le
  have l2 := hD.cap
  have i1 := hr0.le
  have i2 := hr0.cap
  have m1 := hr1.le
  have m2 := hr1.cap
  have k1 := hr2.le
  have k2 := hr2.cap
  have HS0 := Lib.hid (rd_some hr0 hl0).1
  have HT0 := Lib.hid (rd_some hr0 hl0).2
  have HS1 := Lib.hid (rd_some hr1 hl1).1
  have HT1 := Lib.hid (rd_some hr1 hl1).2
  have HS2 := Lib.hid (rd_some hr2 hl2).1
  have HT2 := Lib.hid (rd_some hr2 hl2).2
  have HEL : Hid ((fewD D).length = min n 40) := by show _ = _; rw [fewD_length, hD.len]
  clear hD hr0 hl0 hr1 hl1 hr2 hl2
  refine (callsIn_wide (n := 9)).1 ?_
  refine callsIn_of_wp Try.func3 rfl trivial ?_ rfl
  simp only [Try.ntmps3, List.size_toArray, List.length_cons, List.length_nil, Nat.reduceAdd, Nat.reduceSub, Array.replicate_succ, Array.replicate_zero, List.push_toArray, List.append_toArray, List.nil_append, List.cons_append]
  refine wpIn_wide.2 ?_
  go_upto_region 2 with (go_at_call 15; (with_reducible refine (few_any _ _ _ D _ (HD.out.below (below_al _ _))).mono ?_); rintro e w1 ⟨⟨A3, c3, rfl, hd⟩, hB⟩; have HE := Lib.hid hd; have HB1 := Lib.hid hB; clear hd hB)
  have g0 : w1.cell? ⟨W.heap.size, 0, none⟩ = some (.slice A0 n0 c0) := keep_cell (new_cell W #[.slice A0 n0 c0, .slice A1 n1 c1, .slice A2 n2 c2] _ 0 _ rfl) HB1.out
  have g1 : w1.cell? ⟨W.heap.size, 1, none⟩ = some (.slice A1 n1 c1) := keep_cell (new_cell W #[.slice A0 n0 c0, .slice A1 n1 c1, .slice A2 n2 c2] _ 1 _ rfl) HB1.out
  have g2 : w1.cell? ⟨W.heap.size, 2, none⟩ = some (.slice A2 n2 c2) := keep_cell (new_cell W #[.slice A0 n0 c0, .slice A1 n1 c1, .slice A2 n2 c2] _ 2 _ rfl) HB1.out
  have HB2 : Hid (Below W.heap.size W w1) := below_then (below_al _ _) HB1.out
  have G0 : Hid (∀ w', Below w1.heap.size w1 w' → w'.cell? ⟨W.heap.size, 0, none⟩ = some (.slice A0 n0 c0)) := fun w' h => keep_cell g0 h
  have G1 : Hid (∀ w', Below w1.heap.size w1 w' → w'.cell? ⟨W.heap.size, 1, none⟩ = some (.slice A1 n1 c1)) := fun w' h => keep_cell g1 h
  have G2 : Hid (∀ w', Below w1.heap.size w1 w' → w'.cell? ⟨W.heap.size, 2, none⟩ = some (.slice A2 n2 c2)) := fun w' h => keep_cell g2 h
  have hN40 : min n 40 ≤ 40 := by omega
  clear g0 g1 g2 HB1
  generalize fewD D = E at *
  generalize min n 40 = N at *
  have hnil : ∀ w : World, Rd w none 0 0 (iv .i64 []) := fun w => Rd.nil (by omega)
  have HNIL := Lib.hid hnil
  clear hnil
  cases hr : rightD E with
  | false =>
    have HR := Lib.hid hr
    have HC : Hid (∀ s t, readyL E s t = []) := fun s t => by simp [readyL, hr]
    clear hr
    go_wp2_with (first
      | (go_at_call 16; (with_reducible refine (Right_any _ _ _ E _ HE.out).mono ?_); rw [HR.out]; rintro e w2 ⟨rfl, hB⟩; have HE2 := Lib.hid (HE.out.below hB); have HX2 := Lib.hid hB; clear hB)
      | (go_at_call 17; (with_reducible refine (live_any _).mono ?_); rintro e w3 ⟨rfl, hB⟩; have HE3 := Lib.hid (HE2.out.below hB); have HX3 := Lib.hid (below_then HX2.out hB); have g0 := G0.out _ HX3.out; clear hB)
      | (go_at_call 19; (with_reducible refine (some_any A0 n0 c0 _ i1 i2).mono ?_); rintro e w4 ⟨rfl, hw⟩; have hw := hw.symm; subst hw)
      | (go_at_call 18; (with_reducible refine (Ready_any _ _ _ E _ _ _ [] _ _ _ (xs0.take (min n0 60)) _ HE3.out (HNIL.out _) rfl (HS0.out.below (below_then HB2.out HX3.out)) HT0.out).mono ?_); rw [HC.out]; rintro e w5 ⟨⟨A4, c4, rfl, _⟩, hB⟩; have HX4 := Lib.hid (below_then HX3.out hB); clear hB))
    go_ret
    exact ⟨rfl, below_then HB2.out HX4.out⟩
  | true =>
    have HR := Lib.hid hr
    clear hr
    have hx1 : ∀ w', Below w1.heap.size w1 w' → w'.cell? ⟨W.heap.size, 1, none⟩ = some (.slice A1 n1 c1) := G1.out
    go_upto_region 5 with (first
      | (go_at_call 16; (with_reducible refine (Right_any _ _ _ E _ HE.out).mono ?_); rw [HR.out]; rintro e w2 ⟨rfl, hB⟩; have HE2 := Lib.hid (HE.out.below hB); have HX2 := Lib.hid hB; have g1 := G1.out _ hB; clear hB hx1)
      | (go_at_call 19; (with_reducible refine (some_any A1 n1 c1 _ m1 m2).mono ?_); rintro e w4 ⟨rfl, hw⟩; have hw := hw.symm; subst hw)
      | (go_at_call 20; (with_reducible refine (Close_any _ _ _ E _ _ _ (xs1.take (min n1 60)) _ HE2.out (HS1.out.below (below_then HB2.out HX2.out)) HT1.out).mono ?_); rintro e w5 ⟨⟨A6, c6, rfl, hr⟩, hB⟩; have HC5 := Lib.hid hr; have HE5 := Lib.hid (HE2.out.below hB); have HX5 := Lib.hid (below_then HX2.out hB); clear hr hB HE2 HE g1))
    have HGO : Hid (∀ w', Below w5.heap.size w5 w' → w'.cell? ⟨W.heap.size, 2, none⟩ = some (.slice A2 n2 c2)) := fun w' h => G2.out _ (below_then HX5.out h)
    have hM1 : min n1 60 ≤ 60 := by omega
    have hM2 : min n2 60 ≤ 60 := by omega
    generalize hC : closeL E (xs1.take (min n1 60)) = C at *
    have HCC := Lib.hid hC
    have HCLN : Hid (C.length ≤ E.length) := by show _ ≤ _; rw [← hC]; exact closeL_length _ _
    clear hC
    have hcl40 : C.length ≤ 40 := by have := HCLN.out; have := HEL.out; omega
    generalize hT2 : xs2.take (min n2 60) = T2 at *
    clear hT2
    generalize hMM1 : min n1 60 = M1 at *
    generalize hMM2 : min n2 60 = M2 at *
    have HM2E := Lib.hid hMM2
    clear hMM1 hMM2
    have hcl := HC5.out.le
    have hcc := HC5.out.cap
    generalize hCl : C.length = cl at *
    have HCL := Lib.hid hCl
    clear hCl HCLN
    have HX50 : Hid (Below w5.heap.size w5 w5.drew) := ⟨rfl, rfl, rfl, Nat.le_refl _, fun _ _ => rfl⟩
    have HC0 : Hid (Rd w5.drew A6 cl c6 (iv .i64 C)) := HC5.out.below HX50.out
    have HE0 : Hid (Dp w5.drew A3 N c3 E) := HE5.out.below HX50.out
    have HS20 : Hid (∀ w', Below w5.drew.heap.size w5.drew w' → Rd w' A2 M2 c2 (iv .i64 T2)) := fun w' h => HS2.out.below (below_then HB2.out (below_then HX5.out (below_then HX50.out h)))
    refine (wpIn_wide (n := 9)).1 ?_
    refine wpIn_region_any (by kernel_rfl) ?_
    change wpAnyIn _ _ _ _ _ _ _ _ _ w5.drew
    generalize w5.drew = w0 at *
    refine wpAnyIn_good (fun L a w' => L.size = 10 ∧ (L.getD 3 false = true → L.getD 1 false = true) ∧ (L.getD 7 false = true → L.getD 3 false = true) ∧ (L.getD 8 false = true → L.getD 7 false = true) ∧ (L.getD 9 false = true → L.getD 8 false = true) ∧ ∃ (y7 y31 y32 y33 y34 y35 y36 y37 y38 y39 : Value), a = ({ tmps := #[.slice A n c, .agg #[.slice A0 n0 c0, .slice A1 n1 c1, .slice A2 n2 c2], undef, .pointer (some ⟨W.heap.size, 0, none⟩), .bool false, .slice A3 N c3, .slice A6 cl c6, y7, undef, undef, undef, .slice A n c, .slice A3 N c3, .slice A3 N c3, .bool true, .bool false, undef, undef, undef, undef, undef, undef, undef, undef, undef, undef, .slice A3 N c3, .pointer (some ⟨W.heap.size, 1, none⟩), .slice A1 n1 c1, .slice A1 M1 c1, .slice A6 cl c6, y31, y32, y33, y34, y35, y36, y37, y38, y39, undef, undef, undef, undef, undef, undef, undef, undef, undef, undef, undef, undef, undef, undef, undef, undef, undef, undef, undef, undef, undef, undef, undef, undef, undef, undef, undef, undef, undef, undef, undef, undef, undef, undef, undef, undef, undef, undef, undef, undef, undef, undef], defers := [] } : Act) ∧ (L.getD 0 false = true → y31 = .slice A3 N c3) ∧ (L.getD 1 false = true → y32 = .slice (some ⟨w0.heap.size, 0, none⟩) 0 0) ∧ (L.getD 2 false = true → y33 = .slice A6 cl c6) ∧ (L.getD 4 false = true → y35 = .pointer (some ⟨W.heap.size, 2, none⟩)) ∧ (L.getD 5 false = true → y36 = .slice A2 n2 c2) ∧ (L.getD 6 false = true → y37 = .slice A2 M2 c2) ∧ Below w0.heap.size w0 w' ∧ (L.getD 1 false = false → w' = w0) ∧ (L.getD 1 false = true → L.getD 3 false = false → w' = w0.alloc (.cells #[] 3)) ∧ (L.getD 3 false = true → L.getD 7 false = false → w'.ownsRow w0.heap.size 3 1 y34 cl ([] ++ iv .i64 C)) ∧ (L.getD 7 false = true → L.getD 8 false = false → ∃ A8 c8, y38 = .slice A8 (cl + M2) c8 ∧ (C ++ T2).length = cl + M2 ∧ Rd w' A8 (cl + M2) c8 (iv .i64 (C ++ T2))) ∧ (L.getD 8 false = true → ∃ A9 c9, y39 = .slice A9 (closeL E (C ++ T2)).length c9 ∧ Rd w' A9 (closeL E (C ++ T2)).length c9 (iv .i64 (closeL E (C ++ T2)))) ∧ (L.getD 9 false = true → y7 = y39)) (acB_spec ?gac) ?gsz ?gend ?gstep _ _ _ _ ?gstart ?gopen
    case gac => kernel_rfl
    case gsz => exact fun L a w' h => h.1
    case gopen => exact Nat.le_of_eq (by kernel_rfl)
    case gstart => exact ⟨rfl, by simp, by simp, by simp, by simp, undef, undef, undef, undef, undef, undef, undef, undef, undef, undef, rfl, by simp, by simp, by simp, by simp, by simp, by simp, Below.refl _ _, by simp, by simp, by simp, by simp, by simp, by simp⟩
    case gend =>
      rintro L a w' ⟨h1, a31, a73, a87, a98, y7, y31, y32, y33, y34, y35, y36, y37, y38, y39, rfl, e31, e32, e33, e35, e36, e37, hBW, b0, b1, b3, b7, b8, b9⟩ hall
      obtain rfl := (e31 (hall 0 (by decide)))
      obtain rfl := (e32 (hall 1 (by decide)))
      obtain rfl := (e33 (hall 2 (by decide)))
      obtain rfl := (e35 (hall 4 (by decide)))
      obtain rfl := (e36 (hall 5 (by decide)))
      obtain rfl := (e37 (hall 6 (by decide)))
      obtain ⟨A9, c9, hy9, hr9⟩ := b8 (hall 8 (by decide))
      obtain rfl := hy9
      obtain rfl := b9 (hall 9 (by decide))
      clear b0 b1 b3 b7 b8 b9 a31 a73 a87 a98 h1
      have HX9 : Hid (Below w5.heap.size w5 w') := below_then HX50.out hBW
      have hx0 := G0.out w' (below_then HX5.out HX9.out)
      have HR9 := Lib.hid hr9
      have HE9 : Hid (Dp w' A3 N c3 E) := HE5.out.below HX9.out
      have HC9 : Hid (Rd w' A6 cl c6 (iv .i64 C)) := HC5.out.below HX9.out
      have HX19 : Hid (Below w1.heap.size w1 w') := below_then HX5.out HX9.out
      have HSUB : Hid (∀ a ∈ C, a ∈ closeL E (C ++ T2)) := fun a ha => by
        have ha' := ha
        rw [← HCC.out] at ha'
        obtain ⟨_, j, rfl, hj⟩ := closeL_mem ha'
        exact close_has HR.out (by omega) (by omega) (List.mem_append_left _ ha)
      have HLE : Hid (C.length ≤ (closeL E (C ++ T2)).length) := by
        show _ ≤ _
        have h := HSUB.out
        rw [← HCC.out] at h ⊢
        exact closeL_length_mono h
      have HMORE : Hid (∀ x ∈ readyL E C (xs0.take (min n0 60)), x ∈ readyL E (closeL E (C ++ T2)) (xs0.take (min n0 60)) ∨ x ∈ closeL E (C ++ T2)) := fun x hx => ready_more HR.out HSUB.out hx
      clear hr9 hBW
      generalize closeL E (C ++ T2) = O at *
      have hol := HR9.out.le
      have hoc := HR9.out.cap
      go_upto_region 8 with (first
        | (go_at_call 19; (with_reducible refine (some_any A0 n0 c0 _ i1 i2).mono ?_); rintro e w4 ⟨rfl, hw⟩; have hw := hw.symm; subst hw)
        | (go_at_call 18; (with_reducible refine (Ready_any _ _ _ E _ _ _ C _ _ _ (xs0.take (min n0 60)) _ HE9.out HC9.out HCL.out (HS0.out.below (below_then HB2.out HX19.out)) HT0.out).mono ?_); rintro e wa ⟨⟨Aa, ca, rfl, hr⟩, hB⟩; have HRa := Lib.hid hr; have HBa := Lib.hid hB; have hx0 := keep_cell hx0 hB; clear hr hB)
        | (go_at_call 18; (with_reducible refine (Ready_any _ _ _ E _ _ _ O _ _ _ (xs0.take (min n0 60)) _ (HE9.out.below HBa.out) (HR9.out.below HBa.out) rfl (HS0.out.below (below_then HB2.out (below_then HX19.out HBa.out))) HT0.out).mono ?_); rintro e wb ⟨⟨Ab, cb, rfl, hr⟩, hB⟩; have HRb := Lib.hid hr; have HRa2 := Lib.hid (HRa.out.below hB); have HRo := Lib.hid (HR9.out.below (below_then HBa.out hB)); have HBb := Lib.hid (below_then HBa.out hB); clear hr hB HRa))
      generalize readyL E C (xs0.take (min n0 60)) = Y at *
      generalize readyL E O (xs0.take (min n0 60)) = Z at *
      have hyl := HRa2.out.le
      have hyc := HRa2.out.cap
      go_wp2_with (fail)
      go_loopw [10] (fun i wr => ∃ k : Nat, k ≤ Y.length ∧ i = .int .i64 k ∧ wr = wb) (fun i _ => Y.length - (intOf i).toNat)
      case atStart => exact ⟨0, by omega, by go_num, rfl⟩
      case round =>
        obtain ⟨j, hj, rfl, rfl⟩ := hrel
        by_cases hlt : j < Y.length
        · obtain ⟨b, off, rfl, _, hc⟩ := HRa2.out.form (by simp; omega)
          have hck := hc j (by simpa using hlt)
          rw [iv_at] at hck
          have HM := Lib.hid (HMORE.out _ (List.getElem_mem hlt))
          clear hc
          generalize Y[j] = x at *
          cases hz : decide (x ∈ Z) with
          | true =>
            have HZ := Lib.hid hz
            clear hz
            go_wp2_with (go_at_call 21; (with_reducible refine (Has_any _ _ _ Z _ _ HRb.out rfl).mono ?_); rw [HZ.out]; rintro e w10 ⟨rfl, hw⟩; have hw := hw.symm; subst hw)
            go_roundw
            case rel => exact ⟨j + 1, by omega, by go_num, trivial⟩
            case measure => simp [intOf]; omega
          | false =>
            have HZ := Lib.hid hz
            have HO : Hid (decide (x ∈ O) = true) := by
              show _ = _
              rcases HM.out with h | h
              · simp at hz; exact absurd h hz
              · simpa using h
            clear hz
            go_wp2_with (first
              | (go_at_call 21; (with_reducible refine (Has_any _ _ _ Z _ _ HRb.out rfl).mono ?_); rw [HZ.out]; rintro e w10 ⟨rfl, hw⟩; have hw := hw.symm; subst hw)
              | (go_at_call 21; (with_reducible refine (Has_any _ _ _ O _ _ HRo.out rfl).mono ?_); rw [HO.out]; rintro e w10 ⟨rfl, hw⟩; have hw := hw.symm; subst hw))
            go_roundw
            case rel => exact ⟨j + 1, by omega, by go_num, trivial⟩
            case measure => simp [intOf]; omega
        · obtain rfl : j = Y.length := by omega
          have hlo : cl ≤ O.length := by have := HLE.out; have := HCL.out; omega
          have hq9 : decide ((cl : Int) ≤ (O.length : Int)) = true := by simp; omega
          go_wp2_with (go_at_call 17; (with_reducible refine (live_any _).mono ?_); rintro e wc ⟨rfl, hB⟩; have HBc := Lib.hid (below_then HBb.out hB); clear hB)
          go_ret
          exact ⟨rfl, below_then HB2.out (below_then HX19.out HBc.out)⟩
    case gstep =>
      rintro i o L a w' ho hi hif hdep ⟨h1, a31, a73, a87, a98, y7, y31, y32, y33, y34, y35, y36, y37, y38, y39, rfl, e31, e32, e33, e35, e36, e37, hBW, b0, b1, b3, b7, b8, b9⟩ K hK
      have hi10 : i < 10 := by omega
      have st : ∀ j, L.getD j false = true → (L.setIfInBounds i true).getD j false = true := fun j h => by rw [getD_set hi, h]; simp
      have up : ∀ j, j ≠ i → (L.setIfInBounds i true).getD j false = true → L.getD j false = true := fun j hj h => by rw [getD_set hi] at h; simpa [Ne.symm hj] using h
      have sm : ∀ j, j ≠ i → (L.setIfInBounds i true).getD j false = L.getD j false := fun j hj => by rw [getD_set hi]; simp [Ne.symm hj]
      have se : (L.setIfInBounds i true).getD i false = true := by rw [getD_set hi]; simp
      have dn : ∀ j, (L.setIfInBounds i true).getD j false = false → L.getD j false = false := fun j h => by
        cases h' : L.getD j false with
        | false => rfl
        | true => rw [st j h'] at h; cases h
      have He31 := Lib.hid e31
      have He32 := Lib.hid e32
      have He33 := Lib.hid e33
      have He35 := Lib.hid e35
      have He36 := Lib.hid e36
      have He37 := Lib.hid e37
      have Hb0 := Lib.hid b0
      have Hb1 := Lib.hid b1
      have Hb3 := Lib.hid b3
      have Hb7 := Lib.hid b7
      have Hb8 := Lib.hid b8
      have Hb9 := Lib.hid b9
      have Ha31 := Lib.hid a31
      have Ha73 := Lib.hid a73
      have Ha87 := Lib.hid a87
      have Ha98 := Lib.hid a98
      have HBW := Lib.hid hBW
      clear e31 e32 e33 e35 e36 e37 b0 b1 b3 b7 b8 b9 a31 a73 a87 a98 hBW
      rcases (show i = 0 ∨ i = 1 ∨ i = 2 ∨ i = 3 ∨ i = 4 ∨ i = 5 ∨ i = 6 ∨ i = 7 ∨ i = 8 ∨ i = 9 by omega) with rfl | rfl | rfl | rfl | rfl | rfl | rfl | rfl | rfl | rfl
      · obtain rfl := Option.some.inj ho
        refine wpOpIn_lit rfl rfl ?_
        clear hdep
        go_simp
        exact hK _ _ ⟨by simp [h1], fun h => st 1 (Ha31.out (up 3 (by decide) h)), fun h => st 3 (Ha73.out (up 7 (by decide) h)), fun h => st 7 (Ha87.out (up 8 (by decide) h)), fun h => st 8 (Ha98.out (up 9 (by decide) h)), _, (.slice A3 N c3), _, _, _, _, _, _, _, _, rfl, fun _ => rfl, fun h => He32.out (up 1 (by decide) h), fun h => He33.out (up 2 (by decide) h), fun h => He35.out (up 4 (by decide) h), fun h => He36.out (up 5 (by decide) h), fun h => He37.out (up 6 (by decide) h), HBW.out, (fun h => Hb0.out (dn 1 h)), (fun h h' => Hb1.out (up 1 (by decide) h) (dn 3 h')), (fun h h' => Hb3.out (up 3 (by decide) h) (dn 7 h')), (fun h h' => Hb7.out (up 7 (by decide) h) (dn 8 h')), (fun h => Hb8.out (up 8 (by decide) h)), (fun h => Hb9.out (up 9 (by decide) h))⟩
      · obtain rfl := Option.some.inj ho
        have h3f : L.getD 3 false = false := by
          cases h : L.getD 3 false with
          | false => rfl
          | true => rw [Ha31.out h] at hif; cases hif
        have hw := (Hb0.out hif).symm
        subst hw
        refine wpOpIn_lit rfl rfl ?_
        clear hdep
        go_simp
        exact hK _ _ ⟨by simp [h1], fun h => st 1 (Ha31.out (up 3 (by decide) h)), fun h => st 3 (Ha73.out (up 7 (by decide) h)), fun h => st 7 (Ha87.out (up 8 (by decide) h)), fun h => st 8 (Ha98.out (up 9 (by decide) h)), _, _, (.slice (some ⟨w0.heap.size, 0, none⟩) 0 0), _, _, _, _, _, _, _, rfl, fun h => He31.out (up 0 (by decide) h), fun _ => rfl, fun h => He33.out (up 2 (by decide) h), fun h => He35.out (up 4 (by decide) h), fun h => He36.out (up 5 (by decide) h), fun h => He37.out (up 6 (by decide) h), below_al _ _, (fun h => by rw [se] at h; cases h), (fun _ _ => rfl), (fun h _ => by rw [sm 3 (by decide), h3f] at h; cases h), (fun h _ => by rw [sm 7 (by decide)] at h; rw [Ha73.out h] at h3f; cases h3f), (fun h => by rw [sm 8 (by decide)] at h; rw [Ha73.out (Ha87.out h)] at h3f; cases h3f), (fun h => Hb9.out (up 9 (by decide) h))⟩
      · obtain rfl := Option.some.inj ho
        refine wpOpIn_lit rfl rfl ?_
        clear hdep
        go_simp
        exact hK _ _ ⟨by simp [h1], fun h => st 1 (Ha31.out (up 3 (by decide) h)), fun h => st 3 (Ha73.out (up 7 (by decide) h)), fun h => st 7 (Ha87.out (up 8 (by decide) h)), fun h => st 8 (Ha98.out (up 9 (by decide) h)), _, _, _, (.slice A6 cl c6), _, _, _, _, _, _, rfl, fun h => He31.out (up 0 (by decide) h), fun h => He32.out (up 1 (by decide) h), fun _ => rfl, fun h => He35.out (up 4 (by decide) h), fun h => He36.out (up 5 (by decide) h), fun h => He37.out (up 6 (by decide) h), HBW.out, (fun h => Hb0.out (dn 1 h)), (fun h h' => Hb1.out (up 1 (by decide) h) (dn 3 h')), (fun h h' => Hb3.out (up 3 (by decide) h) (dn 7 h')), (fun h h' => Hb7.out (up 7 (by decide) h) (dn 8 h')), (fun h => Hb8.out (up 8 (by decide) h)), (fun h => Hb9.out (up 9 (by decide) h))⟩
      · obtain rfl := Option.some.inj ho
        have d1 := (hdep ⟨1, .data⟩ (by simp) rfl)
        obtain rfl := He32.out d1
        obtain rfl := He33.out (hdep ⟨2, .data⟩ (by simp) rfl)
        have hw := Hb1.out d1 hif
        subst hw
        have h7f : L.getD 7 false = false := by
          cases h : L.getD 7 false with
          | false => rfl
          | true => rw [Ha73.out h] at hif; cases hif
        obtain ⟨v6, w6, hrun, hown6, hg6⟩ := run_cat (P := Try.prog) (w0.alloc (.cells #[] 3)) 23 23 3 w0.heap.size (.int .i64 0) 8 Try.underlying23 infoInt rfl _ 0 [] (own_empty w0 3) A6 cl c6 (iv .i64 C) (HC0.out.below (below_al _ _)) (by rw [iv, List.length_map]; exact HCL.out) (iv_one _ _) (by simp) (by omega) (by omega)
        rw [Nat.zero_add] at hown6
        have hB6 : Below w0.heap.size w0 w6 := below_grown (below_al w0 (.cells #[] 3)) hg6 (by simp) (own_row (own_empty w0 3))
        refine wpOpIn_lit rfl rfl ?_
        clear hdep
        refine operIn_append (.tmp 32) (.tmp 33) 23 rfl _ _ _ rfl rfl hrun ?_
        exact hK _ _ ⟨by simp [h1], fun _ => st 1 d1, fun h => st 3 (Ha73.out (up 7 (by decide) h)), fun h => st 7 (Ha87.out (up 8 (by decide) h)), fun h => st 8 (Ha98.out (up 9 (by decide) h)), _, _, _, _, (v6), _, _, _, _, _, rfl, fun h => He31.out (up 0 (by decide) h), fun h => He32.out (up 1 (by decide) h), fun h => He33.out (up 2 (by decide) h), fun h => He35.out (up 4 (by decide) h), fun h => He36.out (up 5 (by decide) h), fun h => He37.out (up 6 (by decide) h), hB6, (fun h => by rw [sm 1 (by decide), d1] at h; cases h), (fun _ h => by rw [se] at h; cases h), (fun _ _ => hown6), (fun h _ => by rw [sm 7 (by decide), h7f] at h; cases h), (fun h => by rw [sm 8 (by decide)] at h; rw [Ha87.out h] at h7f; cases h7f), (fun h => Hb9.out (up 9 (by decide) h))⟩
      · obtain rfl := Option.some.inj ho
        refine wpOpIn_lit rfl rfl ?_
        clear hdep
        go_simp
        exact hK _ _ ⟨by simp [h1], fun h => st 1 (Ha31.out (up 3 (by decide) h)), fun h => st 3 (Ha73.out (up 7 (by decide) h)), fun h => st 7 (Ha87.out (up 8 (by decide) h)), fun h => st 8 (Ha98.out (up 9 (by decide) h)), _, _, _, _, _, (.pointer (some ⟨W.heap.size, 2, none⟩)), _, _, _, _, rfl, fun h => He31.out (up 0 (by decide) h), fun h => He32.out (up 1 (by decide) h), fun h => He33.out (up 2 (by decide) h), fun _ => rfl, fun h => He36.out (up 5 (by decide) h), fun h => He37.out (up 6 (by decide) h), HBW.out, (fun h => Hb0.out (dn 1 h)), (fun h h' => Hb1.out (up 1 (by decide) h) (dn 3 h')), (fun h h' => Hb3.out (up 3 (by decide) h) (dn 7 h')), (fun h h' => Hb7.out (up 7 (by decide) h) (dn 8 h')), (fun h => Hb8.out (up 8 (by decide) h)), (fun h => Hb9.out (up 9 (by decide) h))⟩
      · obtain rfl := Option.some.inj ho
        obtain rfl := He35.out (hdep ⟨4, .data⟩ (by simp) rfl)
        have g2 := HGO.out w' (below_then HX50.out HBW.out)
        refine wpOpIn_lit rfl rfl ?_
        clear hdep
        go_simp
        exact hK _ _ ⟨by simp [h1], fun h => st 1 (Ha31.out (up 3 (by decide) h)), fun h => st 3 (Ha73.out (up 7 (by decide) h)), fun h => st 7 (Ha87.out (up 8 (by decide) h)), fun h => st 8 (Ha98.out (up 9 (by decide) h)), _, _, _, _, _, _, (.slice A2 n2 c2), _, _, _, rfl, fun h => He31.out (up 0 (by decide) h), fun h => He32.out (up 1 (by decide) h), fun h => He33.out (up 2 (by decide) h), fun h => He35.out (up 4 (by decide) h), fun _ => rfl, fun h => He37.out (up 6 (by decide) h), HBW.out, (fun h => Hb0.out (dn 1 h)), (fun h h' => Hb1.out (up 1 (by decide) h) (dn 3 h')), (fun h h' => Hb3.out (up 3 (by decide) h) (dn 7 h')), (fun h h' => Hb7.out (up 7 (by decide) h) (dn 8 h')), (fun h => Hb8.out (up 8 (by decide) h)), (fun h => Hb9.out (up 9 (by decide) h))⟩
      · obtain rfl := Option.some.inj ho
        obtain rfl := He36.out (hdep ⟨5, .data⟩ (by simp) rfl)
        refine wpOpIn_lit rfl rfl ?_
        clear hdep
        go_simp
        refine ⟨trivial, (callsIn_wide.2 (some_any A2 n2 c2 w' k1 k2)).mono ?_⟩
        rw [HM2E.out]
        rintro e w4 ⟨rfl, hw⟩
        have hw := hw.symm
        subst hw
        exact hK _ _ ⟨by simp [h1], fun h => st 1 (Ha31.out (up 3 (by decide) h)), fun h => st 3 (Ha73.out (up 7 (by decide) h)), fun h => st 7 (Ha87.out (up 8 (by decide) h)), fun h => st 8 (Ha98.out (up 9 (by decide) h)), _, _, _, _, _, _, _, (.slice A2 M2 c2), _, _, rfl, fun h => He31.out (up 0 (by decide) h), fun h => He32.out (up 1 (by decide) h), fun h => He33.out (up 2 (by decide) h), fun h => He35.out (up 4 (by decide) h), fun h => He36.out (up 5 (by decide) h), fun _ => rfl, HBW.out, (fun h => Hb0.out (dn 1 h)), (fun h h' => Hb1.out (up 1 (by decide) h) (dn 3 h')), (fun h h' => Hb3.out (up 3 (by decide) h) (dn 7 h')), (fun h h' => Hb7.out (up 7 (by decide) h) (dn 8 h')), (fun h => Hb8.out (up 8 (by decide) h)), (fun h => Hb9.out (up 9 (by decide) h))⟩
      · obtain rfl := Option.some.inj ho
        have d3 := (hdep ⟨3, .data⟩ (by simp) rfl)
        obtain rfl := He37.out (hdep ⟨6, .data⟩ (by simp) rfl)
        have h8f : L.getD 8 false = false := by
          cases h : L.getD 8 false with
          | false => rfl
          | true => rw [Ha87.out h] at hif; cases hif
        have hown := Hb3.out d3 hif
        obtain ⟨v8, w8, hrun, hown8, hg8⟩ := run_cat (P := Try.prog) w' 23 23 3 w0.heap.size (.int .i64 0) 8 Try.underlying23 infoInt rfl _ cl ([] ++ iv .i64 C) hown A2 M2 c2 (iv .i64 T2) (HS20.out _ HBW.out) (by rw [iv, List.length_map]; exact HT2.out) (iv_one _ _) HBW.out.size (by omega) (by omega)
        have hB8 : Below w0.heap.size w0 w8 := below_grown HBW.out hg8 HBW.out.size (own_row hown)
        obtain ⟨A8, c8, hv8, hl8, hr8⟩ := rd_cat hown8
        refine wpOpIn_lit rfl rfl ?_
        clear hdep
        refine operIn_append (.tmp 34) (.tmp 37) 23 rfl _ _ _ rfl rfl hrun ?_
        exact hK _ _ ⟨by simp [h1], fun h => st 1 (Ha31.out (up 3 (by decide) h)), fun _ => st 3 d3, fun h => st 7 (Ha87.out (up 8 (by decide) h)), fun h => st 8 (Ha98.out (up 9 (by decide) h)), _, _, _, _, _, _, _, _, (v8), _, rfl, fun h => He31.out (up 0 (by decide) h), fun h => He32.out (up 1 (by decide) h), fun h => He33.out (up 2 (by decide) h), fun h => He35.out (up 4 (by decide) h), fun h => He36.out (up 5 (by decide) h), fun h => He37.out (up 6 (by decide) h), hB8, (fun h => by rw [sm 1 (by decide), Ha31.out d3] at h; cases h), (fun _ h => by rw [sm 3 (by decide), d3] at h; cases h), (fun _ h => by rw [se] at h; cases h), (fun _ _ => ⟨A8, c8, hv8, hl8, hr8⟩), (fun h => by rw [sm 8 (by decide), h8f] at h; cases h), (fun h => Hb9.out (up 9 (by decide) h))⟩
      · obtain rfl := Option.some.inj ho
        have d7 := (hdep ⟨7, .data⟩ (by simp) rfl)
        obtain rfl := He31.out (hdep ⟨0, .data⟩ (by simp) rfl)
        obtain ⟨A8, c8, hv8, hl8, hr8⟩ := Hb7.out d7 hif
        obtain rfl := hv8
        refine wpOpIn_lit rfl rfl ?_
        clear hdep
        go_simp
        refine ⟨trivial, (callsIn_wide.2 (Close_any A3 N c3 E A8 (cl + M2) c8 (C ++ T2) w' (HE0.out.below HBW.out) hr8 hl8)).mono ?_⟩
        rintro e w9 ⟨⟨A9, c9, rfl, hr9⟩, hB9⟩
        exact hK _ _ ⟨by simp [h1], fun h => st 1 (Ha31.out (up 3 (by decide) h)), fun h => st 3 (Ha73.out (up 7 (by decide) h)), fun _ => st 7 d7, fun h => st 8 (Ha98.out (up 9 (by decide) h)), _, _, _, _, _, _, _, _, _, (.slice A9 (closeL E (C ++ T2)).length c9), rfl, fun h => He31.out (up 0 (by decide) h), fun h => He32.out (up 1 (by decide) h), fun h => He33.out (up 2 (by decide) h), fun h => He35.out (up 4 (by decide) h), fun h => He36.out (up 5 (by decide) h), fun h => He37.out (up 6 (by decide) h), below_then HBW.out hB9, (fun h => by rw [sm 1 (by decide), Ha31.out (Ha73.out d7)] at h; cases h), (fun _ h => by rw [sm 3 (by decide), Ha73.out d7] at h; cases h), (fun _ h => by rw [sm 7 (by decide), d7] at h; cases h), (fun _ h => by rw [se] at h; cases h), (fun _ => ⟨A9, c9, rfl, hr9⟩), (fun h => by have := Ha98.out (up 9 (by decide) h); rw [this] at hif; cases hif)⟩
      · obtain rfl := Option.some.inj ho
        have d8 := (hdep ⟨8, .data⟩ (by simp) rfl)
        refine wpOpIn_lit rfl rfl ?_
        clear hdep
        go_simp
        exact hK _ _ ⟨by simp [h1], fun h => st 1 (Ha31.out (up 3 (by decide) h)), fun h => st 3 (Ha73.out (up 7 (by decide) h)), fun h => st 7 (Ha87.out (up 8 (by decide) h)), fun _ => st 8 d8, (y39), _, _, _, _, _, _, _, _, _, rfl, fun h => He31.out (up 0 (by decide) h), fun h => He32.out (up 1 (by decide) h), fun h => He33.out (up 2 (by decide) h), fun h => He35.out (up 4 (by decide) h), fun h => He36.out (up 5 (by decide) h), fun h => He37.out (up 6 (by decide) h), HBW.out, (fun h => Hb0.out (dn 1 h)), (fun h h' => Hb1.out (up 1 (by decide) h) (dn 3 h')), (fun h h' => Hb3.out (up 3 (by decide) h) (dn 7 h')), (fun h h' => Hb7.out (up 7 (by decide) h) (dn 8 h')), (fun h => Hb8.out (up 8 (by decide) h)), (fun _ => rfl)⟩
end Go.Proofs.Ytpicagcapgjiaaa
