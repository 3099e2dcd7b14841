/- Walks of big: plan, where it is refused. PRINTED by wip/tools/gen_bgf.py out of plan_30. -/
import Derived.Test.YtcgfoaihfncppaaBg9
import Derived.Test.YtcgfoaihfncppaaBgW
set_option linter.unusedSimpArgs false
set_option linter.unusedVariables false
namespace Go.Proofs.Ytcgfoaihfncppaa
open Go.RowKit Go.Sel Go.Sel.Gra Go.Sel.Bg Go.Sel.Mer Go.Shelf

set_option maxRecDepth 100000 in
set_option maxHeartbeats 8000000 in
theorem plan_no (A : Option Addr) (n c : Nat) (D : List (List Int)) (t : List Int) (k : Nat) (b : Int) (Af : Option Addr) (nf cf : Nat) (F : List Int) (ht : t.length = 8) (w : World) (hD : Bp w A n c D) (hR : Rt D t) (hF : Rd w Af nf cf (iv .i64 F)) (hlF : F.length = nf) (hO : RgPut n k b F) (hE : errL D t k b F ≠ 0) :
    Calls Try.prog 31 #[.slice A n c, bigV t, .int .i64 (k : Int), .int .i64 b, .slice Af nf cf] w fun e w' => e = .panicked (gives (errL D t k b F)) ∧ Below w.heap.size w w' := by
  have HER := Lib.hid hE
  clear hE
  have HF := Lib.hid hF
  have HLF := Lib.hid hlF
  have HO := Lib.hid hO
  have HD := Lib.hid hD
  have HN96 : Hid (n ≤ 96) := Lib.hid (by rw [← hD.len]; exact hR.1.1)
  have hf1 := hF.le
  have hf2 := hF.cap
  have hk0 : (0 : Int) ≤ (k : Int) := by omega
  have hk1 : (k : Int) < 1062 := by have := hO.hk; omega
  have HLK : Hid (∀ W, Below w.heap.size w W → Calls Try.prog 36 #[.slice A n c, bigV t] W fun e w' => ∃ vb mp mt vi, e = .returned (.pointer (some ⟨vb, 0, none⟩)) ∧ Vw W w' A n c D t vb mp mt 1096 1096 (innD D t) vi) := Lib.hid fun W hB => look_ok A n c D t ht W (hD.below hB) hR
  have hmf : ∀ (fn : Fn) (first cap : Array Value) (w : World), (Instr.makeFunc fn first cap).run Try.prog w = .ok (.func fn first cap) w := fun _ _ _ _ => rfl
  have H8 := Lib.hid ht
  clear hF hlF hO hD hR
  obtain ⟨a0, a1, a2, a3, a4, a5, a6, a7, rfl⟩ := len8 ht
  clear ht
  simp only [bigV, iv, List.map_cons, List.map_nil] at HLK ⊢
  go_enter Try.func31, Try.ntmps31
  have HWX : Hid (∀ o p q : Obj, Below w.heap.size w (((w.alloc o).alloc p).alloc q)) := Lib.hid fun o p q => ((below_al w _).alloc (by simp) _).alloc (by simp <;> omega) _
  have HW1 : Hid (∀ p q : Obj, (((w.alloc (.cells #[.slice A n c] 33)).alloc p).alloc q).cell? ⟨w.heap.size, 0, none⟩ = some (.slice A n c)) := Lib.hid fun p q => keep_cell (keep_cell (by rw [blk_cell (blk11 w _)]; rfl) (below_al _ _)) (below_al _ _)
  have HW3 : Hid (∀ o p : Obj, (((w.alloc o).alloc p).alloc (.cells putZ 68)).heap[w.heap.size + 2]? = some (.cells putZ 68 (0, 0)) ∧ (((w.alloc o).alloc p).alloc (.cells putZ 68)).heap.size = w.heap.size + 3) := Lib.hid fun o p => by
    have h := blk11 ((w.alloc o).alloc p) (.cells putZ 68)
    exact ⟨by simpa using h, by simp⟩
  simp only [putZ] at HW3
  go_upto_region 2 with (go_at_call 36; refine (HLK.out _ (HWX.out _ _ _)).mono ?_; rintro e w2 ⟨vb, mp, mt, vi, rfl, hV⟩; have HV := Lib.hid hV; have HB := Lib.hid ((HWX.out _ _ _).trans (hV.hB.mono (by simp <;> omega))); have c5 := keep_cell (HW1.out _ _) hV.hB; have HPZ := Lib.hid (blk_below (HW3.out _ _).1 hV.hB (by simp)); clear hV)
  obtain ⟨W0, hW0, HV⟩ : ∃ W0 : World, W0.heap.size = w.heap.size + 3 ∧ Hid (Vw W0 w2 A n c D [a0, a1, a2, a3, a4, a5, a6, a7] vb mp mt 1096 1096 (innD D [a0, a1, a2, a3, a4, a5, a6, a7]) vi) := ⟨_, by simp, HV⟩
  have HW0 := Lib.hid hW0
  clear hW0 HLK HW1 HW3 HWX
  have HP1 : Hid (∀ W, W.cell? ⟨w.heap.size, 0, none⟩ = some (.slice A n c) → Calls Try.prog 54 #[.int .i64 b, .pointer (some ⟨w.heap.size, 0, none⟩)] W fun e w' => e = .returned (.bool true) ∧ w' = W) := Lib.hid fun W h => (plan1_any b w.heap.size A n c W h).mono (by
    rintro e w' ⟨rfl, rfl⟩
    exact ⟨by simp [HO.out.b0, HO.out.b1], rfl⟩)
  have HP2 : Hid (∀ W (fb : Nat), W.cell? ⟨fb, 0, none⟩ = some (.func (.func 54) #[] #[.pointer (some ⟨w.heap.size, 0, none⟩)]) → W.cell? ⟨w.heap.size, 0, none⟩ = some (.slice A n c) → Rd W Af nf cf (iv .i64 F) →
      Calls Try.prog 55 #[.slice Af nf cf, .func (.func 56) #[] #[.pointer (some ⟨fb, 0, none⟩)]] W fun e w' => e = .returned (.bool false) ∧ ∃ q, w' = W.drewN q) := Lib.hid fun W fb h1 h2 h3 => (ContainsFunc_any 56 _ (enters_of Try.func56 (by kernel_rfl) rfl) _ Af nf cf F W h3 HLF.out (plan2_tells fb w.heap.size A n c F W h1 h2)).mono (by
    rintro e w' ⟨rfl, q, rfl⟩
    refine ⟨?_, q, rfl⟩
    congr 2
    rw [List.any_eq_false]
    intro x hx
    have := HO.out.f x hx
    simp [this.1, this.2])
  have hw2 : Hid (w.heap.size + 2 < w2.heap.size) := Lib.hid (Array.getElem?_eq_some_iff.1 HPZ.out).1
  go_upto_region 4 with (first
    | (go_at_call 37; (with_reducible refine (must_ok 2 _).mono ?_); rintro e W3 ⟨rfl, rfl⟩)
    | (go_at_call 54; refine (HP1.out _ (keep_cell c5 (below_al _ _))).mono ?_; rintro e w4 ⟨rfl, rfl⟩)
    | (go_at_call 55; refine (HP2.out _ w2.heap.size (by rw [blk_cell (blk11 w2 _)]; rfl) (keep_cell c5 (below_al _ _)) ((HF.out.below HB.out).below (below_al _ _))).mono ?_; rintro e w4 ⟨rfl, q, hq⟩; have hB3 : Below w2.heap.size w2 w4 := (by rw [hq]; exact Below.then_drewN (below_al w2 _) _); clear hq; have HB3 := Lib.hid (HB.out.trans (hB3.mono (by have := hw2.out; omega))); have HV3 := Lib.hid (HV.out.same hB3); have c5 := keep_cell c5 hB3; have HPZ3 := Lib.hid (blk_below HPZ.out hB3 (by have := hw2.out; omega)); clear hB3))
  clear HB HV HP1 HP2 HPZ
  obtain ⟨l, hl, hp⟩ := HV3.out.pl
  obtain ⟨l2, hl2, ht2⟩ := HV3.out.tk
  obtain ⟨c0, c9, c10, c11, ct, cz⟩ := HV3.out.cell rfl
  have HL2 := Lib.hid hl2
  have HT2 := Lib.hid ht2
  have HL2 := Lib.hid hl2
  have HT2 := Lib.hid ht2
  have hbne : b ≠ 0 := by have := HO.out.b0; omega
  have hlk0 := hl2.lookup (P := Try.prog) Try.underlying82 Try.underlying3 (zeroB W3) b
  rw [ht2.mark hbne] at hlk0
  have hpl := hl.lookup (P := Try.prog) Try.underlying80 Try.underlying3 (zeroI W3) (k : Int)
  rw [hp.at_ HO.out.hk] at hpl
  have HC0 := Lib.hid (Contains_any Af nf cf F b W3 (HF.out.below HB3.out) HLF.out)
  clear hl hp hl2 ht2 c0 c10 ct cz hbne
  generalize htk : tkB D [a0, a1, a2, a3, a4, a5, a6, a7] b = tk at *
  have HTK := Lib.hid htk
  clear htk
  cases tk with
  | true =>
    have HERR : Hid (errL D [a0, a1, a2, a3, a4, a5, a6, a7] k b F = 6) := Lib.hid (by unfold errL; rw [HTK.out]; simp)
    clear HC0 hpl
    go_wp2_with (go_at_call 37; (with_reducible refine (must_no 6 _).mono ?_); rintro e W3 ⟨rfl, rfl⟩)
    rw [HERR.out]
    simp [bodyPost, gives]
    exact HB3.out
  | false =>
    by_cases hbF : b ∈ F
    · have HERR : Hid (errL D [a0, a1, a2, a3, a4, a5, a6, a7] k b F = 6) := Lib.hid (by unfold errL; rw [decide_eq_true hbF]; simp)
      have HC := Lib.hid (HC0.out.mono (R' := fun e w' => e = .returned (.bool true) ∧ w' = W3) (by rintro e w' ⟨rfl, rfl⟩; exact ⟨by simp [hbF], rfl⟩))
      clear HC0 hpl hbF
      go_wp2_with (first
        | (go_at_call 37; (with_reducible refine (must_no 6 _).mono ?_); rintro e W3 ⟨rfl, rfl⟩)
        | (go_at_call 57; refine HC.out.mono ?_; rintro e W3 ⟨rfl, rfl⟩))
      rw [HERR.out]
      simp [bodyPost, gives]
      exact HB3.out
    · have HC := Lib.hid (HC0.out.mono (R' := fun e w' => e = .returned (.bool false) ∧ w' = W3) (by rintro e w' ⟨rfl, rfl⟩; exact ⟨by simp [hbF], rfl⟩))
      have HE2 : Hid (errL D [a0, a1, a2, a3, a4, a5, a6, a7] k b F = if ((List.range F.length).any (badF D [a0, a1, a2, a3, a4, a5, a6, a7] F)) = true then 6 else if atK D [a0, a1, a2, a3, a4, a5, a6, a7] k ≠ 0 then 12 else 0) := Lib.hid (by unfold errL; rw [HTK.out, decide_eq_false hbF]; simp)
      clear HC0 hbF
      go_upto_region 5 with (first
        | (go_at_call 37; (with_reducible refine (must_ok 6 _).mono ?_); rintro e W3 ⟨rfl, rfl⟩)
        | (go_at_call 57; refine HC.out.mono ?_; rintro e W3 ⟨rfl, rfl⟩))
      go_wp2
      go_loopw [13, 14, 68] (fun _ _ v wr => ∃ i : Nat, i ≤ nf ∧ v = .int .i64 i ∧ Hid (∀ j, j < i → badF D [a0, a1, a2, a3, a4, a5, a6, a7] F j = false) ∧ wr = W3) (fun _ _ v _ => nf - (Go.RowKit.intOf v).toNat)
      case atStart => exact ⟨0, by omega, rfl, fun j hj => by omega, rfl⟩
      case round =>
        obtain ⟨i, hi, rfl, HJ, rfl⟩ := hrel
        by_cases hlt : i < nf
        · have hil : i < F.length := by rw [HLF.out]; exact hlt
          obtain ⟨rb, ro, hAf, hrb, hrc⟩ := HF.out.form (by simp; omega)
          have hcx := hrc i (by simpa using hil)
          rw [iv_at] at hcx
          have hcy := keep_cell hcx HB3.out
          have hmem := List.getElem_mem hil
          have hF0 := HO.out.f _ hmem
          have hxe : F.getD i 0 = F[i] := by rw [List.getD_eq_getElem?_getD, List.getElem?_eq_getElem hil]; rfl
          have hlx := HL2.out.lookup (P := Try.prog) Try.underlying82 Try.underlying3 (zeroB wr) F[i]
          rw [HT2.out.mark (by omega)] at hlx
          have hrt := (HF.out.below HB3.out).upto i (by omega)
          have e : (iv .i64 F).take i = iv .i64 (F.take i) := by simp [iv, List.map_take]
          rw [e] at hrt
          have HCX0 := Lib.hid (Contains_any Af i cf (F.take i) F[i] wr hrt (by simp; omega))
          have HBF : Hid (badF D [a0, a1, a2, a3, a4, a5, a6, a7] F i = (tkB D [a0, a1, a2, a3, a4, a5, a6, a7] F[i] || decide (F[i] ∈ F.take i))) := Lib.hid (by unfold badF; rw [hxe])
          clear hrc hcx hmem hrt e HC hlk0 hpl hxe hF0
          generalize F[i] = x at *
          subst hAf
          have hbad : badF D [a0, a1, a2, a3, a4, a5, a6, a7] F i = true → errL D [a0, a1, a2, a3, a4, a5, a6, a7] k b F = 6 := fun h => by rw [HE2.out, if_pos (List.any_eq_true.2 ⟨i, List.mem_range.2 hil, h⟩)]
          have HBAD := Lib.hid hbad
          clear hbad
          generalize htx : tkB D [a0, a1, a2, a3, a4, a5, a6, a7] x = tx at *
          clear htx
          cases tx with
          | true =>
            go_wp2_with (go_at_call 37; (with_reducible refine (must_no 6 _).mono ?_); rintro e W3 ⟨rfl, rfl⟩)
            rw [HBAD.out (by rw [HBF.out]; rfl)]
            simp [bodyPost, gives]
            exact HB3.out
          | false =>
            by_cases hxF : x ∈ F.take i
            · have HCX := Lib.hid (HCX0.out.mono (R' := fun e w' => e = .returned (.bool true) ∧ w' = wr) (by rintro e w' ⟨rfl, rfl⟩; exact ⟨by simp [hxF], rfl⟩))
              have HB1 := Lib.hid (HBAD.out (by rw [HBF.out, decide_eq_true hxF]; rfl))
              clear hxF HCX0
              go_wp2_with (first
                | (go_at_call 37; (with_reducible refine (must_no 6 _).mono ?_); rintro e W3 ⟨rfl, rfl⟩)
                | (go_at_call 57; refine HCX.out.mono ?_; rintro e W3 ⟨rfl, rfl⟩))
              rw [HB1.out]
              simp [bodyPost, gives]
              exact HB3.out
            · have HCX := Lib.hid (HCX0.out.mono (R' := fun e w' => e = .returned (.bool false) ∧ w' = wr) (by rintro e w' ⟨rfl, rfl⟩; exact ⟨by simp [hxF], rfl⟩))
              have HB1 : Hid (badF D [a0, a1, a2, a3, a4, a5, a6, a7] F i = false) := Lib.hid (by rw [HBF.out, decide_eq_false hxF]; rfl)
              clear hxF HCX0
              go_wp2_with (first
                | (go_at_call 37; (with_reducible refine (must_ok 6 _).mono ?_); rintro e W3 ⟨rfl, rfl⟩)
                | (go_at_call 57; refine HCX.out.mono ?_; rintro e W3 ⟨rfl, rfl⟩))
              exact ⟨⟨i + 1, by omega, by go_num, fun j hj => (if h : j = i then h ▸ HB1.out else HJ.out j (by omega)), by simp⟩, by simp [Go.RowKit.intOf]; omega⟩
        · have hat : errL D [a0, a1, a2, a3, a4, a5, a6, a7] k b F = if atK D [a0, a1, a2, a3, a4, a5, a6, a7] k ≠ 0 then 12 else 0 := by
            rw [HE2.out, if_neg]
            intro h
            obtain ⟨j, hj, hb⟩ := List.any_eq_true.1 h
            rw [HJ.out j (by have := List.mem_range.1 hj; have := HLF.out; omega)] at hb
            cases hb
          have hne : ¬ (atK D [a0, a1, a2, a3, a4, a5, a6, a7] k = 0) := fun h => HER.out (by rw [hat, if_neg (by simpa using h)])
          have HERR : Hid (errL D [a0, a1, a2, a3, a4, a5, a6, a7] k b F = 12) := Lib.hid (by rw [hat, if_pos hne])
          clear HC hlk0 HL2 HT2 hat
          have hbe : (atK D [a0, a1, a2, a3, a4, a5, a6, a7] k == 0) = false := by simpa using hne
          generalize atK D [a0, a1, a2, a3, a4, a5, a6, a7] k = ak at hpl hbe
          clear hne
          go_wp2_with (go_at_call 37; (with_reducible refine (must_no 12 _).mono ?_); rintro e W3 ⟨rfl, rfl⟩)
          rw [HERR.out]
          simp [bodyPost, gives]
          exact HB3.out
end Go.Proofs.Ytcgfoaihfncppaa
