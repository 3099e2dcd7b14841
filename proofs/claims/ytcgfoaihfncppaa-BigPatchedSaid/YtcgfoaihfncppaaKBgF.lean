/- Walks of big: plan, where it is refused. PRINTED by wip/tools/gen_bgf.py out of plan_30. -/
import Derived.Test.YtcgfoaihfncppaaKBgS
import Derived.Test.YtcgfoaihfncppaaKBgO
import Derived.Test.YtcgfoaihfncppaaKBgB
import Derived.Test.YtcgfoaihfncppaaKBgC
import Derived.Test.YtcgfoaihfncppaaKBgD
import Derived.Test.YtcgfoaihfncppaaKBgE
set_option linter.unusedSimpArgs false
set_option linter.unusedVariables false
namespace Go.Proofs.Ytcgfoaihfncppaa
open Go.RowKit Go.Sel Go.Sel.Gra Go.Sel.Bg Go.Sel.Mer Go.Shelf

set_option maxRecDepth 100000 in
set_option maxHeartbeats 8000000 in
theorem plan_no (A : Option Addr) (n c : Nat) (D : List (List Int)) (t : List Int) (k : Nat) (b : Int) (Af : Option Addr) (nf cf : Nat) (F : List Int) (ht : t.length = 8) (w : World) (hD : Bp w A n c D) (hR : Rt D t) (hF : Rd w Af nf cf (iv .i64 F)) (hlF : F.length = nf) (hO : RgPut n k b F) (hE : errL D t k b F ≠ 0) :
    Calls Try.prog 31 #[.slice A n c, bigV t, .int .i64 (k : Int), .int .i64 b, .slice Af nf cf] w fun e w' => e = .panicked (gives (errL D t k b F)) ∧ Below w.heap.size w w' := by
  have HER := Lib.hid hE
  clear hE
  have HF := Lib.hid hF
  have HLF := Lib.hid hlF
  have HO := Lib.hid hO
  have HD := Lib.hid hD
  have HN96 : Hid (n ≤ 96) := Lib.hid (by rw [← hD.len]; exact hR.1.1)
  have hf1 := hF.le
  have hf2 := hF.cap
  have hk0 : (0 : Int) ≤ (k : Int) := by omega
  have hk1 : (k : Int) < 1062 := by have := hO.hk; omega
  have HLK : Hid (∀ W, Below w.heap.size w W → Calls Try.prog 36 #[.slice A n c, bigV t] W fun e w' => ∃ vb mp mt vi, e = .returned (.pointer (some ⟨vb, 0, none⟩)) ∧ Vw W w' A n c D t vb mp mt 1096 1096 (innD D t) vi) := Lib.hid fun W hB => look_ok A n c D t ht W (hD.below hB) hR
  have hmf : ∀ (fn : Fn) (first cap : Array Value) (w : World), (Instr.makeFunc fn first cap).run Try.prog w = .ok (.func fn first cap) w := fun _ _ _ _ => rfl
  have H8 := Lib.hid ht
  clear hF hlF hO hD hR
  obtain ⟨a0, a1, a2, a3, a4, a5, a6, a7, rfl⟩ := len8 ht
  clear ht
  simp only [bigV, iv, List.map_cons, List.map_nil] at HLK ⊢
  go_enter Try.func31, Try.ntmps31
  have HWX : Hid (∀ o p q : Obj, Below w.heap.size w (((w.alloc o).alloc p).alloc q)) := Lib.hid fun o p q => ((below_al w _).alloc (by simp) _).alloc (by simp <;> omega) _
  have HW1 : Hid (∀ p q : Obj, (((w.alloc (.cells #[.slice A n c] 33)).alloc p).alloc q).cell? ⟨w.heap.size, 0, none⟩ = some (.slice A n c)) := Lib.hid fun p q => keep_cell (keep_cell (by rw [blk_cell (blk11 w _)]; rfl) (below_al _ _)) (below_al _ _)
  have HW3 : Hid (∀ o p : Obj, (((w.alloc o).alloc p).alloc (.cells putZ 68)).heap[w.heap.size + 2]? = some (.cells putZ 68 (0, 0)) ∧ (((w.alloc o).alloc p).alloc (.cells putZ 68)).heap.size = w.heap.size + 3) := Lib.hid fun o p => by
    have h := blk11 ((w.alloc o).alloc p) (.cells putZ 68)
    exact ⟨by simpa using h, by simp⟩
  simp only [putZ] at HW3
  go_upto_region 2 with (go_at_call 36; refine (HLK.out _ (HWX.out _ _ _)).mono ?_; rintro e w2 ⟨vb, mp, mt, vi, rfl, hV⟩; have HV := Lib.hid hV; have HB := Lib.hid ((HWX.out _ _ _).trans (hV.hB.mono (by simp <;> omega))); have c5 := keep_cell (HW1.out _ _) hV.hB; have HPZ := Lib.hid (blk_below (HW3.out _ _).1 hV.hB (by simp)); clear hV)
  obtain ⟨W0, hW0, HV⟩ : ∃ W0 : World, W0.heap.size = w.heap.size + 3 ∧ Hid (Vw W0 w2 A n c D [a0, a1, a2, a3, a4, a5, a6, a7] vb mp mt 1096 1096 (innD D [a0, a1, a2, a3, a4, a5, a6, a7]) vi) := ⟨_, by simp, HV⟩
  have HW0 := Lib.hid hW0
  clear hW0 HLK HW1 HW3 HWX
  have HP1 : Hid (∀ W, W.cell? ⟨w.heap.size, 0, none⟩ = some (.slice A n c) → Calls Try.prog 54 #[.int .i64 b, .pointer (some ⟨w.heap.size, 0, none⟩)] W fun e w' => e = .returned (.bool true) ∧ w' = W) := Lib.hid fun W h => (plan1_any b w.heap.size A n c W h).mono (by
    rintro e w' ⟨rfl, rfl⟩
    exact ⟨by simp [HO.out.b0, HO.out.b1], rfl⟩)
  have HP2 : Hid (∀ W (fb : Nat), W.cell? ⟨fb, 0, none⟩ = some (.func (.func 54) #[] #[.pointer (some ⟨w.heap.size, 0, none⟩)]) → W.cell? ⟨w.heap.size, 0, none⟩ = some (.slice A n c) → Rd W Af nf cf (iv .i64 F) →
      Calls Try.prog 55 #[.slice Af nf cf, .func (.func 56) #[] #[.pointer (some ⟨fb, 0, none⟩)]] W fun e w' => e = .returned (.bool false) ∧ ∃ q, w' = W.drewN q) := Lib.hid fun W fb h1 h2 h3 => (ContainsFunc_any 56 _ (enters_of Try.func56 (by kernel_rfl) rfl) _ Af nf cf F W h3 HLF.out (plan2_tells fb w.heap.size A n c F W h1 h2)).mono (by
    rintro e w' ⟨rfl, q, rfl⟩
    refine ⟨?_, q, rfl⟩
    congr 2
    rw [List.any_eq_false]
    intro x hx
    have := HO.out.f x hx
    simp [this.1, this.2])
  have hw2 : Hid (w.heap.size + 2 < w2.heap.size) := Lib.hid (Array.getElem?_eq_some_iff.1 HPZ.out).1
  go_upto_region 4 with (first
    | (go_at_call 37; (with_reducible refine (must_ok 2 _).mono ?_); rintro e W3 ⟨rfl, rfl⟩)
    | (go_at_call 54; refine (HP1.out _ (keep_cell c5 (below_al _ _))).mono ?_; rintro e w4 ⟨rfl, rfl⟩)
    | (go_at_call 55; refine (HP2.out _ w2.heap.size (by rw [blk_cell (blk11 w2 _)]; rfl) (keep_cell c5 (below_al _ _)) ((HF.out.below HB.out).below (below_al _ _))).mono ?_; rintro e w4 ⟨rfl, q, hq⟩; have hB3 : Below w2.heap.size w2 w4 := (by rw [hq]; exact Below.then_drewN (below_al w2 _) _); clear hq; have HB3 := Lib.hid (HB.out.trans (hB3.mono (by have := hw2.out; omega))); have HV3 := Lib.hid (HV.out.same hB3); have c5 := keep_cell c5 hB3; have HPZ3 := Lib.hid (blk_below HPZ.out hB3 (by have := hw2.out; omega)); clear hB3))
  clear HB HV HP1 HP2 HPZ
  obtain ⟨l, hl, hp⟩ := HV3.out.pl
  obtain ⟨l2, hl2, ht2⟩ := HV3.out.tk
  obtain ⟨c0, c9, c10, c11, ct, cz⟩ := HV3.out.cell rfl
  have HL2 := Lib.hid hl2
  have HT2 := Lib.hid ht2
  have HL2 := Lib.hid hl2
  have HT2 := Lib.hid ht2
  have hbne : b ≠ 0 := by have := HO.out.b0; omega
  have hlk0 := hl2.lookup (P := Try.prog) Try.underlying82 Try.underlying3 (zeroB W3) b
  rw [ht2.mark hbne] at hlk0
  have hpl := hl.lookup (P := Try.prog) Try.underlying80 Try.underlying3 (zeroI W3) (k : Int)
  rw [hp.at_ HO.out.hk] at hpl
  have HC0 := Lib.hid (Contains_any Af nf cf F b W3 (HF.out.below HB3.out) HLF.out)
  clear hl hp hl2 ht2 c0 c10 ct cz hbne
  generalize htk : tkB D [a0, a1, a2, a3, a4, a5, a6, a7] b = tk at *
  have HTK := Lib.hid htk
  clear htk
  cases tk with
  | true =>
    have HERR : Hid (errL D [a0, a1, a2, a3, a4, a5, a6, a7] k b F = 6) := Lib.hid (by unfold errL; rw [HTK.out]; simp)
    clear HC0 hpl
    go_wp2_with (go_at_call 37; (with_reducible refine (must_no 6 _).mono ?_); rintro e W3 ⟨rfl, rfl⟩)
    rw [HERR.out]
    simp [bodyPost, gives]
    exact HB3.out
  | false =>
    by_cases hbF : b ∈ F
    · have HERR : Hid (errL D [a0, a1, a2, a3, a4, a5, a6, a7] k b F = 6) := Lib.hid (by unfold errL; rw [decide_eq_true hbF]; simp)
      have HC := Lib.hid (HC0.out.mono (R' := fun e w' => e = .returned (.bool true) ∧ w' = W3) (by rintro e w' ⟨rfl, rfl⟩; exact ⟨by simp [hbF], rfl⟩))
      clear HC0 hpl hbF
      go_wp2_with (first
        | (go_at_call 37; (with_reducible refine (must_no 6 _).mono ?_); rintro e W3 ⟨rfl, rfl⟩)
        | (go_at_call 57; refine HC.out.mono ?_; rintro e W3 ⟨rfl, rfl⟩))
      rw [HERR.out]
      simp [bodyPost, gives]
      exact HB3.out
    · have HC := Lib.hid (HC0.out.mono (R' := fun e w' => e = .returned (.bool false) ∧ w' = W3) (by rintro e w' ⟨rfl, rfl⟩; exact ⟨by simp [hbF], rfl⟩))
      have HE2 : Hid (errL D [a0, a1, a2, a3, a4, a5, a6, a7] k b F = if ((List.range F.length).any (badF D [a0, a1, a2, a3, a4, a5, a6, a7] F)) = true then 6 else if atK D [a0, a1, a2, a3, a4, a5, a6, a7] k ≠ 0 then 12 else 0) := Lib.hid (by unfold errL; rw [HTK.out, decide_eq_false hbF]; simp)
      clear HC0 hbF
      go_upto_region 5 with (first
        | (go_at_call 37; (with_reducible refine (must_ok 6 _).mono ?_); rintro e W3 ⟨rfl, rfl⟩)
        | (go_at_call 57; refine HC.out.mono ?_; rintro e W3 ⟨rfl, rfl⟩))
      go_wp2
      go_loopw [13, 14, 68] (fun _ _ v wr => ∃ i : Nat, i ≤ nf ∧ v = .int .i64 i ∧ Hid (∀ j, j < i → badF D [a0, a1, a2, a3, a4, a5, a6, a7] F j = false) ∧ wr = W3) (fun _ _ v _ => nf - (Go.RowKit.intOf v).toNat)
      case atStart => exact ⟨0, by omega, rfl, fun j hj => by omega, rfl⟩
      case round =>
        obtain ⟨i, hi, rfl, HJ, rfl⟩ := hrel
        by_cases hlt : i < nf
        · have hil : i < F.length := by rw [HLF.out]; exact hlt
          obtain ⟨rb, ro, hAf, hrb, hrc⟩ := HF.out.form (by simp; omega)
          have hcx := hrc i (by simpa using hil)
          rw [iv_at] at hcx
          have hcy := keep_cell hcx HB3.out
          have hmem := List.getElem_mem hil
          have hF0 := HO.out.f _ hmem
          have hxe : F.getD i 0 = F[i] := by rw [List.getD_eq_getElem?_getD, List.getElem?_eq_getElem hil]; rfl
          have hlx := HL2.out.lookup (P := Try.prog) Try.underlying82 Try.underlying3 (zeroB wr) F[i]
          rw [HT2.out.mark (by omega)] at hlx
          have hrt := (HF.out.below HB3.out).upto i (by omega)
          have e : (iv .i64 F).take i = iv .i64 (F.take i) := by simp [iv, List.map_take]
          rw [e] at hrt
          have HCX0 := Lib.hid (Contains_any Af i cf (F.take i) F[i] wr hrt (by simp; omega))
          have HBF : Hid (badF D [a0, a1, a2, a3, a4, a5, a6, a7] F i = (tkB D [a0, a1, a2, a3, a4, a5, a6, a7] F[i] || decide (F[i] ∈ F.take i))) := Lib.hid (by unfold badF; rw [hxe])
          clear hrc hcx hmem hrt e HC hlk0 hpl hxe hF0
          generalize F[i] = x at *
          subst hAf
          have hbad : badF D [a0, a1, a2, a3, a4, a5, a6, a7] F i = true → errL D [a0, a1, a2, a3, a4, a5, a6, a7] k b F = 6 := fun h => by rw [HE2.out, if_pos (List.any_eq_true.2 ⟨i, List.mem_range.2 hil, h⟩)]
          have HBAD := Lib.hid hbad
          clear hbad
          generalize htx : tkB D [a0, a1, a2, a3, a4, a5, a6, a7] x = tx at *
          clear htx
          cases tx with
          | true =>
            go_wp2_with (go_at_call 37; (with_reducible refine (must_no 6 _).mono ?_); rintro e W3 ⟨rfl, rfl⟩)
            rw [HBAD.out (by rw [HBF.out]; rfl)]
            simp [bodyPost, gives]
            exact HB3.out
          | false =>
            by_cases hxF : x ∈ F.take i
            · have HCX := Lib.hid (HCX0.out.mono (R' := fun e w' => e = .returned (.bool true) ∧ w' = wr) (by rintro e w' ⟨rfl, rfl⟩; exact ⟨by simp [hxF], rfl⟩))
              have HB1 := Lib.hid (HBAD.out (by rw [HBF.out, decide_eq_true hxF]; rfl))
              clear hxF HCX0
              go_wp2_with (first
                | (go_at_call 37; (with_reducible refine (must_no 6 _).mono ?_); rintro e W3 ⟨rfl, rfl⟩)
                | (go_at_call 57; refine HCX.out.mono ?_; rintro e W3 ⟨rfl, rfl⟩))
              rw [HB1.out]
              simp [bodyPost, gives]
              exact HB3.out
            · have HCX := Lib.hid (HCX0.out.mono (R' := fun e w' => e = .returned (.bool false) ∧ w' = wr) (by rintro e w' ⟨rfl, rfl⟩; exact ⟨by simp [hxF], rfl⟩))
              have HB1 : Hid (badF D [a0, a1, a2, a3, a4, a5, a6, a7] F i = false) := Lib.hid (by rw [HBF.out, decide_eq_false hxF]; rfl)
              clear hxF HCX0
              go_wp2_with (first
                | (go_at_call 37; (with_reducible refine (must_ok 6 _).mono ?_); rintro e W3 ⟨rfl, rfl⟩)
                | (go_at_call 57; refine HCX.out.mono ?_; rintro e W3 ⟨rfl, rfl⟩))
              exact ⟨⟨i + 1, by omega, by go_num, fun j hj => (if h : j = i then h ▸ HB1.out else HJ.out j (by omega)), by simp⟩, by simp [Go.RowKit.intOf]; omega⟩
        · have hat : errL D [a0, a1, a2, a3, a4, a5, a6, a7] k b F = if atK D [a0, a1, a2, a3, a4, a5, a6, a7] k ≠ 0 then 12 else 0 := by
            rw [HE2.out, if_neg]
            intro h
            obtain ⟨j, hj, hb⟩ := List.any_eq_true.1 h
            rw [HJ.out j (by have := List.mem_range.1 hj; have := HLF.out; omega)] at hb
            cases hb
          have hne : ¬ (atK D [a0, a1, a2, a3, a4, a5, a6, a7] k = 0) := fun h => HER.out (by rw [hat, if_neg (by simpa using h)])
          have HERR : Hid (errL D [a0, a1, a2, a3, a4, a5, a6, a7] k b F = 12) := Lib.hid (by rw [hat, if_pos hne])
          clear HC hlk0 HL2 HT2 hat
          have hbe : (atK D [a0, a1, a2, a3, a4, a5, a6, a7] k == 0) = false := by simpa using hne
          generalize atK D [a0, a1, a2, a3, a4, a5, a6, a7] k = ak at hpl hbe
          clear hne
          go_wp2_with (go_at_call 37; (with_reducible refine (must_no 12 _).mono ?_); rintro e W3 ⟨rfl, rfl⟩)
          rw [HERR.out]
          simp [bodyPost, gives]
          exact HB3.out
end Go.Proofs.Ytcgfoaihfncppaa
/- Walks of big: plan and Put, wherever they are asked rightly. -/
set_option linter.unusedSimpArgs false
set_option linter.unusedVariables false
namespace Go.Proofs.Ytcgfoaihfncppaa
open Go.RowKit Go.Sel Go.Sel.Gra Go.Sel.Bg Go.Sel.Mer Go.Shelf

/-- The patches that Put writes. -/
def planL (D : List (List Int)) (t : List Int) (k : Nat) (b : Int) (F : List Int) : List It :=
  if k < 6 then []
  else if k < 38 then (if tp t 6 = 0 then [⟨f0 F, 0, strOfNums (pt (k - 6) b), []⟩] else [⟨tp t 6, (k : Int) - 6, strOfNums [b], []⟩])
  else if tp t 7 = 0 then [⟨f0 F, 0, strOfNums (pt ((k - 38) / 32) (f1 F)), []⟩, ⟨f1 F, 0, strOfNums (pt ((k - 38) % 32) b), []⟩]
  else if val D t (lf k) = 0 then [⟨f0 F, 0, strOfNums (pt ((k - 38) % 32) b), []⟩, ⟨tp t 7, Nat.cast ((k - 38) / 32), strOfNums [f0 F], [0]⟩]
  else [⟨val D t (lf k), Nat.cast ((k - 38) % 32), strOfNums [b], []⟩]

theorem spl_all {row s : List Int} (h : row.length = s.length) : spl row 0 s = s := by
  simp [spl, ← h]
theorem spl_one {row : List Int} {i : Nat} {x : Int} (h : i < row.length) : spl row i [x] = row.set i x := by
  rw [spl, List.set_eq_take_append_cons_drop, if_pos h]
  simp
theorem set_get {D : List (List Int)} {i : Nat} (h : i < D.length) (r r' : List Int) : (D.set i r).set i r' = D.set i r' := by simp
theorem nth_set {D : List (List Int)} {i j : Nat} (r : List Int) (h : i < D.length) : nth (D.set i r) j = if i = j then r else nth D j := by
  simp only [nth, List.getD_eq_getElem?_getD, List.getElem?_set]
  by_cases e : i = j
  · subst e; simp [h]
  · simp [e]
theorem two_le {F : List Int} (h : 2 ≤ F.length) : ∃ F', F = f0 F :: f1 F :: F' := by
  match F, h with
  | a :: b :: F', _ => exact ⟨F', rfl⟩
/-- What the patches do. -/
theorem applyL_plan {D : List (List Int)} {t : List Int} {k : Nat} {b : Int} {F : List Int} (hR : Rt D t) (ht : t.length = 8) (hO : OkPut D t D.length k b F) (hF : 2 ≤ F.length) :
    applyL D (planL D t k b F) (planL D t k b F).length = (putL D t k b F).1 ∧ ∀ x ∈ planL D t k b F, prightB x = true ∧ x.b < D.length := by
  have hk := hO.hk
  have m0 : f0 F ∈ F := by unfold f0; rw [List.getD_eq_getElem?_getD, List.getElem?_eq_getElem (by omega)]; exact List.getElem_mem _
  have m1 : f1 F ∈ F := by unfold f1; rw [List.getD_eq_getElem?_getD, List.getElem?_eq_getElem (by omega)]; exact List.getElem_mem _
  have n01 : f1 F ≠ f0 F := by
    unfold f0 f1
    rw [List.getD_eq_getElem?_getD, List.getD_eq_getElem?_getD, List.getElem?_eq_getElem (show 0 < F.length by omega), List.getElem?_eq_getElem (show 1 < F.length by omega)]
    have := List.pairwise_iff_getElem.1 hO.nd 0 1 (by omega) (by omega) (by omega)
    simpa using fun e => this e.symm
  have g0 := hO.f _ m0
  have g1 := hO.f _ m1
  have gb := hO.b0
  have gb' := hO.b1
  have h96 := hR.1.1
  have hrow : ∀ i, i < D.length → (nth D i).length = 32 := fun i hi => by rw [nth_get hi]; exact hR.1.2 _ (List.getElem_mem hi)
  have hpt : ∀ s (x : Int), 0 ≤ x → x ≤ 255 → nums (strOfNums (pt s x)) = pt s x := fun s x h1 h2 => nums_strOfNums (pt_byte s x h1 h2)
  have h1 : ∀ x : Int, 0 ≤ x → x ≤ 255 → nums (strOfNums [x]) = [x] := fun x h1 h2 => nums_strOfNums (fun y hy => by simp at hy; omega)
  have hsz : ∀ (l : List Int), (strOfNums l).size = l.length := fun l => by
    have := congrArg List.length (strOfNums_data l)
    rw [Array.length_toList, List.length_map] at this
    exact this
  have hpr : ∀ (x : Int) s (y : Int) ds, 0 ≤ x → x < D.length → prightB ⟨x, 0, strOfNums (pt s y), ds⟩ = true := fun x s y ds h0 hx => by
    rw [pright_iff]
    simp only [hsz, pt_len]
    omega
  have hp1 : ∀ (x : Int) (i : Nat) (y : Int) ds, 0 ≤ x → x < D.length → i < 32 → prightB ⟨x, (i : Int), strOfNums [y], ds⟩ = true := fun x i y ds h0 hx hi => by
    rw [pright_iff]
    simp only [hsz, List.length_cons, List.length_nil]
    omega
  have hz0 : zrow.length = 32 := by simp [zrow]
  have hptz : ∀ s x, zrow.set s x = pt s x := fun s x => rfl
  unfold planL putL
  by_cases h6 : k < 6
  · rw [if_pos h6, if_pos h6]
    exact ⟨rfl, fun x hx => by simp at hx⟩
  · rw [if_neg h6, if_neg h6]
    by_cases h38 : k < 38
    · obtain ⟨e, ep, es⟩ := posK_mid h6 h38
      rw [if_pos h38, if_pos h38]
      by_cases ht6 : tp t 6 = 0
      · rw [if_pos ht6, if_pos ht6]
        refine ⟨?_, fun x hx => ?_⟩
        · have hv : val (D.set (f0 F).toNat zrow) (t.set 6 (f0 F)) 6 = f0 F := by
            rw [val_top _ _ (by omega)]
            simp [tp, ht]
          simp only [applyL, List.length_cons, List.length_nil, List.take, List.foldl_cons, List.foldl_nil]
          have hz : Int.toNat 0 = 0 := rfl
          rw [setD, ep, es, hv, hpt _ _ (by omega) (by omega), hz, spl_all (by rw [hrow _ (by omega), pt_len])]
          have e1 : (D.set (f0 F).toNat zrow).getD (f0 F).toNat [] = zrow := by
            simp [List.getD_eq_getElem?_getD, show (f0 F).toNat < D.length by omega]
          rw [e1, set_get (by omega)]
          rfl
        · simp only [List.mem_singleton] at hx
          subst hx
          exact ⟨hpr _ _ _ _ (by omega) (by omega), by simp only; omega⟩
      · rw [if_neg ht6, if_neg ht6]
        have hb := hR.2.1 6 (by omega)
        rw [val_top _ _ (by omega)] at hb
        refine ⟨?_, fun x hx => ?_⟩
        · simp only [applyL, List.length_cons, List.length_nil, List.take, List.foldl_cons, List.foldl_nil]
          rw [setD, ep, es, val_top _ _ (by omega), h1 _ (by omega) (by omega)]
          have e2 : ((k : Int) - 6).toNat = k - 6 := by omega
          rw [e2, spl_one (by rw [hrow _ (by omega)]; omega)]
          rfl
        · simp only [List.mem_singleton] at hx
          subst hx
          have e2 : ((k : Int) - 6) = ((k - 6 : Nat) : Int) := by omega
          refine ⟨?_, by simp only; omega⟩
          rw [e2]
          exact hp1 _ _ _ _ (by omega) (by omega) (by omega)
    · obtain ⟨e, ep, es, hni⟩ := posK_hi h38
      obtain ⟨l8, ll, lp, ls, li⟩ := lf_at hk
      rw [if_neg h38, if_neg h38]
      by_cases ht7 : tp t 7 = 0
      · rw [if_pos ht7, if_pos ht7]
        refine ⟨?_, fun x hx => ?_⟩
        · have hv : ∀ D', val D' (t.set 7 (f0 F)) 7 = f0 F := fun D' => by
            rw [val_top _ _ (by omega)]
            simp [tp, ht]
          have hl0 : ((D.set (f0 F).toNat zrow).set (f1 F).toNat zrow).getD (f0 F).toNat [] = zrow := by
            show nth _ _ = _
            rw [nth_set _ (by rw [List.length_set]; omega), nth_set _ (by omega), if_neg (by omega), if_pos rfl]
          have hvl : val (setD ((D.set (f0 F).toNat zrow).set (f1 F).toNat zrow) (t.set 7 (f0 F)) (lf k) (f1 F)) (t.set 7 (f0 F)) (lf k) = f1 F := by
            rw [val_par _ _ l8 ll, lp, ls, hv, if_neg (by omega), setD, lp, ls, hv, hl0]
            rw [at2_set _ _ _ _ _ (by simp; omega), if_pos rfl]
            rw [List.getD_eq_getElem?_getD, List.getElem?_set_self (by rw [hz0]; omega)]
            rfl
          simp only [applyL, List.length_cons, List.length_nil, List.take, List.foldl_cons, List.foldl_nil]
          rw [setD, ep, es, hvl, hpt _ _ (by omega) (by omega), hpt _ _ (by omega) (by omega)]
          have hz : Int.toNat 0 = 0 := rfl
          rw [hz, spl_all (by rw [hrow _ (by omega), pt_len])]
          rw [spl_all (by rw [nth_set _ (by omega), if_neg (by omega), hrow _ (by omega), pt_len])]
          rw [setD, lp, ls, hv, hl0]
          have e3 : (((D.set (f0 F).toNat zrow).set (f1 F).toNat zrow).set (f0 F).toNat (zrow.set ((k - 38) / 32) (f1 F))).getD (f1 F).toNat [] = zrow := by
            show nth _ _ = _
            rw [nth_set _ (by simp; omega), if_neg (by omega), nth_set _ (by simp; omega), if_pos rfl]
          rw [e3, List.set_comm (zrow.set ((k - 38) / 32) (f1 F)) zrow (show (f0 F).toNat ≠ (f1 F).toNat by omega) |>.symm |> fun h => h]
          simp only [List.set_set, hptz]
        · simp only [List.mem_cons, List.not_mem_nil, or_false] at hx
          rcases hx with rfl | rfl
          · exact ⟨hpr _ _ _ _ (by omega) (by omega), by simp only; omega⟩
          · exact ⟨hpr _ _ _ _ (by omega) (by omega), by simp only; omega⟩
      · rw [if_neg ht7, if_neg ht7]
        have hb := hR.2.1 7 (by omega)
        rw [val_top _ _ (by omega)] at hb
        by_cases hl : val D t (lf k) = 0
        · rw [if_pos hl, if_pos hl]
          have hne7 : (tp t 7).toNat ≠ (f0 F).toNat := fun e => by
            have := hO.nf _ m0 7 (by omega)
            rw [val_top _ _ (by omega)] at this
            omega
          refine ⟨?_, fun x hx => ?_⟩
          · have hvl : val (setD (D.set (f0 F).toNat zrow) t (lf k) (f0 F)) t (lf k) = f0 F := by
              rw [val_par _ _ l8 ll, lp, ls, val_top _ _ (by omega), if_neg ht7, setD, lp, ls, val_top _ _ (by omega)]
              rw [at2_set _ _ _ _ _ (by simp; omega), if_pos rfl]
              have e4 : (D.set (f0 F).toNat zrow).getD (tp t 7).toNat [] = nth D (tp t 7).toNat := by
                show nth _ _ = _
                rw [nth_set _ (by omega), if_neg (fun e => hne7 e.symm)]
              have hl' := hrow (tp t 7).toNat (by omega)
              rw [e4, List.getD_eq_getElem?_getD, List.getElem?_set_self (by omega)]
              rfl
            simp only [applyL, List.length_cons, List.length_nil, List.take, List.foldl_cons, List.foldl_nil]
            have hz : Int.toNat 0 = 0 := rfl
            have hzc : ∀ m : Nat, (Nat.cast m : Int).toNat = m := fun m => by simp
            rw [setD, ep, es, hvl, hpt _ _ (by omega) (by omega), h1 _ (by omega) (by omega), hz, hzc, spl_all (by rw [hrow _ (by omega), pt_len])]
            have e5 : nth (D.set (f0 F).toNat (pt ((k - 38) % 32) b)) (tp t 7).toNat = nth D (tp t 7).toNat := by rw [nth_set _ (by omega), if_neg (fun e => hne7 e.symm)]
            rw [e5, spl_one (by rw [hrow _ (by omega)]; omega), setD, lp, ls, val_top _ _ (by omega)]
            have e4 : (D.set (f0 F).toNat zrow).getD (tp t 7).toNat [] = nth D (tp t 7).toNat := by
              show nth _ _ = _
              rw [nth_set _ (by omega), if_neg (fun e => hne7 e.symm)]
            have e6 : ((D.set (f0 F).toNat zrow).set (tp t 7).toNat ((nth D (tp t 7).toNat).set ((k - 38) / 32) (f0 F))).getD (f0 F).toNat [] = zrow := by
              show nth _ _ = _
              rw [nth_set _ (by simp; omega), if_neg hne7, nth_set _ (by omega), if_pos rfl]
            rw [e4, e6, hptz, List.set_comm _ _ hne7]
            simp only [List.set_set]
          · simp only [List.mem_cons, List.not_mem_nil, or_false] at hx
            rcases hx with rfl | rfl
            · exact ⟨hpr _ _ _ _ (by omega) (by omega), by simp only; omega⟩
            · exact ⟨hp1 _ _ _ _ (by omega) (by omega) (by omega), by simp only; omega⟩
        · rw [if_neg hl, if_neg hl]
          have hbl := hR.2.1 (lf k) ll
          refine ⟨?_, fun x hx => ?_⟩
          · simp only [applyL, List.length_cons, List.length_nil, List.take, List.foldl_cons, List.foldl_nil]
            have hzc : ∀ m : Nat, (Nat.cast m : Int).toNat = m := fun m => by simp
            rw [setD, ep, es, h1 _ (by omega) (by omega), hzc, spl_one (by rw [hrow _ (by omega)]; omega)]
            rfl
          · simp only [List.mem_singleton] at hx
            subst hx
            exact ⟨hp1 _ _ _ _ (by omega) (by omega) (by omega), by simp only; omega⟩
theorem plan_any (A : Option Addr) (n c : Nat) (D : List (List Int)) (t : List Int) (k : Nat) (b : Int) (Af : Option Addr) (nf cf : Nat) (F : List Int) (hF2 : 2 ≤ F.length) (ht : t.length = 8) (w : World) (hD : Bp w A n c D) (hR : Rt D t) (hF : Rd w Af nf cf (iv .i64 F)) (hlF : F.length = nf) (hO : OkPut D t n k b F) :
    Calls Try.prog 31 #[.slice A n c, bigV t, .int .i64 (k : Int), .int .i64 b, .slice Af nf cf] w fun e w' => ∃ Ai ci, e = .returned (.agg (putC (putL D t k b F).2.1 (.slice Ai (planL D t k b F).length ci) ((putL D t k b F).2.2 : Nat))) ∧ PI w.heap.size w' (.slice Ai (planL D t k b F).length ci) (planL D t k b F).length (planL D t k b F) ∧ Below w.heap.size w w' := by
  obtain ⟨F', hFe⟩ := two_le hF2
  unfold planL putL
  by_cases h6 : k < 6
  · rw [if_pos h6, if_pos h6]
    exact plan_1 A n c D t k b Af nf cf F F' _ _ hFe ht w hD hR hF hlF hO h6
  · rw [if_neg h6, if_neg h6]
    by_cases h38 : k < 38
    · rw [if_pos h38, if_pos h38]
      by_cases ht6 : tp t 6 = 0
      · rw [if_pos ht6, if_pos ht6]
        exact plan_20 A n c D t k b Af nf cf F F' _ _ hFe ht w hD hR hF hlF hO h6 h38 ht6
      · rw [if_neg ht6, if_neg ht6]
        exact plan_21 A n c D t k b Af nf cf F F' _ _ hFe ht w hD hR hF hlF hO h6 h38 ht6
    · rw [if_neg h38, if_neg h38]
      by_cases ht7 : tp t 7 = 0
      · rw [if_pos ht7, if_pos ht7]
        exact plan_30 A n c D t k b Af nf cf F F' _ _ hFe ht w hD hR hF hlF hO (by omega) ht7
      · rw [if_neg ht7, if_neg ht7]
        by_cases hl : val D t (lf k) = 0
        · rw [if_pos hl, if_pos hl]
          exact plan_31 A n c D t k b Af nf cf F F' _ _ hFe ht w hD hR hF hlF hO (by omega) ht7 hl
        · rw [if_neg hl, if_neg hl]
          exact plan_32 A n c D t k b Af nf cf F F' _ _ hFe ht w hD hR hF hlF hO (by omega) ht7 hl
/-- Put, where it is asked rightly. -/
theorem Put_any (A : Option Addr) (n c : Nat) (D : List (List Int)) (t : List Int) (k : Nat) (b : Int) (Af : Option Addr) (nf cf : Nat) (F : List Int) (hF2 : 2 ≤ F.length) (ht : t.length = 8) (w : World) (hD : Bp w A n c D) (hR : Rt D t) (hF : Rd w Af nf cf (iv .i64 F)) (hlF : F.length = nf) (hO : OkPut D t n k b F) :
    Calls Try.prog 13 #[.slice A n c, bigV t, .int .i64 (k : Int), .int .i64 b, .slice Af nf cf] w fun e w' => (∃ Ao co, e = .returned (.tuple #[.slice Ao n co, bigV (putL D t k b F).2.1, .int .i64 ((putL D t k b F).2.2 : Nat), .int .i64 0]) ∧ Wb w.heap.size w' Ao n co (putL D t k b F).1) ∧ Below w.heap.size w w' := by
  have hn := hD.len
  obtain ⟨h1, h2⟩ := applyL_plan hR ht (hn ▸ hO) hF2
  have := Put_ok A n c D t k b Af nf cf (putL D t k b F).2.1 (planL D t k b F) (planL D t k b F).length ((putL D t k b F).2.2 : Nat) ht ((putL_len D t k b F).2.1.trans ht) w hD (by rw [← hn]; exact hR.1.1) hR.1 (fun x hx => by rw [← hn]; exact h2 x hx)
    (fun W hB => plan_any A n c D t k b Af nf cf F hF2 ht W (hD.below hB) hR (hF.below hB) hlF hO)
  rw [h1] at this
  exact this
end Go.Proofs.Ytcgfoaihfncppaa
/- Walks of big: Put where it is refused; Patches. -/
set_option linter.unusedSimpArgs false
set_option linter.unusedVariables false
namespace Go.Proofs.Ytcgfoaihfncppaa
open Go.RowKit Go.Sel Go.Sel.Gra Go.Sel.Bg Go.Sel.Mer Go.Shelf

theorem Put1_no (A : Option Addr) (n c : Nat) (t : List Int) (k b : Int) (Af : Option Addr) (nf cf : Nat) (why : Int) (ht : t.length = 8) (w : World) (b0 b1 b2 b3 b4 : Nat) (p5 p6 p7 : Value)
    (h0 : w.cell? ⟨b0, 0, none⟩ = some (.slice A n c)) (h1 : boxB w b1 t) (h2 : boxI w b2 k) (h3 : boxI w b3 b) (h4 : w.cell? ⟨b4, 0, none⟩ = some (.slice Af nf cf))
    (hP : Calls Try.prog 31 #[.slice A n c, bigV t, .int .i64 k, .int .i64 b, .slice Af nf cf] w fun e w' => e = .panicked (gives why) ∧ Below w.heap.size w w') :
    Calls Try.prog 30 #[.pointer (some ⟨b0, 0, none⟩), .pointer (some ⟨b1, 0, none⟩), .pointer (some ⟨b2, 0, none⟩), .pointer (some ⟨b3, 0, none⟩), .pointer (some ⟨b4, 0, none⟩), p5, p6, p7] w fun e w' => e = .panicked (gives why) ∧ Below w.heap.size w w' := by
  have HP := Lib.hid hP
  have c2 := h2.cell
  have c3 := h3.cell
  obtain ⟨a0, a1, a2, a3, a4, a5, a6, a7, rfl⟩ := len8 ht
  obtain ⟨d0, d1, d2, d3, d4, d5, d6, d7⟩ := big8 h1
  simp only [bigV, iv, List.map_cons, List.map_nil] at HP
  clear hP ht h1 h2 h3
  go_enter Try.func30, Try.ntmps30
  go_wp2_with (go_at_call 31; refine HP.out.mono ?_; rintro e W1 ⟨rfl, hB⟩; have HB := Lib.hid hB; clear hB)
  simp [bodyPost, gives]
  exact HB.out
theorem Patches1_no (A : Option Addr) (n c : Nat) (t : List Int) (k b : Int) (Af : Option Addr) (nf cf : Nat) (why : Int) (ht : t.length = 8) (w : World) (b0 b1 b2 b3 b4 : Nat) (p5 : Value)
    (h0 : w.cell? ⟨b0, 0, none⟩ = some (.slice A n c)) (h1 : boxB w b1 t) (h2 : boxI w b2 k) (h3 : boxI w b3 b) (h4 : w.cell? ⟨b4, 0, none⟩ = some (.slice Af nf cf))
    (hP : Calls Try.prog 31 #[.slice A n c, bigV t, .int .i64 k, .int .i64 b, .slice Af nf cf] w fun e w' => e = .panicked (gives why) ∧ Below w.heap.size w w') :
    Calls Try.prog 41 #[.pointer (some ⟨b0, 0, none⟩), .pointer (some ⟨b1, 0, none⟩), .pointer (some ⟨b2, 0, none⟩), .pointer (some ⟨b3, 0, none⟩), .pointer (some ⟨b4, 0, none⟩), p5] w fun e w' => e = .panicked (gives why) ∧ Below w.heap.size w w' := by
  have HP := Lib.hid hP
  have c2 := h2.cell
  have c3 := h3.cell
  obtain ⟨a0, a1, a2, a3, a4, a5, a6, a7, rfl⟩ := len8 ht
  obtain ⟨d0, d1, d2, d3, d4, d5, d6, d7⟩ := big8 h1
  simp only [bigV, iv, List.map_cons, List.map_nil] at HP
  clear hP ht h1 h2 h3
  go_enter Try.func41, Try.ntmps41
  go_wp2_with (go_at_call 31; refine HP.out.mono ?_; rintro e W1 ⟨rfl, hB⟩; have HB := Lib.hid hB; clear hB)
  simp [bodyPost, gives]
  exact HB.out
set_option maxRecDepth 100000 in
set_option maxHeartbeats 1000000 in
theorem Patches1_ok (A : Option Addr) (n c : Nat) (t : List Int) (k b : Int) (Af : Option Addr) (nf cf : Nat) (t' : List Int) (L : List It) (m : Nat) (u : Int) (ht : t.length = 8) (ht' : t'.length = 8) (w : World) (b0 b1 b2 b3 b4 b5 : Nat)
    (h0 : w.cell? ⟨b0, 0, none⟩ = some (.slice A n c)) (h1 : boxB w b1 t) (h2 : boxI w b2 k) (h3 : boxI w b3 b) (h4 : w.cell? ⟨b4, 0, none⟩ = some (.slice Af nf cf)) (h5 : w.heap[b5]? = some (.cells #[.slice none 0 0] 51 (0, 0)))
    (hP : Calls Try.prog 31 #[.slice A n c, bigV t, .int .i64 k, .int .i64 b, .slice Af nf cf] w fun e w' => ∃ Ai ci, e = .returned (.agg (putC t' (.slice Ai m ci) u)) ∧ PI w.heap.size w' (.slice Ai m ci) m L ∧ Below w.heap.size w w') :
    Calls Try.prog 41 #[.pointer (some ⟨b0, 0, none⟩), .pointer (some ⟨b1, 0, none⟩), .pointer (some ⟨b2, 0, none⟩), .pointer (some ⟨b3, 0, none⟩), .pointer (some ⟨b4, 0, none⟩), .pointer (some ⟨b5, 0, none⟩)] w fun e w' => e = .returned (.tuple #[]) ∧ Fr (· = b5) w w' ∧ ∃ Ai ci, w'.heap[b5]? = some (.cells #[.slice Ai m ci] 51 (0, 0)) ∧ PI w.heap.size w' (.slice Ai m ci) m L := by
  have HP := Lib.hid hP
  have c2 := h2.cell
  have c3 := h3.cell
  have H5 := Lib.hid h5
  have l5 := (Array.getElem?_eq_some_iff.1 h5).1
  obtain ⟨a0, a1, a2, a3, a4, a5, a6, a7, rfl⟩ := len8 ht
  obtain ⟨z0, z1, z2, z3, z4, z5, z6, z7, rfl⟩ := len8 ht'
  obtain ⟨d0, d1, d2, d3, d4, d5, d6, d7⟩ := big8 h1
  simp only [bigV, putC, iv, List.map_cons, List.map_nil, List.cons_append, List.nil_append] at HP
  clear hP ht ht' h1 h2 h3 h5
  have hfd : ∀ (A : Option Addr) (m c : Nat) (W : World), (Instr.field 68 (.agg #[.int .i64 z0, .int .i64 z1, .int .i64 z2, .int .i64 z3, .int .i64 z4, .int .i64 z5, .int .i64 z6, .int .i64 z7, .slice A m c, .int .i64 u]) 1).run Try.prog W = .ok (.slice A m c) W := fun A m c W => by kernel_rfl
  go_enter Try.func41, Try.ntmps41
  go_wp2_with (go_at_call 31; refine HP.out.mono ?_; rintro e W1 ⟨Ai, ci, rfl, hI, hB⟩; have HI := Lib.hid hI; have HB := Lib.hid hB; have e5 := blk_below H5.out hB l5; have r5 := blk_cell e5 0; have z5' := blk_free e5 0; simp only [List.getElem?_toArray, List.getElem?_cons_zero] at r5; have E5 := Lib.hid e5; clear hI hB e5)
  go_end0
  refine ⟨rfl, Fr.setCell (S := (· = b5)) (fr_of_below HB.out _) (p := ⟨b5, 0, none⟩) (.inl rfl) _, Ai, ci, (blk_set E5.out 0 _).trans (by simp), ?_⟩
  obtain ⟨ss, i1, i2, i3, i4⟩ := HI.out
  refine ⟨ss, own_same i1 (fun j hj => Below.heap_setCell _ _ _ _ (fun e => by have := (i1.lt j hj).1; simp only at e; omega)), i2, i3, fun j hj => ⟨(i4 j hj).1, ?_⟩⟩
  refine ⟨(i4 j hj).2.le, (i4 j hj).2.cap, (i4 j hj).2.at_.imp id fun ⟨q, off, e, hc⟩ => ⟨q, off, e, fun i hi => ?_⟩⟩
  have h1 := hc i hi
  rw [iv_at] at h1 ⊢
  by_cases hq : q = b5
  · subst hq
    rw [blk_cell E5.out] at h1
    cases hoi : (off + i) with
    | zero => rw [hoi] at h1; simp at h1
    | succ m => rw [hoi] at h1; simp at h1
  · rw [World.cell?_of_block (a := ⟨q, off + i, none⟩) (Below.heap_setCell _ _ _ _ (fun e => hq e))]
    exact h1
/-- The attempt that Put makes in vain. -/
theorem Put_attno (A : Option Addr) (n c : Nat) (t : List Int) (k b : Int) (Af : Option Addr) (nf cf : Nat) (why : Int) (ht : t.length = 8) (w : World)
    (hP : ∀ W, Below w.heap.size w W → Calls Try.prog 31 #[.slice A n c, bigV t, .int .i64 k, .int .i64 b, .slice Af nf cf] W fun e w' => e = .panicked (gives why) ∧ Below W.heap.size W w')
    (W : World) (hW0 : W = allocs w (putBoxes A n c t k b Af nf cf)) :
    Calls Try.prog 29 #[.func (.func 30) #[] (putCap w.heap.size)] W fun e w' => e = .returned (.int .i64 why) ∧ Below w.heap.size w w' ∧ boxB w' (w.heap.size + 1 + 1 + 1 + 1 + 1 + 1) zB ∧ boxI w' (w.heap.size + 1 + 1 + 1 + 1 + 1 + 1 + 1) 0 ∧
      w'.heap[w.heap.size + 1 + 1 + 1 + 1 + 1]? = some (.cells #[.slice none 0 0] 33 (0, 0)) := by
  have hsz : W.heap.size = w.heap.size + 8 := by rw [hW0, allocs_size]; rfl
  have hBW : Below w.heap.size w W := hW0 ▸ allocs_below _ w
  have hat : ∀ i (h : i < (putBoxes A n c t k b Af nf cf).length), (W.alloc (.cells #[.int .i64 0] 24)).heap[w.heap.size + i]? = some (putBoxes A n c t k b Af nf cf)[i] := fun i h => by
    have h1 := allocs_at (putBoxes A n c t k b Af nf cf) w i h
    rw [← hW0] at h1
    exact blk_below h1 (below_al W _) (by rw [hsz]; simp [putBoxes] at h; omega)
  have hBV : Below w.heap.size w (W.alloc (.cells #[.int .i64 0] 24)) := hBW.alloc (by omega) _
  have g0 : (W.alloc (.cells #[.int .i64 0] 24)).heap[w.heap.size]? = _ := hat 0 (by simp [putBoxes])
  have g1 := hat 1 (by simp [putBoxes])
  have g2 := hat 2 (by simp [putBoxes])
  have g3 := hat 3 (by simp [putBoxes])
  have g4 := hat 4 (by simp [putBoxes])
  have g5 := hat 5 (by simp [putBoxes])
  have g6 := hat 6 (by simp [putBoxes])
  have g7 := hat 7 (by simp [putBoxes])
  have h5 := Put1_no A n c t k b Af nf cf why ht (W.alloc (.cells #[.int .i64 0] 24)) w.heap.size (w.heap.size + 1) (w.heap.size + 2) (w.heap.size + 3) (w.heap.size + 4) (.pointer (some ⟨w.heap.size + 5, 0, none⟩)) (.pointer (some ⟨w.heap.size + 6, 0, none⟩)) (.pointer (some ⟨w.heap.size + 7, 0, none⟩))
    (by rw [blk_cell g0]; rfl) g1 g2 g3 (by rw [blk_cell g4]; rfl) (hP _ hBV)
  have hatW : ∀ i (h : i < (putBoxes A n c t k b Af nf cf).length), W.heap[w.heap.size + i]? = some (putBoxes A n c t k b Af nf cf)[i] := fun i h => by
    have h1 := allocs_at (putBoxes A n c t k b Af nf cf) w i h
    rwa [← hW0] at h1
  have q5 := hatW 5 (by simp [putBoxes])
  have q6 := hatW 6 (by simp [putBoxes])
  have q7 := hatW 7 (by simp [putBoxes])
  refine (attempt_no 30 (putCap w.heap.size) (fun _ _ => by simp [go_sem]) why W (fun _ => False) (fun _ h => h.elim) (h5.mono ?_)).mono ?_
  · rintro e w' ⟨rfl, hF⟩
    exact ⟨rfl, fr_of_below hF _⟩
  · rintro e w' ⟨rfl, hF⟩
    have hk : ∀ {i : Nat} {o : Obj}, W.heap[i]? = some o → w'.heap[i]? = some o := fun h => (hF.block _ (Array.getElem?_eq_some_iff.1 h).1 (fun h => h)).trans h
    exact ⟨rfl, hBW.trans (hF.below (B := w.heap.size) hBW.size (fun _ h => h.elim)), hk q6, hk q7, hk q5⟩
set_option maxRecDepth 100000 in
set_option maxHeartbeats 2000000 in
theorem Put_bad (A : Option Addr) (n c : Nat) (D : List (List Int)) (t : List Int) (k b : Int) (Af : Option Addr) (nf cf : Nat) (why : Int) (ht : t.length = 8) (w : World)
    (hP : ∀ W, Below w.heap.size w W → Calls Try.prog 31 #[.slice A n c, bigV t, .int .i64 k, .int .i64 b, .slice Af nf cf] W fun e w' => e = .panicked (gives why) ∧ Below W.heap.size W w') :
    Calls Try.prog 13 #[.slice A n c, bigV t, .int .i64 k, .int .i64 b, .slice Af nf cf] w fun e w' => e = .returned (.tuple #[.slice none 0 0, bigV zB, .int .i64 0, .int .i64 why]) ∧ Below w.heap.size w w' := by
  have HX := Lib.hid (Put_attno A n c t k b Af nf cf why ht w hP)
  have hmf : ∀ (fn : Fn) (first cap : Array Value) (w : World), (Instr.makeFunc fn first cap).run Try.prog w = .ok (.func fn first cap) w := fun _ _ _ _ => rfl
  clear hP
  obtain ⟨a0, a1, a2, a3, a4, a5, a6, a7, rfl⟩ := len8 ht
  simp only [bigV, putCap, putBoxes, zB, allocs, iv, List.map_cons, List.map_nil] at HX ⊢
  clear ht
  go_enter Try.func13, Try.ntmps13
  go_upto_region 2 with (go_at_call 29; refine (HX.out _ rfl).mono ?_; rintro e w2 ⟨rfl, hB, hb6, hb7, hb5⟩; have HB := Lib.hid hB; have H5 := Lib.hid hb5; have H6 := Lib.hid hb6; have H7 := Lib.hid hb7; clear hB hb5 hb6 hb7)
  clear HX
  have HB2 : Hid (Below w.heap.size w w2.drew) := Lib.hid HB.out.drew
  have H5' : Hid (w2.drew.heap[w.heap.size + 1 + 1 + 1 + 1 + 1]? = some (.cells #[.slice none 0 0] 33 (0, 0))) := H5
  have H6' : Hid (w2.drew.heap[w.heap.size + 1 + 1 + 1 + 1 + 1 + 1]? = some (.cells #[.int .i64 0, .int .i64 0, .int .i64 0, .int .i64 0, .int .i64 0, .int .i64 0, .int .i64 0, .int .i64 0] 36 (0, 0))) := H6
  have H7' : Hid (w2.drew.heap[w.heap.size + 1 + 1 + 1 + 1 + 1 + 1 + 1]? = some (.cells #[.int .i64 0] 3 (0, 0))) := H7
  clear HB H5 H6 H7
  have f5 := blk_free H5'.out 0
  have f6 := blk_free H6'.out
  have f7 := blk_free H7'.out 0
  have s0 := blk_cell H5'.out 0
  have s9 := blk_cell H7'.out 0
  simp only [List.getElem?_toArray, List.getElem?_cons_zero] at s0 s9
  obtain ⟨s1, s2, s3, s4, s5, s6, s7, s8⟩ := big8 H6'.out
  have HS : At (fun w' : World => w'.cell? ⟨w.heap.size + 1 + 1 + 1 + 1 + 1, 0, none⟩ = some (.slice none 0 0) ∧ w'.cell? ⟨w.heap.size + 1 + 1 + 1 + 1 + 1 + 1, 0, none⟩ = some (.int .i64 0) ∧ w'.cell? ⟨w.heap.size + 1 + 1 + 1 + 1 + 1 + 1, 1, none⟩ = some (.int .i64 0) ∧ w'.cell? ⟨w.heap.size + 1 + 1 + 1 + 1 + 1 + 1, 2, none⟩ = some (.int .i64 0) ∧ w'.cell? ⟨w.heap.size + 1 + 1 + 1 + 1 + 1 + 1, 3, none⟩ = some (.int .i64 0) ∧ w'.cell? ⟨w.heap.size + 1 + 1 + 1 + 1 + 1 + 1, 4, none⟩ = some (.int .i64 0) ∧ w'.cell? ⟨w.heap.size + 1 + 1 + 1 + 1 + 1 + 1, 5, none⟩ = some (.int .i64 0) ∧ w'.cell? ⟨w.heap.size + 1 + 1 + 1 + 1 + 1 + 1, 6, none⟩ = some (.int .i64 0) ∧ w'.cell? ⟨w.heap.size + 1 + 1 + 1 + 1 + 1 + 1, 7, none⟩ = some (.int .i64 0) ∧ w'.cell? ⟨w.heap.size + 1 + 1 + 1 + 1 + 1 + 1 + 1, 0, none⟩ = some (.int .i64 0)) w2.drew := ⟨s0, s1, s2, s3, s4, s5, s6, s7, s8, s9⟩
  have E5 := Lib.hid (setCell_same H5'.out)
  have E7 := Lib.hid (setCell_same H7'.out)
  have E60 := Lib.hid (setCell_at H6'.out (j := 0) (v := .int .i64 0) rfl)
  have E61 := Lib.hid (setCell_at H6'.out (j := 1) (v := .int .i64 0) rfl)
  have E62 := Lib.hid (setCell_at H6'.out (j := 2) (v := .int .i64 0) rfl)
  have E63 := Lib.hid (setCell_at H6'.out (j := 3) (v := .int .i64 0) rfl)
  have E64 := Lib.hid (setCell_at H6'.out (j := 4) (v := .int .i64 0) rfl)
  have E65 := Lib.hid (setCell_at H6'.out (j := 5) (v := .int .i64 0) rfl)
  have E66 := Lib.hid (setCell_at H6'.out (j := 6) (v := .int .i64 0) rfl)
  have E67 := Lib.hid (setCell_at H6'.out (j := 7) (v := .int .i64 0) rfl)
  refine wp_region_lexD HS [0, 1, 2, 3, 7] (by kernel_rfl) (by kernel_rfl) (fun _ _ d _ _ h => by cases d <;> exact h) ?_
  generalize w2.drew = W3 at *
  refine lexD_take (by kernel_rfl) (by kernel_rfl) HS (fun w9 h9 => by obtain ⟨s0, s1, s2, s3, s4, s5, s6, s7, s8, s9⟩ := h9; go_simp; first | done | rfl) (fun K hK => ?_); go_simp; refine hK _ ?_; clear hK K
  refine lexD_take (by kernel_rfl) (by kernel_rfl) HS (fun w9 h9 => by obtain ⟨s0, s1, s2, s3, s4, s5, s6, s7, s8, s9⟩ := h9; go_simp; first | done | rfl) (fun K hK => ?_); go_simp; refine hK _ ?_; clear hK K
  refine lexD_take (by kernel_rfl) (by kernel_rfl) HS (fun w9 h9 => by obtain ⟨s0, s1, s2, s3, s4, s5, s6, s7, s8, s9⟩ := h9; go_simp; first | done | rfl) (fun K hK => ?_); go_simp; refine hK _ ?_; clear hK K
  refine lexD_take (by kernel_rfl) (by kernel_rfl) HS (fun w9 h9 => by obtain ⟨s0, s1, s2, s3, s4, s5, s6, s7, s8, s9⟩ := h9; go_simp; first | done | rfl) (fun K hK => ?_); go_simp; refine hK _ ?_; clear hK K

  refine lexD_do (by kernel_rfl) (by kernel_rfl) (fun K hK => ?_)
  go_simp
  rw [E5.out]
  refine hK _ _ (fun _ => HS) ?_
  clear hK K
  refine lexD_do (by kernel_rfl) (by kernel_rfl) (fun K hK => ?_)
  go_simp
  rw [E60.out, E61.out, E62.out, E63.out, E64.out, E65.out, E66.out, E67.out]
  refine hK _ _ (fun _ => HS) ?_
  clear hK K
  refine lexD_do (by kernel_rfl) (by kernel_rfl) (fun K hK => ?_)
  go_simp
  rw [E7.out]
  refine hK _ _ (fun _ => HS) ?_
  clear hK K
  refine lexD_take (by kernel_rfl) (by kernel_rfl) HS (fun w9 h9 => by obtain ⟨s0, s1, s2, s3, s4, s5, s6, s7, s8, s9⟩ := h9; go_simp; first | done | rfl) (fun K hK => ?_); go_simp; refine hK _ ?_; clear hK K

  refine lexD_nil ?_
  go_wp2
  refine bodyPost_ret (v := .tuple #[.slice none 0 0, .agg #[.int .i64 0, .int .i64 0, .int .i64 0, .int .i64 0, .int .i64 0, .int .i64 0, .int .i64 0, .int .i64 0], .int .i64 0, .int .i64 why]) ?_ rfl ?_
  · simp [results, Try.results13, go_sem, s0, s1, s2, s3, s4, s5, s6, s7, s8, s9]
  · exact ⟨rfl, HB2.out⟩
end Go.Proofs.Ytcgfoaihfncppaa
