/- Walks of big: plan, its other ways. PRINTED by wip/tools/gen_bgc.py out of plan_30. -/
import Derived.Test.YtcgfoaihfncppaaKBgS
import Derived.Test.YtcgfoaihfncppaaKBgO
set_option linter.unusedSimpArgs false
set_option linter.unusedVariables false
namespace Go.Proofs.Ytcgfoaihfncppaa
open Go.RowKit Go.Sel Go.Sel.Gra Go.Sel.Bg Go.Sel.Mer Go.Shelf

theorem fr10 (w : World) (B : Nat) (v0 v1 v2 v3 v4 v5 v6 v7 v8 v9 : Value) : Fr (· = B) w ((((((((((w.setCell ⟨B, 0, none⟩ v0).setCell ⟨B, 1, none⟩ v1).setCell ⟨B, 2, none⟩ v2).setCell ⟨B, 3, none⟩ v3).setCell ⟨B, 4, none⟩ v4).setCell ⟨B, 5, none⟩ v5).setCell ⟨B, 6, none⟩ v6).setCell ⟨B, 7, none⟩ v7).setCell ⟨B, 8, none⟩ v8).setCell ⟨B, 9, none⟩ v9) := by
  exact (Fr.setCell (S := (· = B)) (Fr.setCell (S := (· = B)) (Fr.setCell (S := (· = B)) (Fr.setCell (S := (· = B)) (Fr.setCell (S := (· = B)) (Fr.setCell (S := (· = B)) (Fr.setCell (S := (· = B)) (Fr.setCell (S := (· = B)) (Fr.setCell (S := (· = B)) (Fr.setCell (S := (· = B)) (Fr.refl _ w) (p := ⟨B, 0, none⟩) (.inl rfl) v0) (p := ⟨B, 1, none⟩) (.inl rfl) v1) (p := ⟨B, 2, none⟩) (.inl rfl) v2) (p := ⟨B, 3, none⟩) (.inl rfl) v3) (p := ⟨B, 4, none⟩) (.inl rfl) v4) (p := ⟨B, 5, none⟩) (.inl rfl) v5) (p := ⟨B, 6, none⟩) (.inl rfl) v6) (p := ⟨B, 7, none⟩) (.inl rfl) v7) (p := ⟨B, 8, none⟩) (.inl rfl) v8) (p := ⟨B, 9, none⟩) (.inl rfl) v9)

set_option maxRecDepth 100000 in
set_option maxHeartbeats 8000000 in
theorem plan_1 (A : Option Addr) (n c : Nat) (D : List (List Int)) (t : List Int) (k : Nat) (b : Int) (Af : Option Addr) (nf cf : Nat) (F F' : List Int) (f0 f1 : Int) (hFe : F = f0 :: f1 :: F') (ht : t.length = 8) (w : World) (hD : Bp w A n c D) (hR : Rt D t) (hF : Rd w Af nf cf (iv .i64 F)) (hlF : F.length = nf) (hO : OkPut D t n k b F) (hk6 : k < 6) :
    Calls Try.prog 31 #[.slice A n c, bigV t, .int .i64 (k : Int), .int .i64 b, .slice Af nf cf] w fun e w' => ∃ Ai ci, e = .returned (.agg (putC (t.set k b) (.slice Ai 0 ci) 0)) ∧ PI w.heap.size w' (.slice Ai 0 ci) 0 [] ∧ Below w.heap.size w w' := by

  have HFE := Lib.hid hFe
  have hn2 : 2 ≤ nf := by rw [← hlF, hFe]; simp
  clear hFe
  have HF := Lib.hid hF
  have HLF := Lib.hid hlF
  have HO := Lib.hid hO
  have HD := Lib.hid hD
  have HN96 : Hid (n ≤ 96) := Lib.hid (by rw [← hD.len]; exact hR.1.1)
  have hf1 := hF.le
  have hf2 := hF.cap
  have hk0 : (0 : Int) ≤ (k : Int) := by omega
  have hk1 : (k : Int) < 1062 := by have := hO.hk; omega
  have HLK : Hid (∀ W, Below w.heap.size w W → Calls Try.prog 36 #[.slice A n c, bigV t] W fun e w' => ∃ vb mp mt vi, e = .returned (.pointer (some ⟨vb, 0, none⟩)) ∧ Vw W w' A n c D t vb mp mt 1096 1096 (innD D t) vi) := Lib.hid fun W hB => look_ok A n c D t ht W (hD.below hB) hR
  have hmf : ∀ (fn : Fn) (first cap : Array Value) (w : World), (Instr.makeFunc fn first cap).run Try.prog w = .ok (.func fn first cap) w := fun _ _ _ _ => rfl
  have H8 := Lib.hid ht
  clear hF hlF hO hD hR
  obtain ⟨a0, a1, a2, a3, a4, a5, a6, a7, rfl⟩ := len8 ht
  clear ht

  simp only [bigV, iv, List.map_cons, List.map_nil] at HLK ⊢
  go_enter Try.func31, Try.ntmps31
  have HN2 := Lib.hid hn2
  clear hn2
  have HK6 := Lib.hid hk6
  clear hk6
  have HWX : Hid (∀ o p q : Obj, Below w.heap.size w (((w.alloc o).alloc p).alloc q)) := Lib.hid fun o p q => ((below_al w _).alloc (by simp) _).alloc (by simp <;> omega) _
  have HW1 : Hid (∀ p q : Obj, (((w.alloc (.cells #[.slice A n c] 33)).alloc p).alloc q).cell? ⟨w.heap.size, 0, none⟩ = some (.slice A n c)) := Lib.hid fun p q => keep_cell (keep_cell (by rw [blk_cell (blk11 w _)]; rfl) (below_al _ _)) (below_al _ _)
  have HW3 : Hid (∀ o p : Obj, (((w.alloc o).alloc p).alloc (.cells putZ 68)).heap[w.heap.size + 2]? = some (.cells putZ 68 (0, 0)) ∧ (((w.alloc o).alloc p).alloc (.cells putZ 68)).heap.size = w.heap.size + 3) := Lib.hid fun o p => by
    have h := blk11 ((w.alloc o).alloc p) (.cells putZ 68)
    exact ⟨by simpa using h, by simp⟩
  simp only [putZ] at HW3
  go_upto_region 2 with (go_at_call 36; refine (HLK.out _ (HWX.out _ _ _)).mono ?_; rintro e w2 ⟨vb, mp, mt, vi, rfl, hV⟩; have HV := Lib.hid hV; have HB := Lib.hid ((HWX.out _ _ _).trans (hV.hB.mono (by simp <;> omega))); have c5 := keep_cell (HW1.out _ _) hV.hB; have HPZ := Lib.hid (blk_below (HW3.out _ _).1 hV.hB (by simp)); clear hV)
  obtain ⟨W0, hW0, HV⟩ : ∃ W0 : World, W0.heap.size = w.heap.size + 3 ∧ Hid (Vw W0 w2 A n c D [a0, a1, a2, a3, a4, a5, a6, a7] vb mp mt 1096 1096 (innD D [a0, a1, a2, a3, a4, a5, a6, a7]) vi) := ⟨_, by simp, HV⟩
  have HW0 := Lib.hid hW0
  clear hW0 HLK HW1 HW3 HWX
  have HP1 : Hid (∀ W, W.cell? ⟨w.heap.size, 0, none⟩ = some (.slice A n c) → Calls Try.prog 54 #[.int .i64 b, .pointer (some ⟨w.heap.size, 0, none⟩)] W fun e w' => e = .returned (.bool true) ∧ w' = W) := Lib.hid fun W h => (plan1_any b w.heap.size A n c W h).mono (by
    rintro e w' ⟨rfl, rfl⟩
    exact ⟨by simp [HO.out.b0, HO.out.b1], rfl⟩)
  have HP2 : Hid (∀ W (fb : Nat), W.cell? ⟨fb, 0, none⟩ = some (.func (.func 54) #[] #[.pointer (some ⟨w.heap.size, 0, none⟩)]) → W.cell? ⟨w.heap.size, 0, none⟩ = some (.slice A n c) → Rd W Af nf cf (iv .i64 F) →
      Calls Try.prog 55 #[.slice Af nf cf, .func (.func 56) #[] #[.pointer (some ⟨fb, 0, none⟩)]] W fun e w' => e = .returned (.bool false) ∧ ∃ q, w' = W.drewN q) := Lib.hid fun W fb h1 h2 h3 => (ContainsFunc_any 56 _ (enters_of Try.func56 (by kernel_rfl) rfl) _ Af nf cf F W h3 HLF.out (plan2_tells fb w.heap.size A n c F W h1 h2)).mono (by
    rintro e w' ⟨rfl, q, rfl⟩
    refine ⟨?_, q, rfl⟩
    congr 2
    rw [List.any_eq_false]
    intro x hx
    have := HO.out.f x hx
    simp [this.1, this.2])
  have hw2 : Hid (w.heap.size + 2 < w2.heap.size) := Lib.hid (Array.getElem?_eq_some_iff.1 HPZ.out).1
  go_upto_region 4 with (first
    | (go_at_call 37; (with_reducible refine (must_ok 2 _).mono ?_); rintro e W3 ⟨rfl, rfl⟩)
    | (go_at_call 54; refine (HP1.out _ (keep_cell c5 (below_al _ _))).mono ?_; rintro e w4 ⟨rfl, rfl⟩)
    | (go_at_call 55; refine (HP2.out _ w2.heap.size (by rw [blk_cell (blk11 w2 _)]; rfl) (keep_cell c5 (below_al _ _)) ((HF.out.below HB.out).below (below_al _ _))).mono ?_; rintro e w4 ⟨rfl, q, hq⟩; have hB3 : Below w2.heap.size w2 w4 := (by rw [hq]; exact Below.then_drewN (below_al w2 _) _); clear hq; have HB3 := Lib.hid (HB.out.trans (hB3.mono (by have := hw2.out; omega))); have HV3 := Lib.hid (HV.out.same hB3); have c5 := keep_cell c5 hB3; have HPZ3 := Lib.hid (blk_below HPZ.out hB3 (by have := hw2.out; omega)); clear hB3))
  clear HB HV HP1 HP2 HPZ
  obtain ⟨l, hl, hp⟩ := HV3.out.pl
  obtain ⟨l2, hl2, ht2⟩ := HV3.out.tk
  obtain ⟨c0, c9, c10, c11, ct, cz⟩ := HV3.out.cell rfl
  have HL2 := Lib.hid hl2
  have HT2 := Lib.hid ht2
  have hlk : (Instr.lookup 82 (.map (some mt)) (.int .i64 b) false).run Try.prog W3 = .ok (.bool false) W3 := by
    rw [hl2.lookup (P := Try.prog) Try.underlying82 Try.underlying3 (zeroB W3) b, ht2.notIn HO.out.nb]; rfl
  have hpl : (Instr.lookup 80 (.map (some mp)) (.int .i64 (k : Int)) false).run Try.prog W3 = .ok (.int .i64 0) W3 := by
    rw [hl.lookup (P := Try.prog) Try.underlying80 Try.underlying3 (zeroI W3) (k : Int), hp.at_ HO.out.hk, HO.out.at_]
  have HC := Lib.hid ((Contains_any Af nf cf F b W3 (HF.out.below HB3.out) HLF.out).mono (R' := fun e w' => e = .returned (.bool false) ∧ w' = W3) (by rintro e w' ⟨rfl, rfl⟩; exact ⟨by have := HO.out.bF; simp [this], rfl⟩))
  clear hl hp hl2 ht2 c0 c10 ct cz
  go_upto_region 5 with (first
    | (go_at_call 37; (with_reducible refine (must_ok 6 _).mono ?_); rintro e W3 ⟨rfl, rfl⟩)
    | (go_at_call 57; refine HC.out.mono ?_; rintro e W3 ⟨rfl, rfl⟩))
  go_wp2
  go_loopw [13, 14, 68] (fun _ _ v wr => ∃ i : Nat, i ≤ nf ∧ v = .int .i64 i ∧ wr = W3) (fun _ _ v _ => nf - (Go.RowKit.intOf v).toNat)
  case atStart => exact ⟨0, by omega, rfl, rfl⟩
  case round =>
    obtain ⟨i, hi, rfl, rfl⟩ := hrel
    by_cases hlt : i < nf
    · have hil : i < F.length := by rw [HLF.out]; exact hlt
      obtain ⟨rb, ro, hAf, hrb, hrc⟩ := HF.out.form (by simp; omega)
      have hcx := hrc i (by simpa using hil)
      rw [iv_at] at hcx
      have hcy := keep_cell hcx HB3.out
      have hmem := List.getElem_mem hil
      have hlx : (Instr.lookup 82 (.map (some mt)) (.int .i64 F[i]) false).run Try.prog wr = .ok (.bool false) wr := by
        rw [HL2.out.lookup (P := Try.prog) Try.underlying82 Try.underlying3 (zeroB wr) F[i], HT2.out.notIn (HO.out.nf _ hmem)]; rfl
      have hrt := (HF.out.below HB3.out).upto i (by omega)
      have e : (iv .i64 F).take i = iv .i64 (F.take i) := by simp [iv, List.map_take]
      rw [e] at hrt
      have HCX := Lib.hid ((Contains_any Af i cf (F.take i) F[i] wr hrt (by simp; omega)).mono (R' := fun e w' => e = .returned (.bool false) ∧ w' = wr) (by rintro e w' ⟨rfl, rfl⟩; exact ⟨by have := nodup_take HO.out.nd hil; simp [this], rfl⟩))
      clear hrc hcx hmem hrt e HC hlk hpl
      generalize F[i] = x at *
      subst hAf
      go_wp2_with (first
        | (go_at_call 37; (with_reducible refine (must_ok 6 _).mono ?_); rintro e W3 ⟨rfl, rfl⟩)
        | (go_at_call 57; refine HCX.out.mono ?_; rintro e W3 ⟨rfl, rfl⟩))
      exact ⟨⟨i + 1, by omega, by go_num, by simp⟩, by simp [Go.RowKit.intOf]; omega⟩
    · clear HC hlk HL2 HT2
      have HWAY := Lib.hid (Way_ok k ⟨hk0, hk1⟩ wr)
      have hwl : wayL k = [(k : Int)] := by
        have := HK6.out
        simp only [wayL]
        rw [if_pos (by omega)]
      rw [hwl] at HWAY
      clear hwl
      go_upto_region 12 with (first
        | (go_at_call 37; (with_reducible refine (must_ok 12 _).mono ?_); rintro e W3 ⟨rfl, rfl⟩)
        | (go_at_call 9; refine HWAY.out.mono ?_; rintro e W4 ⟨⟨Aw, cw, rfl, hrw⟩, hB4⟩))
      have hw3 : W3.heap.size ≤ W4.heap.size := hB4.size
      have hl3 : w.heap.size + 2 < W3.heap.size := (Array.getElem?_eq_some_iff.1 HPZ3.out).1
      have HB4 := Lib.hid (HB3.out.trans (hB4.mono (by omega)))
      have HV4 := Lib.hid (HV3.out.same hB4)
      have c5 := keep_cell c5 hB4
      have HPZ4 := Lib.hid (blk_below HPZ3.out hB4 hl3)
      have HWB := Lib.hid hB4
      have HRW := Lib.hid hrw
      have hpz4 : w.heap.size + 1 + 1 < W4.heap.size := by omega
      clear hB4 hrw hpl HB3 HV3 HPZ3 HWAY hl3 c9 c11
      obtain ⟨r0, r9, r10, r11, ct, rz⟩ := HV4.out.cell rfl
      clear r0 r9 r10 r11 rz
      have e0 := ct 0 (by simp)
      have e1 := ct 1 (by simp)
      have e2 := ct 2 (by simp)
      have e3 := ct 3 (by simp)
      have e4 := ct 4 (by simp)
      have e5 := ct 5 (by simp)
      have e6 := ct 6 (by simp)
      have e7 := ct 7 (by simp)
      simp only [List.getElem_cons_succ, List.getElem_cons_zero, Nat.reduceAdd] at e0 e1 e2 e3 e4 e5 e6 e7
      obtain ⟨yb, yo, rfl, hyb, hyc⟩ := HRW.out.form (by simp)
      have y0 := hyc 0 (by simp)
      simp only [iv, List.map_cons, List.map_nil, List.getElem_cons_succ, List.getElem_cons_zero, Nat.add_zero] at y0
      clear ct hyc
      try simp only [List.length_cons, List.length_nil, Nat.reduceAdd]
      have hk6 := HK6.out
      rcases (show k = 0 ∨ k = 1 ∨ k = 2 ∨ k = 3 ∨ k = 4 ∨ k = 5 by omega) with rfl | rfl | rfl | rfl | rfl | rfl
      · go_upto_region 15 with (fail)
        have HPc := Lib.hid (blk11 W4 (.cells #[.int .i64 b, .int .i64 a1, .int .i64 a2, .int .i64 a3, .int .i64 a4, .int .i64 a5, .int .i64 a6, .int .i64 a7, .slice none 0 0, .int .i64 0] 68))
        have HZc : Hid ((W4.alloc (.cells #[.int .i64 b, .int .i64 a1, .int .i64 a2, .int .i64 a3, .int .i64 a4, .int .i64 a5, .int .i64 a6, .int .i64 a7, .slice none 0 0, .int .i64 0] 68)).heap[w.heap.size + 1 + 1]? = _) := Lib.hid (blk_below HPZ4.out (below_al W4 (.cells #[.int .i64 b, .int .i64 a1, .int .i64 a2, .int .i64 a3, .int .i64 a4, .int .i64 a5, .int .i64 a6, .int .i64 a7, .slice none 0 0, .int .i64 0] 68)) hpz4)
        have HBc := Lib.hid (HB4.out.alloc HB4.out.size (.cells #[.int .i64 b, .int .i64 a1, .int .i64 a2, .int .i64 a3, .int .i64 a4, .int .i64 a5, .int .i64 a6, .int .i64 a7, .slice none 0 0, .int .i64 0] 68))
        generalize W4.alloc (.cells #[.int .i64 b, .int .i64 a1, .int .i64 a2, .int .i64 a3, .int .i64 a4, .int .i64 a5, .int .i64 a6, .int .i64 a7, .slice none 0 0, .int .i64 0] 68) = Wc at *
        have HOc : Hid (Wc.ownsRow W4.heap.size 75 4 (.slice none 0 0) 0 (itvs [] [])) := Lib.hid (World.ownsRow_nil _ _ _ _)
        have hPB := blk_cell HPc.out
        have hZB := blk_cell HZc.out
        have p0 := hPB 0
        have p1 := hPB 1
        have p2 := hPB 2
        have p3 := hPB 3
        have p4 := hPB 4
        have p5 := hPB 5
        have p6 := hPB 6
        have p7 := hPB 7
        have p8 := hPB 8
        have p9 := hPB 9
        have q0 := hZB 0
        have q1 := hZB 1
        have q2 := hZB 2
        have q3 := hZB 3
        have q4 := hZB 4
        have q5 := hZB 5
        have q6 := hZB 6
        have q7 := hZB 7
        have q8 := hZB 8
        have q9 := hZB 9
        simp only [putC, putZ, iv, List.map_cons, List.map_nil, List.cons_append, List.nil_append, List.getElem?_toArray, List.getElem?_cons_zero, List.getElem?_cons_succ] at p0 p1 p2 p3 p4 p5 p6 p7 p8 p9 q0 q1 q2 q3 q4 q5 q6 q7 q8 q9
        have zP := blk_free HPc.out
        have zZ := blk_free HZc.out
        have hneB : W4.heap.size ≠ w.heap.size + 1 + 1 := by omega
        have hneC : w.heap.size + 1 + 1 ≠ W4.heap.size := by omega
        clear hPB hZB
        go_wp2
        have hZ9 := set10 HZc.out (.int .i64 b) (.int .i64 a1) (.int .i64 a2) (.int .i64 a3) (.int .i64 a4) (.int .i64 a5) (.int .i64 a6) (.int .i64 a7) (.slice none 0 0) (.int .i64 0)
        have hFr := fr10 Wc (w.heap.size + 1 + 1) (.int .i64 b) (.int .i64 a1) (.int .i64 a2) (.int .i64 a3) (.int .i64 a4) (.int .i64 a5) (.int .i64 a6) (.int .i64 a7) (.slice none 0 0) (.int .i64 0)
        generalize ((((((((((Wc.setCell ⟨w.heap.size + 1 + 1, 0, none⟩ (.int .i64 b)).setCell ⟨w.heap.size + 1 + 1, 1, none⟩ (.int .i64 a1)).setCell ⟨w.heap.size + 1 + 1, 2, none⟩ (.int .i64 a2)).setCell ⟨w.heap.size + 1 + 1, 3, none⟩ (.int .i64 a3)).setCell ⟨w.heap.size + 1 + 1, 4, none⟩ (.int .i64 a4)).setCell ⟨w.heap.size + 1 + 1, 5, none⟩ (.int .i64 a5)).setCell ⟨w.heap.size + 1 + 1, 6, none⟩ (.int .i64 a6)).setCell ⟨w.heap.size + 1 + 1, 7, none⟩ (.int .i64 a7)).setCell ⟨w.heap.size + 1 + 1, 8, none⟩ (.slice none 0 0)).setCell ⟨w.heap.size + 1 + 1, 9, none⟩ (.int .i64 0)) = Wf at *
        have hown := own_same (w' := Wf) HOc.out (fun j hj => by
          obtain ⟨cur, hc⟩ := own_block HOc.out j hj
          refine hFr.block j (Array.getElem?_eq_some_iff.1 hc).1 ?_
          intro e
          rw [e, HZc.out] at hc
          cases hc)
        have hHB : Below w.heap.size w Wf := HBc.out.trans (hFr.below (B := w.heap.size) HBc.out.size (fun k h => by omega))
        clear p0 p1 p2 p3 p4 p5 p6 p7 p8 p9 q0 q1 q2 q3 q4 q5 q6 q7 q8 q9 zP zZ
        refine bodyPost_ret (v := .agg (putC [b, a1, a2, a3, a4, a5, a6, a7] (.slice none 0 0) 0)) ?_ rfl ?_
        · have d := blk_cell hZ9
          have d0 := d 0
          have d1 := d 1
          have d2 := d 2
          have d3 := d 3
          have d4 := d 4
          have d5 := d 5
          have d6 := d 6
          have d7 := d 7
          have d8 := d 8
          have d9 := d 9
          simp only [List.getElem?_toArray, List.getElem?_cons_zero, List.getElem?_cons_succ] at d0 d1 d2 d3 d4 d5 d6 d7 d8 d9
          simp [results, Try.results31, go_sem, d0, d1, d2, d3, d4, d5, d6, d7, d8, d9, putC, iv]
        · refine ⟨_, _, rfl, ?_, hHB⟩
          refine ⟨[], ⟨hown.1, hown.2.imp id fun ⟨g, cap, cur, e, hb, r⟩ => ⟨g, cap, cur, e, by omega, r⟩⟩, rfl, rfl, fun j hj => ?_⟩
          simp at hj
      · go_upto_region 15 with (fail)
        have HPc := Lib.hid (blk11 W4 (.cells #[.int .i64 a0, .int .i64 b, .int .i64 a2, .int .i64 a3, .int .i64 a4, .int .i64 a5, .int .i64 a6, .int .i64 a7, .slice none 0 0, .int .i64 0] 68))
        have HZc : Hid ((W4.alloc (.cells #[.int .i64 a0, .int .i64 b, .int .i64 a2, .int .i64 a3, .int .i64 a4, .int .i64 a5, .int .i64 a6, .int .i64 a7, .slice none 0 0, .int .i64 0] 68)).heap[w.heap.size + 1 + 1]? = _) := Lib.hid (blk_below HPZ4.out (below_al W4 (.cells #[.int .i64 a0, .int .i64 b, .int .i64 a2, .int .i64 a3, .int .i64 a4, .int .i64 a5, .int .i64 a6, .int .i64 a7, .slice none 0 0, .int .i64 0] 68)) hpz4)
        have HBc := Lib.hid (HB4.out.alloc HB4.out.size (.cells #[.int .i64 a0, .int .i64 b, .int .i64 a2, .int .i64 a3, .int .i64 a4, .int .i64 a5, .int .i64 a6, .int .i64 a7, .slice none 0 0, .int .i64 0] 68))
        generalize W4.alloc (.cells #[.int .i64 a0, .int .i64 b, .int .i64 a2, .int .i64 a3, .int .i64 a4, .int .i64 a5, .int .i64 a6, .int .i64 a7, .slice none 0 0, .int .i64 0] 68) = Wc at *
        have HOc : Hid (Wc.ownsRow W4.heap.size 75 4 (.slice none 0 0) 0 (itvs [] [])) := Lib.hid (World.ownsRow_nil _ _ _ _)
        have hPB := blk_cell HPc.out
        have hZB := blk_cell HZc.out
        have p0 := hPB 0
        have p1 := hPB 1
        have p2 := hPB 2
        have p3 := hPB 3
        have p4 := hPB 4
        have p5 := hPB 5
        have p6 := hPB 6
        have p7 := hPB 7
        have p8 := hPB 8
        have p9 := hPB 9
        have q0 := hZB 0
        have q1 := hZB 1
        have q2 := hZB 2
        have q3 := hZB 3
        have q4 := hZB 4
        have q5 := hZB 5
        have q6 := hZB 6
        have q7 := hZB 7
        have q8 := hZB 8
        have q9 := hZB 9
        simp only [putC, putZ, iv, List.map_cons, List.map_nil, List.cons_append, List.nil_append, List.getElem?_toArray, List.getElem?_cons_zero, List.getElem?_cons_succ] at p0 p1 p2 p3 p4 p5 p6 p7 p8 p9 q0 q1 q2 q3 q4 q5 q6 q7 q8 q9
        have zP := blk_free HPc.out
        have zZ := blk_free HZc.out
        have hneB : W4.heap.size ≠ w.heap.size + 1 + 1 := by omega
        have hneC : w.heap.size + 1 + 1 ≠ W4.heap.size := by omega
        clear hPB hZB
        go_wp2
        have hZ9 := set10 HZc.out (.int .i64 a0) (.int .i64 b) (.int .i64 a2) (.int .i64 a3) (.int .i64 a4) (.int .i64 a5) (.int .i64 a6) (.int .i64 a7) (.slice none 0 0) (.int .i64 0)
        have hFr := fr10 Wc (w.heap.size + 1 + 1) (.int .i64 a0) (.int .i64 b) (.int .i64 a2) (.int .i64 a3) (.int .i64 a4) (.int .i64 a5) (.int .i64 a6) (.int .i64 a7) (.slice none 0 0) (.int .i64 0)
        generalize ((((((((((Wc.setCell ⟨w.heap.size + 1 + 1, 0, none⟩ (.int .i64 a0)).setCell ⟨w.heap.size + 1 + 1, 1, none⟩ (.int .i64 b)).setCell ⟨w.heap.size + 1 + 1, 2, none⟩ (.int .i64 a2)).setCell ⟨w.heap.size + 1 + 1, 3, none⟩ (.int .i64 a3)).setCell ⟨w.heap.size + 1 + 1, 4, none⟩ (.int .i64 a4)).setCell ⟨w.heap.size + 1 + 1, 5, none⟩ (.int .i64 a5)).setCell ⟨w.heap.size + 1 + 1, 6, none⟩ (.int .i64 a6)).setCell ⟨w.heap.size + 1 + 1, 7, none⟩ (.int .i64 a7)).setCell ⟨w.heap.size + 1 + 1, 8, none⟩ (.slice none 0 0)).setCell ⟨w.heap.size + 1 + 1, 9, none⟩ (.int .i64 0)) = Wf at *
        have hown := own_same (w' := Wf) HOc.out (fun j hj => by
          obtain ⟨cur, hc⟩ := own_block HOc.out j hj
          refine hFr.block j (Array.getElem?_eq_some_iff.1 hc).1 ?_
          intro e
          rw [e, HZc.out] at hc
          cases hc)
        have hHB : Below w.heap.size w Wf := HBc.out.trans (hFr.below (B := w.heap.size) HBc.out.size (fun k h => by omega))
        clear p0 p1 p2 p3 p4 p5 p6 p7 p8 p9 q0 q1 q2 q3 q4 q5 q6 q7 q8 q9 zP zZ
        refine bodyPost_ret (v := .agg (putC [a0, b, a2, a3, a4, a5, a6, a7] (.slice none 0 0) 0)) ?_ rfl ?_
        · have d := blk_cell hZ9
          have d0 := d 0
          have d1 := d 1
          have d2 := d 2
          have d3 := d 3
          have d4 := d 4
          have d5 := d 5
          have d6 := d 6
          have d7 := d 7
          have d8 := d 8
          have d9 := d 9
          simp only [List.getElem?_toArray, List.getElem?_cons_zero, List.getElem?_cons_succ] at d0 d1 d2 d3 d4 d5 d6 d7 d8 d9
          simp [results, Try.results31, go_sem, d0, d1, d2, d3, d4, d5, d6, d7, d8, d9, putC, iv]
        · refine ⟨_, _, rfl, ?_, hHB⟩
          refine ⟨[], ⟨hown.1, hown.2.imp id fun ⟨g, cap, cur, e, hb, r⟩ => ⟨g, cap, cur, e, by omega, r⟩⟩, rfl, rfl, fun j hj => ?_⟩
          simp at hj
      · go_upto_region 15 with (fail)
        have HPc := Lib.hid (blk11 W4 (.cells #[.int .i64 a0, .int .i64 a1, .int .i64 b, .int .i64 a3, .int .i64 a4, .int .i64 a5, .int .i64 a6, .int .i64 a7, .slice none 0 0, .int .i64 0] 68))
        have HZc : Hid ((W4.alloc (.cells #[.int .i64 a0, .int .i64 a1, .int .i64 b, .int .i64 a3, .int .i64 a4, .int .i64 a5, .int .i64 a6, .int .i64 a7, .slice none 0 0, .int .i64 0] 68)).heap[w.heap.size + 1 + 1]? = _) := Lib.hid (blk_below HPZ4.out (below_al W4 (.cells #[.int .i64 a0, .int .i64 a1, .int .i64 b, .int .i64 a3, .int .i64 a4, .int .i64 a5, .int .i64 a6, .int .i64 a7, .slice none 0 0, .int .i64 0] 68)) hpz4)
        have HBc := Lib.hid (HB4.out.alloc HB4.out.size (.cells #[.int .i64 a0, .int .i64 a1, .int .i64 b, .int .i64 a3, .int .i64 a4, .int .i64 a5, .int .i64 a6, .int .i64 a7, .slice none 0 0, .int .i64 0] 68))
        generalize W4.alloc (.cells #[.int .i64 a0, .int .i64 a1, .int .i64 b, .int .i64 a3, .int .i64 a4, .int .i64 a5, .int .i64 a6, .int .i64 a7, .slice none 0 0, .int .i64 0] 68) = Wc at *
        have HOc : Hid (Wc.ownsRow W4.heap.size 75 4 (.slice none 0 0) 0 (itvs [] [])) := Lib.hid (World.ownsRow_nil _ _ _ _)
        have hPB := blk_cell HPc.out
        have hZB := blk_cell HZc.out
        have p0 := hPB 0
        have p1 := hPB 1
        have p2 := hPB 2
        have p3 := hPB 3
        have p4 := hPB 4
        have p5 := hPB 5
        have p6 := hPB 6
        have p7 := hPB 7
        have p8 := hPB 8
        have p9 := hPB 9
        have q0 := hZB 0
        have q1 := hZB 1
        have q2 := hZB 2
        have q3 := hZB 3
        have q4 := hZB 4
        have q5 := hZB 5
        have q6 := hZB 6
        have q7 := hZB 7
        have q8 := hZB 8
        have q9 := hZB 9
        simp only [putC, putZ, iv, List.map_cons, List.map_nil, List.cons_append, List.nil_append, List.getElem?_toArray, List.getElem?_cons_zero, List.getElem?_cons_succ] at p0 p1 p2 p3 p4 p5 p6 p7 p8 p9 q0 q1 q2 q3 q4 q5 q6 q7 q8 q9
        have zP := blk_free HPc.out
        have zZ := blk_free HZc.out
        have hneB : W4.heap.size ≠ w.heap.size + 1 + 1 := by omega
        have hneC : w.heap.size + 1 + 1 ≠ W4.heap.size := by omega
        clear hPB hZB
        go_wp2
        have hZ9 := set10 HZc.out (.int .i64 a0) (.int .i64 a1) (.int .i64 b) (.int .i64 a3) (.int .i64 a4) (.int .i64 a5) (.int .i64 a6) (.int .i64 a7) (.slice none 0 0) (.int .i64 0)
        have hFr := fr10 Wc (w.heap.size + 1 + 1) (.int .i64 a0) (.int .i64 a1) (.int .i64 b) (.int .i64 a3) (.int .i64 a4) (.int .i64 a5) (.int .i64 a6) (.int .i64 a7) (.slice none 0 0) (.int .i64 0)
        generalize ((((((((((Wc.setCell ⟨w.heap.size + 1 + 1, 0, none⟩ (.int .i64 a0)).setCell ⟨w.heap.size + 1 + 1, 1, none⟩ (.int .i64 a1)).setCell ⟨w.heap.size + 1 + 1, 2, none⟩ (.int .i64 b)).setCell ⟨w.heap.size + 1 + 1, 3, none⟩ (.int .i64 a3)).setCell ⟨w.heap.size + 1 + 1, 4, none⟩ (.int .i64 a4)).setCell ⟨w.heap.size + 1 + 1, 5, none⟩ (.int .i64 a5)).setCell ⟨w.heap.size + 1 + 1, 6, none⟩ (.int .i64 a6)).setCell ⟨w.heap.size + 1 + 1, 7, none⟩ (.int .i64 a7)).setCell ⟨w.heap.size + 1 + 1, 8, none⟩ (.slice none 0 0)).setCell ⟨w.heap.size + 1 + 1, 9, none⟩ (.int .i64 0)) = Wf at *
        have hown := own_same (w' := Wf) HOc.out (fun j hj => by
          obtain ⟨cur, hc⟩ := own_block HOc.out j hj
          refine hFr.block j (Array.getElem?_eq_some_iff.1 hc).1 ?_
          intro e
          rw [e, HZc.out] at hc
          cases hc)
        have hHB : Below w.heap.size w Wf := HBc.out.trans (hFr.below (B := w.heap.size) HBc.out.size (fun k h => by omega))
        clear p0 p1 p2 p3 p4 p5 p6 p7 p8 p9 q0 q1 q2 q3 q4 q5 q6 q7 q8 q9 zP zZ
        refine bodyPost_ret (v := .agg (putC [a0, a1, b, a3, a4, a5, a6, a7] (.slice none 0 0) 0)) ?_ rfl ?_
        · have d := blk_cell hZ9
          have d0 := d 0
          have d1 := d 1
          have d2 := d 2
          have d3 := d 3
          have d4 := d 4
          have d5 := d 5
          have d6 := d 6
          have d7 := d 7
          have d8 := d 8
          have d9 := d 9
          simp only [List.getElem?_toArray, List.getElem?_cons_zero, List.getElem?_cons_succ] at d0 d1 d2 d3 d4 d5 d6 d7 d8 d9
          simp [results, Try.results31, go_sem, d0, d1, d2, d3, d4, d5, d6, d7, d8, d9, putC, iv]
        · refine ⟨_, _, rfl, ?_, hHB⟩
          refine ⟨[], ⟨hown.1, hown.2.imp id fun ⟨g, cap, cur, e, hb, r⟩ => ⟨g, cap, cur, e, by omega, r⟩⟩, rfl, rfl, fun j hj => ?_⟩
          simp at hj
      · go_upto_region 15 with (fail)
        have HPc := Lib.hid (blk11 W4 (.cells #[.int .i64 a0, .int .i64 a1, .int .i64 a2, .int .i64 b, .int .i64 a4, .int .i64 a5, .int .i64 a6, .int .i64 a7, .slice none 0 0, .int .i64 0] 68))
        have HZc : Hid ((W4.alloc (.cells #[.int .i64 a0, .int .i64 a1, .int .i64 a2, .int .i64 b, .int .i64 a4, .int .i64 a5, .int .i64 a6, .int .i64 a7, .slice none 0 0, .int .i64 0] 68)).heap[w.heap.size + 1 + 1]? = _) := Lib.hid (blk_below HPZ4.out (below_al W4 (.cells #[.int .i64 a0, .int .i64 a1, .int .i64 a2, .int .i64 b, .int .i64 a4, .int .i64 a5, .int .i64 a6, .int .i64 a7, .slice none 0 0, .int .i64 0] 68)) hpz4)
        have HBc := Lib.hid (HB4.out.alloc HB4.out.size (.cells #[.int .i64 a0, .int .i64 a1, .int .i64 a2, .int .i64 b, .int .i64 a4, .int .i64 a5, .int .i64 a6, .int .i64 a7, .slice none 0 0, .int .i64 0] 68))
        generalize W4.alloc (.cells #[.int .i64 a0, .int .i64 a1, .int .i64 a2, .int .i64 b, .int .i64 a4, .int .i64 a5, .int .i64 a6, .int .i64 a7, .slice none 0 0, .int .i64 0] 68) = Wc at *
        have HOc : Hid (Wc.ownsRow W4.heap.size 75 4 (.slice none 0 0) 0 (itvs [] [])) := Lib.hid (World.ownsRow_nil _ _ _ _)
        have hPB := blk_cell HPc.out
        have hZB := blk_cell HZc.out
        have p0 := hPB 0
        have p1 := hPB 1
        have p2 := hPB 2
        have p3 := hPB 3
        have p4 := hPB 4
        have p5 := hPB 5
        have p6 := hPB 6
        have p7 := hPB 7
        have p8 := hPB 8
        have p9 := hPB 9
        have q0 := hZB 0
        have q1 := hZB 1
        have q2 := hZB 2
        have q3 := hZB 3
        have q4 := hZB 4
        have q5 := hZB 5
        have q6 := hZB 6
        have q7 := hZB 7
        have q8 := hZB 8
        have q9 := hZB 9
        simp only [putC, putZ, iv, List.map_cons, List.map_nil, List.cons_append, List.nil_append, List.getElem?_toArray, List.getElem?_cons_zero, List.getElem?_cons_succ] at p0 p1 p2 p3 p4 p5 p6 p7 p8 p9 q0 q1 q2 q3 q4 q5 q6 q7 q8 q9
        have zP := blk_free HPc.out
        have zZ := blk_free HZc.out
        have hneB : W4.heap.size ≠ w.heap.size + 1 + 1 := by omega
        have hneC : w.heap.size + 1 + 1 ≠ W4.heap.size := by omega
        clear hPB hZB
        go_wp2
        have hZ9 := set10 HZc.out (.int .i64 a0) (.int .i64 a1) (.int .i64 a2) (.int .i64 b) (.int .i64 a4) (.int .i64 a5) (.int .i64 a6) (.int .i64 a7) (.slice none 0 0) (.int .i64 0)
        have hFr := fr10 Wc (w.heap.size + 1 + 1) (.int .i64 a0) (.int .i64 a1) (.int .i64 a2) (.int .i64 b) (.int .i64 a4) (.int .i64 a5) (.int .i64 a6) (.int .i64 a7) (.slice none 0 0) (.int .i64 0)
        generalize ((((((((((Wc.setCell ⟨w.heap.size + 1 + 1, 0, none⟩ (.int .i64 a0)).setCell ⟨w.heap.size + 1 + 1, 1, none⟩ (.int .i64 a1)).setCell ⟨w.heap.size + 1 + 1, 2, none⟩ (.int .i64 a2)).setCell ⟨w.heap.size + 1 + 1, 3, none⟩ (.int .i64 b)).setCell ⟨w.heap.size + 1 + 1, 4, none⟩ (.int .i64 a4)).setCell ⟨w.heap.size + 1 + 1, 5, none⟩ (.int .i64 a5)).setCell ⟨w.heap.size + 1 + 1, 6, none⟩ (.int .i64 a6)).setCell ⟨w.heap.size + 1 + 1, 7, none⟩ (.int .i64 a7)).setCell ⟨w.heap.size + 1 + 1, 8, none⟩ (.slice none 0 0)).setCell ⟨w.heap.size + 1 + 1, 9, none⟩ (.int .i64 0)) = Wf at *
        have hown := own_same (w' := Wf) HOc.out (fun j hj => by
          obtain ⟨cur, hc⟩ := own_block HOc.out j hj
          refine hFr.block j (Array.getElem?_eq_some_iff.1 hc).1 ?_
          intro e
          rw [e, HZc.out] at hc
          cases hc)
        have hHB : Below w.heap.size w Wf := HBc.out.trans (hFr.below (B := w.heap.size) HBc.out.size (fun k h => by omega))
        clear p0 p1 p2 p3 p4 p5 p6 p7 p8 p9 q0 q1 q2 q3 q4 q5 q6 q7 q8 q9 zP zZ
        refine bodyPost_ret (v := .agg (putC [a0, a1, a2, b, a4, a5, a6, a7] (.slice none 0 0) 0)) ?_ rfl ?_
        · have d := blk_cell hZ9
          have d0 := d 0
          have d1 := d 1
          have d2 := d 2
          have d3 := d 3
          have d4 := d 4
          have d5 := d 5
          have d6 := d 6
          have d7 := d 7
          have d8 := d 8
          have d9 := d 9
          simp only [List.getElem?_toArray, List.getElem?_cons_zero, List.getElem?_cons_succ] at d0 d1 d2 d3 d4 d5 d6 d7 d8 d9
          simp [results, Try.results31, go_sem, d0, d1, d2, d3, d4, d5, d6, d7, d8, d9, putC, iv]
        · refine ⟨_, _, rfl, ?_, hHB⟩
          refine ⟨[], ⟨hown.1, hown.2.imp id fun ⟨g, cap, cur, e, hb, r⟩ => ⟨g, cap, cur, e, by omega, r⟩⟩, rfl, rfl, fun j hj => ?_⟩
          simp at hj
      · go_upto_region 15 with (fail)
        have HPc := Lib.hid (blk11 W4 (.cells #[.int .i64 a0, .int .i64 a1, .int .i64 a2, .int .i64 a3, .int .i64 b, .int .i64 a5, .int .i64 a6, .int .i64 a7, .slice none 0 0, .int .i64 0] 68))
        have HZc : Hid ((W4.alloc (.cells #[.int .i64 a0, .int .i64 a1, .int .i64 a2, .int .i64 a3, .int .i64 b, .int .i64 a5, .int .i64 a6, .int .i64 a7, .slice none 0 0, .int .i64 0] 68)).heap[w.heap.size + 1 + 1]? = _) := Lib.hid (blk_below HPZ4.out (below_al W4 (.cells #[.int .i64 a0, .int .i64 a1, .int .i64 a2, .int .i64 a3, .int .i64 b, .int .i64 a5, .int .i64 a6, .int .i64 a7, .slice none 0 0, .int .i64 0] 68)) hpz4)
        have HBc := Lib.hid (HB4.out.alloc HB4.out.size (.cells #[.int .i64 a0, .int .i64 a1, .int .i64 a2, .int .i64 a3, .int .i64 b, .int .i64 a5, .int .i64 a6, .int .i64 a7, .slice none 0 0, .int .i64 0] 68))
        generalize W4.alloc (.cells #[.int .i64 a0, .int .i64 a1, .int .i64 a2, .int .i64 a3, .int .i64 b, .int .i64 a5, .int .i64 a6, .int .i64 a7, .slice none 0 0, .int .i64 0] 68) = Wc at *
        have HOc : Hid (Wc.ownsRow W4.heap.size 75 4 (.slice none 0 0) 0 (itvs [] [])) := Lib.hid (World.ownsRow_nil _ _ _ _)
        have hPB := blk_cell HPc.out
        have hZB := blk_cell HZc.out
        have p0 := hPB 0
        have p1 := hPB 1
        have p2 := hPB 2
        have p3 := hPB 3
        have p4 := hPB 4
        have p5 := hPB 5
        have p6 := hPB 6
        have p7 := hPB 7
        have p8 := hPB 8
        have p9 := hPB 9
        have q0 := hZB 0
        have q1 := hZB 1
        have q2 := hZB 2
        have q3 := hZB 3
        have q4 := hZB 4
        have q5 := hZB 5
        have q6 := hZB 6
        have q7 := hZB 7
        have q8 := hZB 8
        have q9 := hZB 9
        simp only [putC, putZ, iv, List.map_cons, List.map_nil, List.cons_append, List.nil_append, List.getElem?_toArray, List.getElem?_cons_zero, List.getElem?_cons_succ] at p0 p1 p2 p3 p4 p5 p6 p7 p8 p9 q0 q1 q2 q3 q4 q5 q6 q7 q8 q9
        have zP := blk_free HPc.out
        have zZ := blk_free HZc.out
        have hneB : W4.heap.size ≠ w.heap.size + 1 + 1 := by omega
        have hneC : w.heap.size + 1 + 1 ≠ W4.heap.size := by omega
        clear hPB hZB
        go_wp2
        have hZ9 := set10 HZc.out (.int .i64 a0) (.int .i64 a1) (.int .i64 a2) (.int .i64 a3) (.int .i64 b) (.int .i64 a5) (.int .i64 a6) (.int .i64 a7) (.slice none 0 0) (.int .i64 0)
        have hFr := fr10 Wc (w.heap.size + 1 + 1) (.int .i64 a0) (.int .i64 a1) (.int .i64 a2) (.int .i64 a3) (.int .i64 b) (.int .i64 a5) (.int .i64 a6) (.int .i64 a7) (.slice none 0 0) (.int .i64 0)
        generalize ((((((((((Wc.setCell ⟨w.heap.size + 1 + 1, 0, none⟩ (.int .i64 a0)).setCell ⟨w.heap.size + 1 + 1, 1, none⟩ (.int .i64 a1)).setCell ⟨w.heap.size + 1 + 1, 2, none⟩ (.int .i64 a2)).setCell ⟨w.heap.size + 1 + 1, 3, none⟩ (.int .i64 a3)).setCell ⟨w.heap.size + 1 + 1, 4, none⟩ (.int .i64 b)).setCell ⟨w.heap.size + 1 + 1, 5, none⟩ (.int .i64 a5)).setCell ⟨w.heap.size + 1 + 1, 6, none⟩ (.int .i64 a6)).setCell ⟨w.heap.size + 1 + 1, 7, none⟩ (.int .i64 a7)).setCell ⟨w.heap.size + 1 + 1, 8, none⟩ (.slice none 0 0)).setCell ⟨w.heap.size + 1 + 1, 9, none⟩ (.int .i64 0)) = Wf at *
        have hown := own_same (w' := Wf) HOc.out (fun j hj => by
          obtain ⟨cur, hc⟩ := own_block HOc.out j hj
          refine hFr.block j (Array.getElem?_eq_some_iff.1 hc).1 ?_
          intro e
          rw [e, HZc.out] at hc
          cases hc)
        have hHB : Below w.heap.size w Wf := HBc.out.trans (hFr.below (B := w.heap.size) HBc.out.size (fun k h => by omega))
        clear p0 p1 p2 p3 p4 p5 p6 p7 p8 p9 q0 q1 q2 q3 q4 q5 q6 q7 q8 q9 zP zZ
        refine bodyPost_ret (v := .agg (putC [a0, a1, a2, a3, b, a5, a6, a7] (.slice none 0 0) 0)) ?_ rfl ?_
        · have d := blk_cell hZ9
          have d0 := d 0
          have d1 := d 1
          have d2 := d 2
          have d3 := d 3
          have d4 := d 4
          have d5 := d 5
          have d6 := d 6
          have d7 := d 7
          have d8 := d 8
          have d9 := d 9
          simp only [List.getElem?_toArray, List.getElem?_cons_zero, List.getElem?_cons_succ] at d0 d1 d2 d3 d4 d5 d6 d7 d8 d9
          simp [results, Try.results31, go_sem, d0, d1, d2, d3, d4, d5, d6, d7, d8, d9, putC, iv]
        · refine ⟨_, _, rfl, ?_, hHB⟩
          refine ⟨[], ⟨hown.1, hown.2.imp id fun ⟨g, cap, cur, e, hb, r⟩ => ⟨g, cap, cur, e, by omega, r⟩⟩, rfl, rfl, fun j hj => ?_⟩
          simp at hj
      · go_upto_region 15 with (fail)
        have HPc := Lib.hid (blk11 W4 (.cells #[.int .i64 a0, .int .i64 a1, .int .i64 a2, .int .i64 a3, .int .i64 a4, .int .i64 b, .int .i64 a6, .int .i64 a7, .slice none 0 0, .int .i64 0] 68))
        have HZc : Hid ((W4.alloc (.cells #[.int .i64 a0, .int .i64 a1, .int .i64 a2, .int .i64 a3, .int .i64 a4, .int .i64 b, .int .i64 a6, .int .i64 a7, .slice none 0 0, .int .i64 0] 68)).heap[w.heap.size + 1 + 1]? = _) := Lib.hid (blk_below HPZ4.out (below_al W4 (.cells #[.int .i64 a0, .int .i64 a1, .int .i64 a2, .int .i64 a3, .int .i64 a4, .int .i64 b, .int .i64 a6, .int .i64 a7, .slice none 0 0, .int .i64 0] 68)) hpz4)
        have HBc := Lib.hid (HB4.out.alloc HB4.out.size (.cells #[.int .i64 a0, .int .i64 a1, .int .i64 a2, .int .i64 a3, .int .i64 a4, .int .i64 b, .int .i64 a6, .int .i64 a7, .slice none 0 0, .int .i64 0] 68))
        generalize W4.alloc (.cells #[.int .i64 a0, .int .i64 a1, .int .i64 a2, .int .i64 a3, .int .i64 a4, .int .i64 b, .int .i64 a6, .int .i64 a7, .slice none 0 0, .int .i64 0] 68) = Wc at *
        have HOc : Hid (Wc.ownsRow W4.heap.size 75 4 (.slice none 0 0) 0 (itvs [] [])) := Lib.hid (World.ownsRow_nil _ _ _ _)
        have hPB := blk_cell HPc.out
        have hZB := blk_cell HZc.out
        have p0 := hPB 0
        have p1 := hPB 1
        have p2 := hPB 2
        have p3 := hPB 3
        have p4 := hPB 4
        have p5 := hPB 5
        have p6 := hPB 6
        have p7 := hPB 7
        have p8 := hPB 8
        have p9 := hPB 9
        have q0 := hZB 0
        have q1 := hZB 1
        have q2 := hZB 2
        have q3 := hZB 3
        have q4 := hZB 4
        have q5 := hZB 5
        have q6 := hZB 6
        have q7 := hZB 7
        have q8 := hZB 8
        have q9 := hZB 9
        simp only [putC, putZ, iv, List.map_cons, List.map_nil, List.cons_append, List.nil_append, List.getElem?_toArray, List.getElem?_cons_zero, List.getElem?_cons_succ] at p0 p1 p2 p3 p4 p5 p6 p7 p8 p9 q0 q1 q2 q3 q4 q5 q6 q7 q8 q9
        have zP := blk_free HPc.out
        have zZ := blk_free HZc.out
        have hneB : W4.heap.size ≠ w.heap.size + 1 + 1 := by omega
        have hneC : w.heap.size + 1 + 1 ≠ W4.heap.size := by omega
        clear hPB hZB
        go_wp2
        have hZ9 := set10 HZc.out (.int .i64 a0) (.int .i64 a1) (.int .i64 a2) (.int .i64 a3) (.int .i64 a4) (.int .i64 b) (.int .i64 a6) (.int .i64 a7) (.slice none 0 0) (.int .i64 0)
        have hFr := fr10 Wc (w.heap.size + 1 + 1) (.int .i64 a0) (.int .i64 a1) (.int .i64 a2) (.int .i64 a3) (.int .i64 a4) (.int .i64 b) (.int .i64 a6) (.int .i64 a7) (.slice none 0 0) (.int .i64 0)
        generalize ((((((((((Wc.setCell ⟨w.heap.size + 1 + 1, 0, none⟩ (.int .i64 a0)).setCell ⟨w.heap.size + 1 + 1, 1, none⟩ (.int .i64 a1)).setCell ⟨w.heap.size + 1 + 1, 2, none⟩ (.int .i64 a2)).setCell ⟨w.heap.size + 1 + 1, 3, none⟩ (.int .i64 a3)).setCell ⟨w.heap.size + 1 + 1, 4, none⟩ (.int .i64 a4)).setCell ⟨w.heap.size + 1 + 1, 5, none⟩ (.int .i64 b)).setCell ⟨w.heap.size + 1 + 1, 6, none⟩ (.int .i64 a6)).setCell ⟨w.heap.size + 1 + 1, 7, none⟩ (.int .i64 a7)).setCell ⟨w.heap.size + 1 + 1, 8, none⟩ (.slice none 0 0)).setCell ⟨w.heap.size + 1 + 1, 9, none⟩ (.int .i64 0)) = Wf at *
        have hown := own_same (w' := Wf) HOc.out (fun j hj => by
          obtain ⟨cur, hc⟩ := own_block HOc.out j hj
          refine hFr.block j (Array.getElem?_eq_some_iff.1 hc).1 ?_
          intro e
          rw [e, HZc.out] at hc
          cases hc)
        have hHB : Below w.heap.size w Wf := HBc.out.trans (hFr.below (B := w.heap.size) HBc.out.size (fun k h => by omega))
        clear p0 p1 p2 p3 p4 p5 p6 p7 p8 p9 q0 q1 q2 q3 q4 q5 q6 q7 q8 q9 zP zZ
        refine bodyPost_ret (v := .agg (putC [a0, a1, a2, a3, a4, b, a6, a7] (.slice none 0 0) 0)) ?_ rfl ?_
        · have d := blk_cell hZ9
          have d0 := d 0
          have d1 := d 1
          have d2 := d 2
          have d3 := d 3
          have d4 := d 4
          have d5 := d 5
          have d6 := d 6
          have d7 := d 7
          have d8 := d 8
          have d9 := d 9
          simp only [List.getElem?_toArray, List.getElem?_cons_zero, List.getElem?_cons_succ] at d0 d1 d2 d3 d4 d5 d6 d7 d8 d9
          simp [results, Try.results31, go_sem, d0, d1, d2, d3, d4, d5, d6, d7, d8, d9, putC, iv]
        · refine ⟨_, _, rfl, ?_, hHB⟩
          refine ⟨[], ⟨hown.1, hown.2.imp id fun ⟨g, cap, cur, e, hb, r⟩ => ⟨g, cap, cur, e, by omega, r⟩⟩, rfl, rfl, fun j hj => ?_⟩
          simp at hj
set_option maxRecDepth 100000 in
set_option maxHeartbeats 8000000 in
theorem plan_21 (A : Option Addr) (n c : Nat) (D : List (List Int)) (t : List Int) (k : Nat) (b : Int) (Af : Option Addr) (nf cf : Nat) (F F' : List Int) (f0 f1 : Int) (hFe : F = f0 :: f1 :: F') (ht : t.length = 8) (w : World) (hD : Bp w A n c D) (hR : Rt D t) (hF : Rd w Af nf cf (iv .i64 F)) (hlF : F.length = nf) (hO : OkPut D t n k b F) (hk6 : ¬ k < 6) (hk38 : k < 38) (h6 : tp t 6 ≠ 0) :
    Calls Try.prog 31 #[.slice A n c, bigV t, .int .i64 (k : Int), .int .i64 b, .slice Af nf cf] w fun e w' => ∃ Ai ci, e = .returned (.agg (putC t (.slice Ai 1 ci) 0)) ∧ PI w.heap.size w' (.slice Ai 1 ci) 1 [⟨tp t 6, (k : Int) - 6, strOfNums [b], []⟩] ∧ Below w.heap.size w w' := by

  have HFE := Lib.hid hFe
  have hn2 : 2 ≤ nf := by rw [← hlF, hFe]; simp
  clear hFe
  have HF := Lib.hid hF
  have HLF := Lib.hid hlF
  have HO := Lib.hid hO
  have HD := Lib.hid hD
  have HN96 : Hid (n ≤ 96) := Lib.hid (by rw [← hD.len]; exact hR.1.1)
  have hf1 := hF.le
  have hf2 := hF.cap
  have hk0 : (0 : Int) ≤ (k : Int) := by omega
  have hk1 : (k : Int) < 1062 := by have := hO.hk; omega
  have HLK : Hid (∀ W, Below w.heap.size w W → Calls Try.prog 36 #[.slice A n c, bigV t] W fun e w' => ∃ vb mp mt vi, e = .returned (.pointer (some ⟨vb, 0, none⟩)) ∧ Vw W w' A n c D t vb mp mt 1096 1096 (innD D t) vi) := Lib.hid fun W hB => look_ok A n c D t ht W (hD.below hB) hR
  have hmf : ∀ (fn : Fn) (first cap : Array Value) (w : World), (Instr.makeFunc fn first cap).run Try.prog w = .ok (.func fn first cap) w := fun _ _ _ _ => rfl
  have H8 := Lib.hid ht
  clear hF hlF hO hD hR
  obtain ⟨a0, a1, a2, a3, a4, a5, a6, a7, rfl⟩ := len8 ht
  clear ht
  have HNE : Hid ((a6 == 0) = false) := Lib.hid (by simpa using (show a6 ≠ 0 from h6))
  clear h6
  simp only [bigV, iv, List.map_cons, List.map_nil] at HLK ⊢
  go_enter Try.func31, Try.ntmps31
  have HN2 := Lib.hid hn2
  clear hn2
  have HK6 := Lib.hid hk6
  have HK38 := Lib.hid hk38
  clear hk6 hk38
  have HWX : Hid (∀ o p q : Obj, Below w.heap.size w (((w.alloc o).alloc p).alloc q)) := Lib.hid fun o p q => ((below_al w _).alloc (by simp) _).alloc (by simp <;> omega) _
  have HW1 : Hid (∀ p q : Obj, (((w.alloc (.cells #[.slice A n c] 33)).alloc p).alloc q).cell? ⟨w.heap.size, 0, none⟩ = some (.slice A n c)) := Lib.hid fun p q => keep_cell (keep_cell (by rw [blk_cell (blk11 w _)]; rfl) (below_al _ _)) (below_al _ _)
  have HW3 : Hid (∀ o p : Obj, (((w.alloc o).alloc p).alloc (.cells putZ 68)).heap[w.heap.size + 2]? = some (.cells putZ 68 (0, 0)) ∧ (((w.alloc o).alloc p).alloc (.cells putZ 68)).heap.size = w.heap.size + 3) := Lib.hid fun o p => by
    have h := blk11 ((w.alloc o).alloc p) (.cells putZ 68)
    exact ⟨by simpa using h, by simp⟩
  simp only [putZ] at HW3
  go_upto_region 2 with (go_at_call 36; refine (HLK.out _ (HWX.out _ _ _)).mono ?_; rintro e w2 ⟨vb, mp, mt, vi, rfl, hV⟩; have HV := Lib.hid hV; have HB := Lib.hid ((HWX.out _ _ _).trans (hV.hB.mono (by simp <;> omega))); have c5 := keep_cell (HW1.out _ _) hV.hB; have HPZ := Lib.hid (blk_below (HW3.out _ _).1 hV.hB (by simp)); clear hV)
  obtain ⟨W0, hW0, HV⟩ : ∃ W0 : World, W0.heap.size = w.heap.size + 3 ∧ Hid (Vw W0 w2 A n c D [a0, a1, a2, a3, a4, a5, a6, a7] vb mp mt 1096 1096 (innD D [a0, a1, a2, a3, a4, a5, a6, a7]) vi) := ⟨_, by simp, HV⟩
  have HW0 := Lib.hid hW0
  clear hW0 HLK HW1 HW3 HWX
  have HP1 : Hid (∀ W, W.cell? ⟨w.heap.size, 0, none⟩ = some (.slice A n c) → Calls Try.prog 54 #[.int .i64 b, .pointer (some ⟨w.heap.size, 0, none⟩)] W fun e w' => e = .returned (.bool true) ∧ w' = W) := Lib.hid fun W h => (plan1_any b w.heap.size A n c W h).mono (by
    rintro e w' ⟨rfl, rfl⟩
    exact ⟨by simp [HO.out.b0, HO.out.b1], rfl⟩)
  have HP2 : Hid (∀ W (fb : Nat), W.cell? ⟨fb, 0, none⟩ = some (.func (.func 54) #[] #[.pointer (some ⟨w.heap.size, 0, none⟩)]) → W.cell? ⟨w.heap.size, 0, none⟩ = some (.slice A n c) → Rd W Af nf cf (iv .i64 F) →
      Calls Try.prog 55 #[.slice Af nf cf, .func (.func 56) #[] #[.pointer (some ⟨fb, 0, none⟩)]] W fun e w' => e = .returned (.bool false) ∧ ∃ q, w' = W.drewN q) := Lib.hid fun W fb h1 h2 h3 => (ContainsFunc_any 56 _ (enters_of Try.func56 (by kernel_rfl) rfl) _ Af nf cf F W h3 HLF.out (plan2_tells fb w.heap.size A n c F W h1 h2)).mono (by
    rintro e w' ⟨rfl, q, rfl⟩
    refine ⟨?_, q, rfl⟩
    congr 2
    rw [List.any_eq_false]
    intro x hx
    have := HO.out.f x hx
    simp [this.1, this.2])
  have hw2 : Hid (w.heap.size + 2 < w2.heap.size) := Lib.hid (Array.getElem?_eq_some_iff.1 HPZ.out).1
  go_upto_region 4 with (first
    | (go_at_call 37; (with_reducible refine (must_ok 2 _).mono ?_); rintro e W3 ⟨rfl, rfl⟩)
    | (go_at_call 54; refine (HP1.out _ (keep_cell c5 (below_al _ _))).mono ?_; rintro e w4 ⟨rfl, rfl⟩)
    | (go_at_call 55; refine (HP2.out _ w2.heap.size (by rw [blk_cell (blk11 w2 _)]; rfl) (keep_cell c5 (below_al _ _)) ((HF.out.below HB.out).below (below_al _ _))).mono ?_; rintro e w4 ⟨rfl, q, hq⟩; have hB3 : Below w2.heap.size w2 w4 := (by rw [hq]; exact Below.then_drewN (below_al w2 _) _); clear hq; have HB3 := Lib.hid (HB.out.trans (hB3.mono (by have := hw2.out; omega))); have HV3 := Lib.hid (HV.out.same hB3); have c5 := keep_cell c5 hB3; have HPZ3 := Lib.hid (blk_below HPZ.out hB3 (by have := hw2.out; omega)); clear hB3))
  clear HB HV HP1 HP2 HPZ
  obtain ⟨l, hl, hp⟩ := HV3.out.pl
  obtain ⟨l2, hl2, ht2⟩ := HV3.out.tk
  obtain ⟨c0, c9, c10, c11, ct, cz⟩ := HV3.out.cell rfl
  have HL2 := Lib.hid hl2
  have HT2 := Lib.hid ht2
  have hlk : (Instr.lookup 82 (.map (some mt)) (.int .i64 b) false).run Try.prog W3 = .ok (.bool false) W3 := by
    rw [hl2.lookup (P := Try.prog) Try.underlying82 Try.underlying3 (zeroB W3) b, ht2.notIn HO.out.nb]; rfl
  have hpl : (Instr.lookup 80 (.map (some mp)) (.int .i64 (k : Int)) false).run Try.prog W3 = .ok (.int .i64 0) W3 := by
    rw [hl.lookup (P := Try.prog) Try.underlying80 Try.underlying3 (zeroI W3) (k : Int), hp.at_ HO.out.hk, HO.out.at_]
  have HC := Lib.hid ((Contains_any Af nf cf F b W3 (HF.out.below HB3.out) HLF.out).mono (R' := fun e w' => e = .returned (.bool false) ∧ w' = W3) (by rintro e w' ⟨rfl, rfl⟩; exact ⟨by have := HO.out.bF; simp [this], rfl⟩))
  clear hl hp hl2 ht2 c0 c10 ct cz
  go_upto_region 5 with (first
    | (go_at_call 37; (with_reducible refine (must_ok 6 _).mono ?_); rintro e W3 ⟨rfl, rfl⟩)
    | (go_at_call 57; refine HC.out.mono ?_; rintro e W3 ⟨rfl, rfl⟩))
  go_wp2
  go_loopw [13, 14, 68] (fun _ _ v wr => ∃ i : Nat, i ≤ nf ∧ v = .int .i64 i ∧ wr = W3) (fun _ _ v _ => nf - (Go.RowKit.intOf v).toNat)
  case atStart => exact ⟨0, by omega, rfl, rfl⟩
  case round =>
    obtain ⟨i, hi, rfl, rfl⟩ := hrel
    by_cases hlt : i < nf
    · have hil : i < F.length := by rw [HLF.out]; exact hlt
      obtain ⟨rb, ro, hAf, hrb, hrc⟩ := HF.out.form (by simp; omega)
      have hcx := hrc i (by simpa using hil)
      rw [iv_at] at hcx
      have hcy := keep_cell hcx HB3.out
      have hmem := List.getElem_mem hil
      have hlx : (Instr.lookup 82 (.map (some mt)) (.int .i64 F[i]) false).run Try.prog wr = .ok (.bool false) wr := by
        rw [HL2.out.lookup (P := Try.prog) Try.underlying82 Try.underlying3 (zeroB wr) F[i], HT2.out.notIn (HO.out.nf _ hmem)]; rfl
      have hrt := (HF.out.below HB3.out).upto i (by omega)
      have e : (iv .i64 F).take i = iv .i64 (F.take i) := by simp [iv, List.map_take]
      rw [e] at hrt
      have HCX := Lib.hid ((Contains_any Af i cf (F.take i) F[i] wr hrt (by simp; omega)).mono (R' := fun e w' => e = .returned (.bool false) ∧ w' = wr) (by rintro e w' ⟨rfl, rfl⟩; exact ⟨by have := nodup_take HO.out.nd hil; simp [this], rfl⟩))
      clear hrc hcx hmem hrt e HC hlk hpl
      generalize F[i] = x at *
      subst hAf
      go_wp2_with (first
        | (go_at_call 37; (with_reducible refine (must_ok 6 _).mono ?_); rintro e W3 ⟨rfl, rfl⟩)
        | (go_at_call 57; refine HCX.out.mono ?_; rintro e W3 ⟨rfl, rfl⟩))
      exact ⟨⟨i + 1, by omega, by go_num, by simp⟩, by simp [Go.RowKit.intOf]; omega⟩
    · clear HC hlk HL2 HT2
      have HWAY := Lib.hid (Way_ok k ⟨hk0, hk1⟩ wr)
      obtain ⟨j1, hj1⟩ : ∃ j1 : Nat, j1 = k - 6 := ⟨_, rfl⟩
      have hwl : wayL k = [6, (j1 : Int)] := by
        have := HK6.out
        have := HK38.out
        simp only [wayL]
        rw [if_neg (by omega), if_pos (by omega)]
        congr 2
        omega
      have hj2 : j1 < 32 := by have := HK38.out; omega
      have HJ1 : Hid ((j1 : Int) = (k : Int) - 6) := Lib.hid (by have := HK6.out; omega)
      clear hj1
      rw [hwl] at HWAY
      clear hwl
      go_upto_region 12 with (first
        | (go_at_call 37; (with_reducible refine (must_ok 12 _).mono ?_); rintro e W3 ⟨rfl, rfl⟩)
        | (go_at_call 9; refine HWAY.out.mono ?_; rintro e W4 ⟨⟨Aw, cw, rfl, hrw⟩, hB4⟩))
      have hw3 : W3.heap.size ≤ W4.heap.size := hB4.size
      have hl3 : w.heap.size + 2 < W3.heap.size := (Array.getElem?_eq_some_iff.1 HPZ3.out).1
      have HB4 := Lib.hid (HB3.out.trans (hB4.mono (by omega)))
      have HV4 := Lib.hid (HV3.out.same hB4)
      have c5 := keep_cell c5 hB4
      have HPZ4 := Lib.hid (blk_below HPZ3.out hB4 hl3)
      have HWB := Lib.hid hB4
      have HRW := Lib.hid hrw
      have hpz4 : w.heap.size + 1 + 1 < W4.heap.size := by omega
      clear hB4 hrw hpl HB3 HV3 HPZ3 HWAY hl3 c9 c11
      obtain ⟨r0, r9, r10, r11, ct, rz⟩ := HV4.out.cell rfl
      clear r0 r9 r10 r11 rz
      have e0 := ct 0 (by simp)
      have e1 := ct 1 (by simp)
      have e2 := ct 2 (by simp)
      have e3 := ct 3 (by simp)
      have e4 := ct 4 (by simp)
      have e5 := ct 5 (by simp)
      have e6 := ct 6 (by simp)
      have e7 := ct 7 (by simp)
      simp only [List.getElem_cons_succ, List.getElem_cons_zero, Nat.reduceAdd] at e0 e1 e2 e3 e4 e5 e6 e7
      obtain ⟨yb, yo, rfl, hyb, hyc⟩ := HRW.out.form (by simp)
      have y0 := hyc 0 (by simp)
      have y1 := hyc 1 (by simp)
      simp only [iv, List.map_cons, List.map_nil, List.getElem_cons_succ, List.getElem_cons_zero, Nat.add_zero] at y0 y1
      clear ct hyc
      try simp only [List.length_cons, List.length_nil, Nat.reduceAdd]
      have hFe2 := HFE.out
      subst hFe2
      clear HFE
      obtain ⟨fb, fo, rfl, hfb, hfc⟩ := (HF.out.below HB4.out).form (by simp)
      have g0 := hfc 0 (by simp)
      have g1 := hfc 1 (by simp)
      simp only [iv, List.map_cons, List.map_nil, List.getElem_cons_succ, List.getElem_cons_zero, Nat.add_zero] at g0 g1
      have hn2 : (2 : Int) ≤ (nf : Int) := by have := HN2.out; omega
      have hn3 : 2 ≤ cf := by have := HN2.out; omega
      clear hfc
      have hF0 := HO.out.f f0 (by simp)
      have hF1 := HO.out.f f1 (by simp)
      have hb0 := HO.out.b0
      have hb1 := HO.out.b1
      have hn96 := HN96.out
      have hne := HNE.out
      go_upto_region 31 with (go_at_call 37; (with_reducible refine (must_ok 4 _).mono ?_); rintro e W5 ⟨rfl, rfl⟩)
      have HPx := Lib.hid (blk11 W4 (.cells #[.int .i64 a0, .int .i64 a1, .int .i64 a2, .int .i64 a3, .int .i64 a4, .int .i64 a5, .int .i64 a6, .int .i64 a7, .slice none 0 0, .int .i64 0] 68))
      have HZx : Hid ((W4.alloc (.cells #[.int .i64 a0, .int .i64 a1, .int .i64 a2, .int .i64 a3, .int .i64 a4, .int .i64 a5, .int .i64 a6, .int .i64 a7, .slice none 0 0, .int .i64 0] 68)).heap[w.heap.size + 1 + 1]? = _) := Lib.hid (blk_below HPZ4.out (below_al W4 (.cells #[.int .i64 a0, .int .i64 a1, .int .i64 a2, .int .i64 a3, .int .i64 a4, .int .i64 a5, .int .i64 a6, .int .i64 a7, .slice none 0 0, .int .i64 0] 68)) hpz4)
      have HBx := Lib.hid (HB4.out.alloc HB4.out.size (.cells #[.int .i64 a0, .int .i64 a1, .int .i64 a2, .int .i64 a3, .int .i64 a4, .int .i64 a5, .int .i64 a6, .int .i64 a7, .slice none 0 0, .int .i64 0] 68))
      have HBY := Lib.hid (below_al W4 (.cells #[.int .i64 a0, .int .i64 a1, .int .i64 a2, .int .i64 a3, .int .i64 a4, .int .i64 a5, .int .i64 a6, .int .i64 a7, .slice none 0 0, .int .i64 0] 68))
      have ya := keep_cell y1 HBY.out
      generalize W4.alloc (.cells #[.int .i64 a0, .int .i64 a1, .int .i64 a2, .int .i64 a3, .int .i64 a4, .int .i64 a5, .int .i64 a6, .int .i64 a7, .slice none 0 0, .int .i64 0] 68) = Wx at *
      go_wp2
      go_loopw [24, 25, 26, 27, 164] (fun _ _ _ _ v wx => v = .int .i64 0 ∧ wx = Wx) (fun _ _ _ _ _ _ => 0)
      case atStart => exact ⟨rfl, rfl⟩
      case round =>
        obtain ⟨rfl, hx⟩ := hrel
        have hx := hx.symm
        subst hx
        go_upto_region 44 with (fail)
        have hwb : IntKind.u8.wrap b = b := by rw [IntKind.wrap_u8]; omega
        have hconv : ∀ (W : World) (s : Nat), W.heap[s]? = some (.cells #[.int .u8 b] 5 (0, 0)) → (convert 45 9 (.slice (some ⟨s, 0, none⟩) 1 1)).run Try.prog W = .ok (.string (strOfNums [b])) W := fun W s h => (rd_block h 1 1 [.int .u8 b] 0 (Nat.le_refl _) (by omega) (fun j hj => by simp at hj; subst hj; rfl)).str (xs := [b]) rfl Try.underlying45 Try.underlying5 Try.underlying9
        have HS : At (fun w' : World => w'.cell? ⟨yb, yo + 1, none⟩ = some (.int .i64 j1)) Wx.drew := ya
        have HPx1 : Hid (Wx.drew.heap[W4.heap.size]? = _) := HPx
        have HZx1 : Hid (Wx.drew.heap[w.heap.size + 1 + 1]? = _) := HZx
        have HBx1 : Hid (Below w.heap.size w Wx.drew) := Lib.hid HBx.out.drew
        have HSz : Hid (Wx.drew.heap.size = Wx.heap.size) := Lib.hid rfl
        refine any_start HS [0, 1, 2, 3, 4, 5, 6, 9, 10] (by kernel_rfl) ?_
        generalize Wx.drew = Wd at *
        refine any_take 0 rfl (by kernel_rfl) (fun _ _ d _ _ h => by cases d <;> exact h) (by kernel_rfl) HS (fun w9 h9 => by have s0 : w9.cell? _ = _ := h9; go_simp; first | done | rfl) (fun K hK => ?_); go_simp; refine hK _ ?_; clear hK K
        refine any_take 1 rfl (by kernel_rfl) (fun _ _ d _ _ h => by cases d <;> exact h) (by kernel_rfl) HS (fun w9 h9 => by have s0 : w9.cell? _ = _ := h9; go_simp; first | done | rfl) (fun K hK => ?_); go_simp; refine hK _ ?_; clear hK K
        refine any_take 2 rfl (by kernel_rfl) (fun _ _ d _ _ h => by cases d <;> exact h) (by kernel_rfl) HS (fun w9 h9 => by have s0 : w9.cell? _ = _ := h9; go_simp; first | done | rfl) (fun K hK => ?_); go_simp; refine hK _ ?_; clear hK K
        refine any_take 3 rfl (by kernel_rfl) (fun _ _ d _ _ h => by cases d <;> exact h) (by kernel_rfl) HS (fun w9 h9 => by have s0 : w9.cell? _ = _ := h9; go_simp; first | done | rfl) (fun K hK => ?_); go_simp; refine hK _ ?_; clear hK K
        refine any_take 4 rfl (by kernel_rfl) (fun _ _ d _ _ h => by cases d <;> exact h) (by kernel_rfl) HS (fun w9 h9 => by have s0 : w9.cell? _ = _ := h9; go_simp; first | done | rfl) (fun K hK => ?_); go_simp; refine hK _ ?_; clear hK K
        refine any_take 5 rfl (by kernel_rfl) (fun _ _ d _ _ h => by cases d <;> exact h) (by kernel_rfl) HS (fun w9 h9 => by have s0 : w9.cell? _ = _ := h9; go_simp; first | done | rfl) (fun K hK => ?_); go_simp; refine hK _ ?_; clear hK K
        refine any_take 6 rfl (by kernel_rfl) (fun _ _ d _ _ h => by cases d <;> exact h) (by kernel_rfl) HS (fun w9 h9 => by have s0 : w9.cell? _ = _ := h9; go_simp; first | done | rfl) (fun K hK => ?_); go_simp; refine hK _ ?_; clear hK K
        refine any_two 7 11 rfl rfl (by kernel_rfl) (by kernel_rfl) (by kernel_rfl) (fun K hK => ?gA) (fun K hK => ?gB)
        case' gA =>
          go_simp
          have HS7 : At (fun w' : World => w'.cell? ⟨yb, yo + 1, none⟩ = some (.int .i64 j1)) (Wd.alloc (.cells #[.int .u8 b] 5)) := keep_cell HS (below_al _ _)
          refine hK _ _ (fun _ => HS7) ?_
          clear hK K
          refine any_two 8 11 rfl rfl (by kernel_rfl) (by kernel_rfl) (by kernel_rfl) (fun K hK => ?gC) (fun K hK => ?gD)
        case' gC =>
          have hcv := hconv (Wd.alloc (.cells #[.int .u8 b] 5)) Wd.heap.size (blk11 Wd _)
          go_simp
          refine hK _ _ (fun _ => HS7) ?_
          clear hK K
          refine any_take 9 rfl (by kernel_rfl) (fun _ _ d _ _ h => by cases d <;> exact h) (by kernel_rfl) HS7 (fun w9 h9 => by have s0 : w9.cell? _ = _ := h9; go_simp; first | done | rfl) (fun K hK => ?_); go_simp; refine hK _ ?_; clear hK K
          refine any_take 10 rfl (by kernel_rfl) (fun _ _ d _ _ h => by cases d <;> exact h) (by kernel_rfl) HS7 (fun w9 h9 => by have s0 : w9.cell? _ = _ := h9; go_simp; first | done | rfl) (fun K hK => ?_); go_simp; refine hK _ ?_; clear hK K
          refine any_one 11 rfl (by kernel_rfl) (by kernel_rfl) (fun K hK => ?_)
          go_simp
          have HS8 : At (fun w' : World => w'.cell? ⟨yb, yo + 1, none⟩ = some (.int .i64 j1)) ((Wd.alloc (.cells #[.int .u8 b] 5)).alloc (.cells #[.int .i64 0, .int .i64 0, .string ⟨#[]⟩, .slice none 0 0] 75)) := keep_cell HS7 (below_al _ _)
          refine hK _ _ (fun _ => HS8) ?_
          clear hK K HS7
          refine any_one 12 rfl (by kernel_rfl) (by kernel_rfl) (fun K hK => ?_)
          go_simp
          have HS9 : At (fun w' : World => w'.cell? ⟨yb, yo + 1, none⟩ = some (.int .i64 j1)) ((Wd.alloc (.cells #[.int .u8 b] 5)).alloc (.cells #[.int .i64 a6, .int .i64 j1, .string (strOfNums [b]), .slice none 0 0] 75)) := keep_cell (keep_cell HS (below_al Wd (.cells #[.int .u8 b] 5))) (below_al _ _)
          refine hK _ _ (fun _ => HS9) ?_
          clear hK K HS8
          refine any_end (by kernel_rfl) ?_
          have HBW : Hid (Below Wd.heap.size Wd ((Wd.alloc (.cells #[.int .u8 b] 5)).alloc (.cells #[.int .i64 a6, .int .i64 j1, .string (strOfNums [b]), .slice none 0 0] 75))) := Lib.hid ((below_al Wd _).alloc (by simp) _)
          have HIY : Hid (((Wd.alloc (.cells #[.int .u8 b] 5)).alloc (.cells #[.int .i64 a6, .int .i64 j1, .string (strOfNums [b]), .slice none 0 0] 75)).heap[Wd.heap.size + 1]? = some (.cells #[.int .i64 a6, .int .i64 j1, .string (strOfNums [b]), .slice none 0 0] 75 (0, 0))) := Lib.hid (by have := blk11 (Wd.alloc (.cells #[.int .u8 b] 5)) (.cells #[.int .i64 a6, .int .i64 j1, .string (strOfNums [b]), .slice none 0 0] 75); simpa using this)
          have HGI : Hid (Wx.heap.size ≤ Wd.heap.size + 1) := Lib.hid (by have := HSz.out; simp; omega)
          clear hcv
          generalize (Wd.alloc (.cells #[.int .u8 b] 5)).alloc (.cells #[.int .i64 a6, .int .i64 j1, .string (strOfNums [b]), .slice none 0 0] 75) = Wy at *
          generalize Wd.heap.size + 1 = ib at HIY HGI ⊢

        case' gD =>
          go_simp
          have HS8 : At (fun w' : World => w'.cell? ⟨yb, yo + 1, none⟩ = some (.int .i64 j1)) ((Wd.alloc (.cells #[.int .u8 b] 5)).alloc (.cells #[.int .i64 0, .int .i64 0, .string ⟨#[]⟩, .slice none 0 0] 75)) := keep_cell HS7 (below_al _ _)
          refine hK _ _ (fun _ => HS8) ?_
          clear hK K HS7
          have hcv := hconv ((Wd.alloc (.cells #[.int .u8 b] 5)).alloc (.cells #[.int .i64 0, .int .i64 0, .string ⟨#[]⟩, .slice none 0 0] 75)) Wd.heap.size (blk_below (blk11 Wd _) (below_al _ _) (by simp))
          refine any_one 8 rfl (by kernel_rfl) (by kernel_rfl) (fun K hK => ?_)
          go_simp
          refine hK _ _ (fun _ => HS8) ?_
          clear hK K
          refine any_take 9 rfl (by kernel_rfl) (fun _ _ d _ _ h => by cases d <;> exact h) (by kernel_rfl) HS8 (fun w9 h9 => by have s0 : w9.cell? _ = _ := h9; go_simp; first | done | rfl) (fun K hK => ?_); go_simp; refine hK _ ?_; clear hK K
          refine any_take 10 rfl (by kernel_rfl) (fun _ _ d _ _ h => by cases d <;> exact h) (by kernel_rfl) HS8 (fun w9 h9 => by have s0 : w9.cell? _ = _ := h9; go_simp; first | done | rfl) (fun K hK => ?_); go_simp; refine hK _ ?_; clear hK K
          refine any_one 12 rfl (by kernel_rfl) (by kernel_rfl) (fun K hK => ?_)
          go_simp
          have HS9 : At (fun w' : World => w'.cell? ⟨yb, yo + 1, none⟩ = some (.int .i64 j1)) ((Wd.alloc (.cells #[.int .u8 b] 5)).alloc (.cells #[.int .i64 a6, .int .i64 j1, .string (strOfNums [b]), .slice none 0 0] 75)) := keep_cell (keep_cell HS (below_al Wd (.cells #[.int .u8 b] 5))) (below_al _ _)
          refine hK _ _ (fun _ => HS9) ?_
          clear hK K HS8
          refine any_end (by kernel_rfl) ?_
          have HBW : Hid (Below Wd.heap.size Wd ((Wd.alloc (.cells #[.int .u8 b] 5)).alloc (.cells #[.int .i64 a6, .int .i64 j1, .string (strOfNums [b]), .slice none 0 0] 75))) := Lib.hid ((below_al Wd _).alloc (by simp) _)
          have HIY : Hid (((Wd.alloc (.cells #[.int .u8 b] 5)).alloc (.cells #[.int .i64 a6, .int .i64 j1, .string (strOfNums [b]), .slice none 0 0] 75)).heap[Wd.heap.size + 1]? = some (.cells #[.int .i64 a6, .int .i64 j1, .string (strOfNums [b]), .slice none 0 0] 75 (0, 0))) := Lib.hid (by have := blk11 (Wd.alloc (.cells #[.int .u8 b] 5)) (.cells #[.int .i64 a6, .int .i64 j1, .string (strOfNums [b]), .slice none 0 0] 75); simpa using this)
          have HGI : Hid (Wx.heap.size ≤ Wd.heap.size + 1) := Lib.hid (by have := HSz.out; simp; omega)
          clear hcv
          generalize (Wd.alloc (.cells #[.int .u8 b] 5)).alloc (.cells #[.int .i64 a6, .int .i64 j1, .string (strOfNums [b]), .slice none 0 0] 75) = Wy at *
          generalize Wd.heap.size + 1 = ib at HIY HGI ⊢

        case' gB =>
          go_simp
          have HS7 : At (fun w' : World => w'.cell? ⟨yb, yo + 1, none⟩ = some (.int .i64 j1)) (Wd.alloc (.cells #[.int .i64 0, .int .i64 0, .string ⟨#[]⟩, .slice none 0 0] 75)) := keep_cell HS (below_al _ _)
          refine hK _ _ (fun _ => HS7) ?_
          clear hK K
          refine any_one 7 rfl (by kernel_rfl) (by kernel_rfl) (fun K hK => ?_)
          go_simp
          have HS8 : At (fun w' : World => w'.cell? ⟨yb, yo + 1, none⟩ = some (.int .i64 j1)) ((Wd.alloc (.cells #[.int .i64 0, .int .i64 0, .string ⟨#[]⟩, .slice none 0 0] 75)).alloc (.cells #[.int .u8 b] 5)) := keep_cell HS7 (below_al _ _)
          refine hK _ _ (fun _ => HS8) ?_
          clear hK K HS7
          have hcv := hconv ((Wd.alloc (.cells #[.int .i64 0, .int .i64 0, .string ⟨#[]⟩, .slice none 0 0] 75)).alloc (.cells #[.int .u8 b] 5)) (Wd.heap.size + 1) ((by have := blk11 (Wd.alloc (.cells #[.int .i64 0, .int .i64 0, .string ⟨#[]⟩, .slice none 0 0] 75)) (.cells #[.int .u8 b] 5); simpa using this))
          refine any_one 8 rfl (by kernel_rfl) (by kernel_rfl) (fun K hK => ?_)
          go_simp
          refine hK _ _ (fun _ => HS8) ?_
          clear hK K
          refine any_take 9 rfl (by kernel_rfl) (fun _ _ d _ _ h => by cases d <;> exact h) (by kernel_rfl) HS8 (fun w9 h9 => by have s0 : w9.cell? _ = _ := h9; go_simp; first | done | rfl) (fun K hK => ?_); go_simp; refine hK _ ?_; clear hK K
          refine any_take 10 rfl (by kernel_rfl) (fun _ _ d _ _ h => by cases d <;> exact h) (by kernel_rfl) HS8 (fun w9 h9 => by have s0 : w9.cell? _ = _ := h9; go_simp; first | done | rfl) (fun K hK => ?_); go_simp; refine hK _ ?_; clear hK K
          refine any_one 12 rfl (by kernel_rfl) (by kernel_rfl) (fun K hK => ?_)
          go_simp
          have HS9 : At (fun w' : World => w'.cell? ⟨yb, yo + 1, none⟩ = some (.int .i64 j1)) ((Wd.alloc (.cells #[.int .i64 a6, .int .i64 j1, .string (strOfNums [b]), .slice none 0 0] 75)).alloc (.cells #[.int .u8 b] 5)) := keep_cell (keep_cell HS (below_al Wd (.cells #[.int .i64 a6, .int .i64 j1, .string (strOfNums [b]), .slice none 0 0] 75))) (below_al _ _)
          refine hK _ _ (fun _ => HS9) ?_
          clear hK K HS8
          refine any_end (by kernel_rfl) ?_
          have HBW : Hid (Below Wd.heap.size Wd ((Wd.alloc (.cells #[.int .i64 a6, .int .i64 j1, .string (strOfNums [b]), .slice none 0 0] 75)).alloc (.cells #[.int .u8 b] 5))) := Lib.hid ((below_al Wd _).alloc (by simp) _)
          have HIY : Hid (((Wd.alloc (.cells #[.int .i64 a6, .int .i64 j1, .string (strOfNums [b]), .slice none 0 0] 75)).alloc (.cells #[.int .u8 b] 5)).heap[Wd.heap.size]? = some (.cells #[.int .i64 a6, .int .i64 j1, .string (strOfNums [b]), .slice none 0 0] 75 (0, 0))) := Lib.hid (blk_below (blk11 Wd _) (below_al _ _) (by simp))
          have HGI : Hid (Wx.heap.size ≤ Wd.heap.size) := Lib.hid (by have := HSz.out; simp; omega)
          clear hcv
          generalize (Wd.alloc (.cells #[.int .i64 a6, .int .i64 j1, .string (strOfNums [b]), .slice none 0 0] 75)).alloc (.cells #[.int .u8 b] 5) = Wy at *
          generalize Wd.heap.size = ib at HIY HGI ⊢
        all_goals
          have hlP := (Array.getElem?_eq_some_iff.1 HPx1.out).1
          have hlZ := (Array.getElem?_eq_some_iff.1 HZx1.out).1
          have hsW := HBW.out.size
          have HPy : Hid (Wy.heap[W4.heap.size]? = _) := Lib.hid (blk_below HPx1.out HBW.out hlP)
          have HZy : Hid (Wy.heap[w.heap.size + 1 + 1]? = _) := Lib.hid (blk_below HZx1.out HBW.out hlZ)
          have HBy : Hid (Below w.heap.size w Wy) := Lib.hid (HBx1.out.trans (HBW.out.mono HBx1.out.size))
          have p8 : Wy.cell? ⟨W4.heap.size, 8, none⟩ = some (.slice none 0 0) := by rw [blk_cell HPy.out]; rfl
          have hic := blk_cell HIY.out
          have i0 := hic 0
          have i1 := hic 1
          have i2 := hic 2
          have i3 := hic 3
          simp only [List.getElem?_toArray, List.getElem?_cons_zero, List.getElem?_cons_succ] at i0 i1 i2 i3
          clear hic HS HS9 HPx HZx HBx HPx1 HZx1 HBx1 ya hconv
          have HOy : Hid (Wy.ownsRow W4.heap.size 75 4 (.slice none 0 0) 0 (itvs [] [])) := Lib.hid (World.ownsRow_nil _ _ _ _)
          have hne8 : Value.ownBlock (.slice none 0 0) ≠ some W4.heap.size := fun e => by
            obtain ⟨cur, hc⟩ := own_block HOy.out _ e
            rw [HPy.out] at hc; cases hc
          have hnez : Value.ownBlock (.slice none 0 0) ≠ some (w.heap.size + 1 + 1) := fun e => by
            obtain ⟨cur, hc⟩ := own_block HOy.out _ e
            rw [HZy.out] at hc; cases hc
          go_wp2
          go_loopw [29, 225] (fun _ v wx => v = .int .i64 0 ∧ wx = Wy) (fun _ _ _ => 0)
          case atStart => exact ⟨rfl, rfl⟩
          case round =>
            obtain ⟨rfl, hx⟩ := hrel
            have hx := hx.symm
            subst hx
            go_upto_region 51 with (at_builtin; (refine wpList_pushN Wy rfl _ _ 51 75 rfl W4.heap.size (.agg #[.int .i64 0, .int .i64 0, .string ⟨#[]⟩, .slice none 0 0]) 4 56 Try.underlying51 infoItm rfl (by omega) (by omega) (.slice none 0 0) 0 _ [.int .i64 a6, .int .i64 (j1 : Int), .string (strOfNums [b]), .slice none 0 0] rfl rfl rfl (by simp [Value.oneCell']) HOy.out (by omega) (by omega) rfl ?_; intro g cap w9 ho hg hat hlt9; have hpk : w9.heap[W4.heap.size]? = _ := (hg.block _ (by omega) (fun e => hne8 e.symm)).trans HPy.out; have hzk : w9.heap[w.heap.size + 1 + 1]? = _ := (hg.block _ (by omega) (fun e => hnez e.symm)).trans HZy.out; have HPK := Lib.hid hpk; have HZK := Lib.hid hzk; have HO9 := Lib.hid ho; have HB9 := Lib.hid (below_grown HBy.out hg (by omega) (fun j hj => by have := own_row HOy.out j hj; omega)); have p9 : w9.cell? ⟨W4.heap.size, 8, none⟩ = some (.slice none 0 0) := (by rw [blk_cell hpk]; rfl); have z9 := blk_free hpk 8; clear hpk hzk ho hg hat))
            have hgn : g ≠ W4.heap.size := fun e => by
              obtain ⟨cur, hc⟩ := own_block HO9.out g rfl
              rw [e, HPK.out] at hc; cases hc
            have HPc := Lib.hid (blk_set HPK.out 8 (.slice (some ⟨g, 0, none⟩) (0 + 1) cap))
            have HZc : Hid ((w9.setCell ⟨W4.heap.size, 8, none⟩ (.slice (some ⟨g, 0, none⟩) (0 + 1) cap)).heap[w.heap.size + 1 + 1]? = _) := Lib.hid ((Below.heap_setCell _ _ _ _ (by simp only; omega)).trans HZK.out)
            have HBc := Lib.hid (HB9.out.setCell (p := ⟨W4.heap.size, 8, none⟩) (by simp only; omega) (.slice (some ⟨g, 0, none⟩) (0 + 1) cap))
            have HOc := Lib.hid (own_same (w' := w9.setCell ⟨W4.heap.size, 8, none⟩ (.slice (some ⟨g, 0, none⟩) (0 + 1) cap)) HO9.out (fun j hj => by cases hj; exact Below.heap_setCell _ _ _ _ hgn))
            clear p8 p9 z9 i0 i1 i2 i3 HPK HZK HO9 HB9 HPy HZy HBy HOy hne8 hnez
            simp only [List.setIfInBounds_toArray, List.set_cons_zero, List.set_cons_succ] at HPc
            generalize w9.setCell ⟨W4.heap.size, 8, none⟩ (.slice (some ⟨g, 0, none⟩) (0 + 1) cap) = Wc at *
            have hPB := blk_cell HPc.out
            have hZB := blk_cell HZc.out
            have p0 := hPB 0
            have p1 := hPB 1
            have p2 := hPB 2
            have p3 := hPB 3
            have p4 := hPB 4
            have p5 := hPB 5
            have p6 := hPB 6
            have p7 := hPB 7
            have p8 := hPB 8
            have p9 := hPB 9
            have q0 := hZB 0
            have q1 := hZB 1
            have q2 := hZB 2
            have q3 := hZB 3
            have q4 := hZB 4
            have q5 := hZB 5
            have q6 := hZB 6
            have q7 := hZB 7
            have q8 := hZB 8
            have q9 := hZB 9
            simp only [putC, putZ, iv, List.map_cons, List.map_nil, List.cons_append, List.nil_append, List.getElem?_toArray, List.getElem?_cons_zero, List.getElem?_cons_succ] at p0 p1 p2 p3 p4 p5 p6 p7 p8 p9 q0 q1 q2 q3 q4 q5 q6 q7 q8 q9
            have zP := blk_free HPc.out
            have zZ := blk_free HZc.out
            have hneB : W4.heap.size ≠ w.heap.size + 1 + 1 := by omega
            have hneC : w.heap.size + 1 + 1 ≠ W4.heap.size := by omega
            clear hPB hZB
            go_wp2
            have hZ9 := set10 HZc.out (.int .i64 a0) (.int .i64 a1) (.int .i64 a2) (.int .i64 a3) (.int .i64 a4) (.int .i64 a5) (.int .i64 a6) (.int .i64 a7) (.slice (some ⟨g, 0, none⟩) (0 + 1) cap) (.int .i64 0)
            have hFr := fr10 Wc (w.heap.size + 1 + 1) (.int .i64 a0) (.int .i64 a1) (.int .i64 a2) (.int .i64 a3) (.int .i64 a4) (.int .i64 a5) (.int .i64 a6) (.int .i64 a7) (.slice (some ⟨g, 0, none⟩) (0 + 1) cap) (.int .i64 0)
            generalize ((((((((((Wc.setCell ⟨w.heap.size + 1 + 1, 0, none⟩ (.int .i64 a0)).setCell ⟨w.heap.size + 1 + 1, 1, none⟩ (.int .i64 a1)).setCell ⟨w.heap.size + 1 + 1, 2, none⟩ (.int .i64 a2)).setCell ⟨w.heap.size + 1 + 1, 3, none⟩ (.int .i64 a3)).setCell ⟨w.heap.size + 1 + 1, 4, none⟩ (.int .i64 a4)).setCell ⟨w.heap.size + 1 + 1, 5, none⟩ (.int .i64 a5)).setCell ⟨w.heap.size + 1 + 1, 6, none⟩ (.int .i64 a6)).setCell ⟨w.heap.size + 1 + 1, 7, none⟩ (.int .i64 a7)).setCell ⟨w.heap.size + 1 + 1, 8, none⟩ (.slice (some ⟨g, 0, none⟩) (0 + 1) cap)).setCell ⟨w.heap.size + 1 + 1, 9, none⟩ (.int .i64 0)) = Wf at *
            have hown := own_same (w' := Wf) HOc.out (fun j hj => by
              obtain ⟨cur, hc⟩ := own_block HOc.out j hj
              refine hFr.block j (Array.getElem?_eq_some_iff.1 hc).1 ?_
              intro e
              rw [e, HZc.out] at hc
              cases hc)
            have hHB : Below w.heap.size w Wf := HBc.out.trans (hFr.below (B := w.heap.size) HBc.out.size (fun k h => by omega))
            clear p0 p1 p2 p3 p4 p5 p6 p7 p8 p9 q0 q1 q2 q3 q4 q5 q6 q7 q8 q9 zP zZ
            refine bodyPost_ret (v := .agg (putC [a0, a1, a2, a3, a4, a5, a6, a7] (.slice (some ⟨g, 0, none⟩) (0 + 1) cap) 0)) ?_ rfl ?_
            · have d := blk_cell hZ9
              have d0 := d 0
              have d1 := d 1
              have d2 := d 2
              have d3 := d 3
              have d4 := d 4
              have d5 := d 5
              have d6 := d 6
              have d7 := d 7
              have d8 := d 8
              have d9 := d 9
              simp only [List.getElem?_toArray, List.getElem?_cons_zero, List.getElem?_cons_succ] at d0 d1 d2 d3 d4 d5 d6 d7 d8 d9
              simp [results, Try.results31, go_sem, d0, d1, d2, d3, d4, d5, d6, d7, d8, d9, putC, iv]
            · refine ⟨_, _, rfl, ?_, hHB⟩
              rw [← HJ1.out]
              refine ⟨[(none, 0, 0)], ⟨hown.1, hown.2.imp id fun ⟨g, cap, cur, e, hb, r⟩ => ⟨g, cap, cur, e, by omega, r⟩⟩, rfl, rfl, fun j hj => ?_⟩
              match j, hj with
              | 0, _ => exact ⟨rfl, Rd.nil (c := 0) (by omega)⟩
end Go.Proofs.Ytcgfoaihfncppaa
