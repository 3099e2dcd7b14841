/- Walks of big: plan, its other ways. PRINTED by wip/tools/gen_bgc.py out of plan_30. -/
import Derived.Test.YtcgfoaihfncppaaKBgC
import Derived.Test.YtcgfoaihfncppaaKBgO
import Derived.Test.YtcgfoaihfncppaaKBgS
set_option linter.unusedSimpArgs false
set_option linter.unusedVariables false
namespace Go.Proofs.Ytcgfoaihfncppaa
open Go.RowKit Go.Sel Go.Sel.Gra Go.Sel.Bg Go.Sel.Mer Go.Shelf

set_option maxRecDepth 100000 in
set_option maxHeartbeats 8000000 in
theorem plan_20 (A : Option Addr) (n c : Nat) (D : List (List Int)) (t : List Int) (k : Nat) (b : Int) (Af : Option Addr) (nf cf : Nat) (F F' : List Int) (f0 f1 : Int) (hFe : F = f0 :: f1 :: F') (ht : t.length = 8) (w : World) (hD : Bp w A n c D) (hR : Rt D t) (hF : Rd w Af nf cf (iv .i64 F)) (hlF : F.length = nf) (hO : OkPut D t n k b F) (hk6 : ¬ k < 6) (hk38 : k < 38) (h6 : tp t 6 = 0) :
    Calls Try.prog 31 #[.slice A n c, bigV t, .int .i64 (k : Int), .int .i64 b, .slice Af nf cf] w fun e w' => ∃ Ai ci, e = .returned (.agg (putC (t.set 6 f0) (.slice Ai 1 ci) 1)) ∧ PI w.heap.size w' (.slice Ai 1 ci) 1 [⟨f0, 0, strOfNums (pt (k - 6) b), []⟩] ∧ Below w.heap.size w w' := by

  have HFE := Lib.hid hFe
  have hn2 : 2 ≤ nf := by rw [← hlF, hFe]; simp
  clear hFe
  have HF := Lib.hid hF
  have HLF := Lib.hid hlF
  have HO := Lib.hid hO
  have HD := Lib.hid hD
  have HN96 : Hid (n ≤ 96) := Lib.hid (by rw [← hD.len]; exact hR.1.1)
  have hf1 := hF.le
  have hf2 := hF.cap
  have hk0 : (0 : Int) ≤ (k : Int) := by omega
  have hk1 : (k : Int) < 1062 := by have := hO.hk; omega
  have HLK : Hid (∀ W, Below w.heap.size w W → Calls Try.prog 36 #[.slice A n c, bigV t] W fun e w' => ∃ vb mp mt vi, e = .returned (.pointer (some ⟨vb, 0, none⟩)) ∧ Vw W w' A n c D t vb mp mt 1096 1096 (innD D t) vi) := Lib.hid fun W hB => look_ok A n c D t ht W (hD.below hB) hR
  have hmf : ∀ (fn : Fn) (first cap : Array Value) (w : World), (Instr.makeFunc fn first cap).run Try.prog w = .ok (.func fn first cap) w := fun _ _ _ _ => rfl
  have H8 := Lib.hid ht
  clear hF hlF hO hD hR
  obtain ⟨a0, a1, a2, a3, a4, a5, a6, a7, rfl⟩ := len8 ht
  clear ht
  have e6 : a6 = 0 := h6
  subst e6
  clear h6
  simp only [bigV, iv, List.map_cons, List.map_nil] at HLK ⊢
  go_enter Try.func31, Try.ntmps31
  have HN2 := Lib.hid hn2
  clear hn2
  have HK6 := Lib.hid hk6
  have HK38 := Lib.hid hk38
  clear hk6 hk38
  have HWX : Hid (∀ o p q : Obj, Below w.heap.size w (((w.alloc o).alloc p).alloc q)) := Lib.hid fun o p q => ((below_al w _).alloc (by simp) _).alloc (by simp <;> omega) _
  have HW1 : Hid (∀ p q : Obj, (((w.alloc (.cells #[.slice A n c] 33)).alloc p).alloc q).cell? ⟨w.heap.size, 0, none⟩ = some (.slice A n c)) := Lib.hid fun p q => keep_cell (keep_cell (by rw [blk_cell (blk11 w _)]; rfl) (below_al _ _)) (below_al _ _)
  have HW3 : Hid (∀ o p : Obj, (((w.alloc o).alloc p).alloc (.cells putZ 68)).heap[w.heap.size + 2]? = some (.cells putZ 68 (0, 0)) ∧ (((w.alloc o).alloc p).alloc (.cells putZ 68)).heap.size = w.heap.size + 3) := Lib.hid fun o p => by
    have h := blk11 ((w.alloc o).alloc p) (.cells putZ 68)
    exact ⟨by simpa using h, by simp⟩
  simp only [putZ] at HW3
  go_upto_region 2 with (go_at_call 36; refine (HLK.out _ (HWX.out _ _ _)).mono ?_; rintro e w2 ⟨vb, mp, mt, vi, rfl, hV⟩; have HV := Lib.hid hV; have HB := Lib.hid ((HWX.out _ _ _).trans (hV.hB.mono (by simp <;> omega))); have c5 := keep_cell (HW1.out _ _) hV.hB; have HPZ := Lib.hid (blk_below (HW3.out _ _).1 hV.hB (by simp)); clear hV)
  obtain ⟨W0, hW0, HV⟩ : ∃ W0 : World, W0.heap.size = w.heap.size + 3 ∧ Hid (Vw W0 w2 A n c D [a0, a1, a2, a3, a4, a5, 0, a7] vb mp mt 1096 1096 (innD D [a0, a1, a2, a3, a4, a5, 0, a7]) vi) := ⟨_, by simp, HV⟩
  have HW0 := Lib.hid hW0
  clear hW0 HLK HW1 HW3 HWX
  have HP1 : Hid (∀ W, W.cell? ⟨w.heap.size, 0, none⟩ = some (.slice A n c) → Calls Try.prog 54 #[.int .i64 b, .pointer (some ⟨w.heap.size, 0, none⟩)] W fun e w' => e = .returned (.bool true) ∧ w' = W) := Lib.hid fun W h => (plan1_any b w.heap.size A n c W h).mono (by
    rintro e w' ⟨rfl, rfl⟩
    exact ⟨by simp [HO.out.b0, HO.out.b1], rfl⟩)
  have HP2 : Hid (∀ W (fb : Nat), W.cell? ⟨fb, 0, none⟩ = some (.func (.func 54) #[] #[.pointer (some ⟨w.heap.size, 0, none⟩)]) → W.cell? ⟨w.heap.size, 0, none⟩ = some (.slice A n c) → Rd W Af nf cf (iv .i64 F) →
      Calls Try.prog 55 #[.slice Af nf cf, .func (.func 56) #[] #[.pointer (some ⟨fb, 0, none⟩)]] W fun e w' => e = .returned (.bool false) ∧ ∃ q, w' = W.drewN q) := Lib.hid fun W fb h1 h2 h3 => (ContainsFunc_any 56 _ (enters_of Try.func56 (by kernel_rfl) rfl) _ Af nf cf F W h3 HLF.out (plan2_tells fb w.heap.size A n c F W h1 h2)).mono (by
    rintro e w' ⟨rfl, q, rfl⟩
    refine ⟨?_, q, rfl⟩
    congr 2
    rw [List.any_eq_false]
    intro x hx
    have := HO.out.f x hx
    simp [this.1, this.2])
  have hw2 : Hid (w.heap.size + 2 < w2.heap.size) := Lib.hid (Array.getElem?_eq_some_iff.1 HPZ.out).1
  go_upto_region 4 with (first
    | (go_at_call 37; (with_reducible refine (must_ok 2 _).mono ?_); rintro e W3 ⟨rfl, rfl⟩)
    | (go_at_call 54; refine (HP1.out _ (keep_cell c5 (below_al _ _))).mono ?_; rintro e w4 ⟨rfl, rfl⟩)
    | (go_at_call 55; refine (HP2.out _ w2.heap.size (by rw [blk_cell (blk11 w2 _)]; rfl) (keep_cell c5 (below_al _ _)) ((HF.out.below HB.out).below (below_al _ _))).mono ?_; rintro e w4 ⟨rfl, q, hq⟩; have hB3 : Below w2.heap.size w2 w4 := (by rw [hq]; exact Below.then_drewN (below_al w2 _) _); clear hq; have HB3 := Lib.hid (HB.out.trans (hB3.mono (by have := hw2.out; omega))); have HV3 := Lib.hid (HV.out.same hB3); have c5 := keep_cell c5 hB3; have HPZ3 := Lib.hid (blk_below HPZ.out hB3 (by have := hw2.out; omega)); clear hB3))
  clear HB HV HP1 HP2 HPZ
  obtain ⟨l, hl, hp⟩ := HV3.out.pl
  obtain ⟨l2, hl2, ht2⟩ := HV3.out.tk
  obtain ⟨c0, c9, c10, c11, ct, cz⟩ := HV3.out.cell rfl
  have HL2 := Lib.hid hl2
  have HT2 := Lib.hid ht2
  have hlk : (Instr.lookup 82 (.map (some mt)) (.int .i64 b) false).run Try.prog W3 = .ok (.bool false) W3 := by
    rw [hl2.lookup (P := Try.prog) Try.underlying82 Try.underlying3 (zeroB W3) b, ht2.notIn HO.out.nb]; rfl
  have hpl : (Instr.lookup 80 (.map (some mp)) (.int .i64 (k : Int)) false).run Try.prog W3 = .ok (.int .i64 0) W3 := by
    rw [hl.lookup (P := Try.prog) Try.underlying80 Try.underlying3 (zeroI W3) (k : Int), hp.at_ HO.out.hk, HO.out.at_]
  have HC := Lib.hid ((Contains_any Af nf cf F b W3 (HF.out.below HB3.out) HLF.out).mono (R' := fun e w' => e = .returned (.bool false) ∧ w' = W3) (by rintro e w' ⟨rfl, rfl⟩; exact ⟨by have := HO.out.bF; simp [this], rfl⟩))
  clear hl hp hl2 ht2 c0 c10 ct cz
  go_upto_region 5 with (first
    | (go_at_call 37; (with_reducible refine (must_ok 6 _).mono ?_); rintro e W3 ⟨rfl, rfl⟩)
    | (go_at_call 57; refine HC.out.mono ?_; rintro e W3 ⟨rfl, rfl⟩))
  go_wp2
  go_loopw [13, 14, 68] (fun _ _ v wr => ∃ i : Nat, i ≤ nf ∧ v = .int .i64 i ∧ wr = W3) (fun _ _ v _ => nf - (Go.RowKit.intOf v).toNat)
  case atStart => exact ⟨0, by omega, rfl, rfl⟩
  case round =>
    obtain ⟨i, hi, rfl, rfl⟩ := hrel
    by_cases hlt : i < nf
    · have hil : i < F.length := by rw [HLF.out]; exact hlt
      obtain ⟨rb, ro, hAf, hrb, hrc⟩ := HF.out.form (by simp; omega)
      have hcx := hrc i (by simpa using hil)
      rw [iv_at] at hcx
      have hcy := keep_cell hcx HB3.out
      have hmem := List.getElem_mem hil
      have hlx : (Instr.lookup 82 (.map (some mt)) (.int .i64 F[i]) false).run Try.prog wr = .ok (.bool false) wr := by
        rw [HL2.out.lookup (P := Try.prog) Try.underlying82 Try.underlying3 (zeroB wr) F[i], HT2.out.notIn (HO.out.nf _ hmem)]; rfl
      have hrt := (HF.out.below HB3.out).upto i (by omega)
      have e : (iv .i64 F).take i = iv .i64 (F.take i) := by simp [iv, List.map_take]
      rw [e] at hrt
      have HCX := Lib.hid ((Contains_any Af i cf (F.take i) F[i] wr hrt (by simp; omega)).mono (R' := fun e w' => e = .returned (.bool false) ∧ w' = wr) (by rintro e w' ⟨rfl, rfl⟩; exact ⟨by have := nodup_take HO.out.nd hil; simp [this], rfl⟩))
      clear hrc hcx hmem hrt e HC hlk hpl
      generalize F[i] = x at *
      subst hAf
      go_wp2_with (first
        | (go_at_call 37; (with_reducible refine (must_ok 6 _).mono ?_); rintro e W3 ⟨rfl, rfl⟩)
        | (go_at_call 57; refine HCX.out.mono ?_; rintro e W3 ⟨rfl, rfl⟩))
      exact ⟨⟨i + 1, by omega, by go_num, by simp⟩, by simp [Go.RowKit.intOf]; omega⟩
    · clear HC hlk HL2 HT2
      have HWAY := Lib.hid (Way_ok k ⟨hk0, hk1⟩ wr)
      obtain ⟨j1, hj1⟩ : ∃ j1 : Nat, j1 = k - 6 := ⟨_, rfl⟩
      have hwl : wayL k = [6, (j1 : Int)] := by
        have := HK6.out
        have := HK38.out
        simp only [wayL]
        rw [if_neg (by omega), if_pos (by omega)]
        congr 2
        omega
      have hjs : j1 < 32 := by have := HK38.out; omega
      have HJ1 := Lib.hid hj1
      clear hj1
      rw [hwl] at HWAY
      clear hwl
      go_upto_region 12 with (first
        | (go_at_call 37; (with_reducible refine (must_ok 12 _).mono ?_); rintro e W3 ⟨rfl, rfl⟩)
        | (go_at_call 9; refine HWAY.out.mono ?_; rintro e W4 ⟨⟨Aw, cw, rfl, hrw⟩, hB4⟩))
      have hw3 : W3.heap.size ≤ W4.heap.size := hB4.size
      have hl3 : w.heap.size + 2 < W3.heap.size := (Array.getElem?_eq_some_iff.1 HPZ3.out).1
      have HB4 := Lib.hid (HB3.out.trans (hB4.mono (by omega)))
      have HV4 := Lib.hid (HV3.out.same hB4)
      have c5 := keep_cell c5 hB4
      have HPZ4 := Lib.hid (blk_below HPZ3.out hB4 hl3)
      have HWB := Lib.hid hB4
      have HRW := Lib.hid hrw
      have hpz4 : w.heap.size + 1 + 1 < W4.heap.size := by omega
      clear hB4 hrw hpl HB3 HV3 HPZ3 HWAY hl3 c9 c11
      obtain ⟨r0, r9, r10, r11, ct, rz⟩ := HV4.out.cell rfl
      clear r0 r9 r10 r11 rz
      have e0 := ct 0 (by simp)
      have e1 := ct 1 (by simp)
      have e2 := ct 2 (by simp)
      have e3 := ct 3 (by simp)
      have e4 := ct 4 (by simp)
      have e5 := ct 5 (by simp)
      have e6 := ct 6 (by simp)
      have e7 := ct 7 (by simp)
      simp only [List.getElem_cons_succ, List.getElem_cons_zero, Nat.reduceAdd] at e0 e1 e2 e3 e4 e5 e6 e7
      obtain ⟨yb, yo, rfl, hyb, hyc⟩ := HRW.out.form (by simp)
      have y0 := hyc 0 (by simp)
      have y1 := hyc 1 (by simp)
      simp only [iv, List.map_cons, List.map_nil, List.getElem_cons_succ, List.getElem_cons_zero, Nat.add_zero] at y0 y1
      clear ct hyc
      try simp only [List.length_cons, List.length_nil, Nat.reduceAdd]
      have hFe2 := HFE.out
      subst hFe2
      clear HFE
      obtain ⟨fb, fo, rfl, hfb, hfc⟩ := (HF.out.below HB4.out).form (by simp)
      have g0 := hfc 0 (by simp)
      have g1 := hfc 1 (by simp)
      simp only [iv, List.map_cons, List.map_nil, List.getElem_cons_succ, List.getElem_cons_zero, Nat.add_zero] at g0 g1
      have hn2 : (2 : Int) ≤ (nf : Int) := by have := HN2.out; omega
      have hn3 : 2 ≤ cf := by have := HN2.out; omega
      clear hfc
      have hF0 := HO.out.f f0 (by simp)
      have hF1 := HO.out.f f1 (by simp)
      have hb0 := HO.out.b0
      have hb1 := HO.out.b1
      have hn96 := HN96.out
      have hn1 : (1 : Int) ≤ (nf : Int) := by omega
      have hn4 : 1 ≤ cf := by omega
      go_upto_region 31 with (go_at_call 37; (with_reducible refine (must_ok 4 _).mono ?_); rintro e W5 ⟨rfl, rfl⟩)
      have HPx := Lib.hid (blk11 W4 (.cells #[.int .i64 a0, .int .i64 a1, .int .i64 a2, .int .i64 a3, .int .i64 a4, .int .i64 a5, .int .i64 0, .int .i64 a7, .slice none 0 0, .int .i64 1] 68))
      have HZx : Hid ((W4.alloc (.cells #[.int .i64 a0, .int .i64 a1, .int .i64 a2, .int .i64 a3, .int .i64 a4, .int .i64 a5, .int .i64 0, .int .i64 a7, .slice none 0 0, .int .i64 1] 68)).heap[w.heap.size + 1 + 1]? = _) := Lib.hid (blk_below HPZ4.out (below_al W4 (.cells #[.int .i64 a0, .int .i64 a1, .int .i64 a2, .int .i64 a3, .int .i64 a4, .int .i64 a5, .int .i64 0, .int .i64 a7, .slice none 0 0, .int .i64 1] 68)) hpz4)
      have HBx := Lib.hid (HB4.out.alloc HB4.out.size (.cells #[.int .i64 a0, .int .i64 a1, .int .i64 a2, .int .i64 a3, .int .i64 a4, .int .i64 a5, .int .i64 0, .int .i64 a7, .slice none 0 0, .int .i64 1] 68))
      have HB4x := Lib.hid (below_al W4 (.cells #[.int .i64 a0, .int .i64 a1, .int .i64 a2, .int .i64 a3, .int .i64 a4, .int .i64 a5, .int .i64 0, .int .i64 a7, .slice none 0 0, .int .i64 1] 68))
      generalize W4.alloc (.cells #[.int .i64 a0, .int .i64 a1, .int .i64 a2, .int .i64 a3, .int .i64 a4, .int .i64 a5, .int .i64 0, .int .i64 a7, .slice none 0 0, .int .i64 1] 68) = Wx at *
      have hmk := mk32
      go_wp2
      go_loopw [24, 25, 26, 27, 164] (fun _ _ _ _ v wr => ∃ (i : Nat) (vi : Value), i ≤ 1 ∧ v = .int .i64 i ∧ Hid (wr.heap[W4.heap.size]? = some (.cells (putC [a0, a1, a2, a3, a4, a5, 0, a7] vi 1) 68 (0, 0))) ∧ Hid (wr.ownsRow W4.heap.size 75 4 vi i (itvs ([⟨f0, 0, strOfNums (pt j1 b), []⟩].take i) (List.replicate i (none, 0, 0)))) ∧ Hid (Below W4.heap.size W4 wr)) (fun _ _ _ _ v _ => 1 - (Go.RowKit.intOf v).toNat)
      case atStart => exact ⟨0, _, by omega, rfl, HPx, World.ownsRow_nil _ _ _ _, HB4x⟩
      case round =>
        obtain ⟨i, vi, hi, rfl, HP, HOW, HB5⟩ := hrel
        have hw5 := HB5.out.size
        have hpl5 := (Array.getElem?_eq_some_iff.1 HP.out).1
        rcases (show i = 0 ∨ i = 1 by omega) with rfl | rfl
        · have g0' := keep_cell g0 HB5.out
          have ys' := keep_cell y1 HB5.out
          have p8 : wr.cell? ⟨W4.heap.size, 8, none⟩ = some vi := by rw [blk_cell HP.out]; rfl
          have hz1 : (wr.alloc (.cells z32 5)).cell? ⟨wr.heap.size, j1, none⟩ = some (.int .u8 0) := by rw [blk_cell (blk11 wr _)]; unfold z32; rw [List.getElem?_toArray, List.getElem?_replicate, if_pos hjs]
          have y1a : (wr.alloc (.cells z32 5)).cell? ⟨yb, yo + 1, none⟩ = some (.int .i64 (j1 : Int)) := keep_cell ys' (below_al _ _)
          go_upto_region 39 with (fail)
          obtain ⟨W6, hw6⟩ : ∃ W6 : World, wr.alloc (.cells (z32.setIfInBounds j1 (.int .u8 b)) 5) = W6 := ⟨_, rfl⟩
          have hB6 : Below wr.heap.size wr W6 := hw6 ▸ below_al _ _
          have HS6 : Hid (W6.heap.size = wr.heap.size + 1) := by show _ = _; rw [← hw6]; simp
          have hk6 : W6.heap[wr.heap.size]? = some (.cells (iv .u8 (pt j1 b)).toArray 5 (0, 0)) := by rw [← hw6, z32_pt]; exact blk11 wr _
          have hrd6 : Rd W6 (some ⟨wr.heap.size, 0, none⟩) 32 32 (iv .u8 (pt j1 b)) := rd_block hk6 32 32 _ 0 (Nat.le_refl _) (by omega) fun j hj => by simp
          have hconv : (convert 45 9 (.slice (some ⟨wr.heap.size, 0, none⟩) 32 32)).run Try.prog W6 = .ok (.string (strOfNums (pt j1 b))) W6 :=
            hrd6.str (pt_len _ _) Try.underlying45 Try.underlying5 Try.underlying9
          have p8a := keep_cell p8 hB6
          have HP6 := Lib.hid (blk_below HP.out hB6 hpl5)
          have HO6 := Lib.hid (own_below HOW.out hB6 (Nat.le_refl _))
          have HB6 := Lib.hid (HB5.out.trans (hB6.mono hw5))
          have hne6 : Hid (vi.ownBlock ≠ some W4.heap.size) := Lib.hid fun e => by
            obtain ⟨cur, hc⟩ := own_block HO6.out _ e
            rw [HP6.out] at hc; cases hc
          rw [hw6]
          clear hk6 hrd6 hw6 hB6 HOW HP HB5 p8 hz1 y1a g0' ys'
          go_wp2_with (at_builtin; (refine wpList_pushN W6 rfl _ _ 51 75 rfl W4.heap.size (.agg #[.int .i64 0, .int .i64 0, .string ⟨#[]⟩, .slice none 0 0]) 4 56 Try.underlying51 infoItm rfl (by omega) (by omega) vi 0 _ [.int .i64 f0, .int .i64 0, .string (strOfNums (pt j1 b)), .slice none 0 0] rfl rfl rfl (by simp [Value.oneCell']) HO6.out (by have := HS6.out; omega) (by omega) rfl ?_; intro g cap w9 ho hg hat hlt9; have hpk : w9.heap[W4.heap.size]? = some (.cells (putC [a0, a1, a2, a3, a4, a5, 0, a7] vi 1) 68 (0, 0)) := (hg.block _ (by have := HS6.out; omega) (fun e => hne6.out e.symm)).trans HP6.out; have HPK := Lib.hid hpk; have HO9 := Lib.hid ho; have HB9 := Lib.hid (below_grown HB6.out hg (by have := HS6.out; omega) (own_row HO6.out)); have p9 : w9.cell? ⟨W4.heap.size, 8, none⟩ = some vi := (by rw [blk_cell hpk]; rfl); have z9 := blk_free hpk 8; clear hpk ho hg hat))
          have hgn : g ≠ W4.heap.size := fun e => by
            obtain ⟨cur, hc⟩ := own_block HO9.out g rfl
            rw [e, HPK.out] at hc; cases hc
          exact ⟨⟨0 + 1, .slice (some ⟨g, 0, none⟩) (0 + 1) cap, by omega, by go_num, blk_set HPK.out 8 _, own_same HO9.out (fun j hj => by cases hj; exact Below.heap_setCell _ _ _ _ hgn), HB9.out.setCell (Nat.le_refl _) _⟩, by simp [Go.RowKit.intOf]⟩
        · have p6 : wr.cell? ⟨W4.heap.size, 6, none⟩ = some (.int .i64 0) := by rw [blk_cell HP.out]; rfl
          have zP := blk_free HP.out 6
          have y0' := keep_cell y0 HB5.out
          obtain ⟨Ai, ci, rfl, hIl, hIr⟩ := rd_ownN (by omega) HOW.out
          go_upto_region 43 with (fail)
          have HPc := Lib.hid (blk_set HP.out 6 (.int .i64 f0))
          have HZc : Hid ((wr.setCell ⟨W4.heap.size, 6, none⟩ (.int .i64 f0)).heap[w.heap.size + 1 + 1]? = _) := Lib.hid ((Below.heap_setCell _ _ _ _ (by simp only; omega)).trans (blk_below HPZ4.out HB5.out hpz4))
          have HBc := Lib.hid ((HB4.out.trans (HB5.out.mono (by omega))).setCell (p := ⟨W4.heap.size, 6, none⟩) (by simp only; omega) (.int .i64 f0))
          have HOc := Lib.hid (own_same (w' := wr.setCell ⟨W4.heap.size, 6, none⟩ (.int .i64 f0)) HOW.out (fun j hj => by
            obtain ⟨cur, hc⟩ := own_block HOW.out j hj
            exact Below.heap_setCell _ _ _ _ (fun e => by rw [e, HP.out] at hc; cases hc)))
          clear p6 zP y0' HP HOW hIl hIr
          simp only [putC, iv, List.map_cons, List.map_nil, List.cons_append, List.nil_append, List.setIfInBounds_toArray, List.set_cons_zero, List.set_cons_succ] at HPc
          generalize wr.setCell ⟨W4.heap.size, 6, none⟩ (.int .i64 f0) = Wc at *
          have hPB := blk_cell HPc.out
          have hZB := blk_cell HZc.out
          have p0 := hPB 0
          have p1 := hPB 1
          have p2 := hPB 2
          have p3 := hPB 3
          have p4 := hPB 4
          have p5 := hPB 5
          have p6 := hPB 6
          have p7 := hPB 7
          have p8 := hPB 8
          have p9 := hPB 9
          have q0 := hZB 0
          have q1 := hZB 1
          have q2 := hZB 2
          have q3 := hZB 3
          have q4 := hZB 4
          have q5 := hZB 5
          have q6 := hZB 6
          have q7 := hZB 7
          have q8 := hZB 8
          have q9 := hZB 9
          simp only [putC, putZ, iv, List.map_cons, List.map_nil, List.cons_append, List.nil_append, List.getElem?_toArray, List.getElem?_cons_zero, List.getElem?_cons_succ] at p0 p1 p2 p3 p4 p5 p6 p7 p8 p9 q0 q1 q2 q3 q4 q5 q6 q7 q8 q9
          have zP := blk_free HPc.out
          have zZ := blk_free HZc.out
          have hneB : W4.heap.size ≠ w.heap.size + 1 + 1 := by omega
          have hneC : w.heap.size + 1 + 1 ≠ W4.heap.size := by omega
          clear hPB hZB
          go_wp2
          have hZ9 := set10 HZc.out (.int .i64 a0) (.int .i64 a1) (.int .i64 a2) (.int .i64 a3) (.int .i64 a4) (.int .i64 a5) (.int .i64 f0) (.int .i64 a7) (.slice Ai 1 ci) (.int .i64 1)
          have hFr := fr10 Wc (w.heap.size + 1 + 1) (.int .i64 a0) (.int .i64 a1) (.int .i64 a2) (.int .i64 a3) (.int .i64 a4) (.int .i64 a5) (.int .i64 f0) (.int .i64 a7) (.slice Ai 1 ci) (.int .i64 1)
          generalize ((((((((((Wc.setCell ⟨w.heap.size + 1 + 1, 0, none⟩ (.int .i64 a0)).setCell ⟨w.heap.size + 1 + 1, 1, none⟩ (.int .i64 a1)).setCell ⟨w.heap.size + 1 + 1, 2, none⟩ (.int .i64 a2)).setCell ⟨w.heap.size + 1 + 1, 3, none⟩ (.int .i64 a3)).setCell ⟨w.heap.size + 1 + 1, 4, none⟩ (.int .i64 a4)).setCell ⟨w.heap.size + 1 + 1, 5, none⟩ (.int .i64 a5)).setCell ⟨w.heap.size + 1 + 1, 6, none⟩ (.int .i64 f0)).setCell ⟨w.heap.size + 1 + 1, 7, none⟩ (.int .i64 a7)).setCell ⟨w.heap.size + 1 + 1, 8, none⟩ (.slice Ai 1 ci)).setCell ⟨w.heap.size + 1 + 1, 9, none⟩ (.int .i64 1)) = Wf at *
          have hown := own_same (w' := Wf) HOc.out (fun j hj => by
            obtain ⟨cur, hc⟩ := own_block HOc.out j hj
            refine hFr.block j (Array.getElem?_eq_some_iff.1 hc).1 ?_
            intro e
            rw [e, HZc.out] at hc
            cases hc)
          have hHB : Below w.heap.size w Wf := HBc.out.trans (hFr.below (B := w.heap.size) HBc.out.size (fun k h => by omega))
          clear p0 p1 p2 p3 p4 p5 p6 p7 p8 p9 q0 q1 q2 q3 q4 q5 q6 q7 q8 q9 zP zZ
          refine bodyPost_ret (v := .agg (putC [a0, a1, a2, a3, a4, a5, f0, a7] (.slice Ai 1 ci) 1)) ?_ rfl ?_
          · have d := blk_cell hZ9
            have d0 := d 0
            have d1 := d 1
            have d2 := d 2
            have d3 := d 3
            have d4 := d 4
            have d5 := d 5
            have d6 := d 6
            have d7 := d 7
            have d8 := d 8
            have d9 := d 9
            simp only [List.getElem?_toArray, List.getElem?_cons_zero, List.getElem?_cons_succ] at d0 d1 d2 d3 d4 d5 d6 d7 d8 d9
            simp [results, Try.results31, go_sem, d0, d1, d2, d3, d4, d5, d6, d7, d8, d9, putC, iv]
          · refine ⟨_, _, rfl, ?_, hHB⟩
            rw [← HJ1.out]
            refine ⟨[(none, 0, 0)], ⟨hown.1, hown.2.imp id fun ⟨g, cap, cur, e, hb, r⟩ => ⟨g, cap, cur, e, by omega, r⟩⟩, rfl, rfl, fun j hj => ?_⟩
            match j, hj with
            | 0, _ => exact ⟨rfl, Rd.nil (c := 0) (by omega)⟩
set_option maxRecDepth 100000 in
set_option maxHeartbeats 8000000 in
theorem plan_31 (A : Option Addr) (n c : Nat) (D : List (List Int)) (t : List Int) (k : Nat) (b : Int) (Af : Option Addr) (nf cf : Nat) (F F' : List Int) (f0 f1 : Int) (hFe : F = f0 :: f1 :: F') (ht : t.length = 8) (w : World) (hD : Bp w A n c D) (hR : Rt D t) (hF : Rd w Af nf cf (iv .i64 F)) (hlF : F.length = nf) (hO : OkPut D t n k b F) (hk38 : 38 ≤ k) (h7 : tp t 7 ≠ 0) (hl : val D t (lf k) = 0) :
    Calls Try.prog 31 #[.slice A n c, bigV t, .int .i64 (k : Int), .int .i64 b, .slice Af nf cf] w fun e w' => ∃ Ai ci, e = .returned (.agg (putC t (.slice Ai 2 ci) 1)) ∧ PI w.heap.size w' (.slice Ai 2 ci) 2 [⟨f0, 0, strOfNums (pt ((k - 38) % 32) b), []⟩, ⟨tp t 7, Nat.cast ((k - 38) / 32), strOfNums [f0], [0]⟩] ∧ Below w.heap.size w w' := by
  obtain ⟨an, hae, ha0, haL, har, hav⟩ := leaf_val hR hO.hk h7
  have HAV := Lib.hid hav
  have HAR := Lib.hid har
  have HLX : Hid (val D t (lf k) = 0) := Lib.hid hl
  have hlvb := hR.2.1 (lf k) (lf_at hO.hk).2.1
  have HLB : Hid (0 ≤ val D t (lf k) ∧ (val D t (lf k)).toNat < max 1 n) := Lib.hid (by rw [← hD.len]; exact hlvb)
  have han : an < n := by rw [← hD.len]; exact haL
  clear hav har hl hlvb haL h7
  have HFE := Lib.hid hFe
  have hn2 : 2 ≤ nf := by rw [← hlF, hFe]; simp
  clear hFe
  have HF := Lib.hid hF
  have HLF := Lib.hid hlF
  have HO := Lib.hid hO
  have HD := Lib.hid hD
  have HN96 : Hid (n ≤ 96) := Lib.hid (by rw [← hD.len]; exact hR.1.1)
  have hf1 := hF.le
  have hf2 := hF.cap
  have hk0 : (0 : Int) ≤ (k : Int) := by omega
  have hk1 : (k : Int) < 1062 := by have := hO.hk; omega
  have HLK : Hid (∀ W, Below w.heap.size w W → Calls Try.prog 36 #[.slice A n c, bigV t] W fun e w' => ∃ vb mp mt vi, e = .returned (.pointer (some ⟨vb, 0, none⟩)) ∧ Vw W w' A n c D t vb mp mt 1096 1096 (innD D t) vi) := Lib.hid fun W hB => look_ok A n c D t ht W (hD.below hB) hR
  have hmf : ∀ (fn : Fn) (first cap : Array Value) (w : World), (Instr.makeFunc fn first cap).run Try.prog w = .ok (.func fn first cap) w := fun _ _ _ _ => rfl
  have H8 := Lib.hid ht
  clear hF hlF hO hD hR
  obtain ⟨a0, a1, a2, a3, a4, a5, a6, a7, rfl⟩ := len8 ht
  clear ht
  have e7 : a7 = (an : Int) := hae
  subst e7
  clear hae
  simp only [bigV, iv, List.map_cons, List.map_nil] at HLK ⊢
  go_enter Try.func31, Try.ntmps31
  have HN2 := Lib.hid hn2
  clear hn2
  have HK38 := Lib.hid hk38
  clear hk38
  have HWX : Hid (∀ o p q : Obj, Below w.heap.size w (((w.alloc o).alloc p).alloc q)) := Lib.hid fun o p q => ((below_al w _).alloc (by simp) _).alloc (by simp <;> omega) _
  have HW1 : Hid (∀ p q : Obj, (((w.alloc (.cells #[.slice A n c] 33)).alloc p).alloc q).cell? ⟨w.heap.size, 0, none⟩ = some (.slice A n c)) := Lib.hid fun p q => keep_cell (keep_cell (by rw [blk_cell (blk11 w _)]; rfl) (below_al _ _)) (below_al _ _)
  have HW3 : Hid (∀ o p : Obj, (((w.alloc o).alloc p).alloc (.cells putZ 68)).heap[w.heap.size + 2]? = some (.cells putZ 68 (0, 0)) ∧ (((w.alloc o).alloc p).alloc (.cells putZ 68)).heap.size = w.heap.size + 3) := Lib.hid fun o p => by
    have h := blk11 ((w.alloc o).alloc p) (.cells putZ 68)
    exact ⟨by simpa using h, by simp⟩
  simp only [putZ] at HW3
  go_upto_region 2 with (go_at_call 36; refine (HLK.out _ (HWX.out _ _ _)).mono ?_; rintro e w2 ⟨vb, mp, mt, vi, rfl, hV⟩; have HV := Lib.hid hV; have HB := Lib.hid ((HWX.out _ _ _).trans (hV.hB.mono (by simp <;> omega))); have c5 := keep_cell (HW1.out _ _) hV.hB; have HPZ := Lib.hid (blk_below (HW3.out _ _).1 hV.hB (by simp)); clear hV)
  obtain ⟨W0, hW0, HV⟩ : ∃ W0 : World, W0.heap.size = w.heap.size + 3 ∧ Hid (Vw W0 w2 A n c D [a0, a1, a2, a3, a4, a5, a6, (an : Int)] vb mp mt 1096 1096 (innD D [a0, a1, a2, a3, a4, a5, a6, (an : Int)]) vi) := ⟨_, by simp, HV⟩
  have HW0 := Lib.hid hW0
  clear hW0 HLK HW1 HW3 HWX
  have HP1 : Hid (∀ W, W.cell? ⟨w.heap.size, 0, none⟩ = some (.slice A n c) → Calls Try.prog 54 #[.int .i64 b, .pointer (some ⟨w.heap.size, 0, none⟩)] W fun e w' => e = .returned (.bool true) ∧ w' = W) := Lib.hid fun W h => (plan1_any b w.heap.size A n c W h).mono (by
    rintro e w' ⟨rfl, rfl⟩
    exact ⟨by simp [HO.out.b0, HO.out.b1], rfl⟩)
  have HP2 : Hid (∀ W (fb : Nat), W.cell? ⟨fb, 0, none⟩ = some (.func (.func 54) #[] #[.pointer (some ⟨w.heap.size, 0, none⟩)]) → W.cell? ⟨w.heap.size, 0, none⟩ = some (.slice A n c) → Rd W Af nf cf (iv .i64 F) →
      Calls Try.prog 55 #[.slice Af nf cf, .func (.func 56) #[] #[.pointer (some ⟨fb, 0, none⟩)]] W fun e w' => e = .returned (.bool false) ∧ ∃ q, w' = W.drewN q) := Lib.hid fun W fb h1 h2 h3 => (ContainsFunc_any 56 _ (enters_of Try.func56 (by kernel_rfl) rfl) _ Af nf cf F W h3 HLF.out (plan2_tells fb w.heap.size A n c F W h1 h2)).mono (by
    rintro e w' ⟨rfl, q, rfl⟩
    refine ⟨?_, q, rfl⟩
    congr 2
    rw [List.any_eq_false]
    intro x hx
    have := HO.out.f x hx
    simp [this.1, this.2])
  have hw2 : Hid (w.heap.size + 2 < w2.heap.size) := Lib.hid (Array.getElem?_eq_some_iff.1 HPZ.out).1
  go_upto_region 4 with (first
    | (go_at_call 37; (with_reducible refine (must_ok 2 _).mono ?_); rintro e W3 ⟨rfl, rfl⟩)
    | (go_at_call 54; refine (HP1.out _ (keep_cell c5 (below_al _ _))).mono ?_; rintro e w4 ⟨rfl, rfl⟩)
    | (go_at_call 55; refine (HP2.out _ w2.heap.size (by rw [blk_cell (blk11 w2 _)]; rfl) (keep_cell c5 (below_al _ _)) ((HF.out.below HB.out).below (below_al _ _))).mono ?_; rintro e w4 ⟨rfl, q, hq⟩; have hB3 : Below w2.heap.size w2 w4 := (by rw [hq]; exact Below.then_drewN (below_al w2 _) _); clear hq; have HB3 := Lib.hid (HB.out.trans (hB3.mono (by have := hw2.out; omega))); have HV3 := Lib.hid (HV.out.same hB3); have c5 := keep_cell c5 hB3; have HPZ3 := Lib.hid (blk_below HPZ.out hB3 (by have := hw2.out; omega)); clear hB3))
  clear HB HV HP1 HP2 HPZ
  obtain ⟨l, hl, hp⟩ := HV3.out.pl
  obtain ⟨l2, hl2, ht2⟩ := HV3.out.tk
  obtain ⟨c0, c9, c10, c11, ct, cz⟩ := HV3.out.cell rfl
  have HL2 := Lib.hid hl2
  have HT2 := Lib.hid ht2
  have hlk : (Instr.lookup 82 (.map (some mt)) (.int .i64 b) false).run Try.prog W3 = .ok (.bool false) W3 := by
    rw [hl2.lookup (P := Try.prog) Try.underlying82 Try.underlying3 (zeroB W3) b, ht2.notIn HO.out.nb]; rfl
  have hpl : (Instr.lookup 80 (.map (some mp)) (.int .i64 (k : Int)) false).run Try.prog W3 = .ok (.int .i64 0) W3 := by
    rw [hl.lookup (P := Try.prog) Try.underlying80 Try.underlying3 (zeroI W3) (k : Int), hp.at_ HO.out.hk, HO.out.at_]
  have HC := Lib.hid ((Contains_any Af nf cf F b W3 (HF.out.below HB3.out) HLF.out).mono (R' := fun e w' => e = .returned (.bool false) ∧ w' = W3) (by rintro e w' ⟨rfl, rfl⟩; exact ⟨by have := HO.out.bF; simp [this], rfl⟩))
  clear hl hp hl2 ht2 c0 c10 ct cz
  go_upto_region 5 with (first
    | (go_at_call 37; (with_reducible refine (must_ok 6 _).mono ?_); rintro e W3 ⟨rfl, rfl⟩)
    | (go_at_call 57; refine HC.out.mono ?_; rintro e W3 ⟨rfl, rfl⟩))
  go_wp2
  go_loopw [13, 14, 68] (fun _ _ v wr => ∃ i : Nat, i ≤ nf ∧ v = .int .i64 i ∧ wr = W3) (fun _ _ v _ => nf - (Go.RowKit.intOf v).toNat)
  case atStart => exact ⟨0, by omega, rfl, rfl⟩
  case round =>
    obtain ⟨i, hi, rfl, rfl⟩ := hrel
    by_cases hlt : i < nf
    · have hil : i < F.length := by rw [HLF.out]; exact hlt
      obtain ⟨rb, ro, hAf, hrb, hrc⟩ := HF.out.form (by simp; omega)
      have hcx := hrc i (by simpa using hil)
      rw [iv_at] at hcx
      have hcy := keep_cell hcx HB3.out
      have hmem := List.getElem_mem hil
      have hlx : (Instr.lookup 82 (.map (some mt)) (.int .i64 F[i]) false).run Try.prog wr = .ok (.bool false) wr := by
        rw [HL2.out.lookup (P := Try.prog) Try.underlying82 Try.underlying3 (zeroB wr) F[i], HT2.out.notIn (HO.out.nf _ hmem)]; rfl
      have hrt := (HF.out.below HB3.out).upto i (by omega)
      have e : (iv .i64 F).take i = iv .i64 (F.take i) := by simp [iv, List.map_take]
      rw [e] at hrt
      have HCX := Lib.hid ((Contains_any Af i cf (F.take i) F[i] wr hrt (by simp; omega)).mono (R' := fun e w' => e = .returned (.bool false) ∧ w' = wr) (by rintro e w' ⟨rfl, rfl⟩; exact ⟨by have := nodup_take HO.out.nd hil; simp [this], rfl⟩))
      clear hrc hcx hmem hrt e HC hlk hpl
      generalize F[i] = x at *
      subst hAf
      go_wp2_with (first
        | (go_at_call 37; (with_reducible refine (must_ok 6 _).mono ?_); rintro e W3 ⟨rfl, rfl⟩)
        | (go_at_call 57; refine HCX.out.mono ?_; rintro e W3 ⟨rfl, rfl⟩))
      exact ⟨⟨i + 1, by omega, by go_num, by simp⟩, by simp [Go.RowKit.intOf]; omega⟩
    · clear HC hlk HL2 HT2
      have HWAY := Lib.hid (Way_ok k ⟨hk0, hk1⟩ wr)
      obtain ⟨j1, hj1⟩ : ∃ j1 : Nat, j1 = (k - 38) / 32 := ⟨_, rfl⟩
      obtain ⟨j2, hj2⟩ : ∃ j2 : Nat, j2 = (k - 38) % 32 := ⟨_, rfl⟩
      have hl1 : j1 < 32 := by omega
      have hl2 : j2 < 32 := by omega
      have hwl : wayL k = [7, (j1 : Int), (j2 : Int)] := by
        have := HK38.out
        simp only [wayL]
        rw [if_neg (by omega), if_neg (by omega)]
        congr 1
        congr 1
        · omega
        · congr 1
          omega
      have HJ1 := Lib.hid hj1
      have HJ2 := Lib.hid hj2
      clear hj1 hj2
      rw [hwl] at HWAY
      clear hwl
      go_upto_region 12 with (first
        | (go_at_call 37; (with_reducible refine (must_ok 12 _).mono ?_); rintro e W3 ⟨rfl, rfl⟩)
        | (go_at_call 9; refine HWAY.out.mono ?_; rintro e W4 ⟨⟨Aw, cw, rfl, hrw⟩, hB4⟩))
      have hw3 : W3.heap.size ≤ W4.heap.size := hB4.size
      have hl3 : w.heap.size + 2 < W3.heap.size := (Array.getElem?_eq_some_iff.1 HPZ3.out).1
      have HB4 := Lib.hid (HB3.out.trans (hB4.mono (by omega)))
      have HV4 := Lib.hid (HV3.out.same hB4)
      have c5 := keep_cell c5 hB4
      have HPZ4 := Lib.hid (blk_below HPZ3.out hB4 hl3)
      have HWB := Lib.hid hB4
      have HRW := Lib.hid hrw
      have hpz4 : w.heap.size + 1 + 1 < W4.heap.size := by omega
      clear hB4 hrw hpl HB3 HV3 HPZ3 HWAY hl3 c9 c11
      obtain ⟨r0, r9, r10, r11, ct, rz⟩ := HV4.out.cell rfl
      clear r0 r9 r10 r11 rz
      have e0 := ct 0 (by simp)
      have e1 := ct 1 (by simp)
      have e2 := ct 2 (by simp)
      have e3 := ct 3 (by simp)
      have e4 := ct 4 (by simp)
      have e5 := ct 5 (by simp)
      have e6 := ct 6 (by simp)
      have e7 := ct 7 (by simp)
      simp only [List.getElem_cons_succ, List.getElem_cons_zero, Nat.reduceAdd] at e0 e1 e2 e3 e4 e5 e6 e7
      obtain ⟨yb, yo, rfl, hyb, hyc⟩ := HRW.out.form (by simp)
      have y0 := hyc 0 (by simp)
      have y1 := hyc 1 (by simp)
      have y2 := hyc 2 (by simp)
      simp only [iv, List.map_cons, List.map_nil, List.getElem_cons_succ, List.getElem_cons_zero, Nat.add_zero] at y0 y1 y2
      clear ct hyc
      try simp only [List.length_cons, List.length_nil, Nat.reduceAdd]
      have hFe2 := HFE.out
      subst hFe2
      clear HFE
      obtain ⟨fb, fo, rfl, hfb, hfc⟩ := (HF.out.below HB4.out).form (by simp)
      have g0 := hfc 0 (by simp)
      have g1 := hfc 1 (by simp)
      simp only [iv, List.map_cons, List.map_nil, List.getElem_cons_succ, List.getElem_cons_zero, Nat.add_zero] at g0 g1
      have hn2 : (2 : Int) ≤ (nf : Int) := by have := HN2.out; omega
      have hn3 : 2 ≤ cf := by have := HN2.out; omega
      clear hfc
      have hF0 := HO.out.f f0 (by simp)
      have hF1 := HO.out.f f1 (by simp)
      have hb0 := HO.out.b0
      have hb1 := HO.out.b1
      have hn96 := HN96.out
      have hn1 : (1 : Int) ≤ (nf : Int) := by omega
      have hn4 : 1 ≤ cf := by omega
      obtain ⟨ab, ao, A', n', c', hAe, hab, hac, hrn, hrr, hrx⟩ := (HD.out.below HB4.out).at_ han
      subst hAe
      have hn32 : n' = 32 := by rw [← hrn]; exact HAR.out
      subst hn32
      have hx1 : j1 < (Gra.nth D an).length := by rw [HAR.out]; exact hl1
      obtain ⟨rb, ro, rfl, hrb, hrc⟩ := hrr.form (by rw [iv_length]; omega)
      have hbc := hrc j1 (by rw [iv_length]; exact hx1)
      rw [iv_at] at hbc
      have hxv : (Gra.nth D an)[j1]'hx1 = val D [a0, a1, a2, a3, a4, a5, a6, (an : Int)] (lf k) := by
        rw [HAV.out, ← HJ1.out, List.getD_eq_getElem?_getD, List.getElem?_eq_getElem hx1]; rfl
      have hxb := hrx _ (List.getElem_mem hx1)
      rw [hxv] at hbc hxb
      rw [HLX.out] at hbc hxb
      have hw0 : IntKind.i64.wrap 0 = 0 := by decide
      clear HLX HLB HAV hxb
      have hcc := (HD.out.below HB4.out).cap
      have hcl := (HD.out.below HB4.out).le
      have hrl := hrr.le
      have hrp := hrr.cap
      have han1 : (an : Int) < (n : Int) := by omega
      have han2 : (0 : Int) ≤ (an : Int) := by omega
      have hne7 : ((an : Int) == 0) = false := by simp; omega
      have hjl1 : (j1 : Int) < 32 := by omega
      have hjl0 : (0 : Int) ≤ (j1 : Int) := by omega
      clear hrc hrn hrr hrx hxv
      go_upto_region 21 with (fail)
      have hBD : Below W4.heap.size W4 (W4.alloc (.cells #[.int .i64 a0, .int .i64 a1, .int .i64 a2, .int .i64 a3, .int .i64 a4, .int .i64 a5, .int .i64 a6, .int .i64 (an : Int), .slice none 0 0, .int .i64 0] 68)).drew := (below_al W4 _).drew
      have HS : At (fun w' : World => w'.cell? ⟨w.heap.size, 0, none⟩ = some (.slice (some ⟨ab, ao, none⟩) n c) ∧ w'.cell? ⟨ab, ao + an, none⟩ = some (.slice (some ⟨rb, ro, none⟩) 32 c') ∧ w'.cell? ⟨yb, yo + 1, none⟩ = some (.int .i64 (j1 : Int)) ∧ w'.cell? ⟨rb, ro + j1, none⟩ = some (.int .u8 0)) (W4.alloc (.cells #[.int .i64 a0, .int .i64 a1, .int .i64 a2, .int .i64 a3, .int .i64 a4, .int .i64 a5, .int .i64 a6, .int .i64 (an : Int), .slice none 0 0, .int .i64 0] 68)).drew := ⟨keep_cell c5 hBD, keep_cell hac hBD, keep_cell y1 hBD, keep_cell hbc hBD⟩
      refine wp_region_lexD HS [0, 1, 2, 3, 4, 5, 6, 7, 8, 9, 10] (by kernel_rfl) (by kernel_rfl) (fun _ _ d _ _ h => by cases d <;> exact h) ?_
      refine lexD_take (by kernel_rfl) (by kernel_rfl) HS (fun w9 h9 => by obtain ⟨s0, s1, s2, s3⟩ := h9; go_simp; first | done | rfl) (fun K hK => ?_); go_simp; refine hK _ ?_; clear hK K
      refine lexD_take (by kernel_rfl) (by kernel_rfl) HS (fun w9 h9 => by obtain ⟨s0, s1, s2, s3⟩ := h9; go_simp; first | done | rfl) (fun K hK => ?_); go_simp; refine hK _ ?_; clear hK K
      refine lexD_take (by kernel_rfl) (by kernel_rfl) HS (fun w9 h9 => by obtain ⟨s0, s1, s2, s3⟩ := h9; go_simp; first | done | rfl) (fun K hK => ?_); go_simp; refine hK _ ?_; clear hK K
      refine lexD_take (by kernel_rfl) (by kernel_rfl) HS (fun w9 h9 => by obtain ⟨s0, s1, s2, s3⟩ := h9; go_simp; first | done | rfl) (fun K hK => ?_); go_simp; refine hK _ ?_; clear hK K
      refine lexD_take (by kernel_rfl) (by kernel_rfl) HS (fun w9 h9 => by obtain ⟨s0, s1, s2, s3⟩ := h9; go_simp; first | done | rfl) (fun K hK => ?_); go_simp; refine hK _ ?_; clear hK K
      refine lexD_take (by kernel_rfl) (by kernel_rfl) HS (fun w9 h9 => by obtain ⟨s0, s1, s2, s3⟩ := h9; go_simp; first | done | rfl) (fun K hK => ?_); go_simp; refine hK _ ?_; clear hK K
      refine lexD_take (by kernel_rfl) (by kernel_rfl) HS (fun w9 h9 => by obtain ⟨s0, s1, s2, s3⟩ := h9; go_simp; first | done | rfl) (fun K hK => ?_); go_simp; refine hK _ ?_; clear hK K
      refine lexD_take (by kernel_rfl) (by kernel_rfl) HS (fun w9 h9 => by obtain ⟨s0, s1, s2, s3⟩ := h9; go_simp; first | done | rfl) (fun K hK => ?_); go_simp; refine hK _ ?_; clear hK K
      refine lexD_take (by kernel_rfl) (by kernel_rfl) HS (fun w9 h9 => by obtain ⟨s0, s1, s2, s3⟩ := h9; go_simp; first | done | rfl) (fun K hK => ?_); go_simp; refine hK _ ?_; clear hK K
      refine lexD_take (by kernel_rfl) (by kernel_rfl) HS (fun w9 h9 => by obtain ⟨s0, s1, s2, s3⟩ := h9; go_simp; first | done | rfl) (fun K hK => ?_); go_simp; refine hK _ ?_; clear hK K
      refine lexD_take (by kernel_rfl) (by kernel_rfl) HS (fun w9 h9 => by obtain ⟨s0, s1, s2, s3⟩ := h9; go_simp; first | done | rfl) (fun K hK => ?_); go_simp; refine hK _ ?_; clear hK K
      refine lexD_nil ?_
      have HPw : Hid ((W4.alloc (.cells #[.int .i64 a0, .int .i64 a1, .int .i64 a2, .int .i64 a3, .int .i64 a4, .int .i64 a5, .int .i64 a6, .int .i64 (an : Int), .slice none 0 0, .int .i64 0] 68)).drew.heap[W4.heap.size]? = _) := Lib.hid (blk11 W4 (.cells #[.int .i64 a0, .int .i64 a1, .int .i64 a2, .int .i64 a3, .int .i64 a4, .int .i64 a5, .int .i64 a6, .int .i64 (an : Int), .slice none 0 0, .int .i64 0] 68))
      have HZw : Hid ((W4.alloc (.cells #[.int .i64 a0, .int .i64 a1, .int .i64 a2, .int .i64 a3, .int .i64 a4, .int .i64 a5, .int .i64 a6, .int .i64 (an : Int), .slice none 0 0, .int .i64 0] 68)).drew.heap[w.heap.size + 1 + 1]? = _) := Lib.hid (blk_below HPZ4.out hBD hpz4)
      have HBw : Hid (Below w.heap.size w (W4.alloc (.cells #[.int .i64 a0, .int .i64 a1, .int .i64 a2, .int .i64 a3, .int .i64 a4, .int .i64 a5, .int .i64 a6, .int .i64 (an : Int), .slice none 0 0, .int .i64 0] 68)).drew) := Lib.hid (HB4.out.trans (hBD.mono HB4.out.size))
      have pw := blk_cell HPw.out 9
      have zw := blk_free HPw.out 9
      simp only [List.getElem?_toArray, List.getElem?_cons_zero, List.getElem?_cons_succ] at pw
      have y1w := keep_cell y1 hBD
      have y2w := keep_cell y2 hBD
      have HB4w := Lib.hid hBD
      have g0w := keep_cell g0 hBD
      have hfne : fb ≠ W4.heap.size := by omega
      clear hBD HS
      generalize (W4.alloc (.cells #[.int .i64 a0, .int .i64 a1, .int .i64 a2, .int .i64 a3, .int .i64 a4, .int .i64 a5, .int .i64 a6, .int .i64 (an : Int), .slice none 0 0, .int .i64 0] 68)).drew = Ww at *
      go_upto_region 31 with (go_at_call 37; (with_reducible refine (must_ok 4 _).mono ?_); rintro e Ww ⟨rfl, rfl⟩)
      have HPx : Hid ((Ww.setCell ⟨W4.heap.size, 9, none⟩ (.int .i64 1)).heap[W4.heap.size]? = some (.cells #[.int .i64 a0, .int .i64 a1, .int .i64 a2, .int .i64 a3, .int .i64 a4, .int .i64 a5, .int .i64 a6, .int .i64 (an : Int), .slice none 0 0, .int .i64 1] 68 (0, 0))) := Lib.hid ((blk_set HPw.out 9 (.int .i64 1)).trans (by simp))
      have HZx : Hid ((Ww.setCell ⟨W4.heap.size, 9, none⟩ (.int .i64 1)).heap[w.heap.size + 1 + 1]? = _) := Lib.hid ((Below.heap_setCell _ _ _ _ (by simp only; omega)).trans HZw.out)
      have HBx := Lib.hid (HBw.out.setCell (p := ⟨W4.heap.size, 9, none⟩) (by simp only; omega) (.int .i64 1))
      have HB4x := Lib.hid (HB4w.out.setCell (p := ⟨W4.heap.size, 9, none⟩) (Nat.le_refl _) (.int .i64 1))
      have hyne : yb ≠ W4.heap.size := by omega
      have y1x : (Ww.setCell ⟨W4.heap.size, 9, none⟩ (.int .i64 1)).cell? ⟨yb, yo + 1, none⟩ = _ := (World.cell?_of_block (a := ⟨yb, yo + 1, none⟩) (Below.heap_setCell _ _ _ _ (by simp only; omega))).trans y1w
      have y2x : (Ww.setCell ⟨W4.heap.size, 9, none⟩ (.int .i64 1)).cell? ⟨yb, yo + 2, none⟩ = _ := (World.cell?_of_block (a := ⟨yb, yo + 2, none⟩) (Below.heap_setCell _ _ _ _ (by simp only; omega))).trans y2w
      clear y1w y2w pw zw HPw HZw HBw g0w
      generalize Ww.setCell ⟨W4.heap.size, 9, none⟩ (.int .i64 1) = Wx at *
      have hjs : j2 < 32 := hl2
      clear y1x y2x
      have hmk := mk32
      go_wp2
      go_loopw [24, 25, 26, 27, 164] (fun _ _ _ _ v wr => ∃ (i : Nat) (vi : Value), i ≤ 1 ∧ v = .int .i64 i ∧ Hid (wr.heap[W4.heap.size]? = some (.cells (putC [a0, a1, a2, a3, a4, a5, a6, (an : Int)] vi 1) 68 (0, 0))) ∧ Hid (wr.ownsRow W4.heap.size 75 4 vi i (itvs ([⟨f0, 0, strOfNums (pt j2 b), []⟩].take i) (List.replicate i (none, 0, 0)))) ∧ Hid (Below W4.heap.size W4 wr)) (fun _ _ _ _ v _ => 1 - (Go.RowKit.intOf v).toNat)
      case atStart => exact ⟨0, _, by omega, rfl, HPx, World.ownsRow_nil _ _ _ _, HB4x⟩
      case round =>
        obtain ⟨i, vi, hi, rfl, HP, HOW, HB5⟩ := hrel
        have hw5 := HB5.out.size
        have hpl5 := (Array.getElem?_eq_some_iff.1 HP.out).1
        rcases (show i = 0 ∨ i = 1 by omega) with rfl | rfl
        · have g0' := keep_cell g0 HB5.out
          have ys' := keep_cell y2 HB5.out
          have p8 : wr.cell? ⟨W4.heap.size, 8, none⟩ = some vi := by rw [blk_cell HP.out]; rfl
          have hz1 : (wr.alloc (.cells z32 5)).cell? ⟨wr.heap.size, j2, none⟩ = some (.int .u8 0) := by rw [blk_cell (blk11 wr _)]; unfold z32; rw [List.getElem?_toArray, List.getElem?_replicate, if_pos hjs]
          have y1a : (wr.alloc (.cells z32 5)).cell? ⟨yb, yo + 2, none⟩ = some (.int .i64 (j2 : Int)) := keep_cell ys' (below_al _ _)
          go_upto_region 39 with (fail)
          obtain ⟨W6, hw6⟩ : ∃ W6 : World, wr.alloc (.cells (z32.setIfInBounds j2 (.int .u8 b)) 5) = W6 := ⟨_, rfl⟩
          have hB6 : Below wr.heap.size wr W6 := hw6 ▸ below_al _ _
          have HS6 : Hid (W6.heap.size = wr.heap.size + 1) := by show _ = _; rw [← hw6]; simp
          have hk6 : W6.heap[wr.heap.size]? = some (.cells (iv .u8 (pt j2 b)).toArray 5 (0, 0)) := by rw [← hw6, z32_pt]; exact blk11 wr _
          have hrd6 : Rd W6 (some ⟨wr.heap.size, 0, none⟩) 32 32 (iv .u8 (pt j2 b)) := rd_block hk6 32 32 _ 0 (Nat.le_refl _) (by omega) fun j hj => by simp
          have hconv : (convert 45 9 (.slice (some ⟨wr.heap.size, 0, none⟩) 32 32)).run Try.prog W6 = .ok (.string (strOfNums (pt j2 b))) W6 :=
            hrd6.str (pt_len _ _) Try.underlying45 Try.underlying5 Try.underlying9
          have p8a := keep_cell p8 hB6
          have HP6 := Lib.hid (blk_below HP.out hB6 hpl5)
          have HO6 := Lib.hid (own_below HOW.out hB6 (Nat.le_refl _))
          have HB6 := Lib.hid (HB5.out.trans (hB6.mono hw5))
          have hne6 : Hid (vi.ownBlock ≠ some W4.heap.size) := Lib.hid fun e => by
            obtain ⟨cur, hc⟩ := own_block HO6.out _ e
            rw [HP6.out] at hc; cases hc
          rw [hw6]
          clear hk6 hrd6 hw6 hB6 HOW HP HB5 p8 hz1 y1a g0' ys'
          go_wp2_with (at_builtin; (refine wpList_pushN W6 rfl _ _ 51 75 rfl W4.heap.size (.agg #[.int .i64 0, .int .i64 0, .string ⟨#[]⟩, .slice none 0 0]) 4 56 Try.underlying51 infoItm rfl (by omega) (by omega) vi 0 _ [.int .i64 f0, .int .i64 0, .string (strOfNums (pt j2 b)), .slice none 0 0] rfl rfl rfl (by simp [Value.oneCell']) HO6.out (by have := HS6.out; omega) (by omega) rfl ?_; intro g cap w9 ho hg hat hlt9; have hpk : w9.heap[W4.heap.size]? = some (.cells (putC [a0, a1, a2, a3, a4, a5, a6, (an : Int)] vi 1) 68 (0, 0)) := (hg.block _ (by have := HS6.out; omega) (fun e => hne6.out e.symm)).trans HP6.out; have HPK := Lib.hid hpk; have HO9 := Lib.hid ho; have HB9 := Lib.hid (below_grown HB6.out hg (by have := HS6.out; omega) (own_row HO6.out)); have p9 : w9.cell? ⟨W4.heap.size, 8, none⟩ = some vi := (by rw [blk_cell hpk]; rfl); have z9 := blk_free hpk 8; clear hpk ho hg hat))
          have hgn : g ≠ W4.heap.size := fun e => by
            obtain ⟨cur, hc⟩ := own_block HO9.out g rfl
            rw [e, HPK.out] at hc; cases hc
          exact ⟨⟨0 + 1, .slice (some ⟨g, 0, none⟩) (0 + 1) cap, by omega, by go_num, blk_set HPK.out 8 _, own_same HO9.out (fun j hj => by cases hj; exact Below.heap_setCell _ _ _ _ hgn), HB9.out.setCell (Nat.le_refl _) _⟩, by simp [Go.RowKit.intOf]⟩
        · have ya := keep_cell y1 HB5.out
          obtain ⟨Ai, ci, rfl, hIl, hIr⟩ := rd_ownN (by omega) HOW.out
          have HPx2 := HP
          simp only [putC, iv, List.map_cons, List.map_nil, List.cons_append, List.nil_append] at HPx2
          have HZx2 : Hid (wr.heap[w.heap.size + 1 + 1]? = _) := Lib.hid (blk_below HPZ4.out HB5.out hpz4)
          have HBx2 : Hid (Below w.heap.size w wr) := Lib.hid (HB4.out.trans (HB5.out.mono (by omega)))
          have HOx : Hid (wr.ownsRow W4.heap.size 75 4 (.slice Ai 1 ci) 1 (itvs [⟨f0, 0, strOfNums (pt j2 b), []⟩] [(none, 0, 0)])) := HOW
          clear HP HOW hIl hIr HPx HZx HBx HB4x
          go_upto_region 44 with (fail)
          clear g0 g1 y0 y1 y2
          have HPx := HPx2
          have HZx := HZx2
          have HBx := HBx2
          have HLW : Hid (W4.heap.size ≤ wr.heap.size) := Lib.hid HB5.out.size
          clear HPx2 HZx2 HBx2 HB5
          generalize wr = Wx at *
          have hwb : IntKind.u8.wrap f0 = f0 := by rw [IntKind.wrap_u8]; omega
          have hconv : ∀ (W : World) (s : Nat), W.heap[s]? = some (.cells #[.int .u8 f0] 5 (0, 0)) → (convert 45 9 (.slice (some ⟨s, 0, none⟩) 1 1)).run Try.prog W = .ok (.string (strOfNums [f0])) W := fun W s h => (rd_block h 1 1 [.int .u8 f0] 0 (Nat.le_refl _) (by omega) (fun j hj => by simp at hj; subst hj; rfl)).str (xs := [f0]) rfl Try.underlying45 Try.underlying5 Try.underlying9
          have HS : At (fun w' : World => w'.cell? ⟨yb, yo + 1, none⟩ = some (.int .i64 j1)) Wx.drew := ya
          have HPx1 : Hid (Wx.drew.heap[W4.heap.size]? = _) := HPx
          have HZx1 : Hid (Wx.drew.heap[w.heap.size + 1 + 1]? = _) := HZx
          have HBx1 : Hid (Below w.heap.size w Wx.drew) := Lib.hid HBx.out.drew
          have HSz : Hid (Wx.drew.heap.size = Wx.heap.size) := Lib.hid rfl
          have HOx1 : Hid (Wx.drew.ownsRow W4.heap.size 75 4 (.slice Ai 1 ci) 1 (itvs [⟨f0, 0, strOfNums (pt j2 b), []⟩] [(none, 0, 0)])) := Lib.hid (own_below HOx.out (Sel.below_drewN Wx 1) (Nat.le_refl _))
          clear HOx
          refine any_start HS [0, 1, 2, 3, 4, 5, 6, 9, 10] (by kernel_rfl) ?_
          generalize Wx.drew = Wd at *
          refine any_take 0 rfl (by kernel_rfl) (fun _ _ d _ _ h => by cases d <;> exact h) (by kernel_rfl) HS (fun w9 h9 => by have s0 : w9.cell? _ = _ := h9; go_simp; first | done | rfl) (fun K hK => ?_); go_simp; refine hK _ ?_; clear hK K
          refine any_take 1 rfl (by kernel_rfl) (fun _ _ d _ _ h => by cases d <;> exact h) (by kernel_rfl) HS (fun w9 h9 => by have s0 : w9.cell? _ = _ := h9; go_simp; first | done | rfl) (fun K hK => ?_); go_simp; refine hK _ ?_; clear hK K
          refine any_take 2 rfl (by kernel_rfl) (fun _ _ d _ _ h => by cases d <;> exact h) (by kernel_rfl) HS (fun w9 h9 => by have s0 : w9.cell? _ = _ := h9; go_simp; first | done | rfl) (fun K hK => ?_); go_simp; refine hK _ ?_; clear hK K
          refine any_take 3 rfl (by kernel_rfl) (fun _ _ d _ _ h => by cases d <;> exact h) (by kernel_rfl) HS (fun w9 h9 => by have s0 : w9.cell? _ = _ := h9; go_simp; first | done | rfl) (fun K hK => ?_); go_simp; refine hK _ ?_; clear hK K
          refine any_take 4 rfl (by kernel_rfl) (fun _ _ d _ _ h => by cases d <;> exact h) (by kernel_rfl) HS (fun w9 h9 => by have s0 : w9.cell? _ = _ := h9; go_simp; first | done | rfl) (fun K hK => ?_); go_simp; refine hK _ ?_; clear hK K
          refine any_take 5 rfl (by kernel_rfl) (fun _ _ d _ _ h => by cases d <;> exact h) (by kernel_rfl) HS (fun w9 h9 => by have s0 : w9.cell? _ = _ := h9; go_simp; first | done | rfl) (fun K hK => ?_); go_simp; refine hK _ ?_; clear hK K
          refine any_take 6 rfl (by kernel_rfl) (fun _ _ d _ _ h => by cases d <;> exact h) (by kernel_rfl) HS (fun w9 h9 => by have s0 : w9.cell? _ = _ := h9; go_simp; first | done | rfl) (fun K hK => ?_); go_simp; refine hK _ ?_; clear hK K
          refine any_two 7 11 rfl rfl (by kernel_rfl) (by kernel_rfl) (by kernel_rfl) (fun K hK => ?gA) (fun K hK => ?gB)
          case' gA =>
            go_simp
            have HS7 : At (fun w' : World => w'.cell? ⟨yb, yo + 1, none⟩ = some (.int .i64 j1)) (Wd.alloc (.cells #[.int .u8 f0] 5)) := keep_cell HS (below_al _ _)
            refine hK _ _ (fun _ => HS7) ?_
            clear hK K
            refine any_two 8 11 rfl rfl (by kernel_rfl) (by kernel_rfl) (by kernel_rfl) (fun K hK => ?gC) (fun K hK => ?gD)
          case' gC =>
            have hcv := hconv (Wd.alloc (.cells #[.int .u8 f0] 5)) Wd.heap.size (blk11 Wd _)
            go_simp
            refine hK _ _ (fun _ => HS7) ?_
            clear hK K
            refine any_take 9 rfl (by kernel_rfl) (fun _ _ d _ _ h => by cases d <;> exact h) (by kernel_rfl) HS7 (fun w9 h9 => by have s0 : w9.cell? _ = _ := h9; go_simp; first | done | rfl) (fun K hK => ?_); go_simp; refine hK _ ?_; clear hK K
            refine any_take 10 rfl (by kernel_rfl) (fun _ _ d _ _ h => by cases d <;> exact h) (by kernel_rfl) HS7 (fun w9 h9 => by have s0 : w9.cell? _ = _ := h9; go_simp; first | done | rfl) (fun K hK => ?_); go_simp; refine hK _ ?_; clear hK K
            refine any_one 11 rfl (by kernel_rfl) (by kernel_rfl) (fun K hK => ?_)
            go_simp
            have HS8 : At (fun w' : World => w'.cell? ⟨yb, yo + 1, none⟩ = some (.int .i64 j1)) ((Wd.alloc (.cells #[.int .u8 f0] 5)).alloc (.cells #[.int .i64 0, .int .i64 0, .string ⟨#[]⟩, .slice none 0 0] 75)) := keep_cell HS7 (below_al _ _)
            refine hK _ _ (fun _ => HS8) ?_
            clear hK K HS7
            refine any_one 12 rfl (by kernel_rfl) (by kernel_rfl) (fun K hK => ?_)
            go_simp
            have HS9 : At (fun w' : World => w'.cell? ⟨yb, yo + 1, none⟩ = some (.int .i64 j1)) ((Wd.alloc (.cells #[.int .u8 f0] 5)).alloc (.cells #[.int .i64 (an : Int), .int .i64 j1, .string (strOfNums [f0]), .slice none 0 0] 75)) := keep_cell (keep_cell HS (below_al Wd (.cells #[.int .u8 f0] 5))) (below_al _ _)
            refine hK _ _ (fun _ => HS9) ?_
            clear hK K HS8
            refine any_end (by kernel_rfl) ?_
            have HBW : Hid (Below Wd.heap.size Wd ((Wd.alloc (.cells #[.int .u8 f0] 5)).alloc (.cells #[.int .i64 (an : Int), .int .i64 j1, .string (strOfNums [f0]), .slice none 0 0] 75))) := Lib.hid ((below_al Wd _).alloc (by simp) _)
            have HIY : Hid (((Wd.alloc (.cells #[.int .u8 f0] 5)).alloc (.cells #[.int .i64 (an : Int), .int .i64 j1, .string (strOfNums [f0]), .slice none 0 0] 75)).heap[Wd.heap.size + 1]? = some (.cells #[.int .i64 (an : Int), .int .i64 j1, .string (strOfNums [f0]), .slice none 0 0] 75 (0, 0))) := Lib.hid (by have := blk11 (Wd.alloc (.cells #[.int .u8 f0] 5)) (.cells #[.int .i64 (an : Int), .int .i64 j1, .string (strOfNums [f0]), .slice none 0 0] 75); simpa using this)
            have HGI : Hid (Wx.heap.size ≤ Wd.heap.size + 1) := Lib.hid (by have := HSz.out; simp; omega)
            clear hcv
            generalize (Wd.alloc (.cells #[.int .u8 f0] 5)).alloc (.cells #[.int .i64 (an : Int), .int .i64 j1, .string (strOfNums [f0]), .slice none 0 0] 75) = Wy at *
            generalize Wd.heap.size + 1 = ib at HIY HGI ⊢

          case' gD =>
            go_simp
            have HS8 : At (fun w' : World => w'.cell? ⟨yb, yo + 1, none⟩ = some (.int .i64 j1)) ((Wd.alloc (.cells #[.int .u8 f0] 5)).alloc (.cells #[.int .i64 0, .int .i64 0, .string ⟨#[]⟩, .slice none 0 0] 75)) := keep_cell HS7 (below_al _ _)
            refine hK _ _ (fun _ => HS8) ?_
            clear hK K HS7
            have hcv := hconv ((Wd.alloc (.cells #[.int .u8 f0] 5)).alloc (.cells #[.int .i64 0, .int .i64 0, .string ⟨#[]⟩, .slice none 0 0] 75)) Wd.heap.size (blk_below (blk11 Wd _) (below_al _ _) (by simp))
            refine any_one 8 rfl (by kernel_rfl) (by kernel_rfl) (fun K hK => ?_)
            go_simp
            refine hK _ _ (fun _ => HS8) ?_
            clear hK K
            refine any_take 9 rfl (by kernel_rfl) (fun _ _ d _ _ h => by cases d <;> exact h) (by kernel_rfl) HS8 (fun w9 h9 => by have s0 : w9.cell? _ = _ := h9; go_simp; first | done | rfl) (fun K hK => ?_); go_simp; refine hK _ ?_; clear hK K
            refine any_take 10 rfl (by kernel_rfl) (fun _ _ d _ _ h => by cases d <;> exact h) (by kernel_rfl) HS8 (fun w9 h9 => by have s0 : w9.cell? _ = _ := h9; go_simp; first | done | rfl) (fun K hK => ?_); go_simp; refine hK _ ?_; clear hK K
            refine any_one 12 rfl (by kernel_rfl) (by kernel_rfl) (fun K hK => ?_)
            go_simp
            have HS9 : At (fun w' : World => w'.cell? ⟨yb, yo + 1, none⟩ = some (.int .i64 j1)) ((Wd.alloc (.cells #[.int .u8 f0] 5)).alloc (.cells #[.int .i64 (an : Int), .int .i64 j1, .string (strOfNums [f0]), .slice none 0 0] 75)) := keep_cell (keep_cell HS (below_al Wd (.cells #[.int .u8 f0] 5))) (below_al _ _)
            refine hK _ _ (fun _ => HS9) ?_
            clear hK K HS8
            refine any_end (by kernel_rfl) ?_
            have HBW : Hid (Below Wd.heap.size Wd ((Wd.alloc (.cells #[.int .u8 f0] 5)).alloc (.cells #[.int .i64 (an : Int), .int .i64 j1, .string (strOfNums [f0]), .slice none 0 0] 75))) := Lib.hid ((below_al Wd _).alloc (by simp) _)
            have HIY : Hid (((Wd.alloc (.cells #[.int .u8 f0] 5)).alloc (.cells #[.int .i64 (an : Int), .int .i64 j1, .string (strOfNums [f0]), .slice none 0 0] 75)).heap[Wd.heap.size + 1]? = some (.cells #[.int .i64 (an : Int), .int .i64 j1, .string (strOfNums [f0]), .slice none 0 0] 75 (0, 0))) := Lib.hid (by have := blk11 (Wd.alloc (.cells #[.int .u8 f0] 5)) (.cells #[.int .i64 (an : Int), .int .i64 j1, .string (strOfNums [f0]), .slice none 0 0] 75); simpa using this)
            have HGI : Hid (Wx.heap.size ≤ Wd.heap.size + 1) := Lib.hid (by have := HSz.out; simp; omega)
            clear hcv
            generalize (Wd.alloc (.cells #[.int .u8 f0] 5)).alloc (.cells #[.int .i64 (an : Int), .int .i64 j1, .string (strOfNums [f0]), .slice none 0 0] 75) = Wy at *
            generalize Wd.heap.size + 1 = ib at HIY HGI ⊢

          case' gB =>
            go_simp
            have HS7 : At (fun w' : World => w'.cell? ⟨yb, yo + 1, none⟩ = some (.int .i64 j1)) (Wd.alloc (.cells #[.int .i64 0, .int .i64 0, .string ⟨#[]⟩, .slice none 0 0] 75)) := keep_cell HS (below_al _ _)
            refine hK _ _ (fun _ => HS7) ?_
            clear hK K
            refine any_one 7 rfl (by kernel_rfl) (by kernel_rfl) (fun K hK => ?_)
            go_simp
            have HS8 : At (fun w' : World => w'.cell? ⟨yb, yo + 1, none⟩ = some (.int .i64 j1)) ((Wd.alloc (.cells #[.int .i64 0, .int .i64 0, .string ⟨#[]⟩, .slice none 0 0] 75)).alloc (.cells #[.int .u8 f0] 5)) := keep_cell HS7 (below_al _ _)
            refine hK _ _ (fun _ => HS8) ?_
            clear hK K HS7
            have hcv := hconv ((Wd.alloc (.cells #[.int .i64 0, .int .i64 0, .string ⟨#[]⟩, .slice none 0 0] 75)).alloc (.cells #[.int .u8 f0] 5)) (Wd.heap.size + 1) ((by have := blk11 (Wd.alloc (.cells #[.int .i64 0, .int .i64 0, .string ⟨#[]⟩, .slice none 0 0] 75)) (.cells #[.int .u8 f0] 5); simpa using this))
            refine any_one 8 rfl (by kernel_rfl) (by kernel_rfl) (fun K hK => ?_)
            go_simp
            refine hK _ _ (fun _ => HS8) ?_
            clear hK K
            refine any_take 9 rfl (by kernel_rfl) (fun _ _ d _ _ h => by cases d <;> exact h) (by kernel_rfl) HS8 (fun w9 h9 => by have s0 : w9.cell? _ = _ := h9; go_simp; first | done | rfl) (fun K hK => ?_); go_simp; refine hK _ ?_; clear hK K
            refine any_take 10 rfl (by kernel_rfl) (fun _ _ d _ _ h => by cases d <;> exact h) (by kernel_rfl) HS8 (fun w9 h9 => by have s0 : w9.cell? _ = _ := h9; go_simp; first | done | rfl) (fun K hK => ?_); go_simp; refine hK _ ?_; clear hK K
            refine any_one 12 rfl (by kernel_rfl) (by kernel_rfl) (fun K hK => ?_)
            go_simp
            have HS9 : At (fun w' : World => w'.cell? ⟨yb, yo + 1, none⟩ = some (.int .i64 j1)) ((Wd.alloc (.cells #[.int .i64 (an : Int), .int .i64 j1, .string (strOfNums [f0]), .slice none 0 0] 75)).alloc (.cells #[.int .u8 f0] 5)) := keep_cell (keep_cell HS (below_al Wd (.cells #[.int .i64 (an : Int), .int .i64 j1, .string (strOfNums [f0]), .slice none 0 0] 75))) (below_al _ _)
            refine hK _ _ (fun _ => HS9) ?_
            clear hK K HS8
            refine any_end (by kernel_rfl) ?_
            have HBW : Hid (Below Wd.heap.size Wd ((Wd.alloc (.cells #[.int .i64 (an : Int), .int .i64 j1, .string (strOfNums [f0]), .slice none 0 0] 75)).alloc (.cells #[.int .u8 f0] 5))) := Lib.hid ((below_al Wd _).alloc (by simp) _)
            have HIY : Hid (((Wd.alloc (.cells #[.int .i64 (an : Int), .int .i64 j1, .string (strOfNums [f0]), .slice none 0 0] 75)).alloc (.cells #[.int .u8 f0] 5)).heap[Wd.heap.size]? = some (.cells #[.int .i64 (an : Int), .int .i64 j1, .string (strOfNums [f0]), .slice none 0 0] 75 (0, 0))) := Lib.hid (blk_below (blk11 Wd _) (below_al _ _) (by simp))
            have HGI : Hid (Wx.heap.size ≤ Wd.heap.size) := Lib.hid (by have := HSz.out; simp; omega)
            clear hcv
            generalize (Wd.alloc (.cells #[.int .i64 (an : Int), .int .i64 j1, .string (strOfNums [f0]), .slice none 0 0] 75)).alloc (.cells #[.int .u8 f0] 5) = Wy at *
            generalize Wd.heap.size = ib at HIY HGI ⊢
          all_goals
            have hlP := (Array.getElem?_eq_some_iff.1 HPx1.out).1
            have hlZ := (Array.getElem?_eq_some_iff.1 HZx1.out).1
            have hsW := HBW.out.size
            have hsd := HSz.out
            have hgi := HGI.out
            have hlw := HLW.out
            have HPy : Hid (Wy.heap[W4.heap.size]? = _) := Lib.hid (blk_below HPx1.out HBW.out hlP)
            have HZy : Hid (Wy.heap[w.heap.size + 1 + 1]? = _) := Lib.hid (blk_below HZx1.out HBW.out hlZ)
            have HBy : Hid (Below w.heap.size w Wy) := Lib.hid (HBx1.out.trans (HBW.out.mono HBx1.out.size))
            have HOy : Hid (Wy.ownsRow W4.heap.size 75 4 (.slice Ai 1 ci) 1 (itvs [⟨f0, 0, strOfNums (pt j2 b), []⟩] [(none, 0, 0)])) := Lib.hid (own_below HOx1.out HBW.out (Nat.le_refl _))
            have HLT : Hid (∀ j, Value.ownBlock (.slice Ai 1 ci) = some j → j < Wd.heap.size) := Lib.hid (fun j hj => (HOx1.out.lt j hj).2)
            have hlI := (Array.getElem?_eq_some_iff.1 HIY.out).1
            have p8 : Wy.cell? ⟨W4.heap.size, 8, none⟩ = some (.slice Ai 1 ci) := by rw [blk_cell HPy.out]; rfl
            have hic := blk_cell HIY.out
            have i3 := hic 3
            simp only [List.getElem?_toArray, List.getElem?_cons_zero, List.getElem?_cons_succ] at i3
            have zI := blk_free HIY.out 3
            clear hic HS HS9 HPx HZx HBx HPx1 HZx1 HBx1 HOx1 ya hconv
            go_wp2
            go_loopw [29, 225] (fun _ v wx => (v = .int .i64 0 ∧ wx = Wy) ∨ (v = .int .i64 1 ∧ ∃ g cap, Hid (wx.heap[ib]? = some (.cells #[.int .i64 (an : Int), .int .i64 (j1 : Int), .string (strOfNums [f0]), .slice (some ⟨g, 0, none⟩) 1 cap] 75 (0, 0))) ∧ Hid (wx.ownsRow Wy.heap.size 3 1 (.slice (some ⟨g, 0, none⟩) 1 cap) 1 (iv .i64 [0])) ∧ Hid (Fr (· = ib) Wy wx))) (fun _ v _ => 1 - (Go.RowKit.intOf v).toNat)
            case atStart => exact .inl ⟨rfl, rfl⟩
            case round =>
              rcases hrel with ⟨rfl, hx⟩ | ⟨rfl, g, cap, HI, HD9, HFI⟩
              · have hx := hx.symm
                subst hx
                go_wp2_with (at_builtin; refine wpList_push Wy rfl _ _ 23 3 rfl Wy.heap.size (.int .i64 0) 8 Try.underlying23 infoInt8 rfl (by omega) (.slice none 0 0) 0 [] (.int .i64 0) rfl rfl rfl (World.ownsRow_nil _ _ _ _) (by omega) (by omega) rfl ?_; intro g cap w1 ho hg hat hlt1; have hik : w1.heap[ib]? = _ := (hg.block _ hlI (by simp [Value.ownBlock])).trans HIY.out; have HIK := Lib.hid hik; have HG := Lib.hid hg; have HO1 := Lib.hid ho; have i9 := blk_cell hik 3; simp only [List.getElem?_toArray, List.getElem?_cons_zero, List.getElem?_cons_succ] at i9; have z9 := blk_free hik 3; clear hik hg ho)
                first | refine ⟨⟨g, cap, ?_, ?_, ?_⟩, by simp [Go.RowKit.intOf]⟩ | refine ⟨.inr ⟨by go_num, g, cap, ?_, ?_, ?_⟩, by simp [Go.RowKit.intOf]⟩
                · exact (blk_set HIK.out 3 _).trans (by simp)
                · refine own_same HO1.out (fun j hj => ?_)
                  cases hj
                  exact Below.heap_setCell _ _ _ _ (by have := (HO1.out.lt g rfl).1; simp only; omega)
                · exact Fr.setCell (S := (· = ib)) (fr_of_below (below_grown (Below.refl _ _) HG.out (Nat.le_refl _) (fun j hj => by cases hj)) _) (p := ⟨ib, 3, none⟩) (.inl rfl) _
              · have hsz := HFI.out.size
                have hne1 : ¬ (W4.heap.size = ib) := by omega
                have hne2 : ¬ (w.heap.size + 1 + 1 = ib) := by omega
                have HPz : Hid (wr.heap[W4.heap.size]? = _) := Lib.hid ((HFI.out.block _ (by omega) hne1).trans HPy.out)
                have HZz : Hid (wr.heap[w.heap.size + 1 + 1]? = _) := Lib.hid ((HFI.out.block _ (by omega) hne2).trans HZy.out)
                have HBz : Hid (Below w.heap.size w wr) := Lib.hid (HBy.out.trans (HFI.out.below (B := w.heap.size) HBy.out.size (fun k h => by omega)))
                have HOz : Hid (wr.ownsRow W4.heap.size 75 4 (.slice Ai 1 ci) 1 (itvs [⟨f0, 0, strOfNums (pt j2 b), []⟩] [(none, 0, 0)])) := Lib.hid (own_same HOy.out (fun j hj => HFI.out.block j (by have := HLT.out j hj; omega) (fun e => by have := HLT.out j hj; omega)))
                have p8z : wr.cell? ⟨W4.heap.size, 8, none⟩ = some (.slice Ai 1 ci) := by rw [blk_cell HPz.out]; rfl
                have hic := blk_cell HI.out
                have i0 := hic 0
                have i1 := hic 1
                have i2 := hic 2
                have j3 := hic 3
                simp only [List.getElem?_toArray, List.getElem?_cons_zero, List.getElem?_cons_succ] at i0 i1 i2 j3
                have hne8 : Value.ownBlock (.slice Ai 1 ci) ≠ some W4.heap.size := fun e => by
                  obtain ⟨cur, hc⟩ := own_block HOz.out _ e
                  rw [HPz.out] at hc; cases hc
                have hnez : Value.ownBlock (.slice Ai 1 ci) ≠ some (w.heap.size + 1 + 1) := fun e => by
                  obtain ⟨cur, hc⟩ := own_block HOz.out _ e
                  rw [HZz.out] at hc; cases hc
                have hneg : Value.ownBlock (.slice Ai 1 ci) ≠ some g := fun e => by
                  have h1 := HLT.out g e
                  have h2 := (HD9.out.lt g rfl).1
                  omega
                have hlg := (HD9.out.lt g rfl).2
                have hgg := (HD9.out.lt g rfl).1
                clear hic p8 i3 zI HPy HZy HBy HOy HIY
                go_upto_region 51 with (at_builtin; (refine wpList_pushN wr rfl _ _ 51 75 rfl W4.heap.size (.agg #[.int .i64 0, .int .i64 0, .string ⟨#[]⟩, .slice none 0 0]) 4 56 Try.underlying51 infoItm rfl (by omega) (by omega) (.slice Ai 1 ci) 1 _ [.int .i64 (an : Int), .int .i64 (j1 : Int), .string (strOfNums [f0]), .slice (some ⟨g, 0, none⟩) 1 cap] rfl rfl rfl (by simp [Value.oneCell']) HOz.out (by omega) (by omega) rfl ?_; intro gg cc w9 ho hg hat hlt9; have hpk : w9.heap[W4.heap.size]? = _ := (hg.block _ (by omega) (fun e => hne8 e.symm)).trans HPz.out; have hzk : w9.heap[w.heap.size + 1 + 1]? = _ := (hg.block _ (by omega) (fun e => hnez e.symm)).trans HZz.out; have HPK := Lib.hid hpk; have HZK := Lib.hid hzk; have HO9 := Lib.hid ho; have HB9 := Lib.hid (below_grown HBz.out hg (by omega) (fun j hj => by have := own_row HOz.out j hj; omega)); have HDD := Lib.hid (own_same HD9.out (fun j hj => by cases hj; exact hg.block g hlg (fun e => hneg e.symm))); have p9 : w9.cell? ⟨W4.heap.size, 8, none⟩ = some (.slice Ai 1 ci) := (by rw [blk_cell hpk]; rfl); have z9 := blk_free hpk 8; clear hpk hzk ho hg hat))
                have hgn : gg ≠ W4.heap.size := fun e => by
                  obtain ⟨cur, hc⟩ := own_block HO9.out gg rfl
                  rw [e, HPK.out] at hc; cases hc
                have HPc := Lib.hid (blk_set HPK.out 8 (.slice (some ⟨gg, 0, none⟩) (1 + 1) cc))
                have HZc : Hid ((w9.setCell ⟨W4.heap.size, 8, none⟩ (.slice (some ⟨gg, 0, none⟩) (1 + 1) cc)).heap[w.heap.size + 1 + 1]? = _) := Lib.hid ((Below.heap_setCell _ _ _ _ (by simp only; omega)).trans HZK.out)
                have HBc := Lib.hid (HB9.out.setCell (p := ⟨W4.heap.size, 8, none⟩) (by simp only; omega) (.slice (some ⟨gg, 0, none⟩) (1 + 1) cc))
                have HOc := Lib.hid (own_same (w' := w9.setCell ⟨W4.heap.size, 8, none⟩ (.slice (some ⟨gg, 0, none⟩) (1 + 1) cc)) HO9.out (fun j hj => by cases hj; exact Below.heap_setCell _ _ _ _ hgn))
                have HDc := Lib.hid (own_same (w' := w9.setCell ⟨W4.heap.size, 8, none⟩ (.slice (some ⟨gg, 0, none⟩) (1 + 1) cc)) HDD.out (fun j hj => by cases hj; exact Below.heap_setCell _ _ _ _ (by simp only; omega)))
                clear p8z p9 z9 i0 i1 i2 j3 HPK HZK HO9 HB9 HPz HZz HBz HOz hne8 hnez HDD HD9 HI
                simp only [List.setIfInBounds_toArray, List.set_cons_zero, List.set_cons_succ] at HPc
                generalize w9.setCell ⟨W4.heap.size, 8, none⟩ (.slice (some ⟨gg, 0, none⟩) (1 + 1) cc) = Wc at *
                have hPB := blk_cell HPc.out
                have hZB := blk_cell HZc.out
                have p0 := hPB 0
                have p1 := hPB 1
                have p2 := hPB 2
                have p3 := hPB 3
                have p4 := hPB 4
                have p5 := hPB 5
                have p6 := hPB 6
                have p7 := hPB 7
                have p8 := hPB 8
                have p9 := hPB 9
                have q0 := hZB 0
                have q1 := hZB 1
                have q2 := hZB 2
                have q3 := hZB 3
                have q4 := hZB 4
                have q5 := hZB 5
                have q6 := hZB 6
                have q7 := hZB 7
                have q8 := hZB 8
                have q9 := hZB 9
                simp only [putC, putZ, iv, List.map_cons, List.map_nil, List.cons_append, List.nil_append, List.getElem?_toArray, List.getElem?_cons_zero, List.getElem?_cons_succ] at p0 p1 p2 p3 p4 p5 p6 p7 p8 p9 q0 q1 q2 q3 q4 q5 q6 q7 q8 q9
                have zP := blk_free HPc.out
                have zZ := blk_free HZc.out
                have hneB : W4.heap.size ≠ w.heap.size + 1 + 1 := by omega
                have hneC : w.heap.size + 1 + 1 ≠ W4.heap.size := by omega
                clear hPB hZB
                go_wp2
                have hZ9 := set10 HZc.out (.int .i64 a0) (.int .i64 a1) (.int .i64 a2) (.int .i64 a3) (.int .i64 a4) (.int .i64 a5) (.int .i64 a6) (.int .i64 (an : Int)) (.slice (some ⟨gg, 0, none⟩) (1 + 1) cc) (.int .i64 1)
                have hFr := fr10 Wc (w.heap.size + 1 + 1) (.int .i64 a0) (.int .i64 a1) (.int .i64 a2) (.int .i64 a3) (.int .i64 a4) (.int .i64 a5) (.int .i64 a6) (.int .i64 (an : Int)) (.slice (some ⟨gg, 0, none⟩) (1 + 1) cc) (.int .i64 1)
                generalize ((((((((((Wc.setCell ⟨w.heap.size + 1 + 1, 0, none⟩ (.int .i64 a0)).setCell ⟨w.heap.size + 1 + 1, 1, none⟩ (.int .i64 a1)).setCell ⟨w.heap.size + 1 + 1, 2, none⟩ (.int .i64 a2)).setCell ⟨w.heap.size + 1 + 1, 3, none⟩ (.int .i64 a3)).setCell ⟨w.heap.size + 1 + 1, 4, none⟩ (.int .i64 a4)).setCell ⟨w.heap.size + 1 + 1, 5, none⟩ (.int .i64 a5)).setCell ⟨w.heap.size + 1 + 1, 6, none⟩ (.int .i64 a6)).setCell ⟨w.heap.size + 1 + 1, 7, none⟩ (.int .i64 (an : Int))).setCell ⟨w.heap.size + 1 + 1, 8, none⟩ (.slice (some ⟨gg, 0, none⟩) (1 + 1) cc)).setCell ⟨w.heap.size + 1 + 1, 9, none⟩ (.int .i64 1)) = Wf at *
                have hown := own_same (w' := Wf) HOc.out (fun j hj => by
                  obtain ⟨cur, hc⟩ := own_block HOc.out j hj
                  refine hFr.block j (Array.getElem?_eq_some_iff.1 hc).1 ?_
                  intro e
                  rw [e, HZc.out] at hc
                  cases hc)
                have hHB : Below w.heap.size w Wf := HBc.out.trans (hFr.below (B := w.heap.size) HBc.out.size (fun k h => by omega))
                clear p0 p1 p2 p3 p4 p5 p6 p7 p8 p9 q0 q1 q2 q3 q4 q5 q6 q7 q8 q9 zP zZ
                refine bodyPost_ret (v := .agg (putC [a0, a1, a2, a3, a4, a5, a6, (an : Int)] (.slice (some ⟨gg, 0, none⟩) (1 + 1) cc) 1)) ?_ rfl ?_
                · have d := blk_cell hZ9
                  have d0 := d 0
                  have d1 := d 1
                  have d2 := d 2
                  have d3 := d 3
                  have d4 := d 4
                  have d5 := d 5
                  have d6 := d 6
                  have d7 := d 7
                  have d8 := d 8
                  have d9 := d 9
                  simp only [List.getElem?_toArray, List.getElem?_cons_zero, List.getElem?_cons_succ] at d0 d1 d2 d3 d4 d5 d6 d7 d8 d9
                  simp [results, Try.results31, go_sem, d0, d1, d2, d3, d4, d5, d6, d7, d8, d9, putC, iv]
                · have hdd := own_same (w' := Wf) HDc.out (fun j hj => hFr.block j (HDc.out.lt j hj).2 (fun e => by
                    have h2 := (HDc.out.lt j hj).1
                    omega))
                  obtain ⟨A9, c9, e9, hl9, hr9⟩ := rd_own hdd
                  cases e9
                  refine ⟨_, _, rfl, ?_, hHB⟩
                  have hj1 : ((k - 38 : Nat) : Int) / 32 = (j1 : Int) := by have := HJ1.out; omega
                  first | rw [← HJ1.out, ← HJ2.out] | rw [hj1, ← HJ2.out]
                  refine ⟨[(none, 0, 0), (some ⟨g, 0, none⟩, 1, cap)], ⟨hown.1, hown.2.imp id fun ⟨g, cap, cur, e, hb, r⟩ => ⟨g, cap, cur, e, by omega, r⟩⟩, rfl, rfl, fun j hj => ?_⟩
                  match j, hj with
                  | 0, _ => exact ⟨rfl, Rd.nil (c := 0) (by omega)⟩
                  | 1, _ => exact ⟨rfl, hr9⟩
end Go.Proofs.Ytcgfoaihfncppaa
