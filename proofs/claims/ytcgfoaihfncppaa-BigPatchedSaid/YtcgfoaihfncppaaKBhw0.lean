/- A file is laid behind a call. -/
import Derived.Test.YtcgfoaihfncppaaKBhE
import Derived.Test.YtcgfoaihfncppaaKBhV
import Derived.Test.YtcgfoaihfncppaaKBhT
set_option linter.unusedSimpArgs false
set_option linter.unusedVariables false
namespace Go.Proofs.Ytcgfoaihfncppaa
open Go.RowKit Go.Sel Go.Sel.Gra Go.Sel.Bg Go.Sel.Mer Go.Shelf
/-- A file is laid behind a call. -/
theorem laid_file {w W w1 : World} (h : Below w.heap.size w W) (hB : Below W.heap.size W w1) {t : List Int} {o : Obj} (ho : o = .cells (iv .i64 t).toArray 36) : boxB (w1.alloc o) w1.heap.size t ∧ Below w.heap.size w (w1.alloc o) ∧ Below W.heap.size W (w1.alloc o) := by
  subst ho
  exact ⟨blk11 w1 _, (below_then h hB).alloc (below_then h hB).size _, hB.alloc hB.size _⟩

end Go.Proofs.Ytcgfoaihfncppaa
/- Walk of BigBack (printed by gen_bhw.py). -/
set_option linter.unusedSimpArgs false
set_option linter.unusedVariables false
namespace Go.Proofs.Ytcgfoaihfncppaa
open Go.RowKit Go.Sel Go.Sel.Gra Go.Sel.Bg Go.Sel.Mer Go.Shelf

theorem rg31 {k : Nat} {b : Int} (hk : k < 1062) (hb : 1 ≤ b ∧ b ≤ 30) : RgPut 60 k b [31, 32] := ⟨hk, by omega, by omega, fun x hx => by simp only [List.mem_cons, List.not_mem_nil, or_false] at hx; omega⟩
set_option maxRecDepth 100000 in
set_option maxHeartbeats 4000000 in
theorem law_BigBack (A : Option Addr) (n c : Nat) (L : List Pu) (x : Pu) (o : Int) (w : World) (hL : Pd w A n c L) (hx : x.ok) (ho0 : 0 ≤ o) (ho1 : o ≤ 65535) :
    Calls Try.prog 4 #[.slice A n c, .agg #[.int .u16 x.p, .int .u8 x.b], .int .u16 o] w fun e w' => e = .returned (.bool true) ∧ Below w.heap.size w w' := by
  have HMD := Lib.hid (fun W (h : Pd W A n c L) => made_any A n c L W h)
  have HL := Lib.hid hL
  have hl1 := hL.rd.le
  have hl2 := hL.rd.cap
  obtain ⟨dp, db⟩ := x
  obtain ⟨⟨hok0, hok1⟩, hok2, hok3⟩ := hx
  simp only at hok0 hok1 hok2 hok3 ⊢
  have et1 : dp.tmod 1062 = dp % 1062 := Int.tmod_eq_emod_of_nonneg hok0
  have et2 : db.tmod 30 = db % 30 := Int.tmod_eq_emod_of_nonneg hok2
  have et3 : o.tmod 1062 = o % 1062 := Int.tmod_eq_emod_of_nonneg ho0
  obtain ⟨k, hk⟩ : ∃ k : Nat, dp % 1062 = (k : Int) := ⟨(dp % 1062).toNat, by omega⟩
  obtain ⟨oo, hoo⟩ : ∃ k : Nat, o % 1062 = (k : Int) := ⟨(o % 1062).toNat, by omega⟩
  obtain ⟨bb, hbb⟩ : ∃ bb : Int, db % 30 + 1 = bb := ⟨_, rfl⟩
  have hk1 : k < 1062 := by omega
  have hoo1 : oo < 1062 := by omega
  have hbb1 : 1 ≤ bb ∧ bb ≤ 30 := by omega
  clear hL
  go_enter Try.func4, Try.ntmps4
  have HP0 : Hid (Pd (w.alloc (.cells #[.int .u16 dp, .int .u8 db] 32)) A n c L) := Lib.hid ⟨HL.out.len, HL.out.rd.alloc _, HL.out.ok⟩
  have HB0 := Lib.hid (below_al w (.cells #[.int .u16 dp, .int .u8 db] 32))
  have HQ0 := Lib.hid (blk11 w (.cells #[.int .u16 dp, .int .u8 db] 32))
  go_upto_region 1 with (fail)
  generalize w.alloc (.cells #[.int .u16 dp, .int .u8 db] 32) = W0 at *
  obtain ⟨pb, HPB⟩ : ∃ pb, Hid (w.heap.size = pb) := ⟨_, rfl⟩
  rw [HPB.out] at HQ0 ⊢
  have hq0 := (Array.getElem?_eq_some_iff.1 HQ0.out).1
  go_upto_region 2 with (go_at_call 12; refine (HMD.out _ HP0.out).mono ?_; rintro e w1 ⟨⟨A2, c2, D, t, rfl, hM, hD⟩, hB⟩; obtain ⟨a0, a1, a2, a3, a4, a5, a6, a7, ht8⟩ := len8 hM.len; have HT8 := Lib.hid ht8; rw [show bigV t = .agg #[.int .i64 a0, .int .i64 a1, .int .i64 a2, .int .i64 a3, .int .i64 a4, .int .i64 a5, .int .i64 a6, .int .i64 a7] from by rw [ht8]; rfl]; have HF := Lib.hid (laid_file HB0.out hB (t := t) (o := (.cells #[.int .i64 a0, .int .i64 a1, .int .i64 a2, .int .i64 a3, .int .i64 a4, .int .i64 a5, .int .i64 a6, .int .i64 a7] 36)) (by rw [ht8]; rfl)); have HM := Lib.hid hM; have HD := Lib.hid (hD.below (below_al w1 (.cells #[.int .i64 a0, .int .i64 a1, .int .i64 a2, .int .i64 a3, .int .i64 a4, .int .i64 a5, .int .i64 a6, .int .i64 a7] 36))); have HQ1 := Lib.hid (blk_below HQ0.out (HF.out.2.2) hq0); clear hM hD hB ht8)
  have HX1 := Lib.hid HF.out.1
  have HB1 := Lib.hid HF.out.2.1
  clear HF HB0 HQ0 HP0 hq0 HMD
  generalize w1.alloc (.cells #[.int .i64 a0, .int .i64 a1, .int .i64 a2, .int .i64 a3, .int .i64 a4, .int .i64 a5, .int .i64 a6, .int .i64 a7] 36) = W1 at *
  obtain ⟨fb, HFB⟩ : ∃ fb, Hid (w1.heap.size = fb) := ⟨_, rfl⟩
  rw [HFB.out] at HX1 ⊢
  have q0 : W1.cell? ⟨pb, 0, none⟩ = some (.int .u16 dp) := by rw [blk_cell HQ1.out]; rfl
  have q1 : W1.cell? ⟨pb, 1, none⟩ = some (.int .u8 db) := by rw [blk_cell HQ1.out]; rfl
  have hdn := HM.out.dl
  have htl := HM.out.len
  have hr31 := rg31 hk1 hbb1
  have HG := Lib.hid (fun (j : Nat) (hj : j < 1062) W (h : Bp W A2 60 c2 D) => Get_ok A2 60 c2 D t j hj htl W h HM.out.rt)
  have hx1 : W1.heap[fb]? = some (.cells #[.int .i64 a0, .int .i64 a1, .int .i64 a2, .int .i64 a3, .int .i64 a4, .int .i64 a5, .int .i64 a6, .int .i64 a7] 36 (0, 0)) := by have := HX1.out; unfold boxB at this; rw [HT8.out] at this; exact this
  obtain ⟨d0, d1, d2, d3, d4, d5, d6, d7⟩ := big8 hx1
  have hbv : bigV t = .agg #[.int .i64 a0, .int .i64 a1, .int .i64 a2, .int .i64 a3, .int .i64 a4, .int .i64 a5, .int .i64 a6, .int .i64 a7] := by rw [HT8.out]; rfl
  clear hx1
  by_cases hE : errL D t k bb [31, 32] = 0
  · have hok := ok_of_err hr31 hE
    have hPR := put_right HM.out.rt htl (by rw [hdn]; exact hok) (by simp)
    have hPL := (putL_len D t k bb [31, 32]).2.1.trans htl
    have HPT := Lib.hid (fun (Af : Option Addr) (W : World) (h1 : Bp W A2 60 c2 D) (h2 : Rd W Af 2 2 (iv .i64 [31, 32])) => Put_any A2 60 c2 D t k bb Af 2 2 [31, 32] (by simp) htl W h1 HM.out.rt h2 rfl hok)
    have HATK : Hid (∀ j, j < 1062 → atK (putL D t k bb [31, 32]).1 (putL D t k bb [31, 32]).2.1 j = if j = k then bb else atK D t j) := Lib.hid (fun j hj => by rw [atK, hPR.2 _ (posK_lt hj), putV_at hk1 hj])
    have HR2 := Lib.hid hPR.1
    clear hPR
    generalize (putL D t k bb [31, 32]).1 = D2 at *
    generalize (putL D t k bb [31, 32]).2.1 = t2 at *
    generalize (putL D t k bb [31, 32]).2.2 = us at *
    obtain ⟨z0, z1, z2, z3, z4, z5, z6, z7, ht2⟩ := len8 hPL
    have HT2 := Lib.hid ht2
    have hbv2 : bigV t2 = .agg #[.int .i64 z0, .int .i64 z1, .int .i64 z2, .int .i64 z3, .int .i64 z4, .int .i64 z5, .int .i64 z6, .int .i64 z7] := by rw [ht2]; rfl
    have HG2 := Lib.hid (fun (A3 : Option Addr) (c3 : Nat) (j : Nat) (hj : j < 1062) W (h : Bp W A3 60 c3 D2) => Get_ok A3 60 c3 D2 t2 j hj hPL W h HR2.out)
    have HRT := Lib.hid (fun (A3 : Option Addr) (c3 : Nat) W (h : Bp W A3 60 c3 D2) => Right_ok A3 60 c3 D2 t2 hPL W h HR2.out)
    rw [hbv] at HPT HG
    rw [hbv2] at HPT HG2 HRT
    simp only [iv, List.map_cons, List.map_nil] at HPT
    clear ht2 htl hdn hr31 hE hok hPL hbv hbv2
    have HFR : Hid (Rd (W1.alloc (.cells #[.int .i64 31, .int .i64 32] 3)) (some ⟨W1.heap.size, 0, none⟩) 2 2 [.int .i64 31, .int .i64 32]) := Lib.hid (sl_rd W1 [31, 32] 3 (by simp))
    have HDa := Lib.hid (HD.out.below (below_al W1 (.cells #[.int .i64 31, .int .i64 32] 3)))
    have HBa := Lib.hid (HB1.out.alloc HB1.out.size (.cells #[.int .i64 31, .int .i64 32] 3))
    have HXa := Lib.hid (blk_below HX1.out (below_al W1 (.cells #[.int .i64 31, .int .i64 32] 3)) (Array.getElem?_eq_some_iff.1 HX1.out).1)
    go_upto_region 4 with (fail)
    go_upto_region 5 with (go_at_call 13; refine (HPT.out _ _ HDa.out HFR.out).mono ?_; rintro e w2 ⟨⟨Ao, co, rfl, hwb⟩, hB⟩; have HF := Lib.hid (laid_file HBa.out hB (t := t2) (o := (.cells #[.int .i64 z0, .int .i64 z1, .int .i64 z2, .int .i64 z3, .int .i64 z4, .int .i64 z5, .int .i64 z6, .int .i64 z7] 36)) (by rw [HT2.out]; rfl)); have HW2 := Lib.hid (hwb.bp.below (below_al w2 (.cells #[.int .i64 z0, .int .i64 z1, .int .i64 z2, .int .i64 z3, .int .i64 z4, .int .i64 z5, .int .i64 z6, .int .i64 z7] 36))); have HD2 := Lib.hid (HDa.out.below HF.out.2.2); have HX2 := Lib.hid (blk_below HXa.out HF.out.2.2 (Array.getElem?_eq_some_iff.1 HXa.out).1); clear hwb hB)
    have HY2 := Lib.hid HF.out.1
    have HB2 := Lib.hid HF.out.2.1
    clear HF HFR HDa HXa HBa HPT HD HX1 HB1 HQ1 q0 q1 d0 d1 d2 d3 d4 d5 d6 d7
    generalize w2.alloc (.cells #[.int .i64 z0, .int .i64 z1, .int .i64 z2, .int .i64 z3, .int .i64 z4, .int .i64 z5, .int .i64 z6, .int .i64 z7] 36) = W2 at *
    obtain ⟨gb, HGB⟩ : ∃ gb, Hid (w2.heap.size = gb) := ⟨_, rfl⟩
    rw [HGB.out] at HY2 ⊢
    have hy3 : W2.heap[gb]? = some (.cells #[.int .i64 z0, .int .i64 z1, .int .i64 z2, .int .i64 z3, .int .i64 z4, .int .i64 z5, .int .i64 z6, .int .i64 z7] 36 (0, 0)) := by have := HY2.out; unfold boxB at this; rw [HT2.out] at this; exact this
    obtain ⟨d0, d1, d2, d3, d4, d5, d6, d7⟩ := big8 hy3
    go_upto_region 8 with (go_at_call 14; refine (HG2.out _ _ k hk1 _ HW2.out).mono ?_; rintro e W3 ⟨rfl, hB⟩; have HW3 := Lib.hid (HW2.out.below hB); have HD3 := Lib.hid (HD2.out.below hB); have HX3 := Lib.hid (blk_below HX2.out hB (Array.getElem?_eq_some_iff.1 HX2.out).1); have HY3 := Lib.hid (blk_below HY2.out hB (Array.getElem?_eq_some_iff.1 HY2.out).1); have HB3 := Lib.hid (below_then HB2.out hB); clear hB)
    clear d0 d1 d2 d3 d4 d5 d6 d7 hy3 HW2 HD2 HX2 HY2 HB2
    have hy4 : W3.heap[gb]? = some (.cells #[.int .i64 z0, .int .i64 z1, .int .i64 z2, .int .i64 z3, .int .i64 z4, .int .i64 z5, .int .i64 z6, .int .i64 z7] 36 (0, 0)) := by have := HY3.out; unfold boxB at this; rw [HT2.out] at this; exact this
    obtain ⟨d0, d1, d2, d3, d4, d5, d6, d7⟩ := big8 hy4
    go_upto_region 9 with (go_at_call 14; refine (HG2.out _ _ oo hoo1 _ HW3.out).mono ?_; rintro e W4 ⟨rfl, hB⟩; have HW4 := Lib.hid (HW3.out.below hB); have HD4 := Lib.hid (HD3.out.below hB); have HX4 := Lib.hid (blk_below HX3.out hB (Array.getElem?_eq_some_iff.1 HX3.out).1); have HY4 := Lib.hid (blk_below HY3.out hB (Array.getElem?_eq_some_iff.1 HY3.out).1); have HB4 := Lib.hid (below_then HB3.out hB); clear hB)
    clear d0 d1 d2 d3 d4 d5 d6 d7 hy4 HW3 HD3 HX3 HY3 HB3
    have hy5 : W4.heap[fb]? = some (.cells #[.int .i64 a0, .int .i64 a1, .int .i64 a2, .int .i64 a3, .int .i64 a4, .int .i64 a5, .int .i64 a6, .int .i64 a7] 36 (0, 0)) := by have := HX4.out; unfold boxB at this; rw [HT8.out] at this; exact this
    obtain ⟨d0, d1, d2, d3, d4, d5, d6, d7⟩ := big8 hy5
    go_upto_region 10 with (go_at_call 14; refine (HG.out oo hoo1 _ HD4.out).mono ?_; rintro e W5 ⟨rfl, hB⟩; have HW5 := Lib.hid (HW4.out.below hB); have HD5 := Lib.hid (HD4.out.below hB); have HX5 := Lib.hid (blk_below HX4.out hB (Array.getElem?_eq_some_iff.1 HX4.out).1); have HY5 := Lib.hid (blk_below HY4.out hB (Array.getElem?_eq_some_iff.1 HY4.out).1); have HB5 := Lib.hid (below_then HB4.out hB); clear hB)
    clear d0 d1 d2 d3 d4 d5 d6 d7 hy5 HW4 HD4 HX4 HY4 HB4
    have hy6 : W5.heap[gb]? = some (.cells #[.int .i64 z0, .int .i64 z1, .int .i64 z2, .int .i64 z3, .int .i64 z4, .int .i64 z5, .int .i64 z6, .int .i64 z7] 36 (0, 0)) := by have := HY5.out; unfold boxB at this; rw [HT2.out] at this; exact this
    have HV6 := Lib.hid hy6
    clear hy6 HG HG2
    rw [HATK.out k hk1, if_pos rfl, HATK.out oo hoo1]
    by_cases hok : oo = k
    · subst hok
      rw [if_pos rfl]
      clear HATK
      generalize atK D t oo = wk at *
      go_wp2_with (first
        | (go_at_call 10; refine (live_any _).mono ?_; rintro e w6 ⟨rfl, hB⟩; have HW6 := Lib.hid (HW5.out.below hB); have HB6 := Lib.hid (below_then HB5.out hB); obtain ⟨d0, d1, d2, d3, d4, d5, d6, d7⟩ := big8 (blk_below HV6.out hB (Array.getElem?_eq_some_iff.1 HV6.out).1); clear hB)
        | (go_at_call 15; refine (HRT.out _ _ _ HW6.out).mono ?_; rintro e w7 ⟨rfl, hB⟩; have HB7 := Lib.hid (below_then HB6.out hB); clear hB))
      go_ret
      exact ⟨rfl, HB7.out⟩
    · rw [if_neg hok]
      have hob : ((oo : Int) == (k : Int)) = false := by
        have h : (oo : Int) ≠ (k : Int) := by omega
        simpa using h
      clear HATK
      generalize atK D t oo = wk at *
      go_wp2_with (first
        | (go_at_call 10; refine (live_any _).mono ?_; rintro e w6 ⟨rfl, hB⟩; have HW6 := Lib.hid (HW5.out.below hB); have HB6 := Lib.hid (below_then HB5.out hB); obtain ⟨d0, d1, d2, d3, d4, d5, d6, d7⟩ := big8 (blk_below HV6.out hB (Array.getElem?_eq_some_iff.1 HV6.out).1); clear hB)
        | (go_at_call 15; refine (HRT.out _ _ _ HW6.out).mono ?_; rintro e w7 ⟨rfl, hB⟩; have HB7 := Lib.hid (below_then HB6.out hB); clear hB))
      go_ret
      exact ⟨rfl, HB7.out⟩
  · have HERR := Lib.hid (fun (Af : Option Addr) (W : World) (h1 : Bp W A2 60 c2 D) (h2 : Rd W Af 2 2 (iv .i64 [31, 32])) => Put_fail A2 60 c2 D t k bb Af 2 2 [31, 32] htl W h1 HM.out.rt h2 rfl hr31 hE)
    have hvals := errL_vals D t k bb [31, 32]
    rw [hbv] at HERR
    simp only [iv, List.map_cons, List.map_nil] at HERR
    generalize errL D t k bb [31, 32] = er at *
    have hz8 : bigV zB = .agg #[.int .i64 0, .int .i64 0, .int .i64 0, .int .i64 0, .int .i64 0, .int .i64 0, .int .i64 0, .int .i64 0] := rfl
    rw [hz8] at HERR
    clear hbv htl hdn hr31 HG hz8
    have hbe : (er != 0) = true := by simpa using hE
    have hbo : (er == 6 || er == 12) = true := by rcases hvals with h | h | h <;> simp_all
    have HFR : Hid (Rd (W1.alloc (.cells #[.int .i64 31, .int .i64 32] 3)) (some ⟨W1.heap.size, 0, none⟩) 2 2 [.int .i64 31, .int .i64 32]) := Lib.hid (sl_rd W1 [31, 32] 3 (by simp))
    have HDa := Lib.hid (HD.out.below (below_al W1 (.cells #[.int .i64 31, .int .i64 32] 3)))
    have HBa := Lib.hid (HB1.out.alloc HB1.out.size (.cells #[.int .i64 31, .int .i64 32] 3))
    go_upto_region 4 with (fail)
    rcases hvals with h | h | h
    · exact absurd h hE
    · subst h
      go_upto_region 5 with (go_at_call 13; refine (HERR.out _ _ HDa.out HFR.out).mono ?_; rintro e w2 ⟨rfl, hB⟩; have HB2 := Lib.hid (below_alloc_then HBa.out hB (.cells #[.int .i64 0, .int .i64 0, .int .i64 0, .int .i64 0, .int .i64 0, .int .i64 0, .int .i64 0, .int .i64 0] 36)); clear hB)
      generalize w2.alloc (.cells #[.int .i64 0, .int .i64 0, .int .i64 0, .int .i64 0, .int .i64 0, .int .i64 0, .int .i64 0, .int .i64 0] 36) = W2 at *
      go_wp2_with (go_at_call 10; refine (live_any _).mono ?_; rintro e w6 ⟨rfl, hB⟩; have HB6 := Lib.hid (below_then HB2.out hB); clear hB)
      go_ret
      exact ⟨rfl, HB6.out⟩
    · subst h
      go_upto_region 5 with (go_at_call 13; refine (HERR.out _ _ HDa.out HFR.out).mono ?_; rintro e w2 ⟨rfl, hB⟩; have HB2 := Lib.hid (below_alloc_then HBa.out hB (.cells #[.int .i64 0, .int .i64 0, .int .i64 0, .int .i64 0, .int .i64 0, .int .i64 0, .int .i64 0, .int .i64 0] 36)); clear hB)
      generalize w2.alloc (.cells #[.int .i64 0, .int .i64 0, .int .i64 0, .int .i64 0, .int .i64 0, .int .i64 0, .int .i64 0, .int .i64 0] 36) = W2 at *
      go_wp2_with (go_at_call 10; refine (live_any _).mono ?_; rintro e w6 ⟨rfl, hB⟩; have HB6 := Lib.hid (below_then HB2.out hB); clear hB)
      go_ret
      exact ⟨rfl, HB6.out⟩
end Go.Proofs.Ytcgfoaihfncppaa
