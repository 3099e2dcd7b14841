/- The patches of Put, one behind another, plainly. No program in sight. -/
import Derived.Test.YtcgfoaihfncppaaKBgF
import Derived.Test.YtcgfoaihfncppaaKBhT
import Derived.Test.YtcgfoaihfncppaaKBhY0
import Derived.Test.YtcgfoaihfncppaaKBhw0
set_option linter.unusedSimpArgs false
set_option linter.unusedVariables false
namespace Go.Proofs.Ytcgfoaihfncppaa
open Go.RowKit Go.Sel Go.Sel.Gra Go.Sel.Bg Go.Sel.Mer Go.Shelf

/-- The first i items. -/
def doneL (i : Nat) : List Int := (List.range i).map fun j : Nat => (j : Int)
theorem doneL_succ (i : Nat) : doneL (i + 1) = doneL i ++ [(i : Int)] := by simp [doneL, List.range_succ]
theorem doneL_len (i : Nat) : (doneL i).length = i := by simp [doneL]
theorem mem_doneL {i j : Nat} : (j : Int) ∈ doneL i ↔ j < i := by
  unfold doneL
  rw [List.mem_map]
  constructor
  · rintro ⟨q, hq, e⟩
    have := List.mem_range.1 hq
    omega
  · intro h
    exact ⟨j, List.mem_range.2 h, rfl⟩
theorem applyL_all (D : List (List Int)) (L : List It) {j : Nat} (h : L.length ≤ j) : applyL D L j = applyL D L L.length := by
  unfold applyL
  rw [List.take_of_length_le h, List.take_of_length_le (Nat.le_refl _)]
/-- Blocks behind the first i items. -/
theorem blocks_done {D : List (List Int)} {L : List It} (hw : whole D) (hr : mrightB L = true) (hb : ∀ x ∈ L, x.b < (D.length : Int)) {i : Nat} (hi : i ≤ L.length) : blocksL L (doneL i) D = applyL D L i := by
  have hp := (mright_iff.1 hr).2.1
  rw [blocksL, if_pos hr]
  have key : ∀ j, j ≤ L.length → blocksK L (doneL i) D j = applyL D L (min i j) := by
    intro j
    induction j with
    | zero => intro _; rw [Nat.min_zero]; rfl
    | succ j ih =>
      intro hj
      rw [blocksK_succ, ih (by omega)]
      unfold Go.Sel.Mer.stepB
      by_cases hji : j < i
      · have e1 : min i j = j := by omega
        have e2 : min i (j + 1) = j + 1 := by omega
        have hx := List.getElem_mem (show j < L.length by omega)
        have hxb := hb _ hx
        have hxp := hp _ hx
        rw [e1, e2, applyL_succ D L j (by omega), nthI_get (show j < L.length by omega)]
        obtain ⟨hl, hwj⟩ := applyL_whole hw L hp j
        rw [if_pos ⟨by rw [hl]; exact hxb, mem_doneL.2 hji⟩]
        have hpi := pright_iff.1 hxp
        have hlen : (nth (applyL D L j) (L[j]).b.toNat).length = 32 := by
          have hlt : (L[j]).b.toNat < (applyL D L j).length := by rw [hl]; omega
          rw [nth_get hlt]
          exact hwj.2 _ (List.getElem_mem hlt)
        rw [show applyB (nth (applyL D L j) (L[j]).b.toNat) L[j] = some (spl (nth (applyL D L j) (L[j]).b.toNat) (L[j]).o.toNat (nums (L[j]).s)) from if_pos ⟨hlen, hxp⟩]
      · have e1 : min i j = i := by omega
        have e2 : min i (j + 1) = i := by omega
        rw [e1, e2, if_neg]
        rintro ⟨_, h⟩
        exact hji (mem_doneL.1 h)
  rw [key _ (Nat.le_refl _), Nat.min_eq_left hi]
theorem planL_len (D : List (List Int)) (t : List Int) (k : Nat) (b : Int) (F : List Int) : (planL D t k b F).length ≤ 2 := by
  unfold planL
  (repeat' split) <;> simp
theorem planL_right {D : List (List Int)} {t : List Int} {k : Nat} {b : Int} {F : List Int} (hR : Rt D t) (ht : t.length = 8) (hO : OkPut D t D.length k b F) (hF : 2 ≤ F.length) : mrightB (planL D t k b F) = true := by
  have h := (applyL_plan hR ht hO hF).2
  have hl := planL_len D t k b F
  refine mright_iff.2 ⟨by omega, fun x hx => (h x hx).1, right_iff.2 ⟨by rw [depsL_length]; omega, fun i hi => ?_⟩⟩
  rw [depsL_length] at hi
  rw [nth_depsL hi]
  have hd : (nthI (planL D t k b F) i).ds = [] ∨ ((nthI (planL D t k b F) i).ds = [0] ∧ i = 1) := by
    unfold planL at hi ⊢
    by_cases h6 : k < 6
    · rw [if_pos h6] at hi; simp at hi
    · rw [if_neg h6] at hi ⊢
      by_cases h38 : k < 38
      · rw [if_pos h38] at hi ⊢
        left
        split <;> (rename_i hz; simp only [hz, if_true, if_false, List.length_cons, List.length_nil] at hi; obtain rfl : i = 0 := by omega
                   rfl)
      · rw [if_neg h38] at hi ⊢
        by_cases hz : tp t 7 = 0
        · rw [if_pos hz] at hi ⊢
          simp only [List.length_cons, List.length_nil] at hi
          have : i = 0 ∨ i = 1 := by omega
          rcases this with rfl | rfl <;> exact .inl rfl
        · rw [if_neg hz] at hi ⊢
          by_cases hl : val D t (lf k) = 0
          · rw [if_pos hl] at hi ⊢
            simp only [List.length_cons, List.length_nil] at hi
            have : i = 0 ∨ i = 1 := by omega
            rcases this with rfl | rfl
            · exact .inl rfl
            · exact .inr ⟨rfl, rfl⟩
          · rw [if_neg hl] at hi ⊢
            simp only [List.length_cons, List.length_nil] at hi
            obtain rfl : i = 0 := by omega
            exact .inl rfl
  rcases hd with hd | ⟨hd, rfl⟩
  · rw [hd]; simp
  · rw [hd]; simp
/-- Behind the first of two patches the file as it was is right, and has its blocks. -/
theorem plan_mid {D : List (List Int)} {t : List Int} {k : Nat} {b : Int} {F : List Int} (hR : Rt D t) (ht : t.length = 8) (hO : OkPut D t D.length k b F) (hF : 2 ≤ F.length) (i : Nat) (hi : i < (planL D t k b F).length) (hi2 : 0 < i ∨ (planL D t k b F).length = 1) :
    Rt (applyL D (planL D t k b F) i) t ∧ ∀ p, p < 1096 → val (applyL D (planL D t k b F) i) t p = val D t p := by
  have hl := planL_len D t k b F
  rcases Nat.eq_zero_or_pos i with rfl | hpos
  · exact ⟨hR, fun _ _ => rfl⟩
  · have hp := (applyL_plan hR ht hO hF).2
    have hwh := (applyL_whole hR.1 (planL D t k b F) (fun x hx => (hp x hx).1) 1).2
    have h2 : i = 1 ∧ (planL D t k b F).length = 2 := by omega
    obtain ⟨rfl, hl2⟩ := h2
    have m0 : f0 F ∈ F := by unfold f0; rw [List.getD_eq_getElem?_getD, List.getElem?_eq_getElem (by omega)]; exact List.getElem_mem _
    have g0 := hO.f _ m0
    have z0 := hO.nf _ m0
    obtain ⟨r, hr⟩ : ∃ r, applyL D (planL D t k b F) 1 = D.set (f0 F).toNat r := by
      have h1 := applyL_succ D (planL D t k b F) 0 (by omega)
      have hb : (nthI (planL D t k b F) 0).b = f0 F := by
        unfold planL at hl2 ⊢
        by_cases h6 : k < 6
        · rw [if_pos h6] at hl2; simp at hl2
        · rw [if_neg h6] at hl2 ⊢
          by_cases h38 : k < 38
          · rw [if_pos h38] at hl2
            split at hl2 <;> simp at hl2
          · rw [if_neg h38] at hl2 ⊢
            by_cases hz : tp t 7 = 0
            · rw [if_pos hz]; rfl
            · rw [if_neg hz] at hl2 ⊢
              by_cases hlz : val D t (lf k) = 0
              · rw [if_pos hlz]; rfl
              · rw [if_neg hlz] at hl2; simp at hl2
      rw [h1, hb]
      exact ⟨_, rfl⟩
    rw [hr] at hwh ⊢
    have hv : ∀ p, p < 1096 → val (D.set (f0 F).toNat r) t p = val D t p := val_far (by omega) fun p hp _ hne e => z0 p hp (by have := (hR.2.1 p hp).1; omega)
    refine ⟨⟨hwh, ?_⟩, hv⟩
    have h3 := okU_iff.1 hR.2
    refine okU_iff.2 ?_
    rw [List.length_set]
    exact h3.congr hv
theorem plN_congr {D E : List (List Int)} {t : List Int} (h : ∀ p, p < 1096 → val E t p = val D t p) : plL E t = plL D t ∧ blL E t = blL D t := by
  have e : plN E t = plN D t := by
    unfold plN
    refine List.filter_congr fun p hp => ?_
    rw [atK, atK, h _ (posK_lt (List.mem_range.1 hp))]
  refine ⟨by rw [plL, plL, e], ?_⟩
  rw [blL, blL, e]
  refine List.map_congr_left fun p hp => ?_
  rw [atK, atK, h _ (posK_lt (mem_plN.1 hp).1)]
end Go.Proofs.Ytcgfoaihfncppaa
/- Walk of BigPatched (printed by gen_bhyw.py). -/
set_option linter.unusedSimpArgs false
set_option linter.unusedVariables false
namespace Go.Proofs.Ytcgfoaihfncppaa
open Go.RowKit Go.Sel Go.Sel.Gra Go.Sel.Bg Go.Sel.Mer Go.Shelf

theorem same_self (A A' : Option Addr) (n c c' : Nat) (xs : List Int) (w : World) (ha : Rd w A n c (iv .i64 xs)) (hb : Rd w A' n c' (iv .i64 xs)) (hn : xs.length = n) :
    Calls Try.prog 11 #[.slice A n c, .slice A' n c'] w fun e w' => e = .returned (.bool true) ∧ Below w.heap.size w w' := by
  refine (Same1_any A A' n n c c' xs xs w ha hb hn hn).mono ?_
  rintro e w' ⟨rfl, q, rfl⟩
  exact ⟨by rw [decide_eq_true rfl], Sel.below_drewN w q⟩

theorem same_blocks_self (A A' : Option Addr) (n c c' : Nat) (D : List (List Int)) (w : World) (hD : Bp w A n c D) (hE : Bp w A' n c' D) :
    Calls Try.prog 24 #[.slice A n c, .slice A' n c'] w fun e w' => e = .returned (.bool true) ∧ Below w.heap.size w w' := by
  refine (SameBlocks_any A n c D A' n c' D w hD hE).mono ?_
  rintro e w' ⟨rfl, hB⟩
  exact ⟨by rw [decide_eq_true rfl], hB⟩

set_option maxRecDepth 100000 in
set_option maxHeartbeats 1000000 in
theorem law_BigPatched (A : Option Addr) (n c : Nat) (L : List Pu) (x : Pu) (w : World) (hL : Pd w A n c L) (hx : x.ok) :
    Calls Try.prog 6 #[.slice A n c, .agg #[.int .u16 x.p, .int .u8 x.b]] w fun e w' => e = .returned (.bool true) ∧ Below w.heap.size w w' := by
  have HMD := Lib.hid (fun W (h : Pd W A n c L) => made_any A n c L W h)
  have HL := Lib.hid hL
  have hl1 := hL.rd.le
  have hl2 := hL.rd.cap
  obtain ⟨dp, db⟩ := x
  obtain ⟨⟨hok0, hok1⟩, hok2, hok3⟩ := hx
  simp only at hok0 hok1 hok2 hok3 ⊢
  have et1 : dp.tmod 1062 = dp % 1062 := Int.tmod_eq_emod_of_nonneg hok0
  have et2 : db.tmod 30 = db % 30 := Int.tmod_eq_emod_of_nonneg hok2
  obtain ⟨k, hk⟩ : ∃ k : Nat, dp.tmod 1062 = (k : Int) := ⟨(dp % 1062).toNat, by omega⟩
  obtain ⟨bb, hbb⟩ : ∃ bb : Int, db.tmod 30 + 1 = bb := ⟨_, rfl⟩
  have hk1 : k < 1062 := by omega
  have hbb1 : 1 ≤ bb ∧ bb ≤ 30 := by omega
  have hwp : IntKind.i64.wrap dp = dp := IntWalk.i64_in _ (by omega)
  have hwb : IntKind.i64.wrap db = db := IntWalk.i64_in _ (by omega)
  have hwk : IntKind.i64.wrap (db.tmod 30 + 1) = bb := by rw [hbb]; exact IntWalk.i64_in _ (by omega)
  clear hL et1 et2 hbb
  go_enter Try.func6, Try.ntmps6
  have HP0 : Hid (Pd (w.alloc (.cells #[.int .u16 dp, .int .u8 db] 32)) A n c L) := Lib.hid ⟨HL.out.len, HL.out.rd.alloc _, HL.out.ok⟩
  have HB0 := Lib.hid (below_al w (.cells #[.int .u16 dp, .int .u8 db] 32))
  have HQ0 := Lib.hid (blk11 w (.cells #[.int .u16 dp, .int .u8 db] 32))
  go_upto_region 1 with (fail)
  generalize w.alloc (.cells #[.int .u16 dp, .int .u8 db] 32) = W0 at *
  obtain ⟨pb, HPB⟩ : ∃ pb, Hid (w.heap.size = pb) := ⟨_, rfl⟩
  rw [HPB.out] at HQ0 ⊢
  have hq0 := (Array.getElem?_eq_some_iff.1 HQ0.out).1
  go_upto_region 2 with (go_at_call 12; refine (HMD.out _ HP0.out).mono ?_; rintro e w1 ⟨⟨A2, c2, D, t, rfl, hM, hD⟩, hB⟩; obtain ⟨a0, a1, a2, a3, a4, a5, a6, a7, ht8⟩ := len8 hM.len; have HT8 := Lib.hid ht8; rw [show bigV t = .agg #[.int .i64 a0, .int .i64 a1, .int .i64 a2, .int .i64 a3, .int .i64 a4, .int .i64 a5, .int .i64 a6, .int .i64 a7] from by rw [ht8]; rfl]; have HF := Lib.hid (laid_file HB0.out hB (t := t) (o := (.cells #[.int .i64 a0, .int .i64 a1, .int .i64 a2, .int .i64 a3, .int .i64 a4, .int .i64 a5, .int .i64 a6, .int .i64 a7] 36)) (by rw [ht8]; rfl)); have HM := Lib.hid hM; have HD := Lib.hid (hD.below (below_al w1 (.cells #[.int .i64 a0, .int .i64 a1, .int .i64 a2, .int .i64 a3, .int .i64 a4, .int .i64 a5, .int .i64 a6, .int .i64 a7] 36))); have HQ1 := Lib.hid (blk_below HQ0.out (HF.out.2.2) hq0); clear hM hD hB ht8)
  have HX1 := Lib.hid HF.out.1
  have HB1 := Lib.hid HF.out.2.1
  clear HF HB0 HQ0 HP0 hq0 HMD
  generalize w1.alloc (.cells #[.int .i64 a0, .int .i64 a1, .int .i64 a2, .int .i64 a3, .int .i64 a4, .int .i64 a5, .int .i64 a6, .int .i64 a7] 36) = W1 at *
  obtain ⟨fb, HFB⟩ : ∃ fb, Hid (w1.heap.size = fb) := ⟨_, rfl⟩
  rw [HFB.out] at HX1 ⊢
  have HS : At (fun w' : World => w'.cell? ⟨pb, 0, none⟩ = some (.int .u16 dp) ∧ w'.cell? ⟨pb, 1, none⟩ = some (.int .u8 db)) W1.drew := ⟨by show W1.cell? _ = _; rw [blk_cell HQ1.out]; rfl, by show W1.cell? _ = _; rw [blk_cell HQ1.out]; rfl⟩
  have HDd := Lib.hid (HD.out.below (Sel.below_drewN W1 1))
  change Hid (Bp W1.drew _ _ _ _) at HDd
  have hx1 : W1.drew.heap[fb]? = some (.cells #[.int .i64 a0, .int .i64 a1, .int .i64 a2, .int .i64 a3, .int .i64 a4, .int .i64 a5, .int .i64 a6, .int .i64 a7] 36 (0, 0)) := by have := HX1.out; unfold boxB at this; rw [HT8.out] at this; exact this
  have HV1 := Lib.hid hx1
  have HBd : Hid (Below w.heap.size w W1.drew) := Lib.hid HB1.out.drew
  clear hx1 HD HX1 HB1 HQ1
  refine wp_region_lexD HS [0, 1, 2, 3, 4, 5, 6, 7, 8, 9, 10] (by kernel_rfl) (by kernel_rfl) (fun _ _ d _ _ h => by cases d <;> exact h) ?_
  refine lexD_take (by kernel_rfl) (by kernel_rfl) HS (fun w9 h9 => by obtain ⟨s0, s1⟩ := h9; go_simp; first | done | rfl) (fun K hK => ?_); go_simp; refine hK _ ?_; clear hK K
  refine lexD_take (by kernel_rfl) (by kernel_rfl) HS (fun w9 h9 => by obtain ⟨s0, s1⟩ := h9; go_simp; first | done | rfl) (fun K hK => ?_); go_simp; refine hK _ ?_; clear hK K
  refine lexD_take (by kernel_rfl) (by kernel_rfl) HS (fun w9 h9 => by obtain ⟨s0, s1⟩ := h9; go_simp; first | done | rfl) (fun K hK => ?_); go_simp; refine hK _ ?_; clear hK K
  refine lexD_take (by kernel_rfl) (by kernel_rfl) HS (fun w9 h9 => by obtain ⟨s0, s1⟩ := h9; go_simp; first | done | rfl) (fun K hK => ?_); go_simp; refine hK _ ?_; clear hK K
  refine lexD_take (by kernel_rfl) (by kernel_rfl) HS (fun w9 h9 => by obtain ⟨s0, s1⟩ := h9; go_simp; first | done | rfl) (fun K hK => ?_); go_simp; refine hK _ ?_; clear hK K
  refine lexD_take (by kernel_rfl) (by kernel_rfl) HS (fun w9 h9 => by obtain ⟨s0, s1⟩ := h9; go_simp; first | done | rfl) (fun K hK => ?_); go_simp; refine hK _ ?_; clear hK K
  refine lexD_take (by kernel_rfl) (by kernel_rfl) HS (fun w9 h9 => by obtain ⟨s0, s1⟩ := h9; go_simp; first | done | rfl) (fun K hK => ?_); go_simp; refine hK _ ?_; clear hK K
  refine lexD_take (by kernel_rfl) (by kernel_rfl) HS (fun w9 h9 => by obtain ⟨s0, s1⟩ := h9; go_simp; first | done | rfl) (fun K hK => ?_); go_simp; refine hK _ ?_; clear hK K
  refine lexD_take (by kernel_rfl) (by kernel_rfl) HS (fun w9 h9 => by obtain ⟨s0, s1⟩ := h9; go_simp; first | done | rfl) (fun K hK => ?_); go_simp; refine hK _ ?_; clear hK K
  refine lexD_take (by kernel_rfl) (by kernel_rfl) HS (fun w9 h9 => by obtain ⟨s0, s1⟩ := h9; go_simp; first | done | rfl) (fun K hK => ?_); go_simp; refine hK _ ?_; clear hK K
  refine lexD_take (by kernel_rfl) (by kernel_rfl) HS (fun w9 h9 => by obtain ⟨s0, s1⟩ := h9; go_simp; first | done | rfl) (fun K hK => ?_); go_simp; refine hK _ ?_; clear hK K
  refine lexD_nil ?_
  clear HS
  generalize W1.drew = W2 at *
  have hdn := HM.out.dl
  have htl := HM.out.len
  have hr31 := rg31 hk1 hbb1
  have hbv : bigV t = .agg #[.int .i64 a0, .int .i64 a1, .int .i64 a2, .int .i64 a3, .int .i64 a4, .int .i64 a5, .int .i64 a6, .int .i64 a7] := by rw [HT8.out]; rfl
  have HFR : Hid (Rd (W2.alloc (.cells #[.int .i64 31, .int .i64 32] 3)) (some ⟨W2.heap.size, 0, none⟩) 2 2 [.int .i64 31, .int .i64 32]) := Lib.hid (sl_rd W2 [31, 32] 3 (by simp))
  have HDa := Lib.hid (HDd.out.below (below_al W2 (.cells #[.int .i64 31, .int .i64 32] 3)))
  have HBa := Lib.hid (HBd.out.alloc HBd.out.size (.cells #[.int .i64 31, .int .i64 32] 3))
  have HVa := Lib.hid (blk_below HV1.out (below_al W2 (.cells #[.int .i64 31, .int .i64 32] 3)) (Array.getElem?_eq_some_iff.1 HV1.out).1)
  obtain ⟨d0, d1, d2, d3, d4, d5, d6, d7⟩ := big8 HV1.out
  by_cases hE : errL D t k bb [31, 32] = 0
  · have hok := ok_of_err hr31 hE
    have hok' : OkPut D t D.length k bb [31, 32] := by rw [hdn]; exact hok
    have hlen2 := planL_len D t k bb [31, 32]
    have hpr := planL_right HM.out.rt htl hok' (by simp)
    have hap := applyL_plan HM.out.rt htl hok' (by simp)
    have HEND : Hid (blocksL (planL D t k bb [31, 32]) (doneL (planL D t k bb [31, 32]).length) D = (putL D t k bb [31, 32]).1) := Lib.hid (by rw [blocks_done HM.out.rt.1 hpr (fun x hx => (hap.2 x hx).2) (Nat.le_refl _)]; exact hap.1)
    have HMID : Hid (∀ i, i < (planL D t k bb [31, 32]).length → 0 < i ∨ (planL D t k bb [31, 32]).length = 1 → Rt (blocksL (planL D t k bb [31, 32]) (doneL i) D) t ∧ plL (blocksL (planL D t k bb [31, 32]) (doneL i) D) t = plL D t ∧ blL (blocksL (planL D t k bb [31, 32]) (doneL i) D) t = blL D t) := Lib.hid (fun i hi hi2 => by
      rw [blocks_done HM.out.rt.1 hpr (fun x hx => (hap.2 x hx).2) (by omega)]
      obtain ⟨h1, h2⟩ := plan_mid HM.out.rt htl hok' (by simp) i hi hi2
      exact ⟨h1, plN_congr h2⟩)
    have HPA := Lib.hid (fun (Af : Option Addr) (W : World) (h1 : Bp W A2 60 c2 D) (h2 : Rd W Af 2 2 (iv .i64 [31, 32])) => Patches_any A2 60 c2 D t k bb Af 2 2 [31, 32] (by simp) htl W h1 HM.out.rt h2 rfl hok)
    have HPT := Lib.hid (fun (Af : Option Addr) (W : World) (h1 : Bp W A2 60 c2 D) (h2 : Rd W Af 2 2 (iv .i64 [31, 32])) => Put_any A2 60 c2 D t k bb Af 2 2 [31, 32] (by simp) htl W h1 HM.out.rt h2 rfl hok)
    have HALL := Lib.hid (fun (A3 : Option Addr) (c3 : Nat) (E : List (List Int)) (hE : Rt E t) W (h : Bp W A3 60 c3 E) => All_ok A3 60 c3 E t htl W h hE)
    have hPL := (putL_len D t k bb [31, 32]).2.1.trans htl
    have HBLL := Lib.hid (blL_len D t)
    clear hpr hap hok hok' hE
    generalize (putL D t k bb [31, 32]).1 = D2 at *
    generalize (putL D t k bb [31, 32]).2.1 = t2 at *
    generalize (putL D t k bb [31, 32]).2.2 = us at *
    generalize planL D t k bb [31, 32] = P at *
    generalize hpm : P.length = m at *
    have HPM := Lib.hid hpm
    obtain ⟨z0, z1, z2, z3, z4, z5, z6, z7, ht2⟩ := len8 hPL
    have HT2 := Lib.hid ht2
    have hbv2 : bigV t2 = .agg #[.int .i64 z0, .int .i64 z1, .int .i64 z2, .int .i64 z3, .int .i64 z4, .int .i64 z5, .int .i64 z6, .int .i64 z7] := by rw [ht2]; rfl
    rw [hbv] at HPA HPT HALL
    rw [hbv2] at HPT
    simp only [iv, List.map_cons, List.map_nil] at HPA HPT
    clear ht2 htl hdn hr31 hPL hbv hbv2 hpm
    go_upto_region 3 with (fail)
    go_upto_region 4 with (go_at_call 21; refine (HPA.out _ _ HDa.out HFR.out).mono ?_; rintro e w3 ⟨⟨Ai, ci, rfl, hip⟩, hB⟩; have HI3 := Lib.hid hip; have HD3 := Lib.hid (HDa.out.below hB); have HV3 := Lib.hid (blk_below HVa.out hB (Array.getElem?_eq_some_iff.1 HVa.out).1); have HB3 := Lib.hid (below_then HBa.out hB); clear hip hB)
    clear d0 d1 d2 d3 d4 d5 d6 d7 HFR HDa HBa HVa HPA HDd HBd HV1
    obtain ⟨W3, hW3⟩ : ∃ W3, W3 = w3 := ⟨_, rfl⟩
    subst hW3
    have HFR : Hid (Rd (W3.alloc (.cells #[.int .i64 31, .int .i64 32] 3)) (some ⟨W3.heap.size, 0, none⟩) 2 2 [.int .i64 31, .int .i64 32]) := Lib.hid (sl_rd W3 [31, 32] 3 (by simp))
    have HDa := Lib.hid (HD3.out.below (below_al W3 (.cells #[.int .i64 31, .int .i64 32] 3)))
    have HIa := Lib.hid (HI3.out.below (below_al W3 (.cells #[.int .i64 31, .int .i64 32] 3)))
    have HBa := Lib.hid (HB3.out.alloc HB3.out.size (.cells #[.int .i64 31, .int .i64 32] 3))
    have HVa := Lib.hid (blk_below HV3.out (below_al W3 (.cells #[.int .i64 31, .int .i64 32] 3)) (Array.getElem?_eq_some_iff.1 HV3.out).1)
    obtain ⟨d0, d1, d2, d3, d4, d5, d6, d7⟩ := big8 HV3.out
    go_upto_region 5 with (go_at_call 13; refine (HPT.out _ _ HDa.out HFR.out).mono ?_; rintro e w4 ⟨⟨Ao, co, rfl, hwb⟩, hB⟩; have HF := Lib.hid (laid_file HBa.out hB (t := t2) (o := (.cells #[.int .i64 z0, .int .i64 z1, .int .i64 z2, .int .i64 z3, .int .i64 z4, .int .i64 z5, .int .i64 z6, .int .i64 z7] 36)) (by rw [HT2.out]; rfl)); have HW4 := Lib.hid (hwb.bp.below (below_al w4 (.cells #[.int .i64 z0, .int .i64 z1, .int .i64 z2, .int .i64 z3, .int .i64 z4, .int .i64 z5, .int .i64 z6, .int .i64 z7] 36))); have HI4 := Lib.hid (HIa.out.below HF.out.2.2); have HD4 := Lib.hid (HDa.out.below HF.out.2.2); have HV4 := Lib.hid (blk_below HVa.out HF.out.2.2 (Array.getElem?_eq_some_iff.1 HVa.out).1); clear hwb hB)
    have HB4 := Lib.hid HF.out.2.1
    clear HF HFR HDa HIa HBa HVa HPT HI3 HD3 HV3 HB3 d0 d1 d2 d3 d4 d5 d6 d7
    generalize w4.alloc (.cells #[.int .i64 z0, .int .i64 z1, .int .i64 z2, .int .i64 z3, .int .i64 z4, .int .i64 z5, .int .i64 z6, .int .i64 z7] 36) = W4 at *
    generalize w4.heap.size = gb at *
    obtain ⟨d0, d1, d2, d3, d4, d5, d6, d7⟩ := big8 HV4.out
    go_upto_region 8 with (go_at_call 22; refine (HALL.out _ _ _ HM.out.rt _ HD4.out).mono ?_; rintro e w5 ⟨⟨A3, c3, A4, c4, rfl, h3, h4⟩, hB⟩; have HR3 := Lib.hid h3; have HR4 := Lib.hid h4; have HW5 := Lib.hid (HW4.out.below hB); have HI5 := Lib.hid (HI4.out.below hB); have HD5 := Lib.hid (HD4.out.below hB); have HV5 := Lib.hid (blk_below HV4.out hB (Array.getElem?_eq_some_iff.1 HV4.out).1); have HB5 := Lib.hid (below_then HB4.out hB); clear h3 h4 hB)
    clear d0 d1 d2 d3 d4 d5 d6 d7 HW4 HI4 HD4 HV4 HB4
    obtain ⟨W5, hW5⟩ : ∃ W5, W5 = w5 := ⟨_, rfl⟩
    subst hW5
    have hi1 := HI5.out.le
    have hi2 := HI5.out.cap
    have hq3 := HR3.out.le
    have hq3c := HR3.out.cap
    have hq4 := HR4.out.le
    have hq4c := HR4.out.cap
    have HWH := Lib.hid HM.out.rt.1
    clear hk hwp hwb hwk hok0 hok1 hok2 hok3
    generalize db.tmod 30 = dm at *
    go_wp2
    go_loopw [18, 19, 20, 21, 22, 23] (fun v18 v19 _ _ _ _ wr => ∃ (i c8 : Nat) (A8 : Option Addr), i ≤ m ∧ v19 = .int .i64 i ∧ v18 = .slice A8 i c8 ∧ Hid (wr.ownsRow W5.heap.size 3 1 (.slice A8 i c8) i (iv .i64 (doneL i))) ∧ Hid (Below W5.heap.size W5 wr)) (fun _ v _ _ _ _ _ => m - (Go.RowKit.intOf v).toNat)
    case atStart => exact ⟨0, 0, none, by omega, rfl, rfl, World.ownsRow_nil _ _ _ _, Below.refl _ _⟩
    case round =>
      obtain ⟨i, c8, A8, hi, rfl, rfl, HO, HB⟩ := hrel
      have hsr := HB.out.size
      have HDN : Hid (iv .i64 (doneL (i + 1)) = iv .i64 (doneL i) ++ [.int .i64 (i : Int)]) := Lib.hid (by rw [doneL_succ]; simp [iv])
      obtain ⟨A8', c8', e8, _, hr8⟩ := rd_ownN (by omega) HO.out
      cases e8
      have HR8 := Lib.hid hr8
      have h8a := hr8.le
      have h8b := hr8.cap
      clear hr8
      by_cases hlt : i < m
      · by_cases hc1 : 0 < i
        · have hcI : (0 : Int) < (i : Int) := by omega
          obtain ⟨hm1, hm2, hm3⟩ := HMID.out i hlt (.inl hc1)
          have HRY := Lib.hid hm1
          have HPY := Lib.hid hm2
          have HBY := Lib.hid hm3
          clear hm1 hm2 hm3
          have HIw := Lib.hid (HI5.out.below HB.out)
          have HDw := Lib.hid (HD5.out.below HB.out)
          go_upto_region 14 with (go_at_call 23; refine (rBlocks_any Ai m ci P A8 i c8 (doneL i) A2 60 c2 D _ HIw.out HR8.out (doneL_len i) HDw.out ⟨HWH.out, by omega⟩).mono ?_; rintro e w6 ⟨⟨A9, c9, rfl, hw⟩, hB⟩; have HY6 := Lib.hid hw.bp; have HO6 := Lib.hid (own_below HO.out hB (Nat.le_refl _)); have HB6 := Lib.hid (HB.out.trans (hB.mono hsr)); have hs6 := HB6.out.size; clear hw hB)
          generalize blocksL P (doneL i) D = Y at *
          have HV6 := Lib.hid (blk_below HV5.out HB6.out (Array.getElem?_eq_some_iff.1 HV5.out).1)
          obtain ⟨d0, d1, d2, d3, d4, d5, d6, d7⟩ := big8 HV6.out
          go_upto_region 15 with (go_at_call 22; refine (HALL.out _ _ _ HRY.out _ HY6.out).mono ?_; rw [HPY.out, HBY.out]; rintro e w7 ⟨⟨A10, c10, A11, c11, rfl, h3, h4⟩, hB⟩; have HC7 := Lib.hid h3; have HE7 := Lib.hid h4; have HO7 := Lib.hid (own_below HO6.out hB (Nat.le_refl _)); have HB7 := Lib.hid (HB6.out.trans (hB.mono hs6)); have hs7 := HB7.out.size; clear h3 h4 hB)
          clear d0 d1 d2 d3 d4 d5 d6 d7
          have HS1 := Lib.hid (same_self A10 A3 _ c10 c3 (plL D t) w7 HC7.out (HR3.out.below HB7.out) rfl)
          have HS2 : Hid (∀ W, Below w7.heap.size w7 W → Calls Try.prog 11 #[.slice A11 (plL D t).length c11, .slice A4 (plL D t).length c4] W fun e w' => e = .returned (.bool true) ∧ Below W.heap.size W w') := Lib.hid (fun W hW => same_self A11 A4 _ c11 c4 (blL D t) W (HE7.out.below hW) ((HR4.out.below HB7.out).below hW) HBLL.out)
          clear HC7 HE7
          go_upto_region 17 with (first
            | (go_at_call 11; (with_reducible refine HS1.out.mono ?_); rintro e w8 ⟨rfl, hB⟩; have HB78 := Lib.hid hB; have HO8 := Lib.hid (own_below HO7.out hB (Nat.le_refl _)); have HB8 := Lib.hid (HB7.out.trans (hB.mono hs7)); have hs8 := HB8.out.size; clear hB)
            | (go_at_call 11; (with_reducible refine (HS2.out _ HB78.out).mono ?_); rintro e w9 ⟨rfl, hB⟩; have HO9 := Lib.hid (own_below HO8.out hB (Nat.le_refl _)); have HB9 := Lib.hid (HB8.out.trans (hB.mono hs8)); have hs9 := HB9.out.size; clear hB))
          go_wp2_with (at_builtin; refine wpList_push w9 rfl _ _ 23 3 rfl W5.heap.size (.int .i64 0) 8 Try.underlying23 infoInt8 rfl (by omega) (.slice A8 i c8) i _ (.int .i64 (i : Int)) rfl rfl rfl HO9.out (by omega) (by omega) rfl ?_; intro gN cap w10 ho hg hat hlt1; have HON := Lib.hid ho; have HBN := Lib.hid (below_grown HB9.out hg hs9 (own_row HO9.out)); clear ho hg hat)
          rw [← HDN.out] at HON
          go_roundw
          case rel => exact ⟨i + 1, cap, some ⟨gN, 0, none⟩, by omega, by go_num, rfl, HON, HBN⟩
          case measure => simp [Go.RowKit.intOf] <;> omega
        · have hcI : ¬ (0 : Int) < (i : Int) := by omega
          have hcD : decide ((0 : Int) < (i : Int)) = false := decide_eq_false hcI
          by_cases hc2 : m = 1
          · have hmI : ((m : Int) == 1) = true := by rw [hc2]; rfl
            obtain ⟨hm1, hm2, hm3⟩ := HMID.out i hlt (.inr hc2)
            have HRY := Lib.hid hm1
            have HPY := Lib.hid hm2
            have HBY := Lib.hid hm3
            clear hm1 hm2 hm3 hc2
            have HIw := Lib.hid (HI5.out.below HB.out)
            have HDw := Lib.hid (HD5.out.below HB.out)
            go_upto_region 14 with (go_at_call 23; refine (rBlocks_any Ai m ci P A8 i c8 (doneL i) A2 60 c2 D _ HIw.out HR8.out (doneL_len i) HDw.out ⟨HWH.out, by omega⟩).mono ?_; rintro e w6 ⟨⟨A9, c9, rfl, hw⟩, hB⟩; have HY6 := Lib.hid hw.bp; have HO6 := Lib.hid (own_below HO.out hB (Nat.le_refl _)); have HB6 := Lib.hid (HB.out.trans (hB.mono hsr)); have hs6 := HB6.out.size; clear hw hB)
            generalize blocksL P (doneL i) D = Y at *
            have HV6 := Lib.hid (blk_below HV5.out HB6.out (Array.getElem?_eq_some_iff.1 HV5.out).1)
            obtain ⟨d0, d1, d2, d3, d4, d5, d6, d7⟩ := big8 HV6.out
            go_upto_region 15 with (go_at_call 22; refine (HALL.out _ _ _ HRY.out _ HY6.out).mono ?_; rw [HPY.out, HBY.out]; rintro e w7 ⟨⟨A10, c10, A11, c11, rfl, h3, h4⟩, hB⟩; have HC7 := Lib.hid h3; have HE7 := Lib.hid h4; have HO7 := Lib.hid (own_below HO6.out hB (Nat.le_refl _)); have HB7 := Lib.hid (HB6.out.trans (hB.mono hs6)); have hs7 := HB7.out.size; clear h3 h4 hB)
            clear d0 d1 d2 d3 d4 d5 d6 d7
            have HS1 := Lib.hid (same_self A10 A3 _ c10 c3 (plL D t) w7 HC7.out (HR3.out.below HB7.out) rfl)
            have HS2 : Hid (∀ W, Below w7.heap.size w7 W → Calls Try.prog 11 #[.slice A11 (plL D t).length c11, .slice A4 (plL D t).length c4] W fun e w' => e = .returned (.bool true) ∧ Below W.heap.size W w') := Lib.hid (fun W hW => same_self A11 A4 _ c11 c4 (blL D t) W (HE7.out.below hW) ((HR4.out.below HB7.out).below hW) HBLL.out)
            clear HC7 HE7
            go_upto_region 17 with (first
              | (go_at_call 11; (with_reducible refine HS1.out.mono ?_); rintro e w8 ⟨rfl, hB⟩; have HB78 := Lib.hid hB; have HO8 := Lib.hid (own_below HO7.out hB (Nat.le_refl _)); have HB8 := Lib.hid (HB7.out.trans (hB.mono hs7)); have hs8 := HB8.out.size; clear hB)
              | (go_at_call 11; (with_reducible refine (HS2.out _ HB78.out).mono ?_); rintro e w9 ⟨rfl, hB⟩; have HO9 := Lib.hid (own_below HO8.out hB (Nat.le_refl _)); have HB9 := Lib.hid (HB8.out.trans (hB.mono hs8)); have hs9 := HB9.out.size; clear hB))
            go_wp2_with (at_builtin; refine wpList_push w9 rfl _ _ 23 3 rfl W5.heap.size (.int .i64 0) 8 Try.underlying23 infoInt8 rfl (by omega) (.slice A8 i c8) i _ (.int .i64 (i : Int)) rfl rfl rfl HO9.out (by omega) (by omega) rfl ?_; intro gN cap w10 ho hg hat hlt1; have HON := Lib.hid ho; have HBN := Lib.hid (below_grown HB9.out hg hs9 (own_row HO9.out)); clear ho hg hat)
            rw [← HDN.out] at HON
            go_roundw
            case rel => exact ⟨i + 1, cap, some ⟨gN, 0, none⟩, by omega, by go_num, rfl, HON, HBN⟩
            case measure => simp [Go.RowKit.intOf] <;> omega
          · have hmI : ((m : Int) == 1) = false := by
              have h : (m : Int) ≠ 1 := by omega
              simpa using h
            go_wp2_with (at_builtin; refine wpList_push wr rfl _ _ 23 3 rfl W5.heap.size (.int .i64 0) 8 Try.underlying23 infoInt8 rfl (by omega) (.slice A8 i c8) i _ (.int .i64 (i : Int)) rfl rfl rfl HO.out (by omega) (by omega) rfl ?_; intro g cap w9 ho hg hat hlt1; have HO9 := Lib.hid ho; have HB9 := Lib.hid (below_grown HB.out hg hsr (own_row HO.out)); clear ho hg hat)
            rw [← HDN.out] at HO9
            go_roundw
            case rel => exact ⟨i + 1, cap, some ⟨g, 0, none⟩, by omega, by go_num, rfl, HO9, HB9⟩
            case measure => simp [Go.RowKit.intOf] <;> omega
      · have hie : i = m := by omega
        have HEN2 : Hid (blocksL P (doneL i) D = D2) := Lib.hid (by rw [hie]; exact HEND.out)
        have HI9 := Lib.hid (HI5.out.below HB.out)
        have HD9 := Lib.hid (HD5.out.below HB.out)
        have HW9 := Lib.hid (HW5.out.below HB.out)
        have HBw := Lib.hid (below_then HB5.out HB.out)
        have HBK : Hid (∀ W, Ip W Ai m ci P → Rd W A8 i c8 (iv .i64 (doneL i)) → Bp W A2 60 c2 D → Calls Try.prog 23 #[.slice Ai m ci, .slice A8 i c8, .slice A2 60 c2] W fun e w' => (∃ A9 c9, e = .returned (.slice A9 60 c9) ∧ Bp w' A9 60 c9 D2) ∧ Below W.heap.size W w') := Lib.hid (fun W h1 h2 h3 => (rBlocks_any Ai m ci P A8 i c8 (doneL i) A2 60 c2 D W h1 h2 (doneL_len i) h3 ⟨HWH.out, Nat.zero_lt_succ 59⟩).mono (by
          rintro e w' ⟨⟨A9, c9, rfl, hw⟩, hB⟩
          have := hw.bp
          rw [HEN2.out] at this
          exact ⟨⟨A9, c9, rfl, this⟩, hB⟩))
        have HSB : Hid (∀ A9 c9 W, Bp W A9 60 c9 D2 → Bp W Ao 60 co D2 → Calls Try.prog 24 #[.slice A9 60 c9, .slice Ao 60 co] W fun e w' => e = .returned (.bool true) ∧ Below W.heap.size W w') := Lib.hid (fun A9 c9 W h1 h2 => same_blocks_self A9 Ao 60 c9 co D2 W h1 h2)
        clear HMID HALL HO HDN HEN2 HEND hie
        go_wp2_with (first
          | (go_at_call 10; (with_reducible refine (live_any _).mono ?_); rintro e w6 ⟨rfl, hB⟩; have HI6 := Lib.hid (HI9.out.below hB); have HD6 := Lib.hid (HD9.out.below hB); have HW6 := Lib.hid (HW9.out.below hB); have HR6 := Lib.hid (HR8.out.below hB); have HB6 := Lib.hid (below_then HBw.out hB); clear hB)
          | (go_at_call 23; (with_reducible refine (HBK.out _ HI6.out HR6.out HD6.out).mono ?_); rintro e w7 ⟨⟨A9, c9, rfl, hw⟩, hB⟩; have HY7 := Lib.hid hw; have HW7 := Lib.hid (HW6.out.below hB); have HB7 := Lib.hid (below_then HB6.out hB); clear hw hB)
          | (go_at_call 24; (with_reducible refine (HSB.out _ _ _ HY7.out HW7.out).mono ?_); rintro e w8 ⟨rfl, hB⟩; have HB8 := Lib.hid (below_then HB7.out hB); clear hB))
        go_ret
        exact ⟨rfl, HB8.out⟩
  · have HPE := Lib.hid (fun (Af : Option Addr) (W : World) (h1 : Bp W A2 60 c2 D) (h2 : Rd W Af 2 2 (iv .i64 [31, 32])) => Patches_fail A2 60 c2 D t k bb Af 2 2 [31, 32] htl W h1 HM.out.rt h2 rfl hr31 hE)
    have HERR := Lib.hid (fun (Af : Option Addr) (W : World) (h1 : Bp W A2 60 c2 D) (h2 : Rd W Af 2 2 (iv .i64 [31, 32])) => Put_fail A2 60 c2 D t k bb Af 2 2 [31, 32] htl W h1 HM.out.rt h2 rfl hr31 hE)
    rw [hbv] at HPE HERR
    simp only [iv, List.map_cons, List.map_nil] at HPE HERR
    generalize errL D t k bb [31, 32] = er at *
    have hz8 : bigV zB = .agg #[.int .i64 0, .int .i64 0, .int .i64 0, .int .i64 0, .int .i64 0, .int .i64 0, .int .i64 0, .int .i64 0] := rfl
    rw [hz8] at HERR
    clear hbv htl hdn hr31 hz8
    have hbe : (er != 0) = true := by simpa using hE
    go_upto_region 3 with (fail)
    go_upto_region 4 with (go_at_call 21; refine (HPE.out _ _ HDa.out HFR.out).mono ?_; rintro e w3 ⟨rfl, hB⟩; have HD3 := Lib.hid (HDa.out.below hB); have HV3 := Lib.hid (blk_below HVa.out hB (Array.getElem?_eq_some_iff.1 HVa.out).1); have HB3 := Lib.hid (below_then HBa.out hB); clear hB)
    clear d0 d1 d2 d3 d4 d5 d6 d7 HFR HDa HBa HVa HPE HDd HBd HV1
    obtain ⟨W3, hW3⟩ : ∃ W3, W3 = w3 := ⟨_, rfl⟩
    subst hW3
    have HFR : Hid (Rd (W3.alloc (.cells #[.int .i64 31, .int .i64 32] 3)) (some ⟨W3.heap.size, 0, none⟩) 2 2 [.int .i64 31, .int .i64 32]) := Lib.hid (sl_rd W3 [31, 32] 3 (by simp))
    have HDa := Lib.hid (HD3.out.below (below_al W3 (.cells #[.int .i64 31, .int .i64 32] 3)))
    have HBa := Lib.hid (HB3.out.alloc HB3.out.size (.cells #[.int .i64 31, .int .i64 32] 3))
    obtain ⟨d0, d1, d2, d3, d4, d5, d6, d7⟩ := big8 HV3.out
    go_upto_region 5 with (go_at_call 13; refine (HERR.out _ _ HDa.out HFR.out).mono ?_; rintro e w2 ⟨rfl, hB⟩; have HB2 := Lib.hid (below_alloc_then HBa.out hB (.cells #[.int .i64 0, .int .i64 0, .int .i64 0, .int .i64 0, .int .i64 0, .int .i64 0, .int .i64 0, .int .i64 0] 36)); clear hB)
    generalize w2.alloc (.cells #[.int .i64 0, .int .i64 0, .int .i64 0, .int .i64 0, .int .i64 0, .int .i64 0, .int .i64 0, .int .i64 0] 36) = W9 at *
    go_wp2_with (go_at_call 10; refine (live_any _).mono ?_; rintro e w6 ⟨rfl, hB⟩; have HB6 := Lib.hid (below_then HB2.out hB); clear hB)
    go_ret
    exact ⟨rfl, HB6.out⟩
end Go.Proofs.Ytcgfoaihfncppaa
