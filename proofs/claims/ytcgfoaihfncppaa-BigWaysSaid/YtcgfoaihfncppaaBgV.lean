/- Big files, plainly: Put. No program in sight. -/
import Derived.Test.YtcgfoaihfncppaaBgU
set_option linter.unusedSimpArgs false
set_option linter.unusedVariables false
namespace Go.Sel.Bg
open Go.RowKit Go.Sel

theorem at2_zr {D : List (List Int)} {f : Int} (hf : f.toNat < D.length) (i : Nat) : at2 (D.set f.toNat zrow) f i = 0 := by
  rw [at2_set _ _ _ _ _ hf, if_pos rfl, zrow, List.getD_eq_getElem?_getD, List.getElem?_replicate]
  split <;> rfl
theorem Rt_zr {D : List (List Int)} {t : List Int} {f : Int} (h : Rt D t) (hf : f.toNat < D.length) (h0 : 0 < f) (hn : notIn D t f) : Rt (D.set f.toNat zrow) t ∧ ∀ p, p < 1096 → val (D.set f.toNat zrow) t p = val D t p := by
  have hv : ∀ p, p < 1096 → val (D.set f.toNat zrow) t p = val D t p := val_far hf fun p hp _ hne e => by
    have := h.2.1 p hp
    exact hn p hp (by omega)
  refine ⟨⟨whole_set h.1 fun _ => by simp [zrow], ?_⟩, hv⟩
  rw [okU_iff, List.length_set]
  exact okV.congr h.2 hv
theorem Rt_setT {D : List (List Int)} {t : List Int} {q : Nat} {x : Int} (h : Rt D t) (ht : t.length = 8) (hq : q < 8) (hq0 : tp t q = 0) (h0 : 0 < x) (hx : x < D.length) (hn : notIn D t x) (hz : inP q → ∀ i, i < 32 → at2 D x i = 0) :
    Rt D (t.set q x) ∧ ∀ p, p < 1096 → val D (t.set q x) p = upd (val D t) q x p := by
  have hv := val_setT ht hq hq0 hz
  exact ⟨⟨h.1, okV.congr (okV.upd h.2 h0 hx hn) hv⟩, hv⟩
theorem Rt_setD {D : List (List Int)} {t : List Int} {q : Nat} {x : Int} (h : Rt D t) (hq : 8 ≤ q) (hq' : q < 1096) (hp0 : val D t (par q) ≠ 0) (h0 : 0 < x) (hx : x < D.length) (hn : notIn D t x) (hz : inP q → val D t q = 0 ∧ ∀ i, i < 32 → at2 D x i = 0) :
    Rt (setD D t q x) t ∧ ∀ p, p < 1096 → val (setD D t q x) t p = upd (val D t) q x p := by
  have hv := val_setD h hq hq' hp0 fun hi => ⟨(hz hi).1, fun e => hn (par q) (by have := par_lt hq hq'; omega) e.symm, by omega, (hz hi).2⟩
  refine ⟨⟨whole_setD h.1 _ _ _, ?_⟩, hv⟩
  rw [okU_iff, setD_len]
  exact okV.congr (okV.upd h.2 h0 hx hn) hv

def f0 (F : List Int) : Int := F.getD 0 0
def f1 (F : List Int) : Int := F.getD 1 0
/-- The place of the pointer to the leaf. -/
def lf (k : Nat) : Nat := 40 + 33 * ((k - 38) / 32)
/-- Put: the image, the eight numbers, how many free ones were needed. -/
def putL (D : List (List Int)) (t : List Int) (k : Nat) (b : Int) (F : List Int) : List (List Int) × List Int × Nat :=
  if k < 6 then (D, t.set k b, 0)
  else if k < 38 then (if tp t 6 = 0 then (setD (D.set (f0 F).toNat zrow) (t.set 6 (f0 F)) (posK k) b, t.set 6 (f0 F), 1) else (setD D t (posK k) b, t, 0))
  else if tp t 7 = 0 then (setD (setD ((D.set (f0 F).toNat zrow).set (f1 F).toNat zrow) (t.set 7 (f0 F)) (lf k) (f1 F)) (t.set 7 (f0 F)) (posK k) b, t.set 7 (f0 F), 2)
  else if val D t (lf k) = 0 then (setD (setD (D.set (f0 F).toNat zrow) t (lf k) (f0 F)) t (posK k) b, t, 1)
  else (setD D t (posK k) b, t, 0)
/-- The pointers behind it. -/
def putV (D : List (List Int)) (t : List Int) (k : Nat) (b : Int) (F : List Int) : Nat → Int :=
  if k < 6 then upd (val D t) (posK k) b
  else if k < 38 then (if tp t 6 = 0 then upd (upd (val D t) 6 (f0 F)) (posK k) b else upd (val D t) (posK k) b)
  else if tp t 7 = 0 then upd (upd (upd (val D t) 7 (f0 F)) (lf k) (f1 F)) (posK k) b
  else if val D t (lf k) = 0 then upd (upd (val D t) (lf k) (f0 F)) (posK k) b
  else upd (val D t) (posK k) b
theorem posK_mid {k : Nat} (h6 : ¬ k < 6) (h : k < 38) : posK k = k + 2 ∧ par (posK k) = 6 ∧ slot (posK k) = k - 6 := by
  have e : posK k = k + 2 := by simp [posK, h6, h]
  refine ⟨e, ?_, ?_⟩
  · rw [e]; unfold par; rw [if_pos (by omega)]
  · rw [e]; unfold slot; rw [if_pos (by omega)]; omega
theorem posK_hi {k : Nat} (h : ¬ k < 38) : posK k = lf k + 1 + (k - 38) % 32 ∧ par (posK k) = lf k ∧ slot (posK k) = (k - 38) % 32 ∧ ¬ inP (posK k) := by
  have e : posK k = 40 + 33 * ((k - 38) / 32) + 1 + (k - 38) % 32 := by unfold posK; rw [if_neg (by omega), if_neg h]
  refine ⟨e, ?_, ?_, ?_⟩
  · rw [e]; unfold par lf; rw [if_neg (by omega), if_neg (by omega)]; omega
  · rw [e]; unfold slot; rw [if_neg (by omega), if_neg (by omega)]; omega
  · rw [e]; unfold inP; omega
theorem lf_at {k : Nat} (h : k < 1062) : 8 ≤ lf k ∧ lf k < 1096 ∧ par (lf k) = 7 ∧ slot (lf k) = (k - 38) / 32 ∧ inP (lf k) := by
  unfold lf
  refine ⟨by omega, by omega, ?_, ?_, ?_⟩
  · unfold par; rw [if_neg (by omega), if_pos (by omega)]
  · unfold slot; rw [if_neg (by omega), if_pos (by omega)]; omega
  · unfold inP; omega
theorem notIn_upd {D D' : List (List Int)} {t t' : List Int} {q : Nat} {y x : Int} (hv : ∀ p, p < 1096 → val D' t' p = upd (val D t) q y p) (h : notIn D t x) (hne : x ≠ y) : notIn D' t' x := fun p hp => by
  rw [hv p hp]
  unfold Bg.upd
  split
  · exact fun e => hne e.symm
  · exact h p hp
theorem notIn_same {D D' : List (List Int)} {t t' : List Int} {x : Int} (hv : ∀ p, p < 1096 → val D' t' p = val D t p) (h : notIn D t x) : notIn D' t' x := fun p hp => by rw [hv p hp]; exact h p hp

theorem put_right {D : List (List Int)} {t : List Int} {k : Nat} {b : Int} {F : List Int} (hR : Rt D t) (ht : t.length = 8) (hO : OkPut D t D.length k b F) (hF : 2 ≤ F.length) :
    Rt (putL D t k b F).1 (putL D t k b F).2.1 ∧ ∀ p, p < 1096 → val (putL D t k b F).1 (putL D t k b F).2.1 p = putV D t k b F p := by
  have hk := hO.hk
  have m0 : f0 F ∈ F := by unfold f0; rw [List.getD_eq_getElem?_getD, List.getElem?_eq_getElem (by omega)]; exact List.getElem_mem _
  have m1 : f1 F ∈ F := by unfold f1; rw [List.getD_eq_getElem?_getD, List.getElem?_eq_getElem (by omega)]; exact List.getElem_mem _
  have n01 : f1 F ≠ f0 F := by
    unfold f0 f1
    rw [List.getD_eq_getElem?_getD, List.getD_eq_getElem?_getD, List.getElem?_eq_getElem (show 0 < F.length by omega), List.getElem?_eq_getElem (show 1 < F.length by omega)]
    have := List.pairwise_iff_getElem.1 hO.nd 0 1 (by omega) (by omega) (by omega)
    simpa using fun e => this e.symm
  have nb0 : b ≠ f0 F := fun e => hO.bF (e ▸ m0)
  have nb1 : b ≠ f1 F := fun e => hO.bF (e ▸ m1)
  have g0 := hO.f _ m0
  have g1 := hO.f _ m1
  have z0 := hO.nf _ m0
  have z1 := hO.nf _ m1
  have gb := hO.b0
  have gb' := hO.b1
  have hav : val D t (posK k) = 0 := hO.at_
  unfold putL putV
  by_cases h6 : k < 6
  · have e : posK k = k := by simp [posK, h6]
    rw [if_pos h6, if_pos h6, e]
    rw [e, val_top _ _ (by omega)] at hav
    exact Rt_setT hR ht (by omega) hav gb gb' hO.nb (fun hi => by unfold inP at hi; omega)
  · rw [if_neg h6, if_neg h6]
    by_cases h38 : k < 38
    · obtain ⟨e, ep, es⟩ := posK_mid h6 h38
      have hni : ¬ inP (posK k) := by unfold inP; omega
      rw [if_pos h38, if_pos h38]
      by_cases ht6 : tp t 6 = 0
      · rw [if_pos ht6, if_pos ht6]
        obtain ⟨r1, v1⟩ := Rt_zr hR (f := f0 F) (by omega) g0.1 z0
        obtain ⟨r2, v2⟩ := Rt_setT r1 ht (q := 6) (x := f0 F) (by omega) ht6 g0.1 (by rw [List.length_set]; exact g0.2) (notIn_same v1 z0) (fun _ i _ => at2_zr (by omega) i)
        have nb2 : notIn (D.set (f0 F).toNat zrow) (t.set 6 (f0 F)) b := notIn_upd v2 (notIn_same v1 hO.nb) nb0
        obtain ⟨r3, v3⟩ := Rt_setD r2 (q := posK k) (x := b) (by omega) (by omega) (by rw [ep, v2 6 (by omega)]; unfold Bg.upd; rw [if_pos rfl]; omega) gb (by rw [List.length_set]; exact gb') nb2 (fun hi => absurd hi hni)
        refine ⟨r3, fun p hp => ?_⟩
        rw [v3 p hp]
        unfold Bg.upd
        split
        · rfl
        · rw [v2 p hp]; unfold Bg.upd
          split
          · rfl
          · exact v1 p hp
      · rw [if_neg ht6, if_neg ht6]
        exact Rt_setD hR (by omega) (by omega) (by rw [ep, val_top _ _ (by omega)]; exact ht6) gb gb' hO.nb (fun hi => absurd hi hni)
    · obtain ⟨e, ep, es, hni⟩ := posK_hi h38
      obtain ⟨l8, ll, lp, ls, li⟩ := lf_at hk
      have hpl := posK_lt hk
      rw [if_neg h38, if_neg h38]
      by_cases ht7 : tp t 7 = 0
      · rw [if_pos ht7, if_pos ht7]
        obtain ⟨r1, v1⟩ := Rt_zr hR (f := f0 F) (by omega) g0.1 z0
        obtain ⟨r1', v1'⟩ := Rt_zr r1 (f := f1 F) (by rw [List.length_set]; omega) g1.1 (notIn_same v1 z1)
        have zz0 : ∀ i, at2 ((D.set (f0 F).toNat zrow).set (f1 F).toNat zrow) (f0 F) i = 0 := fun i => by
          rw [at2_set _ _ _ _ _ (by rw [List.length_set]; omega), if_neg (by omega)]; exact at2_zr (by omega) i
        have vv : ∀ p, p < 1096 → val ((D.set (f0 F).toNat zrow).set (f1 F).toNat zrow) t p = val D t p := fun p hp => (v1' p hp).trans (v1 p hp)
        obtain ⟨r2, v2⟩ := Rt_setT r1' ht (q := 7) (x := f0 F) (by omega) ht7 g0.1 (by simpa using g0.2) (notIn_same vv z0) (fun _ i _ => zz0 i)
        have z1' := notIn_upd v2 (notIn_same vv z1) n01
        have hl0 : val D t (lf k) = 0 := by rw [val_par _ _ l8 ll, lp, val_top _ _ (by omega), ht7]; rfl
        obtain ⟨r3, v3⟩ := Rt_setD r2 (q := lf k) (x := f1 F) l8 ll (by rw [lp, v2 7 (by omega)]; unfold Bg.upd; rw [if_pos rfl]; omega) g1.1 (by simpa using g1.2) z1' (fun _ => ⟨by rw [v2 _ ll]; unfold Bg.upd; rw [if_neg (by omega), vv _ ll, hl0], fun i _ => at2_zr (by rw [List.length_set]; omega) i⟩)
        have nb3 := notIn_upd v3 (notIn_upd v2 (notIn_same vv hO.nb) nb0) nb1
        obtain ⟨r4, v4⟩ := Rt_setD r3 (q := posK k) (x := b) (by omega) hpl (by rw [ep, v3 _ ll]; unfold Bg.upd; rw [if_pos rfl]; omega) gb (by simpa [setD_len] using gb') nb3 (fun hi => absurd hi hni)
        refine ⟨r4, fun p hp => ?_⟩
        rw [v4 p hp]
        unfold Bg.upd
        split
        · rfl
        · rw [v3 p hp]; unfold Bg.upd
          split
          · rfl
          · rw [v2 p hp]; unfold Bg.upd
            split
            · rfl
            · exact vv p hp
      · rw [if_neg ht7, if_neg ht7]
        by_cases hl : val D t (lf k) = 0
        · rw [if_pos hl, if_pos hl]
          obtain ⟨r1, v1⟩ := Rt_zr hR (f := f0 F) (by omega) g0.1 z0
          obtain ⟨r3, v3⟩ := Rt_setD r1 (q := lf k) (x := f0 F) l8 ll (by rw [lp, v1 7 (by omega), val_top _ _ (by omega)]; exact ht7) g0.1 (by simpa using g0.2) (notIn_same v1 z0) (fun _ => ⟨by rw [v1 _ ll, hl], fun i _ => at2_zr (by omega) i⟩)
          have nb3 := notIn_upd v3 (notIn_same v1 hO.nb) nb0
          obtain ⟨r4, v4⟩ := Rt_setD r3 (q := posK k) (x := b) (by omega) hpl (by rw [ep, v3 _ ll]; unfold Bg.upd; rw [if_pos rfl]; omega) gb (by simpa [setD_len] using gb') nb3 (fun hi => absurd hi hni)
          refine ⟨r4, fun p hp => ?_⟩
          rw [v4 p hp]
          unfold Bg.upd
          split
          · rfl
          · rw [v3 p hp]; unfold Bg.upd
            split
            · rfl
            · exact v1 p hp
        · rw [if_neg hl, if_neg hl]
          exact Rt_setD hR (by omega) hpl (by rw [ep]; exact hl) gb gb' hO.nb (fun hi => absurd hi hni)
theorem leaf_val {D : List (List Int)} {t : List Int} {k : Nat} (hR : Rt D t) (hk : k < 1062) (h7 : tp t 7 ≠ 0) :
    ∃ an : Nat, tp t 7 = an ∧ 0 < an ∧ an < D.length ∧ (Gra.nth D an).length = 32 ∧ val D t (lf k) = (Gra.nth D an).getD ((k - 38) / 32) 0 := by
  have h := hR.2.1 7 (by omega)
  rw [val_top _ _ (by omega)] at h
  obtain ⟨l8, ll, lp, ls, li⟩ := lf_at hk
  refine ⟨(tp t 7).toNat, by omega, by omega, by omega, ?_, ?_⟩
  · have hlt : (tp t 7).toNat < D.length := by omega
    have : Gra.nth D (tp t 7).toNat = D[(tp t 7).toNat] := by simp [Gra.nth, hlt]
    rw [this]
    exact hR.1.2 _ (List.getElem_mem hlt)
  · rw [val_par _ _ l8 ll, lp, ls, val_top _ _ (by omega), if_neg h7]
    rfl
theorem putL_len (D : List (List Int)) (t : List Int) (k : Nat) (b : Int) (F : List Int) : (putL D t k b F).1.length = D.length ∧ (putL D t k b F).2.1.length = t.length ∧ (putL D t k b F).2.2 ≤ 2 := by
  unfold putL
  (repeat' split) <;> simp [setD_len]
theorem putV_at {D : List (List Int)} {t : List Int} {k : Nat} {b : Int} {F : List Int} (hk : k < 1062) {l : Nat} (hl : l < 1062) : putV D t k b F (posK l) = if l = k then b else atK D t l := by
  have hne : ∀ q, inP q → posK l ≠ q := fun q hq e => by
    subst e
    unfold inP posK at hq
    split at hq
    · omega
    · split at hq <;> omega
  have h6 : posK l ≠ 6 := hne 6 (.inl rfl)
  have h7 : posK l ≠ 7 := hne 7 (.inr (.inl rfl))
  have hf : posK l ≠ lf k := hne _ (lf_at hk).2.2.2.2
  have hkk : posK l = posK k ↔ l = k := ⟨posK_inj hl hk, fun e => by rw [e]⟩
  unfold putV Bg.upd atK
  (repeat' split) <;> simp_all
end Go.Sel.Bg
