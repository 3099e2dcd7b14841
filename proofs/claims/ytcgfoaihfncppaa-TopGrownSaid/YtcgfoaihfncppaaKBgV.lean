/- Big files, plainly: Put. No program in sight. -/
import Derived.Test.YtcgfoaihfncppaaKBgO
import Derived.Test.YtcgfoaihfncppaaKBgQ
import Derived.Test.YtcgfoaihfncppaaKSel7
set_option linter.unusedSimpArgs false
set_option linter.unusedVariables false
namespace Go.Sel.Bg
open Go.RowKit Go.Sel

theorem at2_zr {D : List (List Int)} {f : Int} (hf : f.toNat < D.length) (i : Nat) : at2 (D.set f.toNat zrow) f i = 0 := by
  rw [at2_set _ _ _ _ _ hf, if_pos rfl, zrow, List.getD_eq_getElem?_getD, List.getElem?_replicate]
  split <;> rfl
theorem Rt_zr {D : List (List Int)} {t : List Int} {f : Int} (h : Rt D t) (hf : f.toNat < D.length) (h0 : 0 < f) (hn : notIn D t f) : Rt (D.set f.toNat zrow) t ∧ ∀ p, p < 1096 → val (D.set f.toNat zrow) t p = val D t p := by
  have hv : ∀ p, p < 1096 → val (D.set f.toNat zrow) t p = val D t p := val_far hf fun p hp _ hne e => by
    have := h.2.1 p hp
    exact hn p hp (by omega)
  refine ⟨⟨whole_set h.1 fun _ => by simp [zrow], ?_⟩, hv⟩
  rw [okU_iff, List.length_set]
  exact okV.congr h.2 hv
theorem Rt_setT {D : List (List Int)} {t : List Int} {q : Nat} {x : Int} (h : Rt D t) (ht : t.length = 8) (hq : q < 8) (hq0 : tp t q = 0) (h0 : 0 < x) (hx : x < D.length) (hn : notIn D t x) (hz : inP q → ∀ i, i < 32 → at2 D x i = 0) :
    Rt D (t.set q x) ∧ ∀ p, p < 1096 → val D (t.set q x) p = upd (val D t) q x p := by
  have hv := val_setT ht hq hq0 hz
  exact ⟨⟨h.1, okV.congr (okV.upd h.2 h0 hx hn) hv⟩, hv⟩
theorem Rt_setD {D : List (List Int)} {t : List Int} {q : Nat} {x : Int} (h : Rt D t) (hq : 8 ≤ q) (hq' : q < 1096) (hp0 : val D t (par q) ≠ 0) (h0 : 0 < x) (hx : x < D.length) (hn : notIn D t x) (hz : inP q → val D t q = 0 ∧ ∀ i, i < 32 → at2 D x i = 0) :
    Rt (setD D t q x) t ∧ ∀ p, p < 1096 → val (setD D t q x) t p = upd (val D t) q x p := by
  have hv := val_setD h hq hq' hp0 fun hi => ⟨(hz hi).1, fun e => hn (par q) (by have := par_lt hq hq'; omega) e.symm, by omega, (hz hi).2⟩
  refine ⟨⟨whole_setD h.1 _ _ _, ?_⟩, hv⟩
  rw [okU_iff, setD_len]
  exact okV.congr (okV.upd h.2 h0 hx hn) hv

def f0 (F : List Int) : Int := F.getD 0 0
def f1 (F : List Int) : Int := F.getD 1 0
/-- The place of the pointer to the leaf. -/
def lf (k : Nat) : Nat := 40 + 33 * ((k - 38) / 32)
/-- Put: the image, the eight numbers, how many free ones were needed. -/
def putL (D : List (List Int)) (t : List Int) (k : Nat) (b : Int) (F : List Int) : List (List Int) × List Int × Nat :=
  if k < 6 then (D, t.set k b, 0)
  else if k < 38 then (if tp t 6 = 0 then (setD (D.set (f0 F).toNat zrow) (t.set 6 (f0 F)) (posK k) b, t.set 6 (f0 F), 1) else (setD D t (posK k) b, t, 0))
  else if tp t 7 = 0 then (setD (setD ((D.set (f0 F).toNat zrow).set (f1 F).toNat zrow) (t.set 7 (f0 F)) (lf k) (f1 F)) (t.set 7 (f0 F)) (posK k) b, t.set 7 (f0 F), 2)
  else if val D t (lf k) = 0 then (setD (setD (D.set (f0 F).toNat zrow) t (lf k) (f0 F)) t (posK k) b, t, 1)
  else (setD D t (posK k) b, t, 0)
/-- The pointers behind it. -/
def putV (D : List (List Int)) (t : List Int) (k : Nat) (b : Int) (F : List Int) : Nat → Int :=
  if k < 6 then upd (val D t) (posK k) b
  else if k < 38 then (if tp t 6 = 0 then upd (upd (val D t) 6 (f0 F)) (posK k) b else upd (val D t) (posK k) b)
  else if tp t 7 = 0 then upd (upd (upd (val D t) 7 (f0 F)) (lf k) (f1 F)) (posK k) b
  else if val D t (lf k) = 0 then upd (upd (val D t) (lf k) (f0 F)) (posK k) b
  else upd (val D t) (posK k) b
theorem posK_mid {k : Nat} (h6 : ¬ k < 6) (h : k < 38) : posK k = k + 2 ∧ par (posK k) = 6 ∧ slot (posK k) = k - 6 := by
  have e : posK k = k + 2 := by simp [posK, h6, h]
  refine ⟨e, ?_, ?_⟩
  · rw [e]; unfold par; rw [if_pos (by omega)]
  · rw [e]; unfold slot; rw [if_pos (by omega)]; omega
theorem posK_hi {k : Nat} (h : ¬ k < 38) : posK k = lf k + 1 + (k - 38) % 32 ∧ par (posK k) = lf k ∧ slot (posK k) = (k - 38) % 32 ∧ ¬ inP (posK k) := by
  have e : posK k = 40 + 33 * ((k - 38) / 32) + 1 + (k - 38) % 32 := by unfold posK; rw [if_neg (by omega), if_neg h]
  refine ⟨e, ?_, ?_, ?_⟩
  · rw [e]; unfold par lf; rw [if_neg (by omega), if_neg (by omega)]; omega
  · rw [e]; unfold slot; rw [if_neg (by omega), if_neg (by omega)]; omega
  · rw [e]; unfold inP; omega
theorem lf_at {k : Nat} (h : k < 1062) : 8 ≤ lf k ∧ lf k < 1096 ∧ par (lf k) = 7 ∧ slot (lf k) = (k - 38) / 32 ∧ inP (lf k) := by
  unfold lf
  refine ⟨by omega, by omega, ?_, ?_, ?_⟩
  · unfold par; rw [if_neg (by omega), if_pos (by omega)]
  · unfold slot; rw [if_neg (by omega), if_pos (by omega)]; omega
  · unfold inP; omega
theorem notIn_upd {D D' : List (List Int)} {t t' : List Int} {q : Nat} {y x : Int} (hv : ∀ p, p < 1096 → val D' t' p = upd (val D t) q y p) (h : notIn D t x) (hne : x ≠ y) : notIn D' t' x := fun p hp => by
  rw [hv p hp]
  unfold Bg.upd
  split
  · exact fun e => hne e.symm
  · exact h p hp
theorem notIn_same {D D' : List (List Int)} {t t' : List Int} {x : Int} (hv : ∀ p, p < 1096 → val D' t' p = val D t p) (h : notIn D t x) : notIn D' t' x := fun p hp => by rw [hv p hp]; exact h p hp

theorem put_right {D : List (List Int)} {t : List Int} {k : Nat} {b : Int} {F : List Int} (hR : Rt D t) (ht : t.length = 8) (hO : OkPut D t D.length k b F) (hF : 2 ≤ F.length) :
    Rt (putL D t k b F).1 (putL D t k b F).2.1 ∧ ∀ p, p < 1096 → val (putL D t k b F).1 (putL D t k b F).2.1 p = putV D t k b F p := by
  have hk := hO.hk
  have m0 : f0 F ∈ F := by unfold f0; rw [List.getD_eq_getElem?_getD, List.getElem?_eq_getElem (by omega)]; exact List.getElem_mem _
  have m1 : f1 F ∈ F := by unfold f1; rw [List.getD_eq_getElem?_getD, List.getElem?_eq_getElem (by omega)]; exact List.getElem_mem _
  have n01 : f1 F ≠ f0 F := by
    unfold f0 f1
    rw [List.getD_eq_getElem?_getD, List.getD_eq_getElem?_getD, List.getElem?_eq_getElem (show 0 < F.length by omega), List.getElem?_eq_getElem (show 1 < F.length by omega)]
    have := List.pairwise_iff_getElem.1 hO.nd 0 1 (by omega) (by omega) (by omega)
    simpa using fun e => this e.symm
  have nb0 : b ≠ f0 F := fun e => hO.bF (e ▸ m0)
  have nb1 : b ≠ f1 F := fun e => hO.bF (e ▸ m1)
  have g0 := hO.f _ m0
  have g1 := hO.f _ m1
  have z0 := hO.nf _ m0
  have z1 := hO.nf _ m1
  have gb := hO.b0
  have gb' := hO.b1
  have hav : val D t (posK k) = 0 := hO.at_
  unfold putL putV
  by_cases h6 : k < 6
  · have e : posK k = k := by simp [posK, h6]
    rw [if_pos h6, if_pos h6, e]
    rw [e, val_top _ _ (by omega)] at hav
    exact Rt_setT hR ht (by omega) hav gb gb' hO.nb (fun hi => by unfold inP at hi; omega)
  · rw [if_neg h6, if_neg h6]
    by_cases h38 : k < 38
    · obtain ⟨e, ep, es⟩ := posK_mid h6 h38
      have hni : ¬ inP (posK k) := by unfold inP; omega
      rw [if_pos h38, if_pos h38]
      by_cases ht6 : tp t 6 = 0
      · rw [if_pos ht6, if_pos ht6]
        obtain ⟨r1, v1⟩ := Rt_zr hR (f := f0 F) (by omega) g0.1 z0
        obtain ⟨r2, v2⟩ := Rt_setT r1 ht (q := 6) (x := f0 F) (by omega) ht6 g0.1 (by rw [List.length_set]; exact g0.2) (notIn_same v1 z0) (fun _ i _ => at2_zr (by omega) i)
        have nb2 : notIn (D.set (f0 F).toNat zrow) (t.set 6 (f0 F)) b := notIn_upd v2 (notIn_same v1 hO.nb) nb0
        obtain ⟨r3, v3⟩ := Rt_setD r2 (q := posK k) (x := b) (by omega) (by omega) (by rw [ep, v2 6 (by omega)]; unfold Bg.upd; rw [if_pos rfl]; omega) gb (by rw [List.length_set]; exact gb') nb2 (fun hi => absurd hi hni)
        refine ⟨r3, fun p hp => ?_⟩
        rw [v3 p hp]
        unfold Bg.upd
        split
        · rfl
        · rw [v2 p hp]; unfold Bg.upd
          split
          · rfl
          · exact v1 p hp
      · rw [if_neg ht6, if_neg ht6]
        exact Rt_setD hR (by omega) (by omega) (by rw [ep, val_top _ _ (by omega)]; exact ht6) gb gb' hO.nb (fun hi => absurd hi hni)
    · obtain ⟨e, ep, es, hni⟩ := posK_hi h38
      obtain ⟨l8, ll, lp, ls, li⟩ := lf_at hk
      have hpl := posK_lt hk
      rw [if_neg h38, if_neg h38]
      by_cases ht7 : tp t 7 = 0
      · rw [if_pos ht7, if_pos ht7]
        obtain ⟨r1, v1⟩ := Rt_zr hR (f := f0 F) (by omega) g0.1 z0
        obtain ⟨r1', v1'⟩ := Rt_zr r1 (f := f1 F) (by rw [List.length_set]; omega) g1.1 (notIn_same v1 z1)
        have zz0 : ∀ i, at2 ((D.set (f0 F).toNat zrow).set (f1 F).toNat zrow) (f0 F) i = 0 := fun i => by
          rw [at2_set _ _ _ _ _ (by rw [List.length_set]; omega), if_neg (by omega)]; exact at2_zr (by omega) i
        have vv : ∀ p, p < 1096 → val ((D.set (f0 F).toNat zrow).set (f1 F).toNat zrow) t p = val D t p := fun p hp => (v1' p hp).trans (v1 p hp)
        obtain ⟨r2, v2⟩ := Rt_setT r1' ht (q := 7) (x := f0 F) (by omega) ht7 g0.1 (by simpa using g0.2) (notIn_same vv z0) (fun _ i _ => zz0 i)
        have z1' := notIn_upd v2 (notIn_same vv z1) n01
        have hl0 : val D t (lf k) = 0 := by rw [val_par _ _ l8 ll, lp, val_top _ _ (by omega), ht7]; rfl
        obtain ⟨r3, v3⟩ := Rt_setD r2 (q := lf k) (x := f1 F) l8 ll (by rw [lp, v2 7 (by omega)]; unfold Bg.upd; rw [if_pos rfl]; omega) g1.1 (by simpa using g1.2) z1' (fun _ => ⟨by rw [v2 _ ll]; unfold Bg.upd; rw [if_neg (by omega), vv _ ll, hl0], fun i _ => at2_zr (by rw [List.length_set]; omega) i⟩)
        have nb3 := notIn_upd v3 (notIn_upd v2 (notIn_same vv hO.nb) nb0) nb1
        obtain ⟨r4, v4⟩ := Rt_setD r3 (q := posK k) (x := b) (by omega) hpl (by rw [ep, v3 _ ll]; unfold Bg.upd; rw [if_pos rfl]; omega) gb (by simpa [setD_len] using gb') nb3 (fun hi => absurd hi hni)
        refine ⟨r4, fun p hp => ?_⟩
        rw [v4 p hp]
        unfold Bg.upd
        split
        · rfl
        · rw [v3 p hp]; unfold Bg.upd
          split
          · rfl
          · rw [v2 p hp]; unfold Bg.upd
            split
            · rfl
            · exact vv p hp
      · rw [if_neg ht7, if_neg ht7]
        by_cases hl : val D t (lf k) = 0
        · rw [if_pos hl, if_pos hl]
          obtain ⟨r1, v1⟩ := Rt_zr hR (f := f0 F) (by omega) g0.1 z0
          obtain ⟨r3, v3⟩ := Rt_setD r1 (q := lf k) (x := f0 F) l8 ll (by rw [lp, v1 7 (by omega), val_top _ _ (by omega)]; exact ht7) g0.1 (by simpa using g0.2) (notIn_same v1 z0) (fun _ => ⟨by rw [v1 _ ll, hl], fun i _ => at2_zr (by omega) i⟩)
          have nb3 := notIn_upd v3 (notIn_same v1 hO.nb) nb0
          obtain ⟨r4, v4⟩ := Rt_setD r3 (q := posK k) (x := b) (by omega) hpl (by rw [ep, v3 _ ll]; unfold Bg.upd; rw [if_pos rfl]; omega) gb (by simpa [setD_len] using gb') nb3 (fun hi => absurd hi hni)
          refine ⟨r4, fun p hp => ?_⟩
          rw [v4 p hp]
          unfold Bg.upd
          split
          · rfl
          · rw [v3 p hp]; unfold Bg.upd
            split
            · rfl
            · exact v1 p hp
        · rw [if_neg hl, if_neg hl]
          exact Rt_setD hR (by omega) hpl (by rw [ep]; exact hl) gb gb' hO.nb (fun hi => absurd hi hni)
theorem leaf_val {D : List (List Int)} {t : List Int} {k : Nat} (hR : Rt D t) (hk : k < 1062) (h7 : tp t 7 ≠ 0) :
    ∃ an : Nat, tp t 7 = an ∧ 0 < an ∧ an < D.length ∧ (Gra.nth D an).length = 32 ∧ val D t (lf k) = (Gra.nth D an).getD ((k - 38) / 32) 0 := by
  have h := hR.2.1 7 (by omega)
  rw [val_top _ _ (by omega)] at h
  obtain ⟨l8, ll, lp, ls, li⟩ := lf_at hk
  refine ⟨(tp t 7).toNat, by omega, by omega, by omega, ?_, ?_⟩
  · have hlt : (tp t 7).toNat < D.length := by omega
    have : Gra.nth D (tp t 7).toNat = D[(tp t 7).toNat] := by simp [Gra.nth, hlt]
    rw [this]
    exact hR.1.2 _ (List.getElem_mem hlt)
  · rw [val_par _ _ l8 ll, lp, ls, val_top _ _ (by omega), if_neg h7]
    rfl
theorem putL_len (D : List (List Int)) (t : List Int) (k : Nat) (b : Int) (F : List Int) : (putL D t k b F).1.length = D.length ∧ (putL D t k b F).2.1.length = t.length ∧ (putL D t k b F).2.2 ≤ 2 := by
  unfold putL
  (repeat' split) <;> simp [setD_len]
theorem putV_at {D : List (List Int)} {t : List Int} {k : Nat} {b : Int} {F : List Int} (hk : k < 1062) {l : Nat} (hl : l < 1062) : putV D t k b F (posK l) = if l = k then b else atK D t l := by
  have hne : ∀ q, inP q → posK l ≠ q := fun q hq e => by
    subst e
    unfold inP posK at hq
    split at hq
    · omega
    · split at hq <;> omega
  have h6 : posK l ≠ 6 := hne 6 (.inl rfl)
  have h7 : posK l ≠ 7 := hne 7 (.inr (.inl rfl))
  have hf : posK l ≠ lf k := hne _ (lf_at hk).2.2.2.2
  have hkk : posK l = posK k ↔ l = k := ⟨posK_inj hl hk, fun e => by rw [e]⟩
  unfold putV Bg.upd atK
  (repeat' split) <;> simp_all
end Go.Sel.Bg
/- Big files, plainly: when Put is refused. No program in sight. -/
set_option linter.unusedSimpArgs false
set_option linter.unusedVariables false
namespace Go.Sel.Bg
open Go.RowKit Go.Sel

structure RgPut (n : Nat) (k : Nat) (b : Int) (F : List Int) : Prop where
  hk : k < 1062
  b0 : 0 < b
  b1 : b < n
  f : ∀ x ∈ F, 0 < x ∧ x < n
/-- A block that is pointed to. -/
def tkB (D : List (List Int)) (t : List Int) (x : Int) : Bool := (List.range 1096).any fun p => decide (val D t p = x)
theorem tkB_iff {D : List (List Int)} {t : List Int} {x : Int} : tkB D t x = true ↔ ∃ p, p < 1096 ∧ val D t p = x := by
  simp [tkB, List.any_eq_true]
theorem tkB_no {D : List (List Int)} {t : List Int} {x : Int} : tkB D t x = false ↔ notIn D t x := by
  rw [Bool.eq_false_iff]
  exact ⟨fun h p hp e => h (tkB_iff.2 ⟨p, hp, e⟩), fun h h2 => by obtain ⟨p, hp, e⟩ := tkB_iff.1 h2; exact h p hp e⟩
/-- The i-th of the free ones may not be used. -/
def badF (D : List (List Int)) (t : List Int) (F : List Int) (i : Nat) : Bool := tkB D t (F.getD i 0) || decide (F.getD i 0 ∈ F.take i)
def errL (D : List (List Int)) (t : List Int) (k : Nat) (b : Int) (F : List Int) : Int :=
  if (tkB D t b || decide (b ∈ F)) = true then 6 else if ((List.range F.length).any (badF D t F)) = true then 6 else if atK D t k ≠ 0 then 12 else 0
theorem errL_vals (D : List (List Int)) (t : List Int) (k : Nat) (b : Int) (F : List Int) : errL D t k b F = 0 ∨ errL D t k b F = 6 ∨ errL D t k b F = 12 := by
  unfold errL
  (repeat' split) <;> simp
theorem nodup_of {F : List Int} (h : ∀ i, i < F.length → F.getD i 0 ∉ F.take i) : F.Nodup := by
  rw [List.nodup_iff_pairwise_ne, List.pairwise_iff_getElem]
  intro i j hi hj hij e
  refine h j hj ?_
  rw [List.getD_eq_getElem?_getD, List.getElem?_eq_getElem hj, Option.getD_some, ← e]
  exact List.mem_iff_getElem.2 ⟨i, by rw [List.length_take]; omega, by rw [List.getElem_take]⟩
theorem ok_of_err {D : List (List Int)} {t : List Int} {n k : Nat} {b : Int} {F : List Int} (h : RgPut n k b F) (he : errL D t k b F = 0) : OkPut D t n k b F := by
  unfold errL at he
  split at he
  · cases he
  · rename_i h1
    split at he
    · cases he
    · rename_i h2
      split at he
      · cases he
      · rename_i h3
        simp only [Bool.or_eq_true, decide_eq_true_eq, not_or, Bool.not_eq_true] at h1
        have h2' : ∀ i, i < F.length → badF D t F i = false := fun i hi => by
          by_cases hb : badF D t F i = true
          · exact absurd (List.any_eq_true.2 ⟨i, List.mem_range.2 hi, hb⟩) h2
          · simpa using hb
        have h4 : ∀ i, i < F.length → notIn D t (F.getD i 0) ∧ F.getD i 0 ∉ F.take i := fun i hi => by
          have := h2' i hi
          simp only [badF, Bool.or_eq_false_iff, decide_eq_false_iff_not] at this
          exact ⟨tkB_no.1 this.1, this.2⟩
        refine ⟨h.hk, h.b0, h.b1, h.f, tkB_no.1 h1.1, h1.2, fun x hx => ?_, nodup_of fun i hi => (h4 i hi).2, by simpa using h3⟩
        obtain ⟨i, hi, rfl⟩ := List.mem_iff_getElem.1 hx
        have := (h4 i hi).1
        rwa [List.getD_eq_getElem?_getD, List.getElem?_eq_getElem hi, Option.getD_some] at this
theorem TkS.mark {D : List (List Int)} {t : List Int} {l : List (Int × Value)} (h : TkS D t 1096 l) {b : Int} (hb : b ≠ 0) : (Sel.look l b).getD (.bool false) = .bool (tkB D t b) := by
  by_cases ht : tkB D t b = true
  · obtain ⟨p, hp, e⟩ := tkB_iff.1 ht
    subst e
    rw [h.1 p hp hb, ht]
    rfl
  · have ht' : tkB D t b = false := by simpa using ht
    rw [h.2 b (fun p hp e => absurd e ((tkB_no.1 ht') p hp)), ht']
    rfl
end Go.Sel.Bg
/- Big files, plainly: the places that have a block, rising; the blocks of pointers. No program in sight. -/
set_option linter.unusedSimpArgs false
set_option linter.unusedVariables false
namespace Go.Sel.Bg
open Go.RowKit Go.Sel

theorem nodup_len : ∀ {xs L : List Int}, xs.Nodup → (∀ x ∈ xs, x ∈ L) → xs.length ≤ L.length
  | [], _, _, _ => by simp
  | x :: t, L, hn, hs => by
    obtain ⟨h1, h2⟩ := List.nodup_cons.1 hn
    have hx := hs x (by simp)
    have := nodup_len (xs := t) (L := L.erase x) h2 fun y hy => (List.mem_erase_of_ne (fun e => h1 (by rw [← e]; exact hy))).2 (hs y (by simp [hy]))
    have hl := List.length_erase_of_mem hx
    have hp := List.length_pos_of_mem hx
    simp only [List.length_cons]
    omega
/-- The places that have a block. -/
def plN (D : List (List Int)) (t : List Int) : List Nat := (List.range 1062).filter fun k => decide (atK D t k ≠ 0)
def plL (D : List (List Int)) (t : List Int) : List Int := (plN D t).map fun k : Nat => (k : Int)
theorem mem_plN {D : List (List Int)} {t : List Int} {k : Nat} : k ∈ plN D t ↔ k < 1062 ∧ atK D t k ≠ 0 := by simp [plN]
theorem mem_plL {D : List (List Int)} {t : List Int} {x : Int} : x ∈ plL D t ↔ ∃ k : Nat, k < 1062 ∧ atK D t k ≠ 0 ∧ x = k := by
  unfold plL
  rw [List.mem_map]
  exact ⟨fun ⟨k, h, e⟩ => ⟨k, (mem_plN.1 h).1, (mem_plN.1 h).2, e.symm⟩, fun ⟨k, h1, h2, e⟩ => ⟨k, mem_plN.2 ⟨h1, h2⟩, e.symm⟩⟩
theorem plN_rises (D : List (List Int)) (t : List Int) : (plN D t).Pairwise (· < ·) := List.Pairwise.filter _ List.pairwise_lt_range
theorem plL_rises (D : List (List Int)) (t : List Int) : (plL D t).Pairwise (· < ·) := by
  unfold plL
  rw [List.pairwise_map]
  exact (plN_rises D t).imp fun h => by omega
theorem plL_nodup (D : List (List Int)) (t : List Int) : (plL D t).Nodup := (plL_rises D t).imp fun h e => by omega
theorem plN_nodup (D : List (List Int)) (t : List Int) : (plN D t).Nodup := (plN_rises D t).imp fun h e => by omega
/-- There are fewer of them than blocks. -/
theorem plL_len {D : List (List Int)} {t : List Int} (hR : Rt D t) : (plL D t).length ≤ 96 := by
  have h1 : ((plN D t).map (atK D t)).Nodup := by
    rw [List.nodup_iff_pairwise_ne, List.pairwise_map]
    have := plN_rises D t
    have hm : ∀ k ∈ plN D t, k < 1062 ∧ atK D t k ≠ 0 := fun k hk => mem_plN.1 hk
    refine List.Pairwise.imp_of_mem ?_ this
    intro a b ha hb hab e
    have := hR.2.2 (posK a) (posK b) (posK_lt (hm a ha).1) (posK_lt (hm b hb).1) e (hm a ha).2
    have := posK_inj (hm a ha).1 (hm b hb).1 this
    omega
  have h2 := nodup_len h1 (L := (List.range 96).map fun k : Nat => (k : Int)) fun x hx => by
    obtain ⟨k, hk, rfl⟩ := List.mem_map.1 hx
    obtain ⟨hk1, hk2⟩ := mem_plN.1 hk
    have hb := hR.2.1 (posK k) (posK_lt hk1)
    have h96 := hR.1.1
    refine List.mem_map.2 ⟨(atK D t k).toNat, List.mem_range.2 ?_, ?_⟩
    · unfold atK; omega
    · unfold atK; omega
  simp only [plL, List.length_map, List.length_range] at h2 ⊢
  exact h2
/-- The keys of the map of places are just these. -/
theorem keys_plL {D : List (List Int)} {t : List Int} {l : List (Int × Value)} (h : PlS D t 1096 l) (hR : Rt D t) : ∀ x, x ∈ l.map (·.1) ↔ x ∈ plL D t := by
  intro x
  rw [mem_plL]
  constructor
  · intro hx
    obtain ⟨p, hp, rfl⟩ := List.mem_map.1 hx
    by_cases hex : ∃ k : Nat, k < 1062 ∧ atK D t k ≠ 0 ∧ p.1 = k
    · exact hex
    · have := h.2 p.1 (fun k hk _ hne e => hex ⟨k, hk, hne, e⟩)
      exact absurd rfl (look_none.1 this p hp)
  · rintro ⟨k, hk, hne, rfl⟩
    have h1 := h.1 k hk (posK_lt hk) hne
    obtain ⟨p, hp, he⟩ := List.any_eq_true.1 (look_some_any h1)
    exact List.mem_map.2 ⟨p, hp, by simpa using he⟩
/-- The blocks, by their places. -/
def blL (D : List (List Int)) (t : List Int) : List Int := (plN D t).map (atK D t)
end Go.Sel.Bg
