/- What a cut leaves, plainly: pointers set to nothing. No program in sight. -/
import Derived.Test.YtcgfoaihfncppaaKBgCl
import Derived.Test.YtcgfoaihfncppaaKBg6
import Derived.Test.YtcgfoaihfncppaaKBgO
import Derived.Test.YtcgfoaihfncppaaKBg5
import Derived.Test.YtcgfoaihfncppaaKBgI
set_option linter.unusedSimpArgs false
set_option linter.unusedVariables false
namespace Go.Sel.Bg
open Go.RowKit Go.Sel Go.Sel.Gra

theorem getD_mem' {α : Type} (z : α) : ∀ (l : List α) (j : Nat), j < l.length → l.getD j z ∈ l
  | [], j, h => by simp at h
  | x :: l, 0, h => by simp
  | x :: l, j + 1, h => by
    have := getD_mem' z l j (by simpa using h)
    simp only [List.getD_cons_succ]
    exact List.mem_cons_of_mem _ this
theorem okV.zero {n m : Nat} {v : Nat → Int} (h : okV n v m) (q : Nat) : okV n (Bg.upd v q 0) m := by
  refine ⟨fun p hp => ?_, fun p r hp hr e hne => ?_⟩
  · unfold Bg.upd
    split
    · exact ⟨by omega, by simp; omega⟩
    · exact h.1 p hp
  · unfold Bg.upd at e hne
    split at hne
    · exact absurd rfl hne
    · rename_i h1
      rw [if_neg h1] at e
      split at e
      · exact absurd e hne
      · exact h.2 p r hp hr e hne
/-- A pointer in a block is set to nothing. -/
theorem val_zeroD {D : List (List Int)} {t : List Int} {q : Nat} (hR : Rt D t) (hq : 8 ≤ q) (hq' : q < 1096) (hp0 : val D t (par q) ≠ 0) (hz : inP q → ∀ p, 8 ≤ p → p < 1096 → par p = q → val D t p = 0) : ∀ p, p < 1096 → val (setD D t q 0) t p = upd (val D t) q 0 p := by
  obtain ⟨hW, hU⟩ := hR
  have hpl := par_lt hq hq'
  have hb := hU.1 (par q) (by omega)
  have hbl : (val D t (par q)).toNat < D.length := by omega
  have hrow : (D.getD (val D t (par q)).toNat []).length = 32 := by
    rw [List.getD_eq_getElem?_getD, List.getElem?_eq_getElem hbl]
    exact hW.2 _ (List.getElem_mem hbl)
  have hsl := slot_lt hq hq'
  intro p
  induction p using Nat.strongRecOn with
  | ind p ih =>
    intro hp
    by_cases h8 : p < 8
    · rw [val_top _ _ h8]
      unfold Bg.upd
      rw [if_neg (by omega), val_top _ _ h8]
    · have h8' : 8 ≤ p := by omega
      have hl := par_lt h8' hp
      rw [val_par _ _ h8' hp, ih _ hl (by omega)]
      by_cases epq : p = q
      · subst epq
        have e1 : upd (val D t) p 0 (par p) = val D t (par p) := by unfold Bg.upd; rw [if_neg (by omega)]
        rw [e1, if_neg hp0]
        unfold setD
        rw [at2_set _ _ _ _ _ hbl, if_pos rfl]
        unfold Bg.upd
        rw [if_pos rfl, List.getD_eq_getElem?_getD, List.getElem?_set, if_pos rfl, if_pos (by omega)]
        rfl
      · by_cases e : par p = q
        · have e1 : upd (val D t) q 0 (par p) = 0 := by unfold Bg.upd; rw [if_pos e]
          rw [e1, if_pos rfl]
          unfold Bg.upd
          rw [if_neg epq]
          exact (hz (e ▸ par_in h8' hp) p h8' hp e).symm
        · conv => rhs; unfold Bg.upd; rw [if_neg epq, val_par _ _ h8' hp]
          have e1 : upd (val D t) q 0 (par p) = val D t (par p) := by unfold Bg.upd; rw [if_neg e]
          rw [e1]
          split
          · rfl
          · rename_i hne
            unfold setD
            rw [at2_set _ _ _ _ _ hbl]
            split
            · rename_i et
              have hbp := hU.1 (par p) (by omega)
              have ev : val D t (par p) = val D t (par q) := by omega
              have epp := hU.2 (par p) (par q) (by omega) (by omega) ev hne
              have hss : slot p ≠ slot q := fun es => epq (par_inj h8' hp hq hq' epp es)
              rw [List.getD_eq_getElem?_getD, List.getElem?_set, if_neg (fun h => hss h.symm), ev]
              unfold at2
              simp only [List.getD_eq_getElem?_getD]
            · rfl
/-- One of a file's own pointers is set to nothing. -/
theorem val_zeroT {D : List (List Int)} {t : List Int} {q : Nat} (ht : t.length = 8) (hq : q < 8) (hz : inP q → ∀ p, 8 ≤ p → p < 1096 → par p = q → val D t p = 0) : ∀ p, p < 1096 → val D (t.set q 0) p = upd (val D t) q 0 p := by
  intro p
  induction p using Nat.strongRecOn with
  | ind p ih =>
    intro hp
    by_cases h8 : p < 8
    · rw [val_top _ _ h8, tp_set]
      unfold Bg.upd
      rw [val_top _ _ h8]
      by_cases e : p = q
      · rw [if_pos ⟨e.symm, by omega⟩, if_pos e]
      · rw [if_neg (fun h => e h.1.symm), if_neg e]
    · have h8' : 8 ≤ p := by omega
      have hl := par_lt h8' hp
      have hpq : p ≠ q := by omega
      rw [val_par _ _ h8' hp, ih _ hl (by omega)]
      by_cases e : par p = q
      · have e1 : upd (val D t) q 0 (par p) = 0 := by unfold Bg.upd; rw [if_pos e]
        rw [e1, if_pos rfl]
        unfold Bg.upd
        rw [if_neg hpq]
        exact (hz (e ▸ par_in h8' hp) p h8' hp e).symm
      · conv => rhs; unfold Bg.upd; rw [if_neg hpq, val_par _ _ h8' hp]
        have e1 : upd (val D t) q 0 (par p) = val D t (par p) := by unfold Bg.upd; rw [if_neg e]
        rw [e1]
/-- A block of pointers is blank: it has none. -/
theorem blank_kids {D : List (List Int)} {t : List Int} {q : Nat} (hne : val D t q ≠ 0) (hb : blankB (nth D (val D t q).toNat) = true) : ∀ p, 8 ≤ p → p < 1096 → par p = q → val D t p = 0 := by
  intro p h8 hp e
  rw [val_par _ _ h8 hp, e, if_neg hne]
  unfold blankB at hb
  rw [List.all_eq_true] at hb
  unfold at2
  rw [List.getD_eq_getElem?_getD]
  cases hx : (D.getD (val D t q).toNat [])[slot p]? with
  | none => rfl
  | some x =>
    have := hb x (by
      have := List.mem_of_getElem? hx
      simpa [nth] using this)
    simpa using this
theorem setD_row {D : List (List Int)} (h : whole D) (b i : Nat) (x : Int) : whole (D.set b ((nth D b).set i x)) := whole_set h fun hf => by
  rw [List.length_set, nth, List.getD_eq_getElem?_getD, List.getElem?_eq_getElem hf]
  exact h.2 _ (List.getElem_mem hf)
theorem rt_zeroD {D : List (List Int)} {t : List Int} {q : Nat} (hR : Rt D t) (hq : 8 ≤ q) (hq' : q < 1096) (hp0 : val D t (par q) ≠ 0) (hz : inP q → ∀ p, 8 ≤ p → p < 1096 → par p = q → val D t p = 0) : Rt (setD D t q 0) t := by
  refine ⟨setD_row hR.1 _ _ _, okU_iff.2 ?_⟩
  rw [setD_len]
  exact ((okU_iff.1 hR.2).zero q).congr (val_zeroD hR hq hq' hp0 hz)
theorem rt_zeroT {D : List (List Int)} {t : List Int} {q : Nat} (hR : Rt D t) (ht : t.length = 8) (hq : q < 8) (hz : inP q → ∀ p, 8 ≤ p → p < 1096 → par p = q → val D t p = 0) : Rt D (t.set q 0) :=
  ⟨hR.1, okU_iff.2 (((okU_iff.1 hR.2).zero q).congr (val_zeroT ht hq hz))⟩
theorem posK_out {p : Nat} (h : p < 1062) : ¬ inP (posK p) := by
  unfold inP
  by_cases h6 : p < 6
  · have : posK p = p := by unfold posK; rw [if_pos h6]
    omega
  · by_cases h38 : p < 38
    · have := (posK_mid h6 h38).1; omega
    · have : posK p = 40 + 33 * ((p - 38) / 32) + 1 + (p - 38) % 32 := by unfold posK; rw [if_neg h6, if_neg h38]
      omega
theorem posK_ge {p : Nat} (h : p < 1062) (h6 : ¬ p < 6) : 8 ≤ posK p := by
  by_cases h38 : p < 38
  · have := (posK_mid h6 h38).1; omega
  · have := (posK_hi h38).1; unfold lf at this; omega
/-- Behind the first loop. -/
theorem cutA_val {D : List (List Int)} {t : List Int} {k : Nat} (hR : Rt D t) (ht : t.length = 8) : ∀ j, j ≤ (plN D t).length → Rt (cutA D t k j).out (cutA D t k j).l ∧ (cutA D t k j).l.length = 8 ∧ ∀ q, q < 1096 → val (cutA D t k j).out (cutA D t k j).l q = if ∃ p ∈ (plN D t).take j, k ≤ p ∧ q = posK p then 0 else val D t q
  | 0, _ => ⟨hR, ht, fun q _ => by
      have e : cutA D t k 0 = ⟨D, t, []⟩ := rfl
      rw [e]
      simp⟩
  | j + 1, h => by
    obtain ⟨hr, hl, hv⟩ := cutA_val (k := k) hR ht j (by omega)
    have hpm := getD_mem' (0 : Nat) (plN D t) j (by omega)
    obtain ⟨hp, hpa⟩ := mem_plN.1 hpm
    rw [cutA_succ (D := D) (t := t) (k := k) (j := j) (by omega), take_getD 0 _ j (by omega)]
    generalize (plN D t).getD j 0 = p at *
    generalize cutA D t k j = s at *
    unfold stepA
    by_cases hpk : p < k
    · rw [if_pos hpk]
      refine ⟨hr, hl, fun q hq => ?_⟩
      rw [hv q hq]
      have : (∃ p', p' ∈ (plN D t).take j ∧ k ≤ p' ∧ q = posK p') ↔ (∃ p', p' ∈ (plN D t).take j ++ [p] ∧ k ≤ p' ∧ q = posK p') := by
        constructor
        · rintro ⟨p', h1, h2⟩
          exact ⟨p', List.mem_append_left _ h1, h2⟩
        · rintro ⟨p', h1, h2⟩
          rcases List.mem_append.1 h1 with h1 | h1
          · exact ⟨p', h1, h2⟩
          · simp at h1; omega
      simp only [this]
    · rw [if_neg hpk]
      simp only
      have hupd : ∀ q, q < 1096 → Bg.upd (val s.out s.l) (posK p) 0 q = if ∃ p' ∈ (plN D t).take j ++ [p], k ≤ p' ∧ q = posK p' then 0 else val D t q := fun q hq => by
        unfold Bg.upd
        by_cases e : q = posK p
        · rw [if_pos e, if_pos ⟨p, by simp, by omega, e⟩]
        · rw [if_neg e, hv q hq]
          have : (∃ p', p' ∈ (plN D t).take j ∧ k ≤ p' ∧ q = posK p') ↔ (∃ p', p' ∈ (plN D t).take j ++ [p] ∧ k ≤ p' ∧ q = posK p') := by
            constructor
            · rintro ⟨p', h1, h2⟩
              exact ⟨p', List.mem_append_left _ h1, h2⟩
            · rintro ⟨p', h1, h2⟩
              rcases List.mem_append.1 h1 with h1 | h1
              · exact ⟨p', h1, h2⟩
              · simp at h1; subst h1; exact absurd h2.2 e
          simp only [this]
      have hno := posK_out hp
      by_cases h6 : p < 6
      · have e1 : posK p = p := by unfold posK; rw [if_pos h6]
        have hz : inP p → ∀ p', 8 ≤ p' → p' < 1096 → par p' = p → val s.out s.l p' = 0 := fun h => absurd h (by rw [e1] at hno; exact hno)
        simp only [clrD, clrT, if_pos h6]
        refine ⟨rt_zeroT hr hl (by omega) hz, by simpa using hl, fun q hq => ?_⟩
        rw [val_zeroT hl (by omega) hz q hq, ← hupd q hq, e1]
      · have h8 := posK_ge hp h6
        have h9 := posK_lt hp
        have hin := par_in h8 h9
        have hpl := par_lt h8 h9
        have epar : val s.out s.l (par (posK p)) = val D t (par (posK p)) := by
          rw [hv _ (by omega), if_neg]
          rintro ⟨p', h1, h2, h3⟩
          have := (mem_plN.1 (List.mem_of_mem_take h1)).1
          exact posK_out this (h3 ▸ hin)
        have hp0 : val s.out s.l (par (posK p)) ≠ 0 := by
          rw [epar]
          intro e
          apply hpa
          rw [atK, val_par _ _ h8 h9, if_pos e]
        have hz : inP (posK p) → ∀ p', 8 ≤ p' → p' < 1096 → par p' = posK p → val s.out s.l p' = 0 := fun h => absurd h hno
        have ed : clrD D t s.out p = setD s.out s.l (posK p) 0 := by
          unfold clrD setD
          rw [if_neg h6, epar]
          rfl
        simp only [clrT, if_neg h6, ed]
        refine ⟨rt_zeroD hr h8 h9 hp0 hz, hl, fun q hq => ?_⟩
        rw [val_zeroD hr h8 h9 hp0 hz q hq, ← hupd q hq]
/-- A block of pointers that has none is blank. -/
theorem kids_blank {D : List (List Int)} {t : List Int} {q : Nat} (hR : Rt D t) (hq : q < 1096) (hin : inP q) (hne : val D t q ≠ 0) (h : ∀ p, 8 ≤ p → p < 1096 → par p = q → val D t p = 0) : blankB (nth D (val D t q).toNat) = true := by
  have hb := hR.2.1 q hq
  have hbl : (val D t q).toNat < D.length := by omega
  have hrow : (nth D (val D t q).toNat).length = 32 := by
    rw [nth, List.getD_eq_getElem?_getD, List.getElem?_eq_getElem hbl]
    exact hR.1.2 _ (List.getElem_mem hbl)
  unfold blankB
  rw [List.all_eq_true]
  intro x hx
  obtain ⟨i, hi, rfl⟩ := List.mem_iff_getElem.1 hx
  have hi' : i < 32 := by omega
  have hkid : ∃ p, 8 ≤ p ∧ p < 1096 ∧ par p = q ∧ slot p = i := by
    unfold inP at hin
    rcases hin with rfl | rfl | ⟨h1, h2⟩
    · exact ⟨8 + i, by omega, by omega, by unfold par; rw [if_pos (by omega)], by unfold slot; rw [if_pos (by omega)]; omega⟩
    · exact ⟨40 + 33 * i, by omega, by omega, by unfold par; rw [if_neg (by omega), if_pos (by omega)], by unfold slot; rw [if_neg (by omega), if_pos (by omega)]; omega⟩
    · exact ⟨q + 1 + i, by omega, by omega, by unfold par; rw [if_neg (by omega), if_neg (by omega)]; omega, by unfold slot; rw [if_neg (by omega), if_neg (by omega)]; omega⟩
  obtain ⟨p, p8, p9, pp, ps⟩ := hkid
  have := h p p8 p9 pp
  rw [val_par _ _ p8 p9, pp, if_neg hne, ps] at this
  unfold at2 at this
  rw [List.getD_eq_getElem?_getD] at this
  have e : (D.getD (val D t q).toNat [])[i]? = some ((nth D (val D t q).toNat)[i]) := by rw [← List.getElem?_eq_getElem hi]; rfl
  rw [e] at this
  simpa using this
theorem in_D (i : Nat) : inP (40 + 33 * i) := .inr (.inr ⟨by omega, by omega⟩)
theorem par_D (i : Nat) : par (40 + 33 * i) = 7 := by unfold par; rw [if_neg (by omega), if_pos (by omega)]
theorem slot_D (i : Nat) : slot (40 + 33 * i) = i := by unfold slot; rw [if_neg (by omega), if_pos (by omega)]; omega
/-- Behind the second loop's i rounds. -/
theorem cutB_val {D : List (List Int)} {s : CutS} (hr : Rt s.out s.l) (hl : s.l.length = 8) (h7 : tp s.l 7 ≠ 0) (hx : ∀ i, i < 32 → (nth D (tp s.l 7).toNat).getD i 0 = val s.out s.l (40 + 33 * i)) : ∀ i, i ≤ 32 → Rt (cutBj D (tp s.l 7) s i).out s.l ∧ (cutBj D (tp s.l 7) s i).l = s.l ∧
    (∀ q, q < 1096 → (¬ inP q ∨ q < 8 ∨ 40 + 33 * i ≤ q) → val (cutBj D (tp s.l 7) s i).out s.l q = val s.out s.l q) ∧
    ((∀ q, q < 1096 → ¬ inP q → val s.out s.l q = 0) → (∀ j, j < i → val (cutBj D (tp s.l 7) s i).out s.l (40 + 33 * j) = 0) ∧ (cutBj D (tp s.l 7) s i).free.length = s.free.length + ((List.range i).filter fun j => decide (val s.out s.l (40 + 33 * j) ≠ 0)).length)
  | 0, _ => ⟨hr, rfl, fun q _ _ => rfl, fun _ => ⟨fun j hj => by omega, by simp [cutBj]⟩⟩
  | i + 1, hi => by
    obtain ⟨h1, h2, h3, h4⟩ := cutB_val hr hl h7 hx i (by omega)
    rw [cutBj_succ]
    have hxi := hx i (by omega)
    have hcur := h3 (40 + 33 * i) (by omega) (.inr (.inr (Nat.le_refl _)))
    generalize cutBj D (tp s.l 7) s i = r at *
    obtain ⟨ro, rl, rf⟩ := r
    simp only at h1 h2 h3 h4 hcur
    subst h2
    unfold stepB
    rw [hxi]
    have hrange : ((List.range (i + 1)).filter fun j => decide (val s.out s.l (40 + 33 * j) ≠ 0)).length = ((List.range i).filter fun j => decide (val s.out s.l (40 + 33 * j) ≠ 0)).length + if val s.out s.l (40 + 33 * i) ≠ 0 then 1 else 0 := by
      rw [List.range_succ, List.filter_append, List.length_append]
      by_cases e : val s.out s.l (40 + 33 * i) = 0 <;> simp [e]
    have hv7 : val ro s.l 7 = tp s.l 7 := val_top _ _ (by omega)
    by_cases hc : val s.out s.l (40 + 33 * i) ≠ 0 ∧ blankB (nth ro (val s.out s.l (40 + 33 * i)).toNat) = true
    · rw [if_pos hc]
      have hne : val ro s.l (40 + 33 * i) ≠ 0 := by rw [hcur]; exact hc.1
      have hkz := blank_kids hne (by rw [hcur]; exact hc.2)
      have ed : ro.set (tp s.l 7).toNat ((nth ro (tp s.l 7).toNat).set i 0) = setD ro s.l (40 + 33 * i) 0 := by
        unfold setD
        rw [par_D, slot_D, hv7]
        rfl
      have hp0 : val ro s.l (par (40 + 33 * i)) ≠ 0 := by rw [par_D, hv7]; exact h7
      have hval := val_zeroD h1 (by omega) (by omega) hp0 (fun _ => hkz)
      simp only [ed]
      refine ⟨rt_zeroD h1 (by omega) (by omega) hp0 (fun _ => hkz), trivial, fun q hq ho => ?_, fun hz => ?_⟩
      · have hqn : q ≠ 40 + 33 * i := fun e => by
          subst e
          rcases ho with ho | ho | ho
          · exact ho (in_D i)
          · omega
          · omega
        rw [hval q hq]
        unfold Bg.upd
        rw [if_neg hqn]
        exact h3 q hq (ho.imp id fun h => h.imp id fun h => by omega)
      · obtain ⟨g1, g2⟩ := h4 hz
        refine ⟨fun j hj => ?_, ?_⟩
        · rw [hval _ (by omega)]
          unfold Bg.upd
          split
          · rfl
          · exact g1 j (by omega)
        · rw [hrange, if_pos hc.1, List.length_append, g2]
          simp only [List.length_cons, List.length_nil]
          omega
    · rw [if_neg hc]
      refine ⟨h1, rfl, fun q hq ho => h3 q hq (ho.imp id fun h => h.imp id fun h => by omega), fun hz => ?_⟩
      obtain ⟨g1, g2⟩ := h4 hz
      have he : val s.out s.l (40 + 33 * i) = 0 := Classical.byContradiction fun hne => hc ⟨hne, by
        rw [← hcur]
        refine kids_blank h1 (by omega) (in_D i) (by rw [hcur]; exact hne) fun p p8 p9 pp => ?_
        have hpn : ¬ inP p := fun h => by
          unfold inP at h
          unfold par at pp
          split at pp
          · omega
          · split at pp <;> omega
        rw [h3 p p9 (.inl hpn), hz p p9 hpn]⟩
      refine ⟨fun j hj => ?_, by rw [hrange, if_neg (fun h => h he), g2]; rfl⟩
      by_cases e : j = i
      · subst e; rw [hcur, he]
      · exact g1 j (by omega)
/-- The file's own pointers to blocks of pointers. -/
theorem stepC_val {s : CutS} {q : Nat} (hq : q = 6 ∨ q = 7) (hr : Rt s.out s.l) (hl : s.l.length = 8) : Rt s.out (stepC s q).l ∧ (stepC s q).out = s.out ∧ (stepC s q).l.length = 8 ∧ (∀ p, p < 1096 → p ≠ q → val s.out (stepC s q).l p = val s.out s.l p) ∧
    ((∀ p, 8 ≤ p → p < 1096 → par p = q → val s.out s.l p = 0) → tp (stepC s q).l q = 0 ∧ (stepC s q).free.length = s.free.length + if tp s.l q ≠ 0 then 1 else 0) := by
  have hv : val s.out s.l q = tp s.l q := val_top _ _ (by omega)
  have hin : inP q := by unfold inP; omega
  unfold stepC
  by_cases hc : tp s.l q ≠ 0 ∧ blankB (nth s.out (tp s.l q).toNat) = true
  · rw [if_pos hc]
    have hkz := blank_kids (q := q) (by rw [hv]; exact hc.1) (by rw [hv]; exact hc.2)
    refine ⟨rt_zeroT hr hl (by omega) (fun _ => hkz), rfl, by simpa using hl, fun p hp hne => ?_, fun _ => ⟨?_, ?_⟩⟩
    · simp only
      rw [val_zeroT hl (by omega) (fun _ => hkz) p hp]
      unfold Bg.upd
      rw [if_neg hne]
    · simp only
      rw [tp_set, if_pos ⟨rfl, by omega⟩]
    · rw [if_pos hc.1]; simp
  · rw [if_neg hc]
    refine ⟨hr, rfl, hl, fun _ _ _ => rfl, fun hz => ?_⟩
    have he : tp s.l q = 0 := Classical.byContradiction fun hne => hc ⟨hne, by rw [← hv]; exact kids_blank hr (by omega) hin (by rw [hv]; exact hne) hz⟩
    exact ⟨he, by rw [if_neg (fun h => h he)]; rfl⟩
theorem posK_onto {q : Nat} (hq : q < 1096) (hn : ¬ inP q) : ∃ p, p < 1062 ∧ posK p = q := by
  unfold inP at hn
  by_cases h6 : q < 6
  · exact ⟨q, by omega, by unfold posK; rw [if_pos h6]⟩
  · by_cases h40 : q < 40
    · exact ⟨q - 2, by omega, by unfold posK; rw [if_neg (by omega), if_pos (by omega)]; omega⟩
    · exact ⟨38 + 32 * ((q - 40) / 33) + ((q - 40) % 33 - 1), by omega, by unfold posK; rw [if_neg (by omega), if_neg (by omega)]; omega⟩
theorem cutA_data {D : List (List Int)} {t : List Int} (hR : Rt D t) (ht : t.length = 8) (k : Nat) {p : Nat} (hp : p < 1062) : val (cutA D t k (plN D t).length).out (cutA D t k (plN D t).length).l (posK p) = if k ≤ p then 0 else atK D t p := by
  rw [(cutA_val (k := k) hR ht _ (Nat.le_refl _)).2.2 _ (posK_lt hp), List.take_length]
  by_cases hk : k ≤ p
  · rw [if_pos hk]
    split
    · rfl
    · rename_i hn
      exact Classical.byContradiction fun hne => hn ⟨p, mem_plN.2 ⟨hp, hne⟩, hk, rfl⟩
  · rw [if_neg hk, if_neg]
    · rfl
    · rintro ⟨p', h1, h2, h3⟩
      have := posK_inj hp (mem_plN.1 h1).1 h3
      omega
/-- Behind the second loop, whether it is run or not. -/
def cutM (D : List (List Int)) (t : List Int) (k : Nat) : CutS := if tp (cutA D t k (plN D t).length).l 7 = 0 then cutA D t k (plN D t).length else cutBj D (tp (cutA D t k (plN D t).length).l 7) (cutA D t k (plN D t).length) 32
theorem cutM_val {D : List (List Int)} {t : List Int} (hR : Rt D t) (ht : t.length = 8) (k : Nat) : Rt (cutM D t k).out (cutM D t k).l ∧ (cutM D t k).l.length = 8 ∧ (∀ q, q < 8 → tp (cutM D t k).l q = val (cutA D t k (plN D t).length).out (cutA D t k (plN D t).length).l q) ∧ (∀ p, p < 1062 → val (cutM D t k).out (cutM D t k).l (posK p) = if k ≤ p then 0 else atK D t p) ∧
    ((∀ p, p < 1062 → atK D t p ≠ 0 → k ≤ p) → (∀ j, j < 32 → val (cutM D t k).out (cutM D t k).l (40 + 33 * j) = 0) ∧ (cutM D t k).free.length = (cutA D t k (plN D t).length).free.length + ((List.range 32).filter fun j => decide (vD D t j ≠ 0)).length) := by
  obtain ⟨hr, hl, hv⟩ := cutA_val (k := k) hR ht _ (Nat.le_refl _)
  have hd := fun p hp => cutA_data hR ht k (p := p) hp
  have h7 := ((cutA_tp (D := D) (t := t) (k := k) _ (Nat.le_refl _)) 7).1 (by omega)
  have hD : ∀ i, i < 32 → val (cutA D t k (plN D t).length).out (cutA D t k (plN D t).length).l (40 + 33 * i) = vD D t i := fun i hi => by
    rw [hv _ (by omega), if_neg]
    · rw [val, if_neg (by omega), if_neg (by omega), if_pos (by omega), show (40 + 33 * i - 40) / 33 = i by omega]
    · rintro ⟨p', h1, h2, h3⟩
      exact posK_out (mem_plN.1 (List.mem_of_mem_take h1)).1 (h3 ▸ in_D i)
  unfold cutM
  generalize cutA D t k (plN D t).length = s at *
  by_cases h0 : tp s.l 7 = 0
  · rw [if_pos h0]
    have hz : ∀ i, vD D t i = 0 := fun i => by unfold vD; rw [if_pos (by rw [← h7]; exact h0)]
    refine ⟨hr, hl, fun q hq => (val_top _ _ hq).symm, hd, fun _ => ⟨fun j hj => by rw [hD j hj, hz], ?_⟩⟩
    simp [hz]
  · rw [if_neg h0]
    have hx : ∀ i, i < 32 → (nth D (tp s.l 7).toNat).getD i 0 = val s.out s.l (40 + 33 * i) := fun i hi => by
      rw [hD i hi, vD, if_neg (by rw [← h7]; exact h0), h7]
      rfl
    obtain ⟨g1, g2, g3, g4⟩ := cutB_val hr hl h0 hx 32 (by omega)
    rw [g2]
    refine ⟨g1, hl, fun q hq => (val_top _ _ hq).symm, fun p hp => ?_, fun hk => ?_⟩
    · rw [g3 _ (posK_lt hp) (.inl (posK_out hp)), hd p hp]
    · obtain ⟨e1, e2⟩ := g4 fun q hq hn => by
        obtain ⟨p, hp, rfl⟩ := posK_onto hq hn
        rw [hd p hp]
        split
        · rfl
        · rename_i hkp
          exact Classical.byContradiction fun hne => hkp (hk p hp hne)
      refine ⟨e1, ?_⟩
      have ef : ((List.range 32).filter fun j => decide (val s.out s.l (40 + 33 * j) ≠ 0)) = (List.range 32).filter fun j => decide (vD D t j ≠ 0) := List.filter_congr fun j hj => by rw [hD j (List.mem_range.1 hj)]
      rw [e2, ef]
theorem cutL_M (D : List (List Int)) (t : List Int) (k : Nat) : cutL D t k = stepC (stepC (cutM D t k) 6) 7 := by
  rw [cutL_eq, cutCj_two]
  rfl
/-- What is cut is right; it has the places below. -/
theorem cutL_right {D : List (List Int)} {t : List Int} (hR : Rt D t) (ht : t.length = 8) (k : Nat) : Rt (cutL D t k).out (cutL D t k).l ∧ (cutL D t k).l.length = 8 ∧ ∀ p, p < 1062 → atK (cutL D t k).out (cutL D t k).l p = if k ≤ p then 0 else atK D t p := by
  obtain ⟨m1, m2, m3, m4, _⟩ := cutM_val hR ht k
  rw [cutL_M]
  generalize cutM D t k = s at *
  obtain ⟨a1, a2, a3, a4, _⟩ := stepC_val (q := 6) (.inl rfl) m1 m2
  rw [← a2] at a1 a4
  obtain ⟨b1, b2, b3, b4, _⟩ := stepC_val (q := 7) (.inr rfl) a1 a3
  refine ⟨by rw [b2]; exact b1, b3, fun p hp => ?_⟩
  have hn := posK_out hp
  have h6 : posK p ≠ 6 := fun e => hn (.inl e)
  have h7 : posK p ≠ 7 := fun e => hn (.inr (.inl e))
  rw [atK, b2, b4 _ (posK_lt hp) h7, a4 _ (posK_lt hp) h6, a2, m4 p hp]
/-- What has nothing below is cut to nothing: all blocks are free. -/
theorem cutL_none {D : List (List Int)} {t : List Int} (hR : Rt D t) (ht : t.length = 8) (k : Nat) (hk : ∀ p, p < 1062 → atK D t p ≠ 0 → k ≤ p) : (cutL D t k).l = [0, 0, 0, 0, 0, 0, 0, 0] ∧
    (cutL D t k).free.length = (plN D t).length + ((List.range 32).filter fun j => decide (vD D t j ≠ 0)).length + (if tp t 6 ≠ 0 then 1 else 0) + (if tp t 7 ≠ 0 then 1 else 0) := by
  obtain ⟨m1, m2, m3, m4, m5⟩ := cutM_val hR ht k
  obtain ⟨m6, m7⟩ := m5 hk
  obtain ⟨_, _, hv⟩ := cutA_val (k := k) hR ht _ (Nat.le_refl _)
  have hin : ∀ q, q = 6 ∨ q = 7 → tp (cutM D t k).l q = tp t q := fun q hq => by
    rw [m3 q (by omega), hv q (by omega), if_neg, val_top _ _ (by omega)]
    rintro ⟨p', h1, h2, h3⟩
    refine posK_out (mem_plN.1 (List.mem_of_mem_take h1)).1 (h3 ▸ ?_)
    unfold inP; omega
  have hA : (cutA D t k (plN D t).length).free.length = (plN D t).length := by
    have : ∀ j, j ≤ (plN D t).length → (cutA D t k j).free.length = j := by
      intro j
      induction j with
      | zero => intro _; rfl
      | succ j ih =>
        intro hj
        have hpm := mem_plN.1 (getD_mem' (0 : Nat) (plN D t) j (by omega))
        rw [cutA_succ (by omega), stepA, if_neg (by have := hk _ hpm.1 hpm.2; omega)]
        simp [ih (by omega)]
    exact this _ (Nat.le_refl _)
  rw [hA] at m7
  have hat := (cutL_right hR ht k).2
  rw [cutL_M] at hat ⊢
  generalize cutM D t k = s at *
  have hpos : ∀ p, p < 1062 → val s.out s.l (posK p) = 0 := fun p hp => by
    rw [m4 p hp]
    split
    · rfl
    · rename_i h
      exact Classical.byContradiction fun hne => h (hk p hp hne)
  have hkid : ∀ p, 8 ≤ p → p < 1096 → val s.out s.l p = 0 := fun p p8 p9 => by
    by_cases hi : inP p
    · unfold inP at hi
      have e : p = 40 + 33 * ((p - 40) / 33) := by omega
      rw [e]
      exact m6 _ (by omega)
    · obtain ⟨p', h1, rfl⟩ := posK_onto p9 hi
      exact hpos p' h1
  obtain ⟨a1, a2, a3, a4, a5⟩ := stepC_val (q := 6) (.inl rfl) m1 m2
  obtain ⟨a6, a7⟩ := a5 fun p p8 p9 _ => hkid p p8 p9
  rw [← a2] at a1
  obtain ⟨b1, b2, b3, b4, b5⟩ := stepC_val (q := 7) (.inr rfl) a1 a3
  obtain ⟨b6, b7⟩ := b5 fun p p8 p9 _ => by rw [a2, a4 p p9 (by omega)]; exact hkid p p8 p9
  have e67 : tp (stepC s 6).l 7 = tp t 7 := by
    have := a4 7 (by omega) (by omega)
    rw [val_top _ _ (by omega), val_top _ _ (by omega)] at this
    rw [this, hin 7 (.inr rfl)]
  refine ⟨?_, ?_⟩
  · have hz : ∀ q, q < 8 → tp (stepC (stepC s 6) 7).l q = 0 := fun q hq => by
      by_cases h7 : q = 7
      · subst h7; exact b6
      · have e1 := b4 q (by omega) h7
        rw [val_top _ _ hq, val_top _ _ hq] at e1
        rw [e1]
        by_cases h6 : q = 6
        · subst h6; exact a6
        · have e2 := a4 q (by omega) h6
          rw [val_top _ _ hq, val_top _ _ hq] at e2
          rw [e2]
          have := hpos q (by omega)
          rw [show posK q = q by unfold posK; rw [if_pos (by omega)], val_top _ _ hq] at this
          exact this
    obtain ⟨y0, y1, y2, y3, y4, y5, y6, y7, hy⟩ : ∃ y0 y1 y2 y3 y4 y5 y6 y7, (stepC (stepC s 6) 7).l = [y0, y1, y2, y3, y4, y5, y6, y7] := by
      match h : (stepC (stepC s 6) 7).l, b3 with
      | [y0, y1, y2, y3, y4, y5, y6, y7], _ => exact ⟨y0, y1, y2, y3, y4, y5, y6, y7, rfl⟩
    rw [hy] at hz ⊢
    have h0 := hz 0 (by omega); have h1 := hz 1 (by omega); have h2 := hz 2 (by omega); have h3 := hz 3 (by omega)
    have h4 := hz 4 (by omega); have h5 := hz 5 (by omega); have h6 := hz 6 (by omega); have h7 := hz 7 (by omega)
    simp only [tp, List.getD_cons_zero, List.getD_cons_succ] at h0 h1 h2 h3 h4 h5 h6 h7
    rw [h0, h1, h2, h3, h4, h5, h6, h7]
  · rw [b7, a7, m7, e67, hin 6 (.inl rfl)]
end Go.Sel.Bg
namespace Go.Proofs.Ytcgfoaihfncppaa
open Go.RowKit Go.Sel Go.Sel.Gra Go.Sel.Bg Go.Sel.Mer Go.Shelf
theorem innE_count (D : List (List Int)) (t : List Int) : ∀ i, (innE D t i).length = ((List.range i).filter fun j => decide (vD D t j ≠ 0)).length
  | 0 => rfl
  | i + 1 => by
    rw [innE_succ, List.length_append, innE_count D t i, List.range_succ, List.filter_append, List.length_append]
    by_cases e : vD D t i = 0 <;> simp [e]
theorem cutL_free {D : List (List Int)} {t : List Int} (hR : Rt D t) (ht : t.length = 8) (k : Nat) (hk : ∀ p, p < 1062 → atK D t p ≠ 0 → k ≤ p) : (cutL D t k).free.length = (plL D t).length + (inL D t).length := by
  rw [(cutL_none hR ht k hk).2, plN_len, inL, List.length_map, innD, innI, List.length_append]
  by_cases h6 : tp t 6 = 0 <;> by_cases h7 : tp t 7 = 0
  · have : ∀ i, vD D t i = 0 := fun i => by unfold vD; rw [if_pos h7]
    simp [h6, h7, this]
  · simp [h6, h7, innE_count]; omega
  · have : ∀ i, vD D t i = 0 := fun i => by unfold vD; rw [if_pos h7]
    simp [h6, h7, this]
  · simp [h6, h7, innE_count]; omega
end Go.Proofs.Ytcgfoaihfncppaa
/- Walks of big's laws: blank. -/
set_option linter.unusedSimpArgs false
set_option linter.unusedVariables false
namespace Go.Proofs.Ytcgfoaihfncppaa
open Go.RowKit Go.Sel Go.Sel.Gra Go.Sel.Bg Go.Sel.Mer Go.Shelf

theorem infoByt : (Try.prog.info? 45).map (fun i => (i.zero, i.size, i.bytes)) = some (some (.slice none 0 0), 1, 24) := by kernel_rfl
theorem z32_zrow : z32 = (iv .u8 zrow).toArray := by simp [z32, zrow, iv]
def blk2 (bs : List Nat) : List Value := bs.map fun b => .slice (some ⟨b, 0, none⟩) 32 32

set_option maxRecDepth 100000 in
set_option maxHeartbeats 2000000 in
theorem blank_any (n : Nat) (hn : n ≤ 96) (w : World) : Calls Try.prog 27 #[.int .i64 (n : Int)] w fun e w' => (∃ A c, e = .returned (.slice A n c) ∧ Bp w' A n c (List.replicate n zrow)) ∧ Below w.heap.size w w' := by
  have hmk := mk32
  go_enter Try.func27, Try.ntmps27
  go_wp2
  go_loopw [3] (fun v wr => ∃ (k c : Nat) (A : Option Addr) (bs : List Nat), k ≤ n ∧ v = .slice A k c ∧ Hid (wr.ownsRow w.heap.size 45 1 (.slice A k c) k (blk2 bs)) ∧ Hid (bs.length = k) ∧ Hid (∀ b ∈ bs, wr.heap[b]? = some (.cells z32 5 (0, 0))) ∧ Hid (Below w.heap.size w wr)) (fun v _ => match v with | .slice _ k _ => n - k | _ => 0)
  case atStart => exact ⟨0, 0, none, [], by omega, rfl, World.ownsRow_nil _ _ _ _, rfl, fun b hb => by simp at hb, Below.refl _ _⟩
  case round =>
    obtain ⟨k, c, A, bs, hk, rfl, HO, HL, HS, HB⟩ := hrel
    by_cases hlt : k < n
    · have hs := HB.out.size
      go_wp2_with (at_builtin; refine wpList_push (wr.alloc (.cells z32 5)) rfl _ _ 33 45 rfl w.heap.size (.slice none 0 0) 24 Try.underlying33 infoByt rfl (by omega) (.slice A k c) k _ (.slice (some ⟨wr.heap.size, 0, none⟩) 32 32) rfl (by simp [Act.eval]) rfl (HO.out.alloc _) (by simp; omega) (by omega) rfl ?_; intro g cap w1 ho hg hat hlt1)
      have hne : ∀ b : Nat, (wr.alloc (Obj.cells z32 5)).heap[b]? = some (Obj.cells z32 5 (0, 0)) → w1.heap[b]? = some (Obj.cells z32 5 (0, 0)) := fun b hb => (hg.block b (Array.getElem?_eq_some_iff.1 hb).1 (fun e => by
        obtain ⟨cur, hc⟩ := own_block (HO.out.alloc (.cells z32 5)) b e.symm
        rw [hb] at hc; cases hc)).trans hb
      refine ⟨⟨k + 1, cap, some ⟨g, 0, none⟩, bs ++ [wr.heap.size], by omega, rfl, ?_, ?_, fun b hb => ?_, below_grown (HB.out.alloc hs _) hg (by simp; omega) (own_row HO.out)⟩, by simp; omega⟩
      · show World.ownsRow _ _ _ _ _ _ _
        simpa [blk2] using ho
      · show _ = _
        rw [List.length_append, HL.out]; rfl
      · rcases List.mem_append.1 hb with h | h
        · have h1 := HS.out b h
          exact hne b (blk_below h1 (below_al wr _) (Array.getElem?_eq_some_iff.1 h1).1)
        · obtain rfl : b = wr.heap.size := by simpa using h
          exact hne _ (blk11 wr _)
    · obtain rfl : k = n := by omega
      go_wp2
      go_ret
      refine ⟨⟨A, c, rfl, bs.map (fun b => (some ⟨b, 0, none⟩, 32, 32)), by simp, by rw [List.length_map]; exact HL.out, ?_, fun j hj => ?_⟩, HB.out⟩
      · obtain ⟨A2, c2, e, _, hr⟩ := rd_ownN (by omega) HO.out
        cases e
        have e2 : (bs.map (fun b => ((some ⟨b, 0, none⟩ : Option Addr), 32, 32))).map sv = blk2 bs := by simp [blk2, sv]
        rw [e2]
        exact hr
      · have hj' : j < bs.length := by simpa using hj
        have h1 := HS.out bs[j] (List.getElem_mem hj')
        have e1 : nth (List.replicate k zrow) j = zrow := by
          have : j < k := by have := HL.out; omega
          simp [nth, this]
        rw [e1, List.getElem_map]
        refine ⟨by simp [zrow], rd_block (by rw [h1, z32_zrow]) 32 32 _ 0 (Nat.le_refl _) (by omega) (fun i hi => by simp), fun x hx => ?_⟩
        have := List.eq_of_mem_replicate hx
        omega
end Go.Proofs.Ytcgfoaihfncppaa
/- ref05.Has and ref01.Same for big (from XGpH, by sed: the import). -/
set_option linter.unusedSimpArgs false
set_option linter.unusedVariables false
namespace Go.Proofs.Ytcgfoaihfncppaa
open Go.RowKit Go.Sel

set_option maxHeartbeats 1000000 in
theorem Has_any (A : Option Addr) (n c : Nat) (xs : List Int) (x : Int) (w : World) (ha : Rd w A n c (iv .i64 xs)) (hn : xs.length = n) :
    Calls Try.prog 46 #[.slice A n c, .int .i64 x] w fun e w' => e = .returned (.bool (decide (x ∈ xs))) ∧ w' = w := by
  have HA := Lib.hid ha
  have HN := Lib.hid hn
  have l1 := ha.le
  have l2 := ha.cap
  clear ha hn
  go_enter Try.func46, Try.ntmps46
  go_wp2
  go_loop [5] (fun v => ∃ k : Nat, k ≤ n ∧ v = .int .i64 k ∧ Hid (∀ j (h : j < xs.length), j < k → xs[j] ≠ x)) (fun v => n - (Go.RowKit.intOf v).toNat)
  case atStart => exact ⟨0, by omega, rfl, Lib.hid (fun j h hj => by omega)⟩
  case round =>
    obtain ⟨k, hk, rfl, hz⟩ := hrel
    by_cases hlt : k < n
    · have hxl : k < xs.length := by have := HN.out; omega
      obtain ⟨b, off, rfl, _, hc⟩ := HA.out.form (by simp; omega)
      have hck := hc k (by simpa using hxl)
      rw [iv_at] at hck
      clear hc
      by_cases hx : xs[k] = x
      · have he : (xs[k] == x) = true := by simpa using hx
        have HX := Lib.hid hx
        clear hx
        go_wp2
        go_ret
        exact ⟨ret_bool (by symm; rw [decide_eq_true_eq, ← HX.out]; exact List.getElem_mem hxl), rfl⟩
      · have he : (xs[k] == x) = false := by simpa using hx
        have HX := Lib.hid hx
        clear hx
        go_wp2
        refine ⟨⟨k + 1, by omega, by go_num, fun j h hj => ?_⟩, by simp [Go.RowKit.intOf] <;> omega⟩
        by_cases hjk : j = k
        · subst hjk; exact HX.out
        · exact hz.out j h (by omega)
    · go_wp2
      go_ret
      refine ⟨ret_bool ?_, rfl⟩
      symm
      rw [decide_eq_false_iff_not]
      intro hx
      obtain ⟨j, hj, he⟩ := List.mem_iff_getElem.1 hx
      exact hz.out j hj (by have := HN.out; omega) he

set_option maxHeartbeats 1000000 in
theorem Same1_any (A A' : Option Addr) (n n' c c' : Nat) (xs ys : List Int) (w : World) (ha : Rd w A n c (iv .i64 xs)) (hb : Rd w A' n' c' (iv .i64 ys)) (hn : xs.length = n) (hn' : ys.length = n') :
    Calls Try.prog 11 #[.slice A n c, .slice A' n' c'] w fun e w' => e = .returned (.bool (decide (xs = ys))) ∧ ∃ q, w' = w.drewN q := by
  have HA := Lib.hid ha
  have HB := Lib.hid hb
  have HN := Lib.hid hn
  have HN' := Lib.hid hn'
  have a1 := ha.le
  have a2 := ha.cap
  have b1 := hb.le
  have b2 := hb.cap
  clear ha hb hn hn'
  by_cases h : n = n'
  · subst h
    go_enter Try.func11, Try.ntmps11
    go_wp2
    go_loopw [5] (fun v wr => ∃ j : Nat, j ≤ n ∧ v = .int .i64 j ∧ Hid (xs.take j = ys.take j) ∧ ∃ q, wr = w.drewN q) (fun v _ => n - (Go.RowKit.intOf v).toNat)
    case atStart => exact ⟨0, by omega, rfl, rfl, 0, rfl⟩
    case round =>
      obtain ⟨j, hj, rfl, HT, q, rfl⟩ := hrel
      by_cases hlt : j < n
      · have hxl : j < xs.length := by have := HN.out; omega
        have hyl : j < ys.length := by have := HN'.out; omega
        obtain ⟨b, off, rfl, _, hc⟩ := HA.out.form (by simp; omega)
        obtain ⟨b2, off2, rfl, _, hd⟩ := HB.out.form (by simp; omega)
        have hck := hc j (by simpa using hxl)
        have hdk := hd j (by simpa using hyl)
        rw [iv_at] at hck hdk
        clear hc hd
        by_cases hxy : xs[j] = ys[j]
        · have hne : (xs[j] != ys[j]) = false := by simp [hxy]
          have HX := Lib.hid hxy
          clear hxy
          go_wp2
          go_quiet (fail)
          go_wp2
          refine ⟨⟨j + 1, by omega, by go_num, ?_, ⟨_, rfl⟩⟩, by simp [Go.RowKit.intOf]; omega⟩
          show xs.take (j + 1) = ys.take (j + 1)
          rw [List.take_succ_eq_append_getElem hxl, List.take_succ_eq_append_getElem hyl, HT.out, HX.out]
        · have hne : (xs[j] != ys[j]) = true := by simp [hxy]
          have HX := Lib.hid hxy
          clear hxy
          go_wp2
          go_quiet (fail)
          go_wp2
          go_ret
          exact ⟨ret_bool (by symm; rw [decide_eq_false_iff_not]; rintro rfl; exact HX.out rfl), by simp; exact ⟨_, rfl⟩⟩
      · go_wp2
        go_ret
        refine ⟨ret_bool ?_, q, rfl⟩
        have h := HT.out
        rw [List.take_of_length_le (by have := HN.out; omega), List.take_of_length_le (by have := HN'.out; omega)] at h
        simp [h]
  · have HS : Hid (decide (xs = ys) = false) := by
      show _ = _
      rw [decide_eq_false_iff_not]; rintro rfl; exact h (by rw [← HN.out, ← HN'.out])
    have hne : ¬ ((n : Int) = n') := by omega
    go_enter Try.func11, Try.ntmps11
    go_wp2
    go_ret
    exact ⟨ret_bool HS.out.symm, 0, rfl⟩

/-! ### few -/
end Go.Proofs.Ytcgfoaihfncppaa
/- Walks of big's laws: what must be whatever is asked. -/
set_option linter.unusedSimpArgs false
set_option linter.unusedVariables false
namespace Go.Sel.Bg
/-- A file without pointers. -/
theorem val_zero (D : List (List Int)) : ∀ p, p < 1096 → val D [0, 0, 0, 0, 0, 0, 0, 0] p = 0 := by
  intro p
  induction p using Nat.strongRecOn with
  | ind p ih =>
    intro hp
    by_cases h8 : p < 8
    · rw [val_top _ _ h8]
      have : p = 0 ∨ p = 1 ∨ p = 2 ∨ p = 3 ∨ p = 4 ∨ p = 5 ∨ p = 6 ∨ p = 7 := by omega
      rcases this with rfl | rfl | rfl | rfl | rfl | rfl | rfl | rfl <;> rfl
    · have h8' : 8 ≤ p := by omega
      have hl := par_lt h8' hp
      rw [val_par _ _ h8' hp, ih _ hl (by omega), if_pos rfl]
theorem Rt_zero {D : List (List Int)} (h : whole D) : Rt D [0, 0, 0, 0, 0, 0, 0, 0] :=
  ⟨h, fun p hp => by rw [val_zero D p hp]; simp; omega, fun p q hp hq _ hne => absurd (val_zero D p hp) hne⟩
theorem whole_blank {n : Nat} (h : n ≤ 96) : whole (List.replicate n zrow) := ⟨by simpa using h, fun b hb => by rw [List.eq_of_mem_replicate hb]; simp [zrow]⟩
theorem live_ok : OkPut (List.replicate 10 zrow) [0, 0, 0, 0, 0, 0, 0, 0] 10 38 5 [6, 7] where
  hk := by omega
  b0 := by omega
  b1 := by omega
  f := by simp
  nb := fun p hp => by rw [val_zero _ p hp]; omega
  bF := by simp
  nf := fun x hx p hp => by rw [val_zero _ p hp]; simp at hx; omega
  nd := by simp
  at_ := val_zero _ _ (posK_lt (by omega))
theorem wayL_38 : wayL 38 = [7, 0, 0] := by decide
end Go.Sel.Bg
namespace Go.Proofs.Ytcgfoaihfncppaa
open Go.RowKit Go.Sel Go.Sel.Gra Go.Sel.Bg Go.Sel.Mer Go.Shelf

set_option maxRecDepth 100000 in
set_option maxHeartbeats 4000000 in
theorem live_any (w : World) : Calls Try.prog 10 #[] w fun e w' => e = .returned (.bool true) ∧ Below w.heap.size w w' := by
  have hzb : bigV [0, 0, 0, 0, 0, 0, 0, 0] = .agg #[.int .i64 0, .int .i64 0, .int .i64 0, .int .i64 0, .int .i64 0, .int .i64 0, .int .i64 0, .int .i64 0] := rfl
  have HT : Hid (∃ x0 x1 x2 x3 x4 x5 x6, (putL (List.replicate 10 zrow) [0, 0, 0, 0, 0, 0, 0, 0] 38 5 [6, 7]).2.1 = [x0, x1, x2, x3, x4, x5, x6, 6] ∧ (putL (List.replicate 10 zrow) [0, 0, 0, 0, 0, 0, 0, 0] 38 5 [6, 7]).2.2 = 2) := Lib.hid ⟨0, 0, 0, 0, 0, 0, 0, rfl, rfl⟩
  obtain ⟨x0, x1, x2, x3, x4, x5, x6, ht1, hu1⟩ := HT.out
  have HR := put_right (Rt_zero (whole_blank (n := 10) (by omega))) rfl live_ok (by simp)
  have HAT : atK (putL (List.replicate 10 zrow) [0, 0, 0, 0, 0, 0, 0, 0] 38 5 [6, 7]).1 [x0, x1, x2, x3, x4, x5, x6, 6] 38 = 5 := by
    rw [← ht1, atK, HR.2 _ (posK_lt (by omega)), putV_at (by omega) (by omega), if_pos rfl]
  have HRT := HR.1
  rw [ht1] at HRT
  generalize hD1 : (putL (List.replicate 10 zrow) [0, 0, 0, 0, 0, 0, 0, 0] 38 5 [6, 7]).1 = D1 at *
  have HP : Hid (∀ (A : Option Addr) (c : Nat) (Af : Option Addr) (cf : Nat) (W : World), Bp W A 10 c (List.replicate 10 zrow) → Rd W Af 2 cf (iv .i64 [6, 7]) → Calls Try.prog 13 #[.slice A 10 c, .agg #[.int .i64 0, .int .i64 0, .int .i64 0, .int .i64 0, .int .i64 0, .int .i64 0, .int .i64 0, .int .i64 0], .int .i64 38, .int .i64 5, .slice Af 2 cf] W fun e w' => (∃ Ao co, e = .returned (.tuple #[.slice Ao 10 co, .agg #[.int .i64 x0, .int .i64 x1, .int .i64 x2, .int .i64 x3, .int .i64 x4, .int .i64 x5, .int .i64 x6, .int .i64 6], .int .i64 2, .int .i64 0]) ∧ Wb W.heap.size w' Ao 10 co D1) ∧ Below W.heap.size W w') := Lib.hid fun A c Af cf W h1 h2 => by
    have := Put_any A 10 c (List.replicate 10 zrow) [0, 0, 0, 0, 0, 0, 0, 0] 38 5 Af 2 cf [6, 7] (by simp) rfl W h1 (Rt_zero (whole_blank (by omega))) h2 rfl live_ok
    rw [ht1, hu1, hD1] at this
    exact this
  have HG : Hid (∀ (A : Option Addr) (c : Nat) (W : World), Bp W A 10 c D1 → Calls Try.prog 14 #[.slice A 10 c, .agg #[.int .i64 x0, .int .i64 x1, .int .i64 x2, .int .i64 x3, .int .i64 x4, .int .i64 x5, .int .i64 x6, .int .i64 6], .int .i64 38] W fun e w' => e = .returned (.tuple #[.int .i64 5, .int .i64 0]) ∧ Below W.heap.size W w') := Lib.hid fun A c W h => by
    have := Get_ok A 10 c D1 [x0, x1, x2, x3, x4, x5, x6, 6] 38 (by omega) rfl W h HRT
    rw [HAT] at this
    exact this
  have HW : Hid (∀ W, Calls Try.prog 9 #[.int .i64 38] W fun e w' => (∃ A c, e = .returned (.tuple #[.slice A 3 c, .int .i64 0]) ∧ Rd w' A 3 c (iv .i64 [7, 0, 0])) ∧ Below W.heap.size W w') := Lib.hid fun W => by
    have := Way_ok 38 ⟨by omega, by omega⟩ W
    rw [wayL_38] at this
    exact this
  have HBL := Lib.hid (blank_any 10 (by omega))
  clear HT HR HAT HRT ht1 hu1 hD1 hzb
  go_enter Try.func10, Try.ntmps10
  go_wp2_with (first
    | (go_at_call 27; refine (HBL.out _).mono ?_; rintro e w1 ⟨⟨A, c, rfl, hD⟩, hB⟩; have HD := Lib.hid (hD.below (below_al w1 (.cells #[.int .i64 6, .int .i64 7] 3))); have HB := Lib.hid (hB.alloc hB.size (.cells #[.int .i64 6, .int .i64 7] 3)); have HFR : Hid (Rd (w1.alloc (.cells #[.int .i64 6, .int .i64 7] 3)) (some ⟨w1.heap.size, 0, none⟩) 2 2 (iv .i64 [6, 7])) := (sl_rd w1 [6, 7] 3 (by simp)); clear hD hB)
    | (go_at_call 13; refine (HP.out _ _ _ _ _ HD.out HFR.out).mono ?_; rintro e w2 ⟨⟨Ao, co, rfl, hwb⟩, hB⟩; have HWB := Lib.hid (hwb.bp.below (below_al w2 (.cells #[.int .i64 x0, .int .i64 x1, .int .i64 x2, .int .i64 x3, .int .i64 x4, .int .i64 x5, .int .i64 x6, .int .i64 6] 36))); have HB2 := Lib.hid ((HB.out.trans (hB.mono HB.out.size)).alloc (Nat.le_trans HB.out.size hB.size) (.cells #[.int .i64 x0, .int .i64 x1, .int .i64 x2, .int .i64 x3, .int .i64 x4, .int .i64 x5, .int .i64 x6, .int .i64 6] 36)); have hkk : ∀ i v, #[Value.int .i64 x0, .int .i64 x1, .int .i64 x2, .int .i64 x3, .int .i64 x4, .int .i64 x5, .int .i64 x6, .int .i64 6][i]? = some v → (w2.alloc (.cells #[.int .i64 x0, .int .i64 x1, .int .i64 x2, .int .i64 x3, .int .i64 x4, .int .i64 x5, .int .i64 x6, .int .i64 6] 36)).cell? ⟨w2.heap.size, i, none⟩ = some v := (fun i v h => new_cell w2 _ _ i v h); have k7 := hkk 7 _ rfl; clear hkk hwb hB)
    | (go_at_call 14; refine (HG.out _ _ _ HWB.out).mono ?_; rintro e w3 ⟨rfl, hB⟩; have k7 := keep_cell k7 hB; have HB3 := Lib.hid (HB2.out.trans (hB.mono HB2.out.size)); clear hB)
    | (go_at_call 9; refine (HW.out _).mono ?_; rintro e w4 ⟨⟨Aw, cw, rfl, hr⟩, hB⟩; have k7 := keep_cell k7 hB; have HB4 := Lib.hid (HB3.out.trans (hB.mono HB3.out.size)); obtain ⟨yb, yo, rfl, hyb, hyc⟩ := hr.form (by simp); have y0 := hyc 0 (by simp); simp only [iv, List.map_cons, List.map_nil, List.getElem_cons_zero, Nat.add_zero] at y0; have hl1 := hr.le; have hl2 := hr.cap; clear hB hr hyc))
  go_ret
  exact ⟨rfl, HB4.out⟩
end Go.Proofs.Ytcgfoaihfncppaa
