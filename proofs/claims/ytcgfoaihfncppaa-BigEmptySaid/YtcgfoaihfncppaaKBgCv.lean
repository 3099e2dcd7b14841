/- What a cut leaves, plainly: pointers set to nothing. No program in sight. -/
import Derived.Test.YtcgfoaihfncppaaKBgCp
import Derived.Test.YtcgfoaihfncppaaKBhT
set_option linter.unusedSimpArgs false
set_option linter.unusedVariables false
namespace Go.Sel.Bg
open Go.RowKit Go.Sel Go.Sel.Gra

theorem getD_mem' {α : Type} (z : α) : ∀ (l : List α) (j : Nat), j < l.length → l.getD j z ∈ l
  | [], j, h => by simp at h
  | x :: l, 0, h => by simp
  | x :: l, j + 1, h => by
    have := getD_mem' z l j (by simpa using h)
    simp only [List.getD_cons_succ]
    exact List.mem_cons_of_mem _ this
theorem okV.zero {n m : Nat} {v : Nat → Int} (h : okV n v m) (q : Nat) : okV n (Bg.upd v q 0) m := by
  refine ⟨fun p hp => ?_, fun p r hp hr e hne => ?_⟩
  · unfold Bg.upd
    split
    · exact ⟨by omega, by simp; omega⟩
    · exact h.1 p hp
  · unfold Bg.upd at e hne
    split at hne
    · exact absurd rfl hne
    · rename_i h1
      rw [if_neg h1] at e
      split at e
      · exact absurd e hne
      · exact h.2 p r hp hr e hne
/-- A pointer in a block is set to nothing. -/
theorem val_zeroD {D : List (List Int)} {t : List Int} {q : Nat} (hR : Rt D t) (hq : 8 ≤ q) (hq' : q < 1096) (hp0 : val D t (par q) ≠ 0) (hz : inP q → ∀ p, 8 ≤ p → p < 1096 → par p = q → val D t p = 0) : ∀ p, p < 1096 → val (setD D t q 0) t p = upd (val D t) q 0 p := by
  obtain ⟨hW, hU⟩ := hR
  have hpl := par_lt hq hq'
  have hb := hU.1 (par q) (by omega)
  have hbl : (val D t (par q)).toNat < D.length := by omega
  have hrow : (D.getD (val D t (par q)).toNat []).length = 32 := by
    rw [List.getD_eq_getElem?_getD, List.getElem?_eq_getElem hbl]
    exact hW.2 _ (List.getElem_mem hbl)
  have hsl := slot_lt hq hq'
  intro p
  induction p using Nat.strongRecOn with
  | ind p ih =>
    intro hp
    by_cases h8 : p < 8
    · rw [val_top _ _ h8]
      unfold Bg.upd
      rw [if_neg (by omega), val_top _ _ h8]
    · have h8' : 8 ≤ p := by omega
      have hl := par_lt h8' hp
      rw [val_par _ _ h8' hp, ih _ hl (by omega)]
      by_cases epq : p = q
      · subst epq
        have e1 : upd (val D t) p 0 (par p) = val D t (par p) := by unfold Bg.upd; rw [if_neg (by omega)]
        rw [e1, if_neg hp0]
        unfold setD
        rw [at2_set _ _ _ _ _ hbl, if_pos rfl]
        unfold Bg.upd
        rw [if_pos rfl, List.getD_eq_getElem?_getD, List.getElem?_set, if_pos rfl, if_pos (by omega)]
        rfl
      · by_cases e : par p = q
        · have e1 : upd (val D t) q 0 (par p) = 0 := by unfold Bg.upd; rw [if_pos e]
          rw [e1, if_pos rfl]
          unfold Bg.upd
          rw [if_neg epq]
          exact (hz (e ▸ par_in h8' hp) p h8' hp e).symm
        · conv => rhs; unfold Bg.upd; rw [if_neg epq, val_par _ _ h8' hp]
          have e1 : upd (val D t) q 0 (par p) = val D t (par p) := by unfold Bg.upd; rw [if_neg e]
          rw [e1]
          split
          · rfl
          · rename_i hne
            unfold setD
            rw [at2_set _ _ _ _ _ hbl]
            split
            · rename_i et
              have hbp := hU.1 (par p) (by omega)
              have ev : val D t (par p) = val D t (par q) := by omega
              have epp := hU.2 (par p) (par q) (by omega) (by omega) ev hne
              have hss : slot p ≠ slot q := fun es => epq (par_inj h8' hp hq hq' epp es)
              rw [List.getD_eq_getElem?_getD, List.getElem?_set, if_neg (fun h => hss h.symm), ev]
              unfold at2
              simp only [List.getD_eq_getElem?_getD]
            · rfl
/-- One of a file's own pointers is set to nothing. -/
theorem val_zeroT {D : List (List Int)} {t : List Int} {q : Nat} (ht : t.length = 8) (hq : q < 8) (hz : inP q → ∀ p, 8 ≤ p → p < 1096 → par p = q → val D t p = 0) : ∀ p, p < 1096 → val D (t.set q 0) p = upd (val D t) q 0 p := by
  intro p
  induction p using Nat.strongRecOn with
  | ind p ih =>
    intro hp
    by_cases h8 : p < 8
    · rw [val_top _ _ h8, tp_set]
      unfold Bg.upd
      rw [val_top _ _ h8]
      by_cases e : p = q
      · rw [if_pos ⟨e.symm, by omega⟩, if_pos e]
      · rw [if_neg (fun h => e h.1.symm), if_neg e]
    · have h8' : 8 ≤ p := by omega
      have hl := par_lt h8' hp
      have hpq : p ≠ q := by omega
      rw [val_par _ _ h8' hp, ih _ hl (by omega)]
      by_cases e : par p = q
      · have e1 : upd (val D t) q 0 (par p) = 0 := by unfold Bg.upd; rw [if_pos e]
        rw [e1, if_pos rfl]
        unfold Bg.upd
        rw [if_neg hpq]
        exact (hz (e ▸ par_in h8' hp) p h8' hp e).symm
      · conv => rhs; unfold Bg.upd; rw [if_neg hpq, val_par _ _ h8' hp]
        have e1 : upd (val D t) q 0 (par p) = val D t (par p) := by unfold Bg.upd; rw [if_neg e]
        rw [e1]
/-- A block of pointers is blank: it has none. -/
theorem blank_kids {D : List (List Int)} {t : List Int} {q : Nat} (hne : val D t q ≠ 0) (hb : blankB (nth D (val D t q).toNat) = true) : ∀ p, 8 ≤ p → p < 1096 → par p = q → val D t p = 0 := by
  intro p h8 hp e
  rw [val_par _ _ h8 hp, e, if_neg hne]
  unfold blankB at hb
  rw [List.all_eq_true] at hb
  unfold at2
  rw [List.getD_eq_getElem?_getD]
  cases hx : (D.getD (val D t q).toNat [])[slot p]? with
  | none => rfl
  | some x =>
    have := hb x (by
      have := List.mem_of_getElem? hx
      simpa [nth] using this)
    simpa using this
theorem setD_row {D : List (List Int)} (h : whole D) (b i : Nat) (x : Int) : whole (D.set b ((nth D b).set i x)) := whole_set h fun hf => by
  rw [List.length_set, nth, List.getD_eq_getElem?_getD, List.getElem?_eq_getElem hf]
  exact h.2 _ (List.getElem_mem hf)
theorem rt_zeroD {D : List (List Int)} {t : List Int} {q : Nat} (hR : Rt D t) (hq : 8 ≤ q) (hq' : q < 1096) (hp0 : val D t (par q) ≠ 0) (hz : inP q → ∀ p, 8 ≤ p → p < 1096 → par p = q → val D t p = 0) : Rt (setD D t q 0) t := by
  refine ⟨setD_row hR.1 _ _ _, okU_iff.2 ?_⟩
  rw [setD_len]
  exact ((okU_iff.1 hR.2).zero q).congr (val_zeroD hR hq hq' hp0 hz)
theorem rt_zeroT {D : List (List Int)} {t : List Int} {q : Nat} (hR : Rt D t) (ht : t.length = 8) (hq : q < 8) (hz : inP q → ∀ p, 8 ≤ p → p < 1096 → par p = q → val D t p = 0) : Rt D (t.set q 0) :=
  ⟨hR.1, okU_iff.2 (((okU_iff.1 hR.2).zero q).congr (val_zeroT ht hq hz))⟩
theorem posK_out {p : Nat} (h : p < 1062) : ¬ inP (posK p) := by
  unfold inP
  by_cases h6 : p < 6
  · have : posK p = p := by unfold posK; rw [if_pos h6]
    omega
  · by_cases h38 : p < 38
    · have := (posK_mid h6 h38).1; omega
    · have : posK p = 40 + 33 * ((p - 38) / 32) + 1 + (p - 38) % 32 := by unfold posK; rw [if_neg h6, if_neg h38]
      omega
theorem posK_ge {p : Nat} (h : p < 1062) (h6 : ¬ p < 6) : 8 ≤ posK p := by
  by_cases h38 : p < 38
  · have := (posK_mid h6 h38).1; omega
  · have := (posK_hi h38).1; unfold lf at this; omega
/-- Behind the first loop. -/
theorem cutA_val {D : List (List Int)} {t : List Int} {k : Nat} (hR : Rt D t) (ht : t.length = 8) : ∀ j, j ≤ (plN D t).length → Rt (cutA D t k j).out (cutA D t k j).l ∧ (cutA D t k j).l.length = 8 ∧ ∀ q, q < 1096 → val (cutA D t k j).out (cutA D t k j).l q = if ∃ p ∈ (plN D t).take j, k ≤ p ∧ q = posK p then 0 else val D t q
  | 0, _ => ⟨hR, ht, fun q _ => by
      have e : cutA D t k 0 = ⟨D, t, []⟩ := rfl
      rw [e]
      simp⟩
  | j + 1, h => by
    obtain ⟨hr, hl, hv⟩ := cutA_val (k := k) hR ht j (by omega)
    have hpm := getD_mem' (0 : Nat) (plN D t) j (by omega)
    obtain ⟨hp, hpa⟩ := mem_plN.1 hpm
    rw [cutA_succ (D := D) (t := t) (k := k) (j := j) (by omega), take_getD 0 _ j (by omega)]
    generalize (plN D t).getD j 0 = p at *
    generalize cutA D t k j = s at *
    unfold stepA
    by_cases hpk : p < k
    · rw [if_pos hpk]
      refine ⟨hr, hl, fun q hq => ?_⟩
      rw [hv q hq]
      have : (∃ p', p' ∈ (plN D t).take j ∧ k ≤ p' ∧ q = posK p') ↔ (∃ p', p' ∈ (plN D t).take j ++ [p] ∧ k ≤ p' ∧ q = posK p') := by
        constructor
        · rintro ⟨p', h1, h2⟩
          exact ⟨p', List.mem_append_left _ h1, h2⟩
        · rintro ⟨p', h1, h2⟩
          rcases List.mem_append.1 h1 with h1 | h1
          · exact ⟨p', h1, h2⟩
          · simp at h1; omega
      simp only [this]
    · rw [if_neg hpk]
      simp only
      have hupd : ∀ q, q < 1096 → Bg.upd (val s.out s.l) (posK p) 0 q = if ∃ p' ∈ (plN D t).take j ++ [p], k ≤ p' ∧ q = posK p' then 0 else val D t q := fun q hq => by
        unfold Bg.upd
        by_cases e : q = posK p
        · rw [if_pos e, if_pos ⟨p, by simp, by omega, e⟩]
        · rw [if_neg e, hv q hq]
          have : (∃ p', p' ∈ (plN D t).take j ∧ k ≤ p' ∧ q = posK p') ↔ (∃ p', p' ∈ (plN D t).take j ++ [p] ∧ k ≤ p' ∧ q = posK p') := by
            constructor
            · rintro ⟨p', h1, h2⟩
              exact ⟨p', List.mem_append_left _ h1, h2⟩
            · rintro ⟨p', h1, h2⟩
              rcases List.mem_append.1 h1 with h1 | h1
              · exact ⟨p', h1, h2⟩
              · simp at h1; subst h1; exact absurd h2.2 e
          simp only [this]
      have hno := posK_out hp
      by_cases h6 : p < 6
      · have e1 : posK p = p := by unfold posK; rw [if_pos h6]
        have hz : inP p → ∀ p', 8 ≤ p' → p' < 1096 → par p' = p → val s.out s.l p' = 0 := fun h => absurd h (by rw [e1] at hno; exact hno)
        simp only [clrD, clrT, if_pos h6]
        refine ⟨rt_zeroT hr hl (by omega) hz, by simpa using hl, fun q hq => ?_⟩
        rw [val_zeroT hl (by omega) hz q hq, ← hupd q hq, e1]
      · have h8 := posK_ge hp h6
        have h9 := posK_lt hp
        have hin := par_in h8 h9
        have hpl := par_lt h8 h9
        have epar : val s.out s.l (par (posK p)) = val D t (par (posK p)) := by
          rw [hv _ (by omega), if_neg]
          rintro ⟨p', h1, h2, h3⟩
          have := (mem_plN.1 (List.mem_of_mem_take h1)).1
          exact posK_out this (h3 ▸ hin)
        have hp0 : val s.out s.l (par (posK p)) ≠ 0 := by
          rw [epar]
          intro e
          apply hpa
          rw [atK, val_par _ _ h8 h9, if_pos e]
        have hz : inP (posK p) → ∀ p', 8 ≤ p' → p' < 1096 → par p' = posK p → val s.out s.l p' = 0 := fun h => absurd h hno
        have ed : clrD D t s.out p = setD s.out s.l (posK p) 0 := by
          unfold clrD setD
          rw [if_neg h6, epar]
          rfl
        simp only [clrT, if_neg h6, ed]
        refine ⟨rt_zeroD hr h8 h9 hp0 hz, hl, fun q hq => ?_⟩
        rw [val_zeroD hr h8 h9 hp0 hz q hq, ← hupd q hq]
/-- A block of pointers that has none is blank. -/
theorem kids_blank {D : List (List Int)} {t : List Int} {q : Nat} (hR : Rt D t) (hq : q < 1096) (hin : inP q) (hne : val D t q ≠ 0) (h : ∀ p, 8 ≤ p → p < 1096 → par p = q → val D t p = 0) : blankB (nth D (val D t q).toNat) = true := by
  have hb := hR.2.1 q hq
  have hbl : (val D t q).toNat < D.length := by omega
  have hrow : (nth D (val D t q).toNat).length = 32 := by
    rw [nth, List.getD_eq_getElem?_getD, List.getElem?_eq_getElem hbl]
    exact hR.1.2 _ (List.getElem_mem hbl)
  unfold blankB
  rw [List.all_eq_true]
  intro x hx
  obtain ⟨i, hi, rfl⟩ := List.mem_iff_getElem.1 hx
  have hi' : i < 32 := by omega
  have hkid : ∃ p, 8 ≤ p ∧ p < 1096 ∧ par p = q ∧ slot p = i := by
    unfold inP at hin
    rcases hin with rfl | rfl | ⟨h1, h2⟩
    · exact ⟨8 + i, by omega, by omega, by unfold par; rw [if_pos (by omega)], by unfold slot; rw [if_pos (by omega)]; omega⟩
    · exact ⟨40 + 33 * i, by omega, by omega, by unfold par; rw [if_neg (by omega), if_pos (by omega)], by unfold slot; rw [if_neg (by omega), if_pos (by omega)]; omega⟩
    · exact ⟨q + 1 + i, by omega, by omega, by unfold par; rw [if_neg (by omega), if_neg (by omega)]; omega, by unfold slot; rw [if_neg (by omega), if_neg (by omega)]; omega⟩
  obtain ⟨p, p8, p9, pp, ps⟩ := hkid
  have := h p p8 p9 pp
  rw [val_par _ _ p8 p9, pp, if_neg hne, ps] at this
  unfold at2 at this
  rw [List.getD_eq_getElem?_getD] at this
  have e : (D.getD (val D t q).toNat [])[i]? = some ((nth D (val D t q).toNat)[i]) := by rw [← List.getElem?_eq_getElem hi]; rfl
  rw [e] at this
  simpa using this
theorem in_D (i : Nat) : inP (40 + 33 * i) := .inr (.inr ⟨by omega, by omega⟩)
theorem par_D (i : Nat) : par (40 + 33 * i) = 7 := by unfold par; rw [if_neg (by omega), if_pos (by omega)]
theorem slot_D (i : Nat) : slot (40 + 33 * i) = i := by unfold slot; rw [if_neg (by omega), if_pos (by omega)]; omega
/-- Behind the second loop's i rounds. -/
theorem cutB_val {D : List (List Int)} {s : CutS} (hr : Rt s.out s.l) (hl : s.l.length = 8) (h7 : tp s.l 7 ≠ 0) (hx : ∀ i, i < 32 → (nth D (tp s.l 7).toNat).getD i 0 = val s.out s.l (40 + 33 * i)) : ∀ i, i ≤ 32 → Rt (cutBj D (tp s.l 7) s i).out s.l ∧ (cutBj D (tp s.l 7) s i).l = s.l ∧
    (∀ q, q < 1096 → (¬ inP q ∨ q < 8 ∨ 40 + 33 * i ≤ q) → val (cutBj D (tp s.l 7) s i).out s.l q = val s.out s.l q) ∧
    ((∀ q, q < 1096 → ¬ inP q → val s.out s.l q = 0) → (∀ j, j < i → val (cutBj D (tp s.l 7) s i).out s.l (40 + 33 * j) = 0) ∧ (cutBj D (tp s.l 7) s i).free.length = s.free.length + ((List.range i).filter fun j => decide (val s.out s.l (40 + 33 * j) ≠ 0)).length)
  | 0, _ => ⟨hr, rfl, fun q _ _ => rfl, fun _ => ⟨fun j hj => by omega, by simp [cutBj]⟩⟩
  | i + 1, hi => by
    obtain ⟨h1, h2, h3, h4⟩ := cutB_val hr hl h7 hx i (by omega)
    rw [cutBj_succ]
    have hxi := hx i (by omega)
    have hcur := h3 (40 + 33 * i) (by omega) (.inr (.inr (Nat.le_refl _)))
    generalize cutBj D (tp s.l 7) s i = r at *
    obtain ⟨ro, rl, rf⟩ := r
    simp only at h1 h2 h3 h4 hcur
    subst h2
    unfold stepB
    rw [hxi]
    have hrange : ((List.range (i + 1)).filter fun j => decide (val s.out s.l (40 + 33 * j) ≠ 0)).length = ((List.range i).filter fun j => decide (val s.out s.l (40 + 33 * j) ≠ 0)).length + if val s.out s.l (40 + 33 * i) ≠ 0 then 1 else 0 := by
      rw [List.range_succ, List.filter_append, List.length_append]
      by_cases e : val s.out s.l (40 + 33 * i) = 0 <;> simp [e]
    have hv7 : val ro s.l 7 = tp s.l 7 := val_top _ _ (by omega)
    by_cases hc : val s.out s.l (40 + 33 * i) ≠ 0 ∧ blankB (nth ro (val s.out s.l (40 + 33 * i)).toNat) = true
    · rw [if_pos hc]
      have hne : val ro s.l (40 + 33 * i) ≠ 0 := by rw [hcur]; exact hc.1
      have hkz := blank_kids hne (by rw [hcur]; exact hc.2)
      have ed : ro.set (tp s.l 7).toNat ((nth ro (tp s.l 7).toNat).set i 0) = setD ro s.l (40 + 33 * i) 0 := by
        unfold setD
        rw [par_D, slot_D, hv7]
        rfl
      have hp0 : val ro s.l (par (40 + 33 * i)) ≠ 0 := by rw [par_D, hv7]; exact h7
      have hval := val_zeroD h1 (by omega) (by omega) hp0 (fun _ => hkz)
      simp only [ed]
      refine ⟨rt_zeroD h1 (by omega) (by omega) hp0 (fun _ => hkz), trivial, fun q hq ho => ?_, fun hz => ?_⟩
      · have hqn : q ≠ 40 + 33 * i := fun e => by
          subst e
          rcases ho with ho | ho | ho
          · exact ho (in_D i)
          · omega
          · omega
        rw [hval q hq]
        unfold Bg.upd
        rw [if_neg hqn]
        exact h3 q hq (ho.imp id fun h => h.imp id fun h => by omega)
      · obtain ⟨g1, g2⟩ := h4 hz
        refine ⟨fun j hj => ?_, ?_⟩
        · rw [hval _ (by omega)]
          unfold Bg.upd
          split
          · rfl
          · exact g1 j (by omega)
        · rw [hrange, if_pos hc.1, List.length_append, g2]
          simp only [List.length_cons, List.length_nil]
          omega
    · rw [if_neg hc]
      refine ⟨h1, rfl, fun q hq ho => h3 q hq (ho.imp id fun h => h.imp id fun h => by omega), fun hz => ?_⟩
      obtain ⟨g1, g2⟩ := h4 hz
      have he : val s.out s.l (40 + 33 * i) = 0 := Classical.byContradiction fun hne => hc ⟨hne, by
        rw [← hcur]
        refine kids_blank h1 (by omega) (in_D i) (by rw [hcur]; exact hne) fun p p8 p9 pp => ?_
        have hpn : ¬ inP p := fun h => by
          unfold inP at h
          unfold par at pp
          split at pp
          · omega
          · split at pp <;> omega
        rw [h3 p p9 (.inl hpn), hz p p9 hpn]⟩
      refine ⟨fun j hj => ?_, by rw [hrange, if_neg (fun h => h he), g2]; rfl⟩
      by_cases e : j = i
      · subst e; rw [hcur, he]
      · exact g1 j (by omega)
/-- The file's own pointers to blocks of pointers. -/
theorem stepC_val {s : CutS} {q : Nat} (hq : q = 6 ∨ q = 7) (hr : Rt s.out s.l) (hl : s.l.length = 8) : Rt s.out (stepC s q).l ∧ (stepC s q).out = s.out ∧ (stepC s q).l.length = 8 ∧ (∀ p, p < 1096 → p ≠ q → val s.out (stepC s q).l p = val s.out s.l p) ∧
    ((∀ p, 8 ≤ p → p < 1096 → par p = q → val s.out s.l p = 0) → tp (stepC s q).l q = 0 ∧ (stepC s q).free.length = s.free.length + if tp s.l q ≠ 0 then 1 else 0) := by
  have hv : val s.out s.l q = tp s.l q := val_top _ _ (by omega)
  have hin : inP q := by unfold inP; omega
  unfold stepC
  by_cases hc : tp s.l q ≠ 0 ∧ blankB (nth s.out (tp s.l q).toNat) = true
  · rw [if_pos hc]
    have hkz := blank_kids (q := q) (by rw [hv]; exact hc.1) (by rw [hv]; exact hc.2)
    refine ⟨rt_zeroT hr hl (by omega) (fun _ => hkz), rfl, by simpa using hl, fun p hp hne => ?_, fun _ => ⟨?_, ?_⟩⟩
    · simp only
      rw [val_zeroT hl (by omega) (fun _ => hkz) p hp]
      unfold Bg.upd
      rw [if_neg hne]
    · simp only
      rw [tp_set, if_pos ⟨rfl, by omega⟩]
    · rw [if_pos hc.1]; simp
  · rw [if_neg hc]
    refine ⟨hr, rfl, hl, fun _ _ _ => rfl, fun hz => ?_⟩
    have he : tp s.l q = 0 := Classical.byContradiction fun hne => hc ⟨hne, by rw [← hv]; exact kids_blank hr (by omega) hin (by rw [hv]; exact hne) hz⟩
    exact ⟨he, by rw [if_neg (fun h => h he)]; rfl⟩
theorem posK_onto {q : Nat} (hq : q < 1096) (hn : ¬ inP q) : ∃ p, p < 1062 ∧ posK p = q := by
  unfold inP at hn
  by_cases h6 : q < 6
  · exact ⟨q, by omega, by unfold posK; rw [if_pos h6]⟩
  · by_cases h40 : q < 40
    · exact ⟨q - 2, by omega, by unfold posK; rw [if_neg (by omega), if_pos (by omega)]; omega⟩
    · exact ⟨38 + 32 * ((q - 40) / 33) + ((q - 40) % 33 - 1), by omega, by unfold posK; rw [if_neg (by omega), if_neg (by omega)]; omega⟩
theorem cutA_data {D : List (List Int)} {t : List Int} (hR : Rt D t) (ht : t.length = 8) (k : Nat) {p : Nat} (hp : p < 1062) : val (cutA D t k (plN D t).length).out (cutA D t k (plN D t).length).l (posK p) = if k ≤ p then 0 else atK D t p := by
  rw [(cutA_val (k := k) hR ht _ (Nat.le_refl _)).2.2 _ (posK_lt hp), List.take_length]
  by_cases hk : k ≤ p
  · rw [if_pos hk]
    split
    · rfl
    · rename_i hn
      exact Classical.byContradiction fun hne => hn ⟨p, mem_plN.2 ⟨hp, hne⟩, hk, rfl⟩
  · rw [if_neg hk, if_neg]
    · rfl
    · rintro ⟨p', h1, h2, h3⟩
      have := posK_inj hp (mem_plN.1 h1).1 h3
      omega
/-- Behind the second loop, whether it is run or not. -/
def cutM (D : List (List Int)) (t : List Int) (k : Nat) : CutS := if tp (cutA D t k (plN D t).length).l 7 = 0 then cutA D t k (plN D t).length else cutBj D (tp (cutA D t k (plN D t).length).l 7) (cutA D t k (plN D t).length) 32
theorem cutM_val {D : List (List Int)} {t : List Int} (hR : Rt D t) (ht : t.length = 8) (k : Nat) : Rt (cutM D t k).out (cutM D t k).l ∧ (cutM D t k).l.length = 8 ∧ (∀ q, q < 8 → tp (cutM D t k).l q = val (cutA D t k (plN D t).length).out (cutA D t k (plN D t).length).l q) ∧ (∀ p, p < 1062 → val (cutM D t k).out (cutM D t k).l (posK p) = if k ≤ p then 0 else atK D t p) ∧
    ((∀ p, p < 1062 → atK D t p ≠ 0 → k ≤ p) → (∀ j, j < 32 → val (cutM D t k).out (cutM D t k).l (40 + 33 * j) = 0) ∧ (cutM D t k).free.length = (cutA D t k (plN D t).length).free.length + ((List.range 32).filter fun j => decide (vD D t j ≠ 0)).length) := by
  obtain ⟨hr, hl, hv⟩ := cutA_val (k := k) hR ht _ (Nat.le_refl _)
  have hd := fun p hp => cutA_data hR ht k (p := p) hp
  have h7 := ((cutA_tp (D := D) (t := t) (k := k) _ (Nat.le_refl _)) 7).1 (by omega)
  have hD : ∀ i, i < 32 → val (cutA D t k (plN D t).length).out (cutA D t k (plN D t).length).l (40 + 33 * i) = vD D t i := fun i hi => by
    rw [hv _ (by omega), if_neg]
    · rw [val, if_neg (by omega), if_neg (by omega), if_pos (by omega), show (40 + 33 * i - 40) / 33 = i by omega]
    · rintro ⟨p', h1, h2, h3⟩
      exact posK_out (mem_plN.1 (List.mem_of_mem_take h1)).1 (h3 ▸ in_D i)
  unfold cutM
  generalize cutA D t k (plN D t).length = s at *
  by_cases h0 : tp s.l 7 = 0
  · rw [if_pos h0]
    have hz : ∀ i, vD D t i = 0 := fun i => by unfold vD; rw [if_pos (by rw [← h7]; exact h0)]
    refine ⟨hr, hl, fun q hq => (val_top _ _ hq).symm, hd, fun _ => ⟨fun j hj => by rw [hD j hj, hz], ?_⟩⟩
    simp [hz]
  · rw [if_neg h0]
    have hx : ∀ i, i < 32 → (nth D (tp s.l 7).toNat).getD i 0 = val s.out s.l (40 + 33 * i) := fun i hi => by
      rw [hD i hi, vD, if_neg (by rw [← h7]; exact h0), h7]
      rfl
    obtain ⟨g1, g2, g3, g4⟩ := cutB_val hr hl h0 hx 32 (by omega)
    rw [g2]
    refine ⟨g1, hl, fun q hq => (val_top _ _ hq).symm, fun p hp => ?_, fun hk => ?_⟩
    · rw [g3 _ (posK_lt hp) (.inl (posK_out hp)), hd p hp]
    · obtain ⟨e1, e2⟩ := g4 fun q hq hn => by
        obtain ⟨p, hp, rfl⟩ := posK_onto hq hn
        rw [hd p hp]
        split
        · rfl
        · rename_i hkp
          exact Classical.byContradiction fun hne => hkp (hk p hp hne)
      refine ⟨e1, ?_⟩
      have ef : ((List.range 32).filter fun j => decide (val s.out s.l (40 + 33 * j) ≠ 0)) = (List.range 32).filter fun j => decide (vD D t j ≠ 0) := List.filter_congr fun j hj => by rw [hD j (List.mem_range.1 hj)]
      rw [e2, ef]
theorem cutL_M (D : List (List Int)) (t : List Int) (k : Nat) : cutL D t k = stepC (stepC (cutM D t k) 6) 7 := by
  rw [cutL_eq, cutCj_two]
  rfl
/-- What is cut is right; it has the places below. -/
theorem cutL_right {D : List (List Int)} {t : List Int} (hR : Rt D t) (ht : t.length = 8) (k : Nat) : Rt (cutL D t k).out (cutL D t k).l ∧ (cutL D t k).l.length = 8 ∧ ∀ p, p < 1062 → atK (cutL D t k).out (cutL D t k).l p = if k ≤ p then 0 else atK D t p := by
  obtain ⟨m1, m2, m3, m4, _⟩ := cutM_val hR ht k
  rw [cutL_M]
  generalize cutM D t k = s at *
  obtain ⟨a1, a2, a3, a4, _⟩ := stepC_val (q := 6) (.inl rfl) m1 m2
  rw [← a2] at a1 a4
  obtain ⟨b1, b2, b3, b4, _⟩ := stepC_val (q := 7) (.inr rfl) a1 a3
  refine ⟨by rw [b2]; exact b1, b3, fun p hp => ?_⟩
  have hn := posK_out hp
  have h6 : posK p ≠ 6 := fun e => hn (.inl e)
  have h7 : posK p ≠ 7 := fun e => hn (.inr (.inl e))
  rw [atK, b2, b4 _ (posK_lt hp) h7, a4 _ (posK_lt hp) h6, a2, m4 p hp]
/-- What has nothing below is cut to nothing: all blocks are free. -/
theorem cutL_none {D : List (List Int)} {t : List Int} (hR : Rt D t) (ht : t.length = 8) (k : Nat) (hk : ∀ p, p < 1062 → atK D t p ≠ 0 → k ≤ p) : (cutL D t k).l = [0, 0, 0, 0, 0, 0, 0, 0] ∧
    (cutL D t k).free.length = (plN D t).length + ((List.range 32).filter fun j => decide (vD D t j ≠ 0)).length + (if tp t 6 ≠ 0 then 1 else 0) + (if tp t 7 ≠ 0 then 1 else 0) := by
  obtain ⟨m1, m2, m3, m4, m5⟩ := cutM_val hR ht k
  obtain ⟨m6, m7⟩ := m5 hk
  obtain ⟨_, _, hv⟩ := cutA_val (k := k) hR ht _ (Nat.le_refl _)
  have hin : ∀ q, q = 6 ∨ q = 7 → tp (cutM D t k).l q = tp t q := fun q hq => by
    rw [m3 q (by omega), hv q (by omega), if_neg, val_top _ _ (by omega)]
    rintro ⟨p', h1, h2, h3⟩
    refine posK_out (mem_plN.1 (List.mem_of_mem_take h1)).1 (h3 ▸ ?_)
    unfold inP; omega
  have hA : (cutA D t k (plN D t).length).free.length = (plN D t).length := by
    have : ∀ j, j ≤ (plN D t).length → (cutA D t k j).free.length = j := by
      intro j
      induction j with
      | zero => intro _; rfl
      | succ j ih =>
        intro hj
        have hpm := mem_plN.1 (getD_mem' (0 : Nat) (plN D t) j (by omega))
        rw [cutA_succ (by omega), stepA, if_neg (by have := hk _ hpm.1 hpm.2; omega)]
        simp [ih (by omega)]
    exact this _ (Nat.le_refl _)
  rw [hA] at m7
  have hat := (cutL_right hR ht k).2
  rw [cutL_M] at hat ⊢
  generalize cutM D t k = s at *
  have hpos : ∀ p, p < 1062 → val s.out s.l (posK p) = 0 := fun p hp => by
    rw [m4 p hp]
    split
    · rfl
    · rename_i h
      exact Classical.byContradiction fun hne => h (hk p hp hne)
  have hkid : ∀ p, 8 ≤ p → p < 1096 → val s.out s.l p = 0 := fun p p8 p9 => by
    by_cases hi : inP p
    · unfold inP at hi
      have e : p = 40 + 33 * ((p - 40) / 33) := by omega
      rw [e]
      exact m6 _ (by omega)
    · obtain ⟨p', h1, rfl⟩ := posK_onto p9 hi
      exact hpos p' h1
  obtain ⟨a1, a2, a3, a4, a5⟩ := stepC_val (q := 6) (.inl rfl) m1 m2
  obtain ⟨a6, a7⟩ := a5 fun p p8 p9 _ => hkid p p8 p9
  rw [← a2] at a1
  obtain ⟨b1, b2, b3, b4, b5⟩ := stepC_val (q := 7) (.inr rfl) a1 a3
  obtain ⟨b6, b7⟩ := b5 fun p p8 p9 _ => by rw [a2, a4 p p9 (by omega)]; exact hkid p p8 p9
  have e67 : tp (stepC s 6).l 7 = tp t 7 := by
    have := a4 7 (by omega) (by omega)
    rw [val_top _ _ (by omega), val_top _ _ (by omega)] at this
    rw [this, hin 7 (.inr rfl)]
  refine ⟨?_, ?_⟩
  · have hz : ∀ q, q < 8 → tp (stepC (stepC s 6) 7).l q = 0 := fun q hq => by
      by_cases h7 : q = 7
      · subst h7; exact b6
      · have e1 := b4 q (by omega) h7
        rw [val_top _ _ hq, val_top _ _ hq] at e1
        rw [e1]
        by_cases h6 : q = 6
        · subst h6; exact a6
        · have e2 := a4 q (by omega) h6
          rw [val_top _ _ hq, val_top _ _ hq] at e2
          rw [e2]
          have := hpos q (by omega)
          rw [show posK q = q by unfold posK; rw [if_pos (by omega)], val_top _ _ hq] at this
          exact this
    obtain ⟨y0, y1, y2, y3, y4, y5, y6, y7, hy⟩ : ∃ y0 y1 y2 y3 y4 y5 y6 y7, (stepC (stepC s 6) 7).l = [y0, y1, y2, y3, y4, y5, y6, y7] := by
      match h : (stepC (stepC s 6) 7).l, b3 with
      | [y0, y1, y2, y3, y4, y5, y6, y7], _ => exact ⟨y0, y1, y2, y3, y4, y5, y6, y7, rfl⟩
    rw [hy] at hz ⊢
    have h0 := hz 0 (by omega); have h1 := hz 1 (by omega); have h2 := hz 2 (by omega); have h3 := hz 3 (by omega)
    have h4 := hz 4 (by omega); have h5 := hz 5 (by omega); have h6 := hz 6 (by omega); have h7 := hz 7 (by omega)
    simp only [tp, List.getD_cons_zero, List.getD_cons_succ] at h0 h1 h2 h3 h4 h5 h6 h7
    rw [h0, h1, h2, h3, h4, h5, h6, h7]
  · rw [b7, a7, m7, e67, hin 6 (.inl rfl)]
end Go.Sel.Bg
namespace Go.Proofs.Ytcgfoaihfncppaa
open Go.RowKit Go.Sel Go.Sel.Gra Go.Sel.Bg Go.Sel.Mer Go.Shelf
theorem innE_count (D : List (List Int)) (t : List Int) : ∀ i, (innE D t i).length = ((List.range i).filter fun j => decide (vD D t j ≠ 0)).length
  | 0 => rfl
  | i + 1 => by
    rw [innE_succ, List.length_append, innE_count D t i, List.range_succ, List.filter_append, List.length_append]
    by_cases e : vD D t i = 0 <;> simp [e]
theorem cutL_free {D : List (List Int)} {t : List Int} (hR : Rt D t) (ht : t.length = 8) (k : Nat) (hk : ∀ p, p < 1062 → atK D t p ≠ 0 → k ≤ p) : (cutL D t k).free.length = (plL D t).length + (inL D t).length := by
  rw [(cutL_none hR ht k hk).2, plN_len, inL, List.length_map, innD, innI, List.length_append]
  by_cases h6 : tp t 6 = 0 <;> by_cases h7 : tp t 7 = 0
  · have : ∀ i, vD D t i = 0 := fun i => by unfold vD; rw [if_pos h7]
    simp [h6, h7, this]
  · simp [h6, h7, innE_count]; omega
  · have : ∀ i, vD D t i = 0 := fun i => by unfold vD; rw [if_pos h7]
    simp [h6, h7, this]
  · simp [h6, h7, innE_count]; omega
end Go.Proofs.Ytcgfoaihfncppaa
/- Cut(0) leaves nothing, plainly. No program in sight. -/
set_option linter.unusedSimpArgs false
set_option linter.unusedVariables false
namespace Go.Sel.Bg
open Go.RowKit Go.Sel Go.Sel.Gra
/-- Entries are taken away, no more. -/
def SubZ (D D' : List (List Int)) : Prop := ∀ f i, (nth D' f).getD i 0 = 0 ∨ (nth D' f).getD i 0 = (nth D f).getD i 0
theorem SubZ.refl (D : List (List Int)) : SubZ D D := fun _ _ => .inr rfl
theorem SubZ.trans {D D' D'' : List (List Int)} (h : SubZ D D') (h' : SubZ D' D'') : SubZ D D'' := fun f i => by
  rcases h' f i with h1 | h1
  · exact .inl h1
  · rw [h1]; exact h f i
theorem SubZ.set (D : List (List Int)) (b i : Nat) : SubZ D (D.set b ((nth D b).set i 0)) := fun f j => by
  by_cases hb : b < D.length
  · rw [nth_set' _ hb]
    by_cases e : b = f
    · subst e
      rw [if_pos rfl]
      by_cases ei : i = j
      · subst ei
        left
        rw [List.getD_eq_getElem?_getD]
        by_cases hi : i < (nth D b).length
        · rw [List.getElem?_set_self hi]; rfl
        · rw [List.getElem?_eq_none (by rw [List.length_set]; omega)]; rfl
      · right
        rw [List.getD_eq_getElem?_getD, List.getElem?_set_ne ei, List.getD_eq_getElem?_getD]
    · rw [if_neg e]; exact .inr rfl
  · rw [List.set_eq_of_length_le (by omega)]; exact .inr rfl
theorem cutA_sub (D : List (List Int)) (t : List Int) (k : Nat) : ∀ j, j ≤ (plN D t).length → SubZ D (cutA D t k j).out
  | 0, _ => SubZ.refl _
  | j + 1, h => by
    have ih := cutA_sub D t k j (by omega)
    unfold cutA at ih ⊢
    rw [List.take_succ_eq_append_getElem (by omega), List.foldl_append]
    refine ih.trans ?_
    simp only [List.foldl_cons, List.foldl_nil]
    unfold stepA
    split
    · exact SubZ.refl _
    · simp only [clrD]
      split
      · exact SubZ.refl _
      · exact SubZ.set _ _ _
theorem cutBj_sub (D : List (List Int)) (x : Int) (s : CutS) : ∀ j, SubZ s.out (cutBj D x s j).out
  | 0 => SubZ.refl _
  | j + 1 => by
    rw [cutBj_succ]
    refine (cutBj_sub D x s j).trans ?_
    unfold stepB
    split
    · exact SubZ.set _ _ _
    · exact SubZ.refl _
theorem cutM_sub (D : List (List Int)) (t : List Int) (k : Nat) : SubZ (cutA D t k (plN D t).length).out (cutM D t k).out := by
  unfold cutM
  split
  · exact SubZ.refl _
  · exact cutBj_sub _ _ _ _
theorem stepC_out (s : CutS) (q : Nat) : (stepC s q).out = s.out := by
  unfold stepC
  split <;> rfl
theorem cutL_out (D : List (List Int)) (t : List Int) (k : Nat) : (cutL D t k).out = (cutM D t k).out := by
  rw [cutL_M, stepC_out, stepC_out]
theorem par_6 {i : Nat} (hi : i < 32) : par (8 + i) = 6 ∧ slot (8 + i) = i := by
  unfold par slot
  rw [if_pos (by omega), if_pos (by omega)]
  omega
theorem par_E {j i : Nat} (hj : j < 32) (hi : i < 32) : par (41 + 33 * j + i) = 40 + 33 * j ∧ slot (41 + 33 * j + i) = i := by
  unfold par slot
  rw [if_neg (by omega), if_neg (by omega), if_neg (by omega), if_neg (by omega)]
  omega
theorem pos_I {i : Nat} (hi : i < 32) : posK (6 + i) = 8 + i := by unfold posK; rw [if_neg (by omega), if_pos (by omega)]; omega
theorem pos_E {j i : Nat} (hj : j < 32) (hi : i < 32) : posK (38 + 32 * j + i) = 41 + 33 * j + i := by unfold posK; rw [if_neg (by omega), if_neg (by omega)]; omega
/-- A block of pointers that points to nothing. -/
theorem row_zero {D : List (List Int)} {t : List Int} {q : Nat} {f : Nat} (hq : val D t q = (f : Int)) (h0 : f ≠ 0) {p i : Nat} (hp8 : 8 ≤ p) (hp : p < 1096) (hpar : par p = q) (hs : slot p = i) (hz : val D t p = 0) : (nth D f).getD i 0 = 0 := by
  rw [val_par D t hp8 hp, hpar, hq, if_neg (by omega), hs] at hz
  exact hz
theorem cut0_zero {D : List (List Int)} {t : List Int} (hM : Mk D t) : ∀ f, f < 60 → ∀ i, i < 32 → (nth (cutL D t 0).out f).getD i 0 = 0 := by
  intro f hf i hi
  have hk0 : ∀ p, p < 1062 → atK D t p ≠ 0 → 0 ≤ p := fun _ _ _ => Nat.zero_le _
  obtain ⟨m1, m2, m3, m4, m5⟩ := cutM_val hM.rt hM.len 0
  obtain ⟨a1, a2, a3⟩ := cutA_val (k := 0) hM.rt hM.len _ (Nat.le_refl _)
  have a4 := fun p hp => cutA_data hM.rt hM.len 0 (p := p) hp
  have atp := cutA_tp (D := D) (t := t) (k := 0) _ (Nat.le_refl (plN D t).length)
  obtain ⟨m6, _⟩ := m5 hk0
  have hmsub := cutM_sub D t 0
  have hasub := cutA_sub D t 0 _ (Nat.le_refl _)
  rw [cutL_out]
  have hA : ∀ {g j}, (nth (cutA D t 0 (plN D t).length).out g).getD j 0 = 0 → (nth (cutM D t 0).out g).getD j 0 = 0 := fun {g j} h => by
    rcases hmsub g j with h1 | h1
    · exact h1
    · rw [h1, h]
  have hD0 : ∀ {g j}, (nth D g).getD j 0 = 0 → (nth (cutM D t 0).out g).getD j 0 = 0 := fun {g j} h => hA (by
    rcases hasub g j with h1 | h1
    · exact h1
    · rw [h1, h])
  have hMt : ∀ q, 6 ≤ q → q < 8 → val (cutM D t 0).out (cutM D t 0).l q = tp t q := fun q h6 h8 => by
    rw [val_top _ _ h8, m3 q h8, val_top _ _ h8]
    exact (atp q).1 h6
  by_cases hfar : farP D t f
  · refine hD0 ?_
    rw [hM.zr f (by rw [hM.dl]; exact hf) hfar]
    unfold zrow
    rw [List.getD_eq_getElem?_getD, List.getElem?_replicate]
    split <;> rfl
  · unfold farP at hfar
    have hex : ∃ q, q < 1096 ∧ inP q ∧ val D t q ≠ 0 ∧ val D t q = (f : Int) := by
      refine Classical.byContradiction fun hn => hfar fun q hq hi h0 e => hn ⟨q, hq, hi, h0, e⟩
    obtain ⟨q, hq, hin, hne, he⟩ := hex
    have hf0 : f ≠ 0 := fun e => hne (by rw [he, e]; rfl)
    rcases hin with rfl | rfl | ⟨h1, h2⟩
    · obtain ⟨e1, e2⟩ := par_6 hi
      refine row_zero (D := (cutM D t 0).out) (t := (cutM D t 0).l) (q := 6) (by rw [hMt 6 (by omega) (by omega), ← val_top D t (by omega)]; exact he) hf0 (p := 8 + i) (by omega) (by omega) e1 e2 ?_
      have := m4 (6 + i) (by omega)
      rw [pos_I hi, if_pos (Nat.zero_le _)] at this
      exact this
    · refine row_zero (D := (cutM D t 0).out) (t := (cutM D t 0).l) (q := 7) (by rw [hMt 7 (by omega) (by omega), ← val_top D t (by omega)]; exact he) hf0 (p := 40 + 33 * i) (by omega) (by omega) (par_D i) (slot_D i) (m6 i hi)
    · obtain ⟨j, hj, rfl⟩ : ∃ j, j < 32 ∧ q = 40 + 33 * j := ⟨(q - 40) / 33, by omega, by omega⟩
      obtain ⟨e1, e2⟩ := par_E hj hi
      refine hA ?_
      refine row_zero (D := (cutA D t 0 (plN D t).length).out) (t := (cutA D t 0 (plN D t).length).l) (q := 40 + 33 * j) ?_ hf0 (p := 41 + 33 * j + i) (by omega) (by omega) e1 e2 ?_
      · rw [a3 _ hq, if_neg]
        · exact he
        · rintro ⟨p, hp, _, e⟩
          exact posK_out (mem_plN.1 (List.mem_of_mem_take hp)).1 (e ▸ in_D j)
      · have := a4 (38 + 32 * j + i) (by omega)
        rw [pos_E hj hi, if_pos (Nat.zero_le _)] at this
        exact this
end Go.Sel.Bg
