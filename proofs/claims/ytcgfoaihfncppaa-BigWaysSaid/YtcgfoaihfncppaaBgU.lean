/- Big files, plainly: how the pointers turn when one is put. No program in sight. -/
import Derived.Test.YtcgfoaihfncppaaBgP
set_option linter.unusedSimpArgs false
set_option linter.unusedVariables false
namespace Go.Sel.Bg
open Go.RowKit Go.Sel

/-- A block of pointers that has one. -/
def pt (s : Nat) (x : Int) : List Int := (List.replicate 32 0).set s x
theorem pt_len (s : Nat) (x : Int) : (pt s x).length = 32 := by simp [pt]
theorem pt_byte (s : Nat) (x : Int) (h0 : 0 ≤ x) (h1 : x ≤ 255) : AllByte (pt s x) := by
  intro y hy
  rcases List.mem_or_eq_of_mem_set hy with h | rfl
  · have := List.eq_of_mem_replicate h
    omega
  · exact ⟨h0, h1⟩
def zrow : List Int := List.replicate 32 0
def notIn (D : List (List Int)) (t : List Int) (b : Int) : Prop := ∀ p, p < 1096 → val D t p ≠ b
structure OkPut (D : List (List Int)) (t : List Int) (n : Nat) (k : Nat) (b : Int) (F : List Int) : Prop where
  hk : k < 1062
  b0 : 0 < b
  b1 : b < n
  f : ∀ x ∈ F, 0 < x ∧ x < n
  nb : notIn D t b
  bF : b ∉ F
  nf : ∀ x ∈ F, notIn D t x
  nd : F.Nodup
  at_ : atK D t k = 0

/-! ### Where a pointer stands -/
def par (p : Nat) : Nat := if p < 40 then 6 else if (p - 40) % 33 = 0 then 7 else 40 + 33 * ((p - 40) / 33)
def slot (p : Nat) : Nat := if p < 40 then p - 8 else if (p - 40) % 33 = 0 then (p - 40) / 33 else (p - 40) % 33 - 1
theorem par_lt {p : Nat} (h : 8 ≤ p) (h' : p < 1096) : par p < p := by
  unfold par
  split
  · omega
  · split <;> omega
theorem slot_lt {p : Nat} (h : 8 ≤ p) (h' : p < 1096) : slot p < 32 := by
  unfold slot
  split
  · omega
  · split <;> omega
theorem par_inj {p q : Nat} (hp : 8 ≤ p) (hp' : p < 1096) (hq : 8 ≤ q) (hq' : q < 1096) (h : par p = par q) (h2 : slot p = slot q) : p = q := by
  unfold par at h
  unfold slot at h2
  split at h <;> split at h <;> (try split at h) <;> (try split at h) <;> simp_all <;> omega
/-- A pointer to a block of pointers. -/
def inP (p : Nat) : Prop := p = 6 ∨ p = 7 ∨ (40 ≤ p ∧ (p - 40) % 33 = 0)
theorem par_in {p : Nat} (h : 8 ≤ p) (h' : p < 1096) : inP (par p) := by
  unfold par inP
  split
  · omega
  · split <;> omega
theorem val_par (D : List (List Int)) (t : List Int) {p : Nat} (h : 8 ≤ p) (h' : p < 1096) : val D t p = if val D t (par p) = 0 then 0 else at2 D (val D t (par p)) (slot p) := by
  by_cases h40 : p < 40
  · have e1 : par p = 6 := by simp [par, h40]
    have e2 : slot p = p - 8 := by simp [slot, h40]
    have e3 : val D t 6 = tp t 6 := by simp [val]
    rw [e1, e2, e3]
    unfold val
    rw [if_neg (by omega), if_pos h40]
    rfl
  · by_cases hm : (p - 40) % 33 = 0
    · have e1 : par p = 7 := by simp [par, h40, hm]
      have e2 : slot p = (p - 40) / 33 := by simp [slot, h40, hm]
      have e3 : val D t 7 = tp t 7 := by simp [val]
      rw [e1, e2, e3]
      unfold val
      rw [if_neg (by omega), if_neg h40, if_pos hm]
      rfl
    · have e1 : par p = 40 + 33 * ((p - 40) / 33) := by simp [par, h40, hm]
      have e2 : slot p = (p - 40) % 33 - 1 := by simp [slot, h40, hm]
      have e3 : val D t (40 + 33 * ((p - 40) / 33)) = vD D t ((p - 40) / 33) := by
        unfold val
        rw [if_neg (by omega), if_neg (by omega), if_pos (by omega)]
        congr 1
        omega
      rw [e1, e2, e3]
      unfold val
      rw [if_neg (by omega), if_neg h40, if_neg hm]
      rfl
theorem val_top (D : List (List Int)) (t : List Int) {p : Nat} (h : p < 8) : val D t p = tp t p := by simp [val, h]

/-! ### One pointer turns -/
def upd (v : Nat → Int) (q : Nat) (x : Int) (p : Nat) : Int := if p = q then x else v p
def okV (n : Nat) (v : Nat → Int) (m : Nat) : Prop := (∀ p, p < m → 0 ≤ v p ∧ (v p).toNat < max 1 n) ∧ ∀ p q, p < m → q < m → v p = v q → v p ≠ 0 → p = q
theorem okV.upd {n m : Nat} {v : Nat → Int} (h : okV n v m) {q : Nat} {x : Int} (h0 : 0 < x) (hn : x < n) (hv : ∀ p, p < m → v p ≠ x) : okV n (upd v q x) m := by
  refine ⟨fun p hp => ?_, fun p r hp hr e hne => ?_⟩
  · unfold Bg.upd
    split
    · omega
    · exact h.1 p hp
  · unfold Bg.upd at e hne
    split at e <;> split at e
    · omega
    · exact absurd e.symm (hv r hr)
    · exact absurd e (hv p hp)
    · rename_i h1 h2
      rw [if_neg h1] at hne
      exact h.2 p r hp hr e hne
theorem okV.congr {n m : Nat} {v v' : Nat → Int} (h : okV n v m) (e : ∀ p, p < m → v' p = v p) : okV n v' m :=
  ⟨fun p hp => by rw [e p hp]; exact h.1 p hp, fun p q hp hq he hne => h.2 p q hp hq (by rw [← e p hp, ← e q hq]; exact he) (by rw [← e p hp]; exact hne)⟩
theorem okU_iff {D : List (List Int)} {t : List Int} {m : Nat} : okU D t m ↔ okV D.length (val D t) m := Iff.rfl

theorem at2_set (D : List (List Int)) (f : Nat) (r : List Int) (b : Int) (i : Nat) (hf : f < D.length) : at2 (D.set f r) b i = if b.toNat = f then r.getD i 0 else at2 D b i := by
  unfold at2
  simp only [List.getD_eq_getElem?_getD, List.getElem?_set]
  by_cases h : f = b.toNat
  · subst h
    simp [hf]
  · have h' : ¬ b.toNat = f := fun e => h e.symm
    simp [h, h']
/-- A block that nothing points to may be turned. -/
theorem val_far {D : List (List Int)} {t : List Int} {f : Nat} {r : List Int} (hf : f < D.length) (h : ∀ p, p < 1096 → inP p → val D t p ≠ 0 → (val D t p).toNat ≠ f) : ∀ p, p < 1096 → val (D.set f r) t p = val D t p := by
  intro p
  induction p using Nat.strongRecOn with
  | ind p ih =>
    intro hp
    by_cases h8 : p < 8
    · rw [val_top _ _ h8, val_top _ _ h8]
    · have h8' : 8 ≤ p := by omega
      have hl := par_lt h8' hp
      rw [val_par _ _ h8' hp, val_par D _ h8' hp, ih _ hl (by omega)]
      split
      · rfl
      · rename_i hne
        rw [at2_set _ _ _ _ _ hf, if_neg (h _ (by omega) (par_in h8' hp) hne)]
/-- One of a file's own eight pointers. -/
theorem val_setT {D : List (List Int)} {t : List Int} {q : Nat} {x : Int} (ht : t.length = 8) (hq : q < 8) (h0 : tp t q = 0) (hz : inP q → ∀ i, i < 32 → at2 D x i = 0) : ∀ p, p < 1096 → val D (t.set q x) p = upd (val D t) q x p := by
  have htp : ∀ p, tp (t.set q x) p = if p = q then x else tp t p := by
    intro p
    unfold tp
    simp only [List.getD_eq_getElem?_getD, List.getElem?_set]
    by_cases e : p = q
    · subst e
      rw [if_pos rfl, if_pos rfl, if_pos (by omega)]
      rfl
    · rw [if_neg (fun h => e h.symm), if_neg e]
  intro p
  induction p using Nat.strongRecOn with
  | ind p ih =>
    intro hp
    by_cases h8 : p < 8
    · rw [val_top _ _ h8, htp]
      unfold Bg.upd
      rw [val_top _ _ h8]
    · have h8' : 8 ≤ p := by omega
      have hl := par_lt h8' hp
      have hpq : p ≠ q := by omega
      rw [val_par _ _ h8' hp, ih _ hl (by omega)]
      conv => rhs; unfold Bg.upd; rw [if_neg hpq, val_par _ _ h8' hp]
      unfold Bg.upd
      by_cases e : par p = q
      · rw [if_pos e]
        have e0 : val D t (par p) = 0 := by rw [e, val_top _ _ hq, h0]
        rw [if_pos e0]
        split
        · rfl
        · exact hz (e ▸ par_in h8' hp) _ (slot_lt h8' hp)
      · rw [if_neg e]
/-- A pointer in a block. -/
def setD (D : List (List Int)) (t : List Int) (q : Nat) (x : Int) : List (List Int) := D.set (val D t (par q)).toNat ((D.getD (val D t (par q)).toNat []).set (slot q) x)
theorem val_setD {D : List (List Int)} {t : List Int} {q : Nat} {x : Int} (hR : Rt D t) (hq : 8 ≤ q) (hq' : q < 1096) (hp0 : val D t (par q) ≠ 0) (h0 : inP q → val D t q = 0 ∧ x ≠ val D t (par q) ∧ 0 ≤ x ∧ ∀ i, i < 32 → at2 D x i = 0) : ∀ p, p < 1096 → val (setD D t q x) t p = upd (val D t) q x p := by
  obtain ⟨hW, hU⟩ := hR
  have hpl := par_lt hq hq'
  have hb := hU.1 (par q) (by omega)
  have hbl : (val D t (par q)).toNat < D.length := by omega
  have hrow : (D.getD (val D t (par q)).toNat []).length = 32 := by
    rw [List.getD_eq_getElem?_getD, List.getElem?_eq_getElem hbl]
    exact hW.2 _ (List.getElem_mem hbl)
  have hsl := slot_lt hq hq'
  intro p
  induction p using Nat.strongRecOn with
  | ind p ih =>
    intro hp
    by_cases h8 : p < 8
    · rw [val_top _ _ h8]
      unfold Bg.upd
      rw [if_neg (by omega), val_top _ _ h8]
    · have h8' : 8 ≤ p := by omega
      have hl := par_lt h8' hp
      rw [val_par _ _ h8' hp, ih _ hl (by omega)]
      by_cases epq : p = q
      · subst epq
        have e1 : upd (val D t) p x (par p) = val D t (par p) := by unfold Bg.upd; rw [if_neg (by omega)]
        rw [e1, if_neg hp0]
        unfold setD
        rw [at2_set _ _ _ _ _ hbl, if_pos rfl]
        unfold Bg.upd
        rw [if_pos rfl, List.getD_eq_getElem?_getD, List.getElem?_set, if_pos rfl, if_pos (by omega)]
        rfl
      · conv => rhs; unfold Bg.upd; rw [if_neg epq, val_par _ _ h8' hp]
        by_cases e : par p = q
        · have e1 : upd (val D t) q x (par p) = x := by unfold Bg.upd; rw [if_pos e]
          have hin := par_in h8' hp
          rw [e] at hin
          obtain ⟨g1, g2, g3, g4⟩ := h0 hin
          rw [e1, e, g1, if_pos rfl]
          split
          · rfl
          · unfold setD
            rw [at2_set _ _ _ _ _ hbl, if_neg (by omega)]
            exact g4 _ (slot_lt h8' hp)
        · have e1 : upd (val D t) q x (par p) = val D t (par p) := by unfold Bg.upd; rw [if_neg e]
          rw [e1]
          split
          · rfl
          · rename_i hne
            unfold setD
            rw [at2_set _ _ _ _ _ hbl]
            split
            · rename_i et
              have hbp := hU.1 (par p) (by omega)
              have ev : val D t (par p) = val D t (par q) := by omega
              have epp := hU.2 (par p) (par q) (by omega) (by omega) ev hne
              have hss : slot p ≠ slot q := fun es => epq (par_inj h8' hp hq hq' epp es)
              rw [List.getD_eq_getElem?_getD, List.getElem?_set, if_neg (fun h => hss h.symm), ev]
              unfold at2
              simp only [List.getD_eq_getElem?_getD]
            · rfl
theorem setD_len (D : List (List Int)) (t : List Int) (q : Nat) (x : Int) : (setD D t q x).length = D.length := by simp [setD]
theorem whole_set {D : List (List Int)} (h : whole D) {f : Nat} {r : List Int} (hr : f < D.length → r.length = 32) : whole (D.set f r) := by
  refine ⟨by simpa using h.1, fun b hb => ?_⟩
  by_cases hf : f < D.length
  · rcases List.mem_or_eq_of_mem_set hb with h1 | rfl
    · exact h.2 b h1
    · exact hr hf
  · rw [List.set_eq_of_length_le (by omega)] at hb
    exact h.2 b hb
theorem whole_setD {D : List (List Int)} (h : whole D) (t : List Int) (q : Nat) (x : Int) : whole (setD D t q x) := by
  refine whole_set h fun hf => ?_
  rw [List.length_set, List.getD_eq_getElem?_getD, List.getElem?_eq_getElem hf]
  exact h.2 _ (List.getElem_mem hf)
end Go.Sel.Bg
