/- What the reference's groups are, plainly: the same ones, a group being named by its first item. No program in sight. -/
import Derived.Test.YtpicagcapgjiaaaMerL
set_option linter.unusedSimpArgs false
set_option linter.unusedVariables false
namespace Go.Sel.Mer
open Go.Sel.Gra

/-- What must be near: the item is in group g, or one of the first q items that are in g is behind it. -/
def nearR (D : List (List Int)) (out : List Int) (q : Nat) (g d : Int) : Bool := decide (out.getD d.toNat 0 = g) || (List.range q).any fun m => decide (out.getD m 0 = g) && bit (aheadL D m) d.toNat
/-- The name of the group of item q. -/
def nameR (L : List It) (q : Nat) (out : List Int) : Int :=
  match lastK L q (nthI L q).b with
  | none => (q : Int)
  | some p => if (nthI L q).ds.all (fun d => nearR (depsL L) out q (out.getD p 0) d) then out.getD p 0 else (q : Int)
/-- The names of the groups of the first k items. -/
def ofL (L : List It) : Nat → List Int
  | 0 => []
  | k + 1 => ofL L k ++ [nameR L k (ofL L k)]
@[simp] theorem ofL_length (L : List It) : ∀ k, (ofL L k).length = k
  | 0 => rfl
  | k + 1 => by rw [ofL, List.length_append, ofL_length L k]; rfl
theorem getD_snocI (l : List Int) (g : Int) (m : Nat) : (l ++ [g]).getD m 0 = if m < l.length then l.getD m 0 else if m = l.length then g else 0 := by
  simp only [List.getD_eq_getElem?_getD]
  by_cases h : m < l.length
  · rw [List.getElem?_append_left h, if_pos h]
  · rw [List.getElem?_append_right (by omega), if_neg h]
    by_cases e : m = l.length
    · subst e; simp
    · rw [if_neg e, List.getElem?_eq_none (by simp; omega)]; rfl
theorem all_not_any (f g : Int → Bool) : ∀ l : List Int, (∀ d ∈ l, f d = g d) → l.all f = !(l.any fun d => !g d)
  | [], _ => rfl
  | a :: l, h => by
    rw [List.all_cons, List.any_cons, all_not_any f g l (fun d hd => h d (by simp [hd])), h a (by simp)]
    cases g a <;> simp
/-- The first item of a group. -/
def firstG (gl : List Nat) (g : Nat) : Int := (rowOf gl g).headD 0
theorem firstG_snoc {gl : List Nat} {g g' : Nat} (hne : rowOf gl g' ≠ []) : firstG (gl ++ [g]) g' = firstG gl g' := by
  unfold firstG
  rw [rowOf_snoc]
  split
  · cases hr : rowOf gl g' with
    | nil => exact absurd hr hne
    | cons a t => rfl
  · rfl
theorem firstG_inj {L : List It} {k g g' : Nat} (hg : g < cnt L k) (hg' : g' < cnt L k) (h : firstG (gls L k) g = firstG (gls L k) g') : g = g' := by
  have hr := (rows_rise L k).2
  unfold firstG at h
  rcases Nat.lt_trichotomy g g' with h1 | h1 | h1
  · have := hr g g' h1 hg'; omega
  · exact h1
  · have := hr g' g h1 hg; omega
/-- An item's name is its group's first item. -/
theorem of_first {L : List It} (hr : mrightB L = true) : ∀ k, k ≤ L.length → ∀ m, m < k → (ofL L k).getD m 0 = firstG (gls L k) ((gls L k).getD m 0)
  | 0, _, m, h => by omega
  | k + 1, hk, m, h => by
    have ih := of_first hr k (by omega)
    have hl := gls_length L k
    have hlt := gls_lt L k
    have hne := (rows_rise L k).1
    have hD := (mright_iff.1 hr).2.2
    have old : ∀ g m, m < k → firstG (gls L k ++ [g]) ((gls L k ++ [g]).getD m 0) = firstG (gls L k) ((gls L k).getD m 0) := fun g m hm => by
      rw [getD_snoc, hl, if_pos hm, firstG_snoc (hne _ (hlt m hm))]
    -- near
    have hnear : ∀ p, p < k → ∀ d ∈ (nthI L k).ds, nearR (depsL L) (ofL L k) k ((ofL L k).getD p 0) d = nearB (depsL L) (gls L k) ((gls L k).getD p 0) d := fun p hp d hd => by
      have hd1 := ds_lt hr (show k < L.length by omega) hd
      have ed : ((d.toNat : Nat) : Int) = d := by omega
      have hsame : ∀ m, m < k → ((ofL L k).getD m 0 = (ofL L k).getD p 0 ↔ (gls L k).getD m 0 = (gls L k).getD p 0) := fun m hm => by
        rw [ih m hm, ih p hp]
        exact ⟨fun h => firstG_inj (hlt m hm) (hlt p hp) h, fun h => by rw [h]⟩
      rw [Bool.eq_iff_iff, near_iff, hl]
      unfold nearR
      rw [Bool.or_eq_true, decide_eq_true_eq, List.any_eq_true, hsame _ (by omega)]
      constructor
      · rintro (h1 | ⟨m, h1, h2⟩)
        · refine ⟨d.toNat, by omega, h1, ?_⟩
          rw [← ed]
          exact (mem_closeL hD).2 (.inl ⟨by rw [depsL_length]; omega, by simp⟩)
        · rw [Bool.and_eq_true, decide_eq_true_eq] at h2
          have hm : m < k := List.mem_range.1 h1
          refine ⟨m, hm, (hsame m hm).1 h2.1, ?_⟩
          rw [← ed]
          exact (mem_closeL hD).2 (.inr ⟨m, by rw [depsL_length]; omega, by simp, (bit_aheadL hD).1 h2.2⟩)
      · rintro ⟨m, h1, h2, h3⟩
        rw [← ed] at h3
        rcases (mem_closeL hD).1 h3 with ⟨_, h4⟩ | ⟨q', _, h4, h5⟩
        · have e : ((d.toNat : Nat) : Int) = (m : Int) := by simpa using h4
          have e' : d.toNat = m := by omega
          left; rw [e']; exact h2
        · have e : (q' : Int) = (m : Int) := by simpa using h4
          have e' : q' = m := by omega
          subst e'
          exact .inr ⟨q', List.mem_range.2 h1, by rw [Bool.and_eq_true, decide_eq_true_eq]; exact ⟨(hsame q' h1).2 h2, (bit_aheadL hD).2 h5⟩⟩
    have hall : ∀ p, p < k → ((nthI L k).ds.all (fun d => nearR (depsL L) (ofL L k) k ((ofL L k).getD p 0) d)) = !((nthI L k).ds.any fun d => !nearB (depsL L) (gls L k) ((gls L k).getD p 0) d) := fun p hp => all_not_any _ _ _ (hnear p hp)
    rw [ofL, getD_snocI, ofL_length]
    cases hj : joinG L k (gls L k) with
    | none =>
      have e1 : gls L (k + 1) = gls L k ++ [cnt L k] := by show (gSt L (k + 1)).1 = _; rw [gSt_new hj]
      rw [e1]
      by_cases c : m < k
      · rw [if_pos c, old _ m c]; exact ih m c
      · have : m = k := by omega
        subst this
        rw [if_neg c, if_pos rfl, getD_snoc, hl, if_neg c, if_pos rfl]
        have e2 : firstG (gls L m ++ [cnt L m]) (cnt L m) = (m : Int) := by
          unfold firstG
          rw [rowOf_snoc, if_pos rfl, rowOf_cnt, hl]; rfl
        rw [e2]
        unfold joinG at hj
        unfold nameR
        split at hj
        · rename_i hp; rw [hp]
        · rename_i p hp
          rw [hp]
          have hpk := (lastK_lt hp).1
          split at hj
          · rename_i hany
            simp only
            rw [hall p hpk, hany]; rfl
          · cases hj
    | some g0 =>
      have e1 : gls L (k + 1) = gls L k ++ [g0] := by show (gSt L (k + 1)).1 = _; rw [gSt_join hj]
      rw [e1]
      by_cases c : m < k
      · rw [if_pos c, old _ m c]; exact ih m c
      · have : m = k := by omega
        subst this
        obtain ⟨hg0, p, hp, hpg⟩ := join_lt hlt hj
        have hpk := (lastK_lt hp).1
        rw [if_neg c, if_pos rfl, getD_snoc, hl, if_neg c, if_pos rfl, firstG_snoc (hne _ hg0)]
        have hany : ((nthI L m).ds.any fun d => !nearB (depsL L) (gls L m) ((gls L m).getD p 0) d) = false := by
          unfold joinG at hj
          rw [hp] at hj
          simp only at hj
          split at hj
          · cases hj
          · rename_i h; simpa using h
        unfold nameR
        rw [hp]
        simp only
        rw [hall p hpk, hany]
        rw [if_pos (show (!false) = true from rfl), ih p hpk, hpg]
end Go.Sel.Mer
