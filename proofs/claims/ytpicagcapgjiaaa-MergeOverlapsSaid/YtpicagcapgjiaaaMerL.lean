/- Laws of the groups, plainly. No program in sight. -/
import Derived.Test.YtpicagcapgjiaaaMerR
set_option linter.unusedSimpArgs false
set_option linter.unusedVariables false
namespace Go.Sel.Mer
open Go.Sel.Gra

theorem rowOf_lt {gl : List Nat} {g : Nat} {a : Int} (h : a ∈ rowOf gl g) : 0 ≤ a ∧ a < (gl.length : Int) := by
  obtain ⟨m, rfl, h1, _⟩ := mem_rowOf.1 h; omega
/-- Groups have items, and come one behind the other by their first ones. -/
theorem rows_rise (L : List It) : ∀ k, (∀ g, g < cnt L k → rowOf (gls L k) g ≠ []) ∧ ∀ g g', g < g' → g' < cnt L k → (rowOf (gls L k) g).headD 0 < (rowOf (gls L k) g').headD 0
  | 0 => ⟨fun g h => by simp [cnt, gSt] at h, fun g g' _ h => by simp [cnt, gSt] at h⟩
  | k + 1 => by
    obtain ⟨h1, h2⟩ := rows_rise L k
    have hl := gls_length L k
    cases hj : joinG L k (gls L k) with
    | some g0 =>
      have e1 : gls L (k + 1) = gls L k ++ [g0] := by show (gSt L (k + 1)).1 = _; rw [gSt_join hj]
      have e2 : cnt L (k + 1) = cnt L k := by show (gSt L (k + 1)).2 = _; rw [gSt_join hj]
      have hh : ∀ g, g < cnt L k → rowOf (gls L (k + 1)) g ≠ [] ∧ (rowOf (gls L (k + 1)) g).headD 0 = (rowOf (gls L k) g).headD 0 := fun g hg => by
        rw [e1, rowOf_snoc]
        have hne := h1 g hg
        split
        · refine ⟨by simp, ?_⟩
          cases hr : rowOf (gls L k) g with
          | nil => exact absurd hr hne
          | cons a t => rfl
        · exact ⟨hne, rfl⟩
      rw [e2]
      refine ⟨fun g hg => (hh g hg).1, fun g g' hgg hg' => ?_⟩
      rw [(hh g (by omega)).2, (hh g' hg').2]
      exact h2 g g' hgg hg'
    | none =>
      have e1 : gls L (k + 1) = gls L k ++ [cnt L k] := by show (gSt L (k + 1)).1 = _; rw [gSt_new hj]
      have e2 : cnt L (k + 1) = cnt L k + 1 := by show (gSt L (k + 1)).2 = _; rw [gSt_new hj]
      have old : ∀ g, g < cnt L k → rowOf (gls L (k + 1)) g = rowOf (gls L k) g := fun g hg => by
        rw [e1, rowOf_snoc, if_neg (by omega)]
      have new : rowOf (gls L (k + 1)) (cnt L k) = [(k : Int)] := by
        rw [e1, rowOf_snoc, if_pos rfl, rowOf_cnt, hl]; rfl
      rw [e2]
      refine ⟨fun g hg => ?_, fun g g' hgg hg' => ?_⟩
      · by_cases e : g = cnt L k
        · subst e; rw [new]; simp
        · rw [old g (by omega)]; exact h1 g (by omega)
      · rw [old g (by omega)]
        by_cases e : g' = cnt L k
        · subst e
          rw [new]
          have hne := h1 g (by omega)
          cases hr : rowOf (gls L k) g with
          | nil => exact absurd hr hne
          | cons a t =>
            have := rowOf_lt (gl := gls L k) (g := g) (a := a) (by rw [hr]; simp)
            simp
            omega
        · rw [old g' (by omega)]
          exact h2 g g' hgg (by omega)
/-- The items of a group write one block. -/
theorem same_block (L : List It) : ∀ k m m', m < k → m' < k → (gls L k).getD m 0 = (gls L k).getD m' 0 → (nthI L m).b = (nthI L m').b
  | 0, m, m', h, _, _ => by omega
  | k + 1, m, m', h, h', he => by
    have ih := same_block L k
    have hl := gls_length L k
    have hlt := gls_lt L k
    cases hj : joinG L k (gls L k) with
    | some g0 =>
      have e1 : gls L (k + 1) = gls L k ++ [g0] := by show (gSt L (k + 1)).1 = _; rw [gSt_join hj]
      obtain ⟨_, p, hp, hpg⟩ := join_lt hlt hj
      have hpb := lastK_lt hp
      rw [e1, getD_snoc, getD_snoc, hl] at he
      by_cases c : m < k
      · rw [if_pos c] at he
        by_cases c' : m' < k
        · rw [if_pos c'] at he; exact ih m m' c c' he
        · have : m' = k := by omega
          subst this
          rw [if_neg c', if_pos rfl] at he
          rw [← hpb.2]
          exact ih m p c hpb.1 (he.trans hpg.symm)
      · have : m = k := by omega
        subst this
        rw [if_neg c, if_pos rfl] at he
        by_cases c' : m' < m
        · rw [if_pos c'] at he
          rw [← hpb.2]
          exact ih p m' hpb.1 c' (hpg.trans he)
        · have : m' = m := by omega
          subst this; rfl
    | none =>
      have e1 : gls L (k + 1) = gls L k ++ [cnt L k] := by show (gSt L (k + 1)).1 = _; rw [gSt_new hj]
      rw [e1, getD_snoc, getD_snoc, hl] at he
      by_cases c : m < k
      · rw [if_pos c] at he
        by_cases c' : m' < k
        · rw [if_pos c'] at he; exact ih m m' c c' he
        · have : m' = k := by omega
          subst this
          rw [if_neg c', if_pos rfl] at he
          have := hlt m c
          omega
      · have : m = k := by omega
        subst this
        rw [if_neg c, if_pos rfl] at he
        by_cases c' : m' < m
        · rw [if_pos c'] at he
          have := hlt m' c'
          omega
        · have : m' = m := by omega
          subst this; rfl
/-- What must come ahead of an item is in its group, or in an elder one. -/
theorem ahead_group {L : List It} (hr : mrightB L = true) : ∀ k m d, k ≤ L.length → m < k → Ahead (depsL L) m d → (gls L k).getD d 0 ≤ (gls L k).getD m 0
  | 0, m, d, _, h, _ => by omega
  | k + 1, m, d, hk, hm, ha => by
    have hD := (mright_iff.1 hr).2.2
    have ih := ahead_group hr k
    have hl := gls_length L k
    have hlt := gls_lt L k
    have hdm := Ahead.lt hD ha
    cases hj : joinG L k (gls L k) with
    | none =>
      have e1 : gls L (k + 1) = gls L k ++ [cnt L k] := by show (gSt L (k + 1)).1 = _; rw [gSt_new hj]
      rw [e1, getD_snoc, getD_snoc, hl, if_pos (show d < k by omega)]
      by_cases c : m < k
      · rw [if_pos c]; exact ih m d (by omega) c ha
      · rw [if_neg c, if_pos (by omega)]
        have := hlt d (by omega)
        omega
    | some g0 =>
      have e1 : gls L (k + 1) = gls L k ++ [g0] := by show (gSt L (k + 1)).1 = _; rw [gSt_join hj]
      rw [e1, getD_snoc, getD_snoc, hl, if_pos (show d < k by omega)]
      by_cases c : m < k
      · rw [if_pos c]; exact ih m d (by omega) c ha
      · have : m = k := by omega
        subst this
        rw [if_neg c, if_pos rfl]
        -- all deps of k are near g0
        have near : ∀ e : Nat, (e : Int) ∈ nth (depsL L) m → (gls L m).getD e 0 ≤ g0 := fun e he => by
          have hj' := hj
          unfold joinG at hj'
          split at hj'
          · cases hj'
          · rename_i p hp
            split at hj'
            · cases hj'
            · rename_i hany
              have hg : (gls L m).getD p 0 = g0 := by simpa using hj'
              rw [nth_depsL (by omega)] at he
              have hn : nearB (depsL L) (gls L m) ((gls L m).getD p 0) (e : Int) = true := by
                cases h : nearB (depsL L) (gls L m) ((gls L m).getD p 0) (e : Int) with
                | true => rfl
                | false => exact absurd (List.any_eq_true.2 ⟨_, he, by rw [h]; rfl⟩) hany
              rw [hg] at hn
              obtain ⟨q, hq1, hq2, hq3⟩ := near_iff.1 hn
              rw [hl] at hq1
              rcases (mem_closeL hD).1 hq3 with ⟨_, h4⟩ | ⟨q', _, h4, h5⟩
              · have h4' : (e : Int) = (q : Int) := by simpa using h4
                have : e = q := by omega
                subst this; omega
              · have h4' : (q' : Int) = (q : Int) := by simpa using h4
                have : q' = q := by omega
                subst this
                have := ih q' e (by omega) hq1 h5
                omega
        cases ha with
        | one h => exact near d h
        | more h h2 => 
          rename_i c
          have h3 := near _ h
          have h4 := right_mem hD h
          have h5 := ih _ d (by omega) (by omega) h2
          omega
/-! ### Parts -/
theorem nth_mdeps {L : List It} (hr : mrightB L = true) {g : Nat} (h : g < cnt L L.length) : nth (mdepsL L) g = depS L g := by
  rw [mdepsL, if_pos hr]
  simp [nth, List.getD_eq_getElem?_getD, h]
theorem mdepsL_length {L : List It} (hr : mrightB L = true) : (mdepsL L).length = cnt L L.length := by simp [mdepsL, hr]
theorem groupsL_length {L : List It} (hr : mrightB L = true) : (groupsL L).length = cnt L L.length := by simp [groupsL, hr]
theorem nth_groupsL {L : List It} (hr : mrightB L = true) {g : Nat} (h : g < cnt L L.length) : nth (groupsL L) g = rowOf (gls L L.length) g := by rw [groupsL, if_pos hr, nth_groupsK h]
theorem mright_len {L : List It} (hr : mrightB L = true) : L.length ≤ 64 := (mright_iff.1 hr).1
/-- What a group needs is elder than it. -/
theorem depS_lt {L : List It} (hr : mrightB L = true) {g : Nat} {x : Int} (h : x ∈ depS L g) : 0 ≤ x ∧ x < (g : Int) := by
  obtain ⟨hne, i, h1, d, h2, h3⟩ := mem_depRow.1 ((mem_depS hr).1 h)
  have h4 := row_nat h1
  have h5 := ds_lt hr (by omega) h2
  have h6 := ahead_group hr L.length i.toNat d.toNat (Nat.le_refl _) (by omega) (.one (by rw [nth_depsL (by omega)]; have e : ((d.toNat : Nat) : Int) = d := by omega
                                                                                          rw [e]; exact h2))
  unfold gAt at h3 h4
  omega
/-- What must come ahead among groups goes round nowhere. -/
theorem mdeps_right {L : List It} (hr : mrightB L = true) : rightD (mdepsL L) = true := by
  have hl := mright_len hr
  have hc := cnt_le L L.length
  rw [right_iff, mdepsL_length hr]
  refine ⟨by omega, fun i hi => ?_⟩
  rw [nth_mdeps hr hi]
  have := depS_length L i
  exact ⟨by omega, fun d hd => depS_lt hr hd⟩
/-- The items of the first a groups, and t of the next. -/
def flatK (gl : List Nat) (a t : Nat) : List Int := ((List.range a).flatMap (rowOf gl)) ++ (rowOf gl a).take t
theorem flatK_next (gl : List Nat) (a : Nat) : flatK gl (a + 1) 0 = flatK gl a (rowOf gl a).length := by
  unfold flatK
  rw [List.range_succ, List.flatMap_append]
  simp
theorem flatK_snoc (gl : List Nat) (a t : Nat) (x : Int) (h : (rowOf gl a)[t]? = some x) : flatK gl a (t + 1) = flatK gl a t ++ [x] := by
  unfold flatK
  rw [List.take_add_one, h]; simp
theorem nodup_flatK (gl : List Nat) (a : Nat) : (flatK gl a 0).Nodup := by
  unfold flatK
  rw [List.take_zero, List.append_nil, List.Nodup, List.pairwise_flatMap]
  refine ⟨fun g _ => (rowOf_sorted gl g).imp (fun h => by omega), ?_⟩
  refine List.pairwise_lt_range.imp ?_
  intro g h hgh x hx y hy e
  obtain ⟨m, rfl, _, h2⟩ := mem_rowOf.1 hx
  obtain ⟨m', rfl, _, h4⟩ := mem_rowOf.1 hy
  have : m = m' := by omega
  subst this
  omega
theorem flatK_sub (gl : List Nat) (a t : Nat) : ∃ r, flatK gl (a + 1) 0 = flatK gl a t ++ r := by
  rw [flatK_next]
  refine ⟨(rowOf gl a).drop t, ?_⟩
  unfold flatK
  rw [List.take_length, List.append_assoc, List.take_append_drop]
/-- How often each was seen. -/
def seenL (n : Nat) (F : List Int) : List Int := (List.range n).map fun m : Nat => (F.count (m : Int) : Int)
@[simp] theorem seenL_length (n : Nat) (F : List Int) : (seenL n F).length = n := by simp [seenL]
theorem seenL_nil (n : Nat) : seenL n [] = List.replicate n 0 := by
  apply List.ext_getElem
  · simp
  · intro i h1 h2; simp [seenL]
theorem seenL_get {n m : Nat} {F : List Int} (h : m < n) : (seenL n F)[m]? = some (F.count (m : Int) : Int) := by simp [seenL, h]
theorem seenL_snoc {n : Nat} {F : List Int} {x : Int} (h : 0 ≤ x ∧ x < (n : Int)) : seenL n (F ++ [x]) = (seenL n F).set x.toNat ((F.count x : Int) + 1) := by
  apply List.ext_getElem?
  intro m
  rw [List.getElem?_set]
  by_cases hm : m < n
  · rw [seenL_get hm]
    split
    · rename_i e
      subst e
      have e : ((x.toNat : Nat) : Int) = x := by omega
      rw [if_pos (by simpa using hm), e]
      simp [List.count_append]
    · rename_i e
      rw [seenL_get hm]
      have : (x == (m : Int)) = false := by simp; omega
      simp [List.count_append, List.count_cons, this]
  · rw [List.getElem?_eq_none (by simp; omega), if_neg (by omega), List.getElem?_eq_none (by simp; omega)]
theorem count_le1 {gl : List Nat} {a t : Nat} {x : Int} : (flatK gl a t).count x ≤ 1 := by
  obtain ⟨r, h⟩ := flatK_sub gl a t
  have h1 := List.nodup_iff_count.1 (nodup_flatK gl (a + 1)) x
  rw [h, List.count_append] at h1
  omega
/-- Each item is in one group. -/
theorem seen_all {L : List It} {m : Nat} (h : m < L.length) : (flatK (gls L L.length) (cnt L L.length) 0).count (m : Int) = 1 := by
  have h1 := count_le1 (gl := gls L L.length) (a := cnt L L.length) (t := 0) (x := (m : Int))
  have h2 : 0 < (flatK (gls L L.length) (cnt L L.length) 0).count (m : Int) := by
    rw [List.count_pos_iff]
    unfold flatK
    rw [List.take_zero, List.append_nil, List.mem_flatMap]
    exact ⟨_, List.mem_range.2 (gls_lt L _ m h), mem_rowOf.2 ⟨m, rfl, by rw [gls_length]; exact h, rfl⟩⟩
  omega

/-! ### Closed -/
theorem sub_le : ∀ (xs ys : List Int), xs.Nodup → (∀ x ∈ xs, x ∈ ys) → xs.length ≤ ys.length
  | [], ys, _, _ => by simp
  | a :: xs, ys, hn, h => by
    rw [List.nodup_cons] at hn
    have h1 := sub_le xs (ys.erase a) hn.2 (fun x hx => by
      have hne : x ≠ a := by rintro rfl; exact hn.1 hx
      exact (List.mem_erase_of_ne hne).2 (h x (by simp [hx])))
    have h2 := List.length_erase_of_mem (h a (by simp))
    have h3 : 0 < ys.length := List.length_pos_of_mem (h a (by simp))
    simp; omega
theorem mem_expandL {L : List It} (hr : mrightB L = true) {s : List Int} {x : Int} : x ∈ expandL L s ↔ 0 ≤ x ∧ x < (L.length : Int) ∧ gAt (gls L L.length) x ∈ s := by
  rw [expandL, if_pos hr]
  simp only [List.mem_map, List.mem_filter, List.mem_range, decide_eq_true_eq]
  constructor
  · rintro ⟨m, ⟨h1, h2⟩, rfl⟩; exact ⟨by omega, by omega, h2⟩
  · rintro ⟨h1, h2, h3⟩
    have e : ((x.toNat : Nat) : Int) = x := by omega
    exact ⟨x.toNat, ⟨by omega, by rw [e]; exact h3⟩, e⟩
/-- What is closed among groups is closed among items. -/
theorem exp_closed {L : List It} (hr : mrightB L = true) {c : List Int} (hc : closedB (mdepsL L) c = true) : closedB (depsL L) (expandL L c) = true := by
  obtain ⟨_, _, h3⟩ := closed_iff.1 hc
  refine closed_iff.2 ⟨(mright_iff.1 hr).2.2, fun i hi => ?_, fun i hi d hd => ?_⟩
  · have := (mem_expandL hr).1 hi
    rw [depsL_length]; omega
  · obtain ⟨_, h5, h6⟩ := (mem_expandL hr).1 hi
    have hil : i < L.length := by omega
    rw [nth_depsL hil] at hd
    have h7 := ds_lt hr hil hd
    refine (mem_expandL hr).2 ⟨by omega, by omega, ?_⟩
    by_cases e : gAt (gls L L.length) d = gAt (gls L L.length) (i : Int)
    · rw [e]; exact h6
    · refine h3 ((gls L L.length).getD i 0) (by simpa [gAt] using h6) _ ?_
      rw [nth_mdeps hr (gls_lt L _ i hil), mem_depS hr, mem_depRow]
      refine ⟨by simpa [gAt] using e, (i : Int), mem_rowOf.2 ⟨i, rfl, by rw [gls_length]; exact hil, rfl⟩, d, by simpa using hd, rfl⟩
theorem exp_more {L : List It} (hr : mrightB L = true) {s : List Int} : (closeL (mdepsL L) s).length ≤ (expandL L (closeL (mdepsL L) s)).length := by
  have hD := mdeps_right hr
  have hrow := rows_rise L L.length
  have hlen := mdepsL_length hr
  have hsorted : (closeL (mdepsL L) s).Pairwise (· < ·) := by
    rw [closeL, if_pos hD, thoseL, List.pairwise_map]
    exact (List.pairwise_lt_range.filter _).imp (fun h => by omega)
  have hin : ∀ g ∈ closeL (mdepsL L) s, ∃ j : Nat, g = j ∧ j < cnt L L.length := fun g hg => by
    obtain ⟨_, j, h1, h2⟩ := closeL_mem hg
    exact ⟨j, h1, by omega⟩
  have h := sub_le ((closeL (mdepsL L) s).map fun g => (rowOf (gls L L.length) g.toNat).headD 0) (expandL L (closeL (mdepsL L) s)) ?_ ?_
  · simpa using h
  · rw [List.Nodup, List.pairwise_map]
    refine hsorted.imp_of_mem ?_
    intro a b ha hb hab
    obtain ⟨j, rfl, hj⟩ := hin a ha
    obtain ⟨k, rfl, hk⟩ := hin b hb
    have := hrow.2 j k (by omega) hk
    simp only [Int.toNat_natCast]
    omega
  · intro x hx
    obtain ⟨g, hg, rfl⟩ := List.mem_map.1 hx
    obtain ⟨j, rfl, hj⟩ := hin g hg
    simp only [Int.toNat_natCast]
    have hne := hrow.1 j hj
    cases hrj : rowOf (gls L L.length) j with
    | nil => exact absurd hrj hne
    | cons a t =>
      have h4 := row_nat (L := L) (g := j) (i := a) (by rw [hrj]; simp)
      refine (mem_expandL hr).2 ⟨h4.1, h4.2.1, ?_⟩
      show gAt (gls L L.length) a ∈ _
      rw [h4.2.2]; exact hg

/-! ### Few -/
/-- Patches of one block that come behind one another. -/
structure Chain (b : Int) (R : List It) : Prop where
  len : R.length ≤ 24
  ok : ∀ i, i < R.length → prightB (nthI R i) = true ∧ (nthI R i).b = b ∧ (nthI R i).ds = if i = 0 then [] else [((i - 1 : Nat) : Int)]
theorem Chain.right {b : Int} {R : List It} (h : Chain b R) : mrightB R = true := by
  refine mright_iff.2 ⟨by have := h.len; omega, fun x hx => ?_, right_iff.2 ⟨by rw [depsL_length]; have := h.len; omega, fun i hi => ?_⟩⟩
  · obtain ⟨i, hi, rfl⟩ := List.mem_iff_getElem.1 hx
    have := (h.ok i hi).1
    rwa [nthI_get hi] at this
  · rw [depsL_length] at hi
    rw [nth_depsL hi, (h.ok i hi).2.2]
    split
    · simp
    · refine ⟨by simp, fun d hd => ?_⟩
      have : d = ((i - 1 : Nat) : Int) := by simpa using hd
      omega
theorem Chain.gls {b : Int} {R : List It} (h : Chain b R) : ∀ k, k ≤ R.length → gSt R k = (List.replicate k 0, if k = 0 then 0 else 1)
  | 0, _ => rfl
  | 1, hk => by
    have : joinG R 0 (Go.Sel.Mer.gls R 0) = none := rfl
    rw [gSt_new this]; rfl
  | k + 2, hk => by
    have ih := h.gls (k + 1) (by omega)
    have hD := (mright_iff.1 h.right).2.2
    have h1 := h.ok (k + 1) (by omega)
    have h0 := h.ok k (by omega)
    have e1 : Go.Sel.Mer.gls R (k + 1) = List.replicate (k + 1) 0 := by rw [Go.Sel.Mer.gls, ih]
    have hj : joinG R (k + 1) (Go.Sel.Mer.gls R (k + 1)) = some 0 := by
      have hlast : lastK R (k + 1) (nthI R (k + 1)).b = some k := by
        rw [lastK, if_pos (by rw [h0.2.1, h1.2.1])]
      unfold joinG
      rw [hlast]
      have e2 : (List.replicate (k + 1) 0).getD k 0 = 0 := by simp [List.getD_eq_getElem?_getD]
      have hn : nearB (depsL R) (List.replicate (k + 1) 0) 0 ((k : Nat) : Int) = true := near_iff.2 ⟨k, by simp, e2, (mem_closeL hD).2 (.inl ⟨by rw [depsL_length]; omega, by simp⟩)⟩
      rw [e1, h1.2.2, if_neg (by omega)]
      simp only [e2]
      rw [show ((k + 1 - 1 : Nat) : Int) = ((k : Nat) : Int) from rfl]
      simp [hn]
    rw [gSt_join hj, e1, cnt, ih]
    simp [List.replicate_succ']
theorem Chain.groups {b : Int} {R : List It} (h : Chain b R) (h0 : 0 < R.length) : (groupsL R).length = 1 ∧ (nth (groupsL R) 0).length = R.length := by
  have hg := h.gls R.length (Nat.le_refl _)
  have hc : cnt R R.length = 1 := by rw [cnt, hg]; exact if_neg (by omega)
  refine ⟨by rw [groupsL_length h.right, hc], ?_⟩
  rw [nth_groupsL h.right (by omega), Go.Sel.Mer.gls, hg]
  simp only [rowOf, List.length_map, List.length_replicate]
  rw [List.filter_eq_self.2]
  · simp
  · intro m hm
    simp [List.getD_eq_getElem?_getD, List.getElem?_replicate]
    split <;> rfl
theorem groupsL_le (L : List It) : (groupsL L).length ≤ L.length := by
  cases hr : mrightB L with
  | true => rw [groupsL_length hr]; exact cnt_le L _
  | false => simp [groupsL, hr]
end Go.Sel.Mer
