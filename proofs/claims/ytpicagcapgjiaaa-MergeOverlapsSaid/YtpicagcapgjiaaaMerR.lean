/- What Deps and Expand compute, plainly. No program in sight. -/
import Derived.Test.YtpicagcapgjiaaaMerQ
set_option linter.unusedSimpArgs false
set_option linter.unusedVariables false
namespace Go.Sel.Mer
open Go.Sel.Gra

theorem nodup_le : ∀ (n : Nat) (l : List Int), l.Nodup → (∀ x ∈ l, 0 ≤ x ∧ x < (n : Int)) → l.length ≤ n
  | 0, l, _, h => by
    cases l with
    | nil => simp
    | cons a l => have := h a (by simp); omega
  | n + 1, l, hn, h => by
    have h1 := nodup_le n (l.erase (n : Int)) (hn.erase _) (fun x hx => by
      have h2 := (hn.mem_erase_iff).1 hx
      have := h x h2.2
      have := h2.1
      omega)
    have := List.length_erase (a := (n : Int)) (l := l)
    split at this <;> omega
theorem sort_ext {l m : List Int} (hn : l.Nodup) (hm : m.Pairwise (· < ·)) (h : ∀ a, a ∈ l ↔ a ∈ m) : (l.mergeSort fun x y => decide (x ≤ y)) = m := by
  have hp : (l.mergeSort fun x y => decide (x ≤ y)).Pairwise (· ≤ ·) := by
    have := List.pairwise_mergeSort (le := fun x y : Int => decide (x ≤ y)) (fun a b c h1 h2 => by simp at *; omega) (fun a b => by simp; omega) l
    exact this.imp (fun h => by simpa using h)
  have hperm := List.mergeSort_perm l (fun x y => decide (x ≤ y))
  have hnd : (l.mergeSort fun x y => decide (x ≤ y)).Nodup := hperm.nodup_iff.2 hn
  have hlt : (l.mergeSort fun x y => decide (x ≤ y)).Pairwise (· < ·) := (List.pairwise_and_iff.2 ⟨hp, hnd⟩).imp (fun h => by omega)
  exact sorted_ext hlt hm (fun a => by rw [hperm.mem_iff, h])

/-- The group of an item's number. -/
def gAt (gl : List Nat) (d : Int) : Int := (gl.getD d.toNat 0 : Int)
def addD (gl : List Nat) (g : Nat) (acc : List Int) (d : Int) : List Int := if gAt gl d ≠ (g : Int) ∧ gAt gl d ∉ acc then acc ++ [gAt gl d] else acc
def accI (gl : List Nat) (g : Nat) (acc ds : List Int) : List Int := ds.foldl (addD gl g) acc
def accR (L : List It) (gl : List Nat) (g : Nat) (acc is : List Int) : List Int := is.foldl (fun acc i => accI gl g acc (nthI L i.toNat).ds) acc
theorem accI_snoc (gl : List Nat) (g : Nat) (acc ds : List Int) (d : Int) : accI gl g acc (ds ++ [d]) = addD gl g (accI gl g acc ds) d := by simp [accI]
theorem accR_snoc (L : List It) (gl : List Nat) (g : Nat) (acc is : List Int) (i : Int) : accR L gl g acc (is ++ [i]) = accI gl g (accR L gl g acc is) (nthI L i.toNat).ds := by simp [accR]
theorem mem_accI {gl : List Nat} {g : Nat} {x : Int} : ∀ {ds acc : List Int}, x ∈ accI gl g acc ds ↔ x ∈ acc ∨ (x ≠ (g : Int) ∧ ∃ d ∈ ds, gAt gl d = x)
  | [], acc => by simp [accI]
  | d :: ds, acc => by
    have ih := mem_accI (gl := gl) (g := g) (x := x) (ds := ds) (acc := addD gl g acc d)
    have e : accI gl g acc (d :: ds) = accI gl g (addD gl g acc d) ds := rfl
    rw [e, ih]
    unfold addD
    split
    · rename_i h
      rw [List.mem_append, List.mem_singleton]
      simp only [List.mem_cons]
      constructor
      · rintro ((h1 | h1) | ⟨h1, d', h2, h3⟩)
        · exact .inl h1
        · subst h1; exact .inr ⟨h.1, d, .inl rfl, rfl⟩
        · exact .inr ⟨h1, d', .inr h2, h3⟩
      · rintro (h1 | ⟨h1, d', h2 | h2, h3⟩)
        · exact .inl (.inl h1)
        · subst h2; exact .inl (.inr h3.symm)
        · exact .inr ⟨h1, d', h2, h3⟩
    · rename_i h
      constructor
      · rintro (h1 | ⟨h1, d', h2, h3⟩)
        · exact .inl h1
        · exact .inr ⟨h1, d', by simp [h2], h3⟩
      · rintro (h1 | ⟨h1, d', h2, h3⟩)
        · exact .inl h1
        · rcases List.mem_cons.1 h2 with h2 | h2
          · subst h2
            left
            apply Classical.byContradiction
            intro hn
            exact h ⟨by rw [h3]; exact h1, by rw [h3]; exact hn⟩
          · exact .inr ⟨h1, d', h2, h3⟩
theorem mem_accR {L : List It} {gl : List Nat} {g : Nat} {x : Int} : ∀ {is acc : List Int}, x ∈ accR L gl g acc is ↔ x ∈ acc ∨ (x ≠ (g : Int) ∧ ∃ i ∈ is, ∃ d ∈ (nthI L i.toNat).ds, gAt gl d = x)
  | [], acc => by simp [accR]
  | i :: is, acc => by
    have ih := mem_accR (L := L) (gl := gl) (g := g) (x := x) (is := is) (acc := accI gl g acc (nthI L i.toNat).ds)
    have e : accR L gl g acc (i :: is) = accR L gl g (accI gl g acc (nthI L i.toNat).ds) is := rfl
    rw [e, ih, mem_accI]
    constructor
    · rintro ((h | ⟨h, d, h1, h2⟩) | ⟨h, j, h1, h2⟩)
      · exact .inl h
      · exact .inr ⟨h, i, by simp, d, h1, h2⟩
      · exact .inr ⟨h, j, by simp [h1], h2⟩
    · rintro (h | ⟨h, j, h1, h2⟩)
      · exact .inl (.inl h)
      · rcases List.mem_cons.1 h1 with h1 | h1
        · subst h1; exact .inl (.inr ⟨h, h2⟩)
        · exact .inr ⟨h, j, h1, h2⟩
theorem nodup_accI {gl : List Nat} {g : Nat} : ∀ {ds acc : List Int}, acc.Nodup → (accI gl g acc ds).Nodup
  | [], acc, h => h
  | d :: ds, acc, h => by
    have e : accI gl g acc (d :: ds) = accI gl g (addD gl g acc d) ds := rfl
    rw [e]
    apply nodup_accI
    unfold addD
    split
    · rename_i h1
      rw [List.nodup_append]
      refine ⟨h, by simp, fun a ha b hb => ?_⟩
      simp at hb
      subst hb
      rintro rfl
      exact h1.2 ha
    · exact h
theorem nodup_accR {L : List It} {gl : List Nat} {g : Nat} : ∀ {is acc : List Int}, acc.Nodup → (accR L gl g acc is).Nodup
  | [], acc, h => h
  | i :: is, acc, h => by
    have e : accR L gl g acc (i :: is) = accR L gl g (accI gl g acc (nthI L i.toNat).ds) is := rfl
    rw [e]
    exact nodup_accR (nodup_accI h)
/-- The groups that must come ahead of group g, as they are found; and rising. -/
def depRow (L : List It) (g : Nat) : List Int := accR L (gls L L.length) g [] (rowOf (gls L L.length) g)
def depS (L : List It) (g : Nat) : List Int := ((List.range (cnt L L.length)).filter fun h : Nat => decide ((h : Int) ∈ depRow L g)).map fun h : Nat => (h : Int)
theorem gAt_lt {L : List It} {d : Int} (h : 0 ≤ d ∧ d < (L.length : Int)) : 0 ≤ gAt (gls L L.length) d ∧ gAt (gls L L.length) d < (cnt L L.length : Int) := by
  have := gls_lt L L.length d.toNat (by omega)
  unfold gAt
  omega
theorem ds_lt {L : List It} (hr : mrightB L = true) {i : Nat} (hi : i < L.length) {d : Int} (hd : d ∈ (nthI L i).ds) : 0 ≤ d ∧ d < (i : Int) := by
  have h := (mright_iff.1 hr).2.2
  rw [← nth_depsL hi] at hd
  have := right_mem h hd
  exact ⟨this.1, this.2.1⟩
theorem row_nat {L : List It} {g : Nat} {i : Int} (h : i ∈ rowOf (gls L L.length) g) : 0 ≤ i ∧ i < (L.length : Int) ∧ gAt (gls L L.length) i = (g : Int) := by
  obtain ⟨m, rfl, h1, h2⟩ := mem_rowOf.1 h
  rw [gls_length] at h1
  refine ⟨by omega, by omega, ?_⟩
  unfold gAt
  rw [Int.toNat_natCast, h2]
theorem mem_depRow {L : List It} {g : Nat} {x : Int} : x ∈ depRow L g ↔ x ≠ (g : Int) ∧ ∃ i ∈ rowOf (gls L L.length) g, ∃ d ∈ (nthI L i.toNat).ds, gAt (gls L L.length) d = x := by
  rw [depRow, mem_accR]; simp
theorem depRow_lt {L : List It} (hr : mrightB L = true) {g : Nat} {x : Int} (h : x ∈ depRow L g) : 0 ≤ x ∧ x < (cnt L L.length : Int) := by
  obtain ⟨_, i, h1, d, h2, rfl⟩ := mem_depRow.1 h
  have h3 := row_nat h1
  have h4 := ds_lt hr (by omega) h2
  exact gAt_lt (by omega)
theorem depRow_nodup (L : List It) (g : Nat) : (depRow L g).Nodup := nodup_accR List.nodup_nil
theorem depS_sorted (L : List It) (g : Nat) : (depS L g).Pairwise (· < ·) := by
  unfold depS
  rw [List.pairwise_map]
  exact (List.pairwise_lt_range.filter _).imp (fun h => by omega)
theorem mem_depS {L : List It} (hr : mrightB L = true) {g : Nat} {x : Int} : x ∈ depS L g ↔ x ∈ depRow L g := by
  unfold depS
  rw [List.mem_map]
  constructor
  · rintro ⟨h, h1, rfl⟩
    simpa using (List.mem_filter.1 h1).2
  · intro h
    have := depRow_lt hr h
    refine ⟨x.toNat, List.mem_filter.2 ⟨by simp; omega, ?_⟩, by omega⟩
    have e : ((x.toNat : Nat) : Int) = x := by omega
    rw [e]; simpa using h
theorem sort_depRow {L : List It} (hr : mrightB L = true) (g : Nat) : ((depRow L g).mergeSort fun x y => decide (x ≤ y)) = depS L g := sort_ext (depRow_nodup L g) (depS_sorted L g) (fun a => (mem_depS hr).symm)
theorem depS_length (L : List It) (g : Nat) : (depS L g).length ≤ cnt L L.length := by
  rw [depS, List.length_map]
  exact Nat.le_trans (List.length_filter_le _ _) (by simp)
theorem accR_le {L : List It} (hr : mrightB L = true) {g : Nat} {is : List Int} (h : ∀ i ∈ is, i ∈ rowOf (gls L L.length) g) : (accR L (gls L L.length) g [] is).length ≤ cnt L L.length := by
  refine nodup_le _ _ (nodup_accR List.nodup_nil) fun x hx => ?_
  rcases mem_accR.1 hx with h0 | ⟨_, i, h1, d, h2, rfl⟩
  · simp at h0
  · have h3 := row_nat (h i h1)
    have h4 := ds_lt hr (by omega) h2
    exact gAt_lt (by omega)
theorem accI_le {L : List It} (hr : mrightB L = true) {g : Nat} {is : List Int} (h : ∀ i ∈ is, i ∈ rowOf (gls L L.length) g) {i : Int} (hi : i ∈ rowOf (gls L L.length) g) {t : Nat} : (accI (gls L L.length) g (accR L (gls L L.length) g [] is) ((nthI L i.toNat).ds.take t)).length ≤ cnt L L.length := by
  refine nodup_le _ _ (nodup_accI (nodup_accR List.nodup_nil)) fun x hx => ?_
  rcases mem_accI.1 hx with h0 | ⟨_, d, h2, rfl⟩
  · rcases mem_accR.1 h0 with h0 | ⟨_, i, h1, d, h2, rfl⟩
    · simp at h0
    · have h3 := row_nat (h i h1)
      have h4 := ds_lt hr (by omega) h2
      exact gAt_lt (by omega)
  · have h3 := row_nat hi
    have h4 := ds_lt hr (by omega) (List.mem_of_mem_take h2)
    exact gAt_lt (by omega)
/-- What Deps answers. -/
def mdepsL (L : List It) : List (List Int) := if mrightB L then (List.range (cnt L L.length)).map (depS L) else []

/-! ### Expand -/
def expK (gl : List Nat) (s : List Int) (a t : Nat) : List Int := ((List.range a).flatMap fun g : Nat => if (g : Int) ∈ s then rowOf gl g else []) ++ (if (a : Int) ∈ s then (rowOf gl a).take t else [])
theorem expK_next (gl : List Nat) (s : List Int) (a : Nat) : expK gl s (a + 1) 0 = expK gl s a (rowOf gl a).length := by
  unfold expK
  rw [List.range_succ, List.flatMap_append]
  simp
theorem mem_expK {gl : List Nat} {s : List Int} {a : Nat} {x : Int} : x ∈ expK gl s a 0 ↔ ∃ g, g < a ∧ (g : Int) ∈ s ∧ x ∈ rowOf gl g := by
  unfold expK
  simp only [List.take_zero, ite_self, List.append_nil, List.mem_flatMap, List.mem_range]
  constructor
  · rintro ⟨g, h1, h2⟩
    split at h2
    · rename_i h; exact ⟨g, h1, h, h2⟩
    · simp at h2
  · rintro ⟨g, h1, h2, h3⟩
    exact ⟨g, h1, by rw [if_pos h2]; exact h3⟩
theorem nodup_expK (gl : List Nat) (s : List Int) (a : Nat) : (expK gl s a 0).Nodup := by
  unfold expK
  simp only [List.take_zero, ite_self, List.append_nil]
  rw [List.Nodup, List.pairwise_flatMap]
  refine ⟨fun g _ => ?_, ?_⟩
  · split
    · exact (rowOf_sorted gl g).imp (fun h => by omega)
    · exact List.Pairwise.nil
  · refine List.pairwise_lt_range.imp ?_
    intro g h hgh x hx y hy
    split at hx <;> split at hy
    · obtain ⟨m, rfl, _, h2⟩ := mem_rowOf.1 hx
      obtain ⟨m', rfl, _, h4⟩ := mem_rowOf.1 hy
      intro e
      have : m = m' := by omega
      subst this
      omega
    all_goals simp at *
/-- The items of some groups. -/
def expandL (L : List It) (s : List Int) : List Int := if mrightB L then ((List.range L.length).filter fun i : Nat => decide (gAt (gls L L.length) (i : Int) ∈ s)).map fun i : Nat => (i : Int) else []
theorem sort_exp {L : List It} (hr : mrightB L = true) (s : List Int) : ((expK (gls L L.length) s (cnt L L.length) 0).mergeSort fun x y => decide (x ≤ y)) = expandL L s := by
  rw [expandL, if_pos hr]
  refine sort_ext (nodup_expK _ _ _) ?_ fun x => ?_
  · rw [List.pairwise_map]
    exact (List.pairwise_lt_range.filter _).imp (fun h => by omega)
  · rw [mem_expK, List.mem_map]
    constructor
    · rintro ⟨g, h1, h2, h3⟩
      have h4 := row_nat h3
      refine ⟨x.toNat, List.mem_filter.2 ⟨by simp; omega, ?_⟩, by omega⟩
      have e : ((x.toNat : Nat) : Int) = x := by omega
      rw [e, h4.2.2]; simpa using h2
    · rintro ⟨i, h1, rfl⟩
      obtain ⟨h1, h2⟩ := List.mem_filter.1 h1
      have hi : i < L.length := by simpa using h1
      refine ⟨(gls L L.length).getD i 0, gls_lt L _ i hi, by simpa [gAt] using h2, mem_rowOf.2 ⟨i, rfl, by rw [gls_length]; exact hi, rfl⟩⟩
theorem exp_le {L : List It} (s : List Int) (a : Nat) : (expK (gls L L.length) s a 0).length ≤ L.length := by
  refine nodup_le _ _ (nodup_expK _ _ _) fun x hx => ?_
  obtain ⟨g, _, _, h⟩ := mem_expK.1 hx
  have := row_nat h
  omega
theorem exp_le2 {L : List It} (s : List Int) (a t : Nat) : (expK (gls L L.length) s a t).length ≤ L.length := by
  refine Nat.le_trans ?_ (exp_le s (a + 1))
  rw [expK_next]
  unfold expK
  rw [List.length_append, List.length_append]
  split
  · rw [List.length_take, List.take_length]; omega
  · simp
end Go.Sel.Mer
