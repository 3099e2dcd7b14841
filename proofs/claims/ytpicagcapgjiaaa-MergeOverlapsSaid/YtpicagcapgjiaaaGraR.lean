/- Plain laws on thin deps, as the program reckons them: the greatest first. No program in sight. -/
import Derived.Test.YtpicagcapgjiaaaGraQ
namespace Go.Sel.Gra

def tStep (D : List (List Int)) (s : List Int × List Bool) (d : Int) : List Int × List Bool :=
  (if bit s.2 d.toNat then s.1 else s.1 ++ [d], markAll (thoseL (aheadL D d.toNat)) (s.2.set d.toNat true))
def tFold (D : List (List Int)) (ps : List Int) : List Int × List Bool := ps.foldl (tStep D) ([], List.replicate D.length false)
theorem tFold_snoc (D : List (List Int)) (ps : List Int) (d : Int) : tFold D (ps ++ [d]) = tStep D (tFold D ps) d := by simp [tFold]
@[simp] theorem tFold_length (D : List (List Int)) (ps : List Int) : (tFold D ps).2.length = D.length := by
  unfold tFold
  suffices h : ∀ (s : List Int × List Bool), (ps.foldl (tStep D) s).2.length = s.2.length by rw [h]; simp
  intro s
  induction ps generalizing s with
  | nil => rfl
  | cons d ps ih => rw [List.foldl_cons, ih]; simp [tStep]
theorem bit_false (n j : Nat) : bit (List.replicate n false) j = false := by
  by_cases h : j < n
  · simp [bit, List.getD_eq_getElem?_getD, h]
  · simp [bit, List.getD_eq_getElem?_getD, List.getElem?_eq_none (show (List.replicate n false).length ≤ j by simp; omega)]
theorem bit_tFold {D : List (List Int)} (hr : rightD D = true) {ps : List Int} (hp : ∀ d ∈ ps, 0 ≤ d ∧ d < (D.length : Int)) {j : Nat} :
    bit (tFold D ps).2 j = true ↔ ∃ d ∈ ps, (j : Int) = d ∨ Ahead D d.toNat j := by
  have key : ∀ (qs : List Int) (s : List Int × List Bool), s.2.length = D.length → (∀ d ∈ qs, 0 ≤ d ∧ d < (D.length : Int)) → (bit (qs.foldl (tStep D) s).2 j = true ↔ bit s.2 j = true ∨ ∃ d ∈ qs, (j : Int) = d ∨ Ahead D d.toNat j) := by
    intro qs
    induction qs with
    | nil => intro s _ _; simp
    | cons d qs ih =>
      intro s hs hq
      have hd := hq d (by simp)
      rw [List.foldl_cons, ih _ (by simp [tStep, hs]) (fun x hx => hq x (by simp [hx]))]
      have hb : bit (tStep D s d).2 j = true ↔ bit s.2 j = true ∨ (j : Int) = d ∨ Ahead D d.toNat j := by
        simp only [tStep]
        rw [bit_markAll (fun x hx => by
          obtain ⟨i, rfl, hi⟩ := mem_thoseL.1 hx
          have := ((bit_aheadL hr).1 hi).lt hr
          simp; omega)]
        rw [mem_thoseL', bit_aheadL hr, bit_set (by omega)]
        by_cases e : d.toNat = j
        · have : (j : Int) = d := by omega
          simp [e, this]
        · have : ¬ ((j : Int) = d) := by omega
          simp [e, this]
      rw [hb]
      simp only [List.mem_cons, exists_eq_or_imp, or_assoc]
  unfold tFold
  rw [key ps _ (by simp) hp]
  simp [bit_false]
/-- The numbers that the program goes through. -/
def fallL (D : List (List Int)) (i : Nat) : List Int := (thoseL (marksL (nth D i) i)).reverse
theorem mem_fallL {D : List (List Int)} (hr : rightD D = true) {i : Nat} {d : Int} : d ∈ fallL D i ↔ d ∈ nth D i := by
  rw [fallL, List.mem_reverse, mem_thoseL]
  constructor
  · rintro ⟨j, rfl, h⟩; exact (bit_marksL.1 h).2
  · intro h
    have := right_mem hr h
    exact ⟨d.toNat, by omega, bit_marksL.2 ⟨by omega, by rwa [Int.toNat_of_nonneg this.1]⟩⟩
theorem fallL_sorted (D : List (List Int)) (i : Nat) : (fallL D i).Pairwise (· > ·) := by
  rw [fallL, List.pairwise_reverse]; exact thoseL_sorted _
theorem tFold_fst {D : List (List Int)} (hr : rightD D = true) {i : Nat} : ∀ (p q : List Int), fallL D i = p ++ q → (tFold D p).1 = p.filter fun d => !said D i d := by
  intro p
  generalize hrv : p.reverse = rp
  induction rp generalizing p with
  | nil =>
    intro q _
    obtain rfl : p = [] := by simpa using hrv
    rfl
  | cons d rp ih =>
    intro q hq
    obtain rfl : p = rp.reverse ++ [d] := by rw [← List.reverse_reverse p, hrv]; simp
    have h1 := ih rp.reverse (by simp) (d :: q) (by rw [hq]; simp)
    rw [tFold_snoc, List.filter_append]
    simp only [tStep]
    rw [h1]
    have hmem : d ∈ nth D i := (mem_fallL hr).1 (by rw [hq]; simp)
    have hd := right_mem hr hmem
    have hs := fallL_sorted D i
    rw [hq, List.append_assoc, List.pairwise_append] at hs
    have hb : bit (tFold D rp.reverse).2 d.toNat = said D i d := by
      rw [Bool.eq_iff_iff, bit_tFold hr (fun x hx => by
        have := right_mem hr ((mem_fallL (i := i) hr).1 (by rw [hq]; simp at hx ⊢; exact .inl hx)); omega)]
      obtain ⟨dn, rfl⟩ : ∃ dn : Nat, d = dn := ⟨d.toNat, by omega⟩
      rw [said_iff hr]
      simp only [Int.toNat_natCast]
      constructor
      · rintro ⟨x, hx, h⟩
        have hxm : x ∈ nth D i := (mem_fallL hr).1 (by rw [hq]; simp at hx ⊢; exact .inl hx)
        have hx0 := right_mem hr hxm
        rcases h with h | h
        · have := hs.2.2 x hx (dn : Int) (by simp); omega
        · exact ⟨x.toNat, by rwa [Int.toNat_of_nonneg hx0.1], h⟩
      · rintro ⟨k, hk, h⟩
        refine ⟨k, ?_, .inr (by simpa using h)⟩
        have hkf := (mem_fallL hr).2 hk
        rw [hq, List.append_assoc, List.mem_append] at hkf
        rcases hkf with h' | h'
        · exact h'
        · have hlt := (h.lt hr).1
          simp only [List.singleton_append, List.mem_cons] at h'
          rcases h' with h' | h'
          · omega
          · have := (List.pairwise_cons.1 hs.2.1).1 _ h'; omega
    rw [hb]
    cases hsd : said D i d <;> simp [hsd]
theorem thin_fold {D : List (List Int)} (hr : rightD D = true) (i : Nat) : (tFold D (fallL D i)).1 = (thinRow D i).reverse := by
  rw [tFold_fst (i := i) hr (fallL D i) [] (by simp), fallL, thinRow, List.filter_reverse]
theorem thin_fold2 {D : List (List Int)} (hr : rightD D = true) (i : Nat) : (tFold D (fallL D i)).2 = aheadL D i := by
  apply bits_ext (by simp)
  intro j _
  rw [Bool.eq_iff_iff, bit_tFold hr (fun d hd => by have := right_mem hr ((mem_fallL hr).1 hd); omega), bit_aheadL hr]
  constructor
  · rintro ⟨d, hd, h⟩
    have hm := (mem_fallL hr).1 hd
    have := right_mem hr hm
    rcases h with h | h
    · subst h; exact .one hm
    · exact .more (c := d.toNat) (by rwa [Int.toNat_of_nonneg this.1]) h
  · intro h
    cases h with
    | one h => exact ⟨_, (mem_fallL hr).2 h, .inl rfl⟩
    | more h h' => exact ⟨_, (mem_fallL hr).2 h, .inr (by simpa using h')⟩
theorem tFold_fst_length (D : List (List Int)) (ps : List Int) : (tFold D ps).1.length ≤ ps.length := by
  have key : ∀ (qs : List Int) (s : List Int × List Bool), (qs.foldl (tStep D) s).1.length ≤ s.1.length + qs.length := by
    intro qs
    induction qs with
    | nil => intro s; simp
    | cons d qs ih =>
      intro s
      rw [List.foldl_cons]
      have := ih (tStep D s d)
      have h2 : (tStep D s d).1.length ≤ s.1.length + 1 := by simp only [tStep]; split <;> simp
      simp only [List.length_cons]; omega
  have := key ps ([], List.replicate D.length false)
  simpa [tFold] using this
end Go.Sel.Gra
