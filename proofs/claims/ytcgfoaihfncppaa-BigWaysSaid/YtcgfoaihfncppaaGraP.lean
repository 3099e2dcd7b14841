/- Plain laws on what must come ahead of what. No program in sight. -/
namespace Go.Sel.Gra

def nth (D : List (List Int)) (i : Nat) : List Int := D.getD i []
def bit (m : List Bool) (i : Nat) : Bool := m.getD i false

/-- 'Right'. -/
def rightD (D : List (List Int)) : Bool :=
  decide (D.length ≤ 256) && (List.range D.length).all fun i => decide ((nth D i).length ≤ 256) && (nth D i).all fun d => decide (0 ≤ d) && decide (d < (i : Int))
theorem right_iff {D : List (List Int)} : rightD D = true ↔ D.length ≤ 256 ∧ ∀ i, i < D.length → (nth D i).length ≤ 256 ∧ ∀ d ∈ nth D i, 0 ≤ d ∧ d < (i : Int) := by
  simp [rightD, Bool.and_eq_true, List.all_eq_true]
theorem nth_out {D : List (List Int)} {i : Nat} (h : D.length ≤ i) : nth D i = [] := by simp [nth, h]
theorem right_mem {D : List (List Int)} (h : rightD D = true) {i : Nat} {d : Int} (hd : d ∈ nth D i) : 0 ≤ d ∧ d < (i : Int) ∧ i < D.length := by
  by_cases hi : i < D.length
  · have := ((right_iff.1 h).2 i hi).2 d hd
    exact ⟨this.1, this.2, hi⟩
  · rw [nth_out (by omega)] at hd; simp at hd

/-- 'marks'. -/
def marksL (l : List Int) (n : Nat) : List Bool := (List.range n).map fun j : Nat => decide ((j : Int) ∈ l)
@[simp] theorem marksL_length (l : List Int) (n : Nat) : (marksL l n).length = n := by simp [marksL]
theorem bit_marksL {l : List Int} {n j : Nat} : bit (marksL l n) j = true ↔ j < n ∧ (j : Int) ∈ l := by
  by_cases h : j < n
  · simp [bit, marksL, List.getD_eq_getElem?_getD, h]
  · simp [bit, marksL, List.getD_eq_getElem?_getD, h]
theorem bit_lt {m : List Bool} {j : Nat} (h : bit m j = true) : j < m.length := by
  by_cases hj : j < m.length
  · exact hj
  · simp [bit, List.getD_eq_getElem?_getD, List.getElem?_eq_none (by omega : m.length ≤ j)] at h
theorem bit_get {m : List Bool} {j : Nat} (h : j < m.length) : bit m j = m[j] := by simp [bit, List.getD_eq_getElem?_getD, h]
theorem bits_ext {m m' : List Bool} (hl : m.length = m'.length) (h : ∀ j, j < m.length → bit m j = bit m' j) : m = m' := by
  apply List.ext_getElem hl
  intro j h1 h2
  rw [← bit_get h1, ← bit_get h2]; exact h j h1
theorem bit_set {m : List Bool} {i j : Nat} {b : Bool} (hi : i < m.length) : bit (m.set i b) j = if i = j then b else bit m j := by
  by_cases h : i = j
  · subst h; simp [bit, List.getD_eq_getElem?_getD, hi]
  · simp [bit, List.getD_eq_getElem?_getD, h]
def allIn (l : List Int) (n : Nat) : Bool := l.all fun i => decide (0 ≤ i) && decide (i < (n : Int))
theorem allIn_iff {l : List Int} {n : Nat} : allIn l n = true ↔ ∀ i ∈ l, 0 ≤ i ∧ i < (n : Int) := by simp [allIn]
theorem marksL_nil (n : Nat) : marksL [] n = List.replicate n false := by
  apply List.ext_getElem <;> simp [marksL]
theorem marksL_snoc_out {l : List Int} {n : Nat} {i : Int} (h : ¬ (0 ≤ i ∧ i < (n : Int))) : marksL (l ++ [i]) n = marksL l n := by
  apply List.ext_getElem
  · simp
  · intro j h1 h2
    have hj : j < n := by simpa using h1
    simp only [marksL, List.getElem_map, List.getElem_range, List.mem_append, List.mem_singleton, decide_eq_decide]
    constructor
    · rintro (h3 | h3)
      · exact h3
      · exact absurd ⟨by omega, by omega⟩ h
    · exact .inl
theorem marksL_snoc_in {l : List Int} {n : Nat} {i : Nat} (h : i < n) : marksL (l ++ [(i : Int)]) n = (marksL l n).set i true := by
  apply bits_ext (by simp)
  intro j hj
  have hj : j < n := by simpa using hj
  rw [bit_set (by simpa using h), Bool.eq_iff_iff, bit_marksL]
  by_cases e : i = j
  · subst e; simp [hj]
  · simp [e, bit_marksL, hj]
    intro h'; omega

/-- 'those'. -/
def thoseL (m : List Bool) : List Int := ((List.range m.length).filter fun j => bit m j).map fun j : Nat => (j : Int)
theorem mem_thoseL {m : List Bool} {a : Int} : a ∈ thoseL m ↔ ∃ j : Nat, a = j ∧ bit m j = true := by
  simp only [thoseL, List.mem_map, List.mem_filter, List.mem_range]
  constructor
  · rintro ⟨j, ⟨_, hb⟩, rfl⟩; exact ⟨j, rfl, hb⟩
  · rintro ⟨j, rfl, hb⟩; exact ⟨j, ⟨bit_lt hb, hb⟩, rfl⟩
theorem mem_thoseL' {m : List Bool} {j : Nat} : (j : Int) ∈ thoseL m ↔ bit m j = true := by
  rw [mem_thoseL]
  constructor
  · rintro ⟨k, h, hb⟩; have : j = k := by omega
    subst this; exact hb
  · intro h; exact ⟨j, rfl, h⟩
theorem marks_those (m : List Bool) : marksL (thoseL m) m.length = m := by
  apply bits_ext (by simp)
  intro j hj
  have hj : j < m.length := by simpa using hj
  rw [Bool.eq_iff_iff, bit_marksL, mem_thoseL']
  exact ⟨fun h => h.2, fun h => ⟨hj, h⟩⟩
theorem those_eq {m m' : List Bool} (hl : m.length = m'.length) (h : ∀ j, bit m j = true ↔ bit m' j = true) : thoseL m = thoseL m' := by
  have : m = m' := bits_ext hl fun j _ => by rw [Bool.eq_iff_iff]; exact h j
  rw [this]

/-- a must come ahead of b. -/
inductive Ahead (D : List (List Int)) : Nat → Nat → Prop
  | one {b a : Nat} : (a : Int) ∈ nth D b → Ahead D b a
  | more {b c a : Nat} : (c : Int) ∈ nth D b → Ahead D c a → Ahead D b a
theorem Ahead.trans {D : List (List Int)} {a b c : Nat} (h : Ahead D c b) (k : Ahead D b a) : Ahead D c a := by
  induction h with
  | one h => exact .more h k
  | more h _ ih => exact .more h (ih k)
theorem Ahead.lt {D : List (List Int)} (hr : rightD D = true) {b a : Nat} (h : Ahead D b a) : a < b ∧ b < D.length := by
  induction h with
  | one h => have := right_mem hr h; exact ⟨by omega, this.2.2⟩
  | more h _ ih => have := right_mem hr h; exact ⟨by omega, this.2.2⟩

/-- 'closeAll', one number at a time. -/
def markAll (l : List Int) (m : List Bool) : List Bool := l.foldl (fun m d => m.set d.toNat true) m
@[simp] theorem markAll_length (l : List Int) (m : List Bool) : (markAll l m).length = m.length := by
  unfold markAll
  induction l generalizing m with
  | nil => rfl
  | cons d l ih => simp only [List.foldl_cons]; rw [ih]; simp
theorem markAll_nil (m : List Bool) : markAll [] m = m := rfl
theorem markAll_snoc (l : List Int) (d : Int) (m : List Bool) : markAll (l ++ [d]) m = (markAll l m).set d.toNat true := by simp [markAll]
theorem bit_markAll {l : List Int} {m : List Bool} (hl : ∀ d ∈ l, 0 ≤ d ∧ d < (m.length : Int)) {j : Nat} : bit (markAll l m) j = true ↔ bit m j = true ∨ (j : Int) ∈ l := by
  unfold markAll
  induction l generalizing m with
  | nil => simp
  | cons d l ih =>
    have hd := hl d (by simp)
    simp only [List.foldl_cons]
    rw [ih (by simpa using fun x hx => hl x (by simp [hx])), bit_set (by omega)]
    have e : (d.toNat = j) ↔ ((j : Int) = d) := by omega
    by_cases h : d.toNat = j
    · simp [h, e.1 h]
    · have : ¬ ((j : Int) = d) := fun h' => h (e.2 h')
      simp [h, this]
def closeStep (D : List (List Int)) (i : Nat) (m : List Bool) : List Bool := if bit m i then markAll (nth D i) m else m
def closeFrom (D : List (List Int)) : Nat → List Bool → List Bool
  | 0, m => m
  | k + 1, m => closeFrom D k (closeStep D k m)
@[simp] theorem closeStep_length (D : List (List Int)) (i : Nat) (m : List Bool) : (closeStep D i m).length = m.length := by
  unfold closeStep; split <;> simp
@[simp] theorem closeFrom_length (D : List (List Int)) (k : Nat) (m : List Bool) : (closeFrom D k m).length = m.length := by
  induction k generalizing m with
  | zero => rfl
  | succ k ih => rw [closeFrom, ih, closeStep_length]
theorem bit_closeStep {D : List (List Int)} (hr : rightD D = true) {m : List Bool} (hm : m.length = D.length) {i j : Nat} : bit (closeStep D i m) j = true ↔ bit m j = true ∨ (bit m i = true ∧ (j : Int) ∈ nth D i) := by
  unfold closeStep
  by_cases h : bit m i = true
  · rw [if_pos h, bit_markAll (fun d hd => by have := right_mem hr hd; omega)]
    simp [h]
  · rw [if_neg h]; simp [h]
theorem bit_closeFrom {D : List (List Int)} (hr : rightD D = true) {k : Nat} {m : List Bool} (hm : m.length = D.length) {j : Nat} : bit (closeFrom D k m) j = true ↔ bit m j = true ∨ ∃ i, i < k ∧ bit m i = true ∧ Ahead D i j := by
  induction k generalizing m with
  | zero => simp [closeFrom]
  | succ k ih =>
    rw [closeFrom, ih (by simpa using hm), bit_closeStep hr hm]
    constructor
    · rintro ((h | ⟨h1, h2⟩) | ⟨i, hi, h1, h2⟩)
      · exact .inl h
      · exact .inr ⟨k, by omega, h1, .one h2⟩
      · rcases (bit_closeStep hr hm).1 h1 with h | ⟨h3, h4⟩
        · exact .inr ⟨i, by omega, h, h2⟩
        · exact .inr ⟨k, by omega, h3, .more h4 h2⟩
    · rintro (h | ⟨i, hi, h1, h2⟩)
      · exact .inl (.inl h)
      · by_cases e : i = k
        · subst e
          cases h2 with
          | one h => exact .inl (.inr ⟨h1, h⟩)
          | more h h' =>
            rename_i c
            have := right_mem hr h
            exact .inr ⟨c, by omega, (bit_closeStep hr hm).2 (.inr ⟨h1, h⟩), h'⟩
        · exact .inr ⟨i, by omega, (bit_closeStep hr hm).2 (.inl h1), h2⟩
def closeD (D : List (List Int)) (m : List Bool) : List Bool := closeFrom D D.length m
@[simp] theorem closeD_length (D : List (List Int)) (m : List Bool) : (closeD D m).length = m.length := by simp [closeD]
theorem bit_closeD {D : List (List Int)} (hr : rightD D = true) {m : List Bool} (hm : m.length = D.length) {j : Nat} : bit (closeD D m) j = true ↔ bit m j = true ∨ ∃ i, bit m i = true ∧ Ahead D i j := by
  rw [closeD, bit_closeFrom hr hm]
  constructor
  · rintro (h | ⟨i, _, h1, h2⟩)
    · exact .inl h
    · exact .inr ⟨i, h1, h2⟩
  · rintro (h | ⟨i, h1, h2⟩)
    · exact .inl h
    · exact .inr ⟨i, (h2.lt hr).2, h1, h2⟩

/-- 'Close', 'Closed'. -/
def closeL (D : List (List Int)) (s : List Int) : List Int := if rightD D then thoseL (closeD D (marksL s D.length)) else []
theorem mem_closeL {D : List (List Int)} {s : List Int} (hr : rightD D = true) {j : Nat} : (j : Int) ∈ closeL D s ↔ (j < D.length ∧ (j : Int) ∈ s) ∨ ∃ i, i < D.length ∧ (i : Int) ∈ s ∧ Ahead D i j := by
  rw [closeL, if_pos hr, mem_thoseL', bit_closeD hr (by simp)]
  simp only [bit_marksL, and_assoc]
theorem closeL_mem {D : List (List Int)} {s : List Int} {a : Int} (h : a ∈ closeL D s) : rightD D = true ∧ ∃ j : Nat, a = j ∧ j < D.length := by
  unfold closeL at h
  split at h
  · rename_i hr
    obtain ⟨j, rfl, hb⟩ := mem_thoseL.1 h
    exact ⟨hr, j, rfl, by have := bit_lt hb; simpa using this⟩
  · simp at h
def closedB (D : List (List Int)) (s : List Int) : Bool :=
  rightD D && allIn s D.length && (List.range D.length).all fun i => !decide ((i : Int) ∈ s) || (nth D i).all fun d => decide (d ∈ s)
theorem closed_iff {D : List (List Int)} {s : List Int} : closedB D s = true ↔ rightD D = true ∧ (∀ i ∈ s, 0 ≤ i ∧ i < (D.length : Int)) ∧ ∀ i : Nat, (i : Int) ∈ s → ∀ d ∈ nth D i, d ∈ s := by
  simp only [closedB, Bool.and_eq_true, allIn_iff, List.all_eq_true, List.mem_range, Bool.or_eq_true, Bool.not_eq_true', decide_eq_false_iff_not, decide_eq_true_eq, and_assoc]
  refine and_congr_right fun hr => and_congr_right fun ha => ?_
  constructor
  · intro h i hi d hd
    have hl := ha _ hi
    rcases h i (by omega) with h' | h'
    · exact absurd hi h'
    · exact h' d hd
  · intro h i _
    by_cases hi : (i : Int) ∈ s
    · exact .inr (h i hi)
    · exact .inl hi
/-- Among numbers, all that comes ahead is in what is closed. -/
theorem closed_ahead {D : List (List Int)} {s : List Int} (h : closedB D s = true) {b a : Nat} (hb : (b : Int) ∈ s) (ha : Ahead D b a) : (a : Int) ∈ s := by
  have h' := (closed_iff.1 h).2.2
  induction ha with
  | one h1 => exact h' _ hb _ h1
  | more h1 _ ih => exact ih (h' _ hb _ h1)
theorem close_closed {D : List (List Int)} (hr : rightD D = true) (s : List Int) : closedB D (closeL D s) = true := by
  rw [closed_iff]
  refine ⟨hr, fun i hi => ?_, fun i hi d hd => ?_⟩
  · obtain ⟨_, j, rfl, hj⟩ := closeL_mem hi; omega
  · have hm := right_mem hr hd
    obtain ⟨k, rfl⟩ : ∃ k : Nat, d = k := ⟨d.toNat, by omega⟩
    rcases (mem_closeL hr).1 hi with ⟨h1, h2⟩ | ⟨c, h1, h2, h3⟩
    · exact (mem_closeL hr).2 (.inr ⟨i, h1, h2, .one hd⟩)
    · exact (mem_closeL hr).2 (.inr ⟨c, h1, h2, h3.trans (.one hd)⟩)
theorem close_least {D : List (List Int)} {s c : List Int} (hc : closedB D c = true) (hs : ∀ a ∈ s, 0 ≤ a → a < (D.length : Int) → a ∈ c) : ∀ a ∈ closeL D s, a ∈ c := by
  intro a ha
  obtain ⟨hr, j, rfl, hj⟩ := closeL_mem ha
  rcases (mem_closeL hr).1 ha with ⟨h1, h2⟩ | ⟨i, h1, h2, h3⟩
  · exact hs _ h2 (by omega) (by omega)
  · exact closed_ahead hc (hs _ h2 (by omega) (by omega)) h3
theorem close_has {D : List (List Int)} (hr : rightD D = true) {s : List Int} {a : Int} (h0 : 0 ≤ a) (h1 : a < (D.length : Int)) (h : a ∈ s) : a ∈ closeL D s := by
  obtain ⟨k, rfl⟩ : ∃ k : Nat, a = k := ⟨a.toNat, by omega⟩
  exact (mem_closeL hr).2 (.inl ⟨by omega, h⟩)
theorem closeL_ext {D : List (List Int)} {s t : List Int} (h : ∀ j : Nat, (j : Int) ∈ closeL D s ↔ (j : Int) ∈ closeL D t) : closeL D s = closeL D t := by
  unfold closeL at h ⊢
  split
  · rename_i hr
    simp only [hr, if_true] at h
    exact those_eq (by simp) fun j => by rw [← mem_thoseL', h j, mem_thoseL']
  · rfl
theorem close_close {D : List (List Int)} (s : List Int) : closeL D (closeL D s) = closeL D s := by
  by_cases hr : rightD D = true
  · refine closeL_ext fun j => ⟨fun h => close_least (close_closed hr s) (fun a ha _ _ => ha) _ h, fun h => ?_⟩
    obtain ⟨_, k, e, hk⟩ := closeL_mem h
    have : j = k := by omega
    subst this
    exact close_has hr (by omega) (by omega) h
  · simp [closeL, hr]
end Go.Sel.Gra
