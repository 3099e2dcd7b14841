/- Plain laws on what must come ahead of what. No program in sight. -/
import Derived.Test.YtcgfoaihfncppaaKSel
namespace Go.Sel.Gra

def nth (D : List (List Int)) (i : Nat) : List Int := D.getD i []
def bit (m : List Bool) (i : Nat) : Bool := m.getD i false

/-- 'Right'. -/
def rightD (D : List (List Int)) : Bool :=
  decide (D.length ≤ 256) && (List.range D.length).all fun i => decide ((nth D i).length ≤ 256) && (nth D i).all fun d => decide (0 ≤ d) && decide (d < (i : Int))
theorem right_iff {D : List (List Int)} : rightD D = true ↔ D.length ≤ 256 ∧ ∀ i, i < D.length → (nth D i).length ≤ 256 ∧ ∀ d ∈ nth D i, 0 ≤ d ∧ d < (i : Int) := by
  simp [rightD, Bool.and_eq_true, List.all_eq_true]
theorem nth_out {D : List (List Int)} {i : Nat} (h : D.length ≤ i) : nth D i = [] := by simp [nth, h]
theorem right_mem {D : List (List Int)} (h : rightD D = true) {i : Nat} {d : Int} (hd : d ∈ nth D i) : 0 ≤ d ∧ d < (i : Int) ∧ i < D.length := by
  by_cases hi : i < D.length
  · have := ((right_iff.1 h).2 i hi).2 d hd
    exact ⟨this.1, this.2, hi⟩
  · rw [nth_out (by omega)] at hd; simp at hd

/-- 'marks'. -/
def marksL (l : List Int) (n : Nat) : List Bool := (List.range n).map fun j : Nat => decide ((j : Int) ∈ l)
@[simp] theorem marksL_length (l : List Int) (n : Nat) : (marksL l n).length = n := by simp [marksL]
theorem bit_marksL {l : List Int} {n j : Nat} : bit (marksL l n) j = true ↔ j < n ∧ (j : Int) ∈ l := by
  by_cases h : j < n
  · simp [bit, marksL, List.getD_eq_getElem?_getD, h]
  · simp [bit, marksL, List.getD_eq_getElem?_getD, h]
theorem bit_lt {m : List Bool} {j : Nat} (h : bit m j = true) : j < m.length := by
  by_cases hj : j < m.length
  · exact hj
  · simp [bit, List.getD_eq_getElem?_getD, List.getElem?_eq_none (by omega : m.length ≤ j)] at h
theorem bit_get {m : List Bool} {j : Nat} (h : j < m.length) : bit m j = m[j] := by simp [bit, List.getD_eq_getElem?_getD, h]
theorem bits_ext {m m' : List Bool} (hl : m.length = m'.length) (h : ∀ j, j < m.length → bit m j = bit m' j) : m = m' := by
  apply List.ext_getElem hl
  intro j h1 h2
  rw [← bit_get h1, ← bit_get h2]; exact h j h1
theorem bit_set {m : List Bool} {i j : Nat} {b : Bool} (hi : i < m.length) : bit (m.set i b) j = if i = j then b else bit m j := by
  by_cases h : i = j
  · subst h; simp [bit, List.getD_eq_getElem?_getD, hi]
  · simp [bit, List.getD_eq_getElem?_getD, h]
def allIn (l : List Int) (n : Nat) : Bool := l.all fun i => decide (0 ≤ i) && decide (i < (n : Int))
theorem allIn_iff {l : List Int} {n : Nat} : allIn l n = true ↔ ∀ i ∈ l, 0 ≤ i ∧ i < (n : Int) := by simp [allIn]
theorem marksL_nil (n : Nat) : marksL [] n = List.replicate n false := by
  apply List.ext_getElem <;> simp [marksL]
theorem marksL_snoc_out {l : List Int} {n : Nat} {i : Int} (h : ¬ (0 ≤ i ∧ i < (n : Int))) : marksL (l ++ [i]) n = marksL l n := by
  apply List.ext_getElem
  · simp
  · intro j h1 h2
    have hj : j < n := by simpa using h1
    simp only [marksL, List.getElem_map, List.getElem_range, List.mem_append, List.mem_singleton, decide_eq_decide]
    constructor
    · rintro (h3 | h3)
      · exact h3
      · exact absurd ⟨by omega, by omega⟩ h
    · exact .inl
theorem marksL_snoc_in {l : List Int} {n : Nat} {i : Nat} (h : i < n) : marksL (l ++ [(i : Int)]) n = (marksL l n).set i true := by
  apply bits_ext (by simp)
  intro j hj
  have hj : j < n := by simpa using hj
  rw [bit_set (by simpa using h), Bool.eq_iff_iff, bit_marksL]
  by_cases e : i = j
  · subst e; simp [hj]
  · simp [e, bit_marksL, hj]
    intro h'; omega

/-- 'those'. -/
def thoseL (m : List Bool) : List Int := ((List.range m.length).filter fun j => bit m j).map fun j : Nat => (j : Int)
theorem mem_thoseL {m : List Bool} {a : Int} : a ∈ thoseL m ↔ ∃ j : Nat, a = j ∧ bit m j = true := by
  simp only [thoseL, List.mem_map, List.mem_filter, List.mem_range]
  constructor
  · rintro ⟨j, ⟨_, hb⟩, rfl⟩; exact ⟨j, rfl, hb⟩
  · rintro ⟨j, rfl, hb⟩; exact ⟨j, ⟨bit_lt hb, hb⟩, rfl⟩
theorem mem_thoseL' {m : List Bool} {j : Nat} : (j : Int) ∈ thoseL m ↔ bit m j = true := by
  rw [mem_thoseL]
  constructor
  · rintro ⟨k, h, hb⟩; have : j = k := by omega
    subst this; exact hb
  · intro h; exact ⟨j, rfl, h⟩
theorem marks_those (m : List Bool) : marksL (thoseL m) m.length = m := by
  apply bits_ext (by simp)
  intro j hj
  have hj : j < m.length := by simpa using hj
  rw [Bool.eq_iff_iff, bit_marksL, mem_thoseL']
  exact ⟨fun h => h.2, fun h => ⟨hj, h⟩⟩
theorem those_eq {m m' : List Bool} (hl : m.length = m'.length) (h : ∀ j, bit m j = true ↔ bit m' j = true) : thoseL m = thoseL m' := by
  have : m = m' := bits_ext hl fun j _ => by rw [Bool.eq_iff_iff]; exact h j
  rw [this]

/-- a must come ahead of b. -/
inductive Ahead (D : List (List Int)) : Nat → Nat → Prop
  | one {b a : Nat} : (a : Int) ∈ nth D b → Ahead D b a
  | more {b c a : Nat} : (c : Int) ∈ nth D b → Ahead D c a → Ahead D b a
theorem Ahead.trans {D : List (List Int)} {a b c : Nat} (h : Ahead D c b) (k : Ahead D b a) : Ahead D c a := by
  induction h with
  | one h => exact .more h k
  | more h _ ih => exact .more h (ih k)
theorem Ahead.lt {D : List (List Int)} (hr : rightD D = true) {b a : Nat} (h : Ahead D b a) : a < b ∧ b < D.length := by
  induction h with
  | one h => have := right_mem hr h; exact ⟨by omega, this.2.2⟩
  | more h _ ih => have := right_mem hr h; exact ⟨by omega, this.2.2⟩

/-- 'closeAll', one number at a time. -/
def markAll (l : List Int) (m : List Bool) : List Bool := l.foldl (fun m d => m.set d.toNat true) m
@[simp] theorem markAll_length (l : List Int) (m : List Bool) : (markAll l m).length = m.length := by
  unfold markAll
  induction l generalizing m with
  | nil => rfl
  | cons d l ih => simp only [List.foldl_cons]; rw [ih]; simp
theorem markAll_nil (m : List Bool) : markAll [] m = m := rfl
theorem markAll_snoc (l : List Int) (d : Int) (m : List Bool) : markAll (l ++ [d]) m = (markAll l m).set d.toNat true := by simp [markAll]
theorem bit_markAll {l : List Int} {m : List Bool} (hl : ∀ d ∈ l, 0 ≤ d ∧ d < (m.length : Int)) {j : Nat} : bit (markAll l m) j = true ↔ bit m j = true ∨ (j : Int) ∈ l := by
  unfold markAll
  induction l generalizing m with
  | nil => simp
  | cons d l ih =>
    have hd := hl d (by simp)
    simp only [List.foldl_cons]
    rw [ih (by simpa using fun x hx => hl x (by simp [hx])), bit_set (by omega)]
    have e : (d.toNat = j) ↔ ((j : Int) = d) := by omega
    by_cases h : d.toNat = j
    · simp [h, e.1 h]
    · have : ¬ ((j : Int) = d) := fun h' => h (e.2 h')
      simp [h, this]
def closeStep (D : List (List Int)) (i : Nat) (m : List Bool) : List Bool := if bit m i then markAll (nth D i) m else m
def closeFrom (D : List (List Int)) : Nat → List Bool → List Bool
  | 0, m => m
  | k + 1, m => closeFrom D k (closeStep D k m)
@[simp] theorem closeStep_length (D : List (List Int)) (i : Nat) (m : List Bool) : (closeStep D i m).length = m.length := by
  unfold closeStep; split <;> simp
@[simp] theorem closeFrom_length (D : List (List Int)) (k : Nat) (m : List Bool) : (closeFrom D k m).length = m.length := by
  induction k generalizing m with
  | zero => rfl
  | succ k ih => rw [closeFrom, ih, closeStep_length]
theorem bit_closeStep {D : List (List Int)} (hr : rightD D = true) {m : List Bool} (hm : m.length = D.length) {i j : Nat} : bit (closeStep D i m) j = true ↔ bit m j = true ∨ (bit m i = true ∧ (j : Int) ∈ nth D i) := by
  unfold closeStep
  by_cases h : bit m i = true
  · rw [if_pos h, bit_markAll (fun d hd => by have := right_mem hr hd; omega)]
    simp [h]
  · rw [if_neg h]; simp [h]
theorem bit_closeFrom {D : List (List Int)} (hr : rightD D = true) {k : Nat} {m : List Bool} (hm : m.length = D.length) {j : Nat} : bit (closeFrom D k m) j = true ↔ bit m j = true ∨ ∃ i, i < k ∧ bit m i = true ∧ Ahead D i j := by
  induction k generalizing m with
  | zero => simp [closeFrom]
  | succ k ih =>
    rw [closeFrom, ih (by simpa using hm), bit_closeStep hr hm]
    constructor
    · rintro ((h | ⟨h1, h2⟩) | ⟨i, hi, h1, h2⟩)
      · exact .inl h
      · exact .inr ⟨k, by omega, h1, .one h2⟩
      · rcases (bit_closeStep hr hm).1 h1 with h | ⟨h3, h4⟩
        · exact .inr ⟨i, by omega, h, h2⟩
        · exact .inr ⟨k, by omega, h3, .more h4 h2⟩
    · rintro (h | ⟨i, hi, h1, h2⟩)
      · exact .inl (.inl h)
      · by_cases e : i = k
        · subst e
          cases h2 with
          | one h => exact .inl (.inr ⟨h1, h⟩)
          | more h h' =>
            rename_i c
            have := right_mem hr h
            exact .inr ⟨c, by omega, (bit_closeStep hr hm).2 (.inr ⟨h1, h⟩), h'⟩
        · exact .inr ⟨i, by omega, (bit_closeStep hr hm).2 (.inl h1), h2⟩
def closeD (D : List (List Int)) (m : List Bool) : List Bool := closeFrom D D.length m
@[simp] theorem closeD_length (D : List (List Int)) (m : List Bool) : (closeD D m).length = m.length := by simp [closeD]
theorem bit_closeD {D : List (List Int)} (hr : rightD D = true) {m : List Bool} (hm : m.length = D.length) {j : Nat} : bit (closeD D m) j = true ↔ bit m j = true ∨ ∃ i, bit m i = true ∧ Ahead D i j := by
  rw [closeD, bit_closeFrom hr hm]
  constructor
  · rintro (h | ⟨i, _, h1, h2⟩)
    · exact .inl h
    · exact .inr ⟨i, h1, h2⟩
  · rintro (h | ⟨i, h1, h2⟩)
    · exact .inl h
    · exact .inr ⟨i, (h2.lt hr).2, h1, h2⟩

/-- 'Close', 'Closed'. -/
def closeL (D : List (List Int)) (s : List Int) : List Int := if rightD D then thoseL (closeD D (marksL s D.length)) else []
theorem mem_closeL {D : List (List Int)} {s : List Int} (hr : rightD D = true) {j : Nat} : (j : Int) ∈ closeL D s ↔ (j < D.length ∧ (j : Int) ∈ s) ∨ ∃ i, i < D.length ∧ (i : Int) ∈ s ∧ Ahead D i j := by
  rw [closeL, if_pos hr, mem_thoseL', bit_closeD hr (by simp)]
  simp only [bit_marksL, and_assoc]
theorem closeL_mem {D : List (List Int)} {s : List Int} {a : Int} (h : a ∈ closeL D s) : rightD D = true ∧ ∃ j : Nat, a = j ∧ j < D.length := by
  unfold closeL at h
  split at h
  · rename_i hr
    obtain ⟨j, rfl, hb⟩ := mem_thoseL.1 h
    exact ⟨hr, j, rfl, by have := bit_lt hb; simpa using this⟩
  · simp at h
def closedB (D : List (List Int)) (s : List Int) : Bool :=
  rightD D && allIn s D.length && (List.range D.length).all fun i => !decide ((i : Int) ∈ s) || (nth D i).all fun d => decide (d ∈ s)
theorem closed_iff {D : List (List Int)} {s : List Int} : closedB D s = true ↔ rightD D = true ∧ (∀ i ∈ s, 0 ≤ i ∧ i < (D.length : Int)) ∧ ∀ i : Nat, (i : Int) ∈ s → ∀ d ∈ nth D i, d ∈ s := by
  simp only [closedB, Bool.and_eq_true, allIn_iff, List.all_eq_true, List.mem_range, Bool.or_eq_true, Bool.not_eq_true', decide_eq_false_iff_not, decide_eq_true_eq, and_assoc]
  refine and_congr_right fun hr => and_congr_right fun ha => ?_
  constructor
  · intro h i hi d hd
    have hl := ha _ hi
    rcases h i (by omega) with h' | h'
    · exact absurd hi h'
    · exact h' d hd
  · intro h i _
    by_cases hi : (i : Int) ∈ s
    · exact .inr (h i hi)
    · exact .inl hi
/-- Among numbers, all that comes ahead is in what is closed. -/
theorem closed_ahead {D : List (List Int)} {s : List Int} (h : closedB D s = true) {b a : Nat} (hb : (b : Int) ∈ s) (ha : Ahead D b a) : (a : Int) ∈ s := by
  have h' := (closed_iff.1 h).2.2
  induction ha with
  | one h1 => exact h' _ hb _ h1
  | more h1 _ ih => exact ih (h' _ hb _ h1)
theorem close_closed {D : List (List Int)} (hr : rightD D = true) (s : List Int) : closedB D (closeL D s) = true := by
  rw [closed_iff]
  refine ⟨hr, fun i hi => ?_, fun i hi d hd => ?_⟩
  · obtain ⟨_, j, rfl, hj⟩ := closeL_mem hi; omega
  · have hm := right_mem hr hd
    obtain ⟨k, rfl⟩ : ∃ k : Nat, d = k := ⟨d.toNat, by omega⟩
    rcases (mem_closeL hr).1 hi with ⟨h1, h2⟩ | ⟨c, h1, h2, h3⟩
    · exact (mem_closeL hr).2 (.inr ⟨i, h1, h2, .one hd⟩)
    · exact (mem_closeL hr).2 (.inr ⟨c, h1, h2, h3.trans (.one hd)⟩)
theorem close_least {D : List (List Int)} {s c : List Int} (hc : closedB D c = true) (hs : ∀ a ∈ s, 0 ≤ a → a < (D.length : Int) → a ∈ c) : ∀ a ∈ closeL D s, a ∈ c := by
  intro a ha
  obtain ⟨hr, j, rfl, hj⟩ := closeL_mem ha
  rcases (mem_closeL hr).1 ha with ⟨h1, h2⟩ | ⟨i, h1, h2, h3⟩
  · exact hs _ h2 (by omega) (by omega)
  · exact closed_ahead hc (hs _ h2 (by omega) (by omega)) h3
theorem close_has {D : List (List Int)} (hr : rightD D = true) {s : List Int} {a : Int} (h0 : 0 ≤ a) (h1 : a < (D.length : Int)) (h : a ∈ s) : a ∈ closeL D s := by
  obtain ⟨k, rfl⟩ : ∃ k : Nat, a = k := ⟨a.toNat, by omega⟩
  exact (mem_closeL hr).2 (.inl ⟨by omega, h⟩)
theorem closeL_ext {D : List (List Int)} {s t : List Int} (h : ∀ j : Nat, (j : Int) ∈ closeL D s ↔ (j : Int) ∈ closeL D t) : closeL D s = closeL D t := by
  unfold closeL at h ⊢
  split
  · rename_i hr
    simp only [hr, if_true] at h
    exact those_eq (by simp) fun j => by rw [← mem_thoseL', h j, mem_thoseL']
  · rfl
theorem close_close {D : List (List Int)} (s : List Int) : closeL D (closeL D s) = closeL D s := by
  by_cases hr : rightD D = true
  · refine closeL_ext fun j => ⟨fun h => close_least (close_closed hr s) (fun a ha _ _ => ha) _ h, fun h => ?_⟩
    obtain ⟨_, k, e, hk⟩ := closeL_mem h
    have : j = k := by omega
    subst this
    exact close_has hr (by omega) (by omega) h
  · simp [closeL, hr]
end Go.Sel.Gra
/- Plain laws on what must come ahead of what: what can come now, what comes behind, how deep, thin. No program in sight. -/
namespace Go.Sel.Gra

/-! ### Ready -/
def readyStep (D : List (List Int)) (was some : List Bool) (i : Nat) (r : List Bool) : Bool := bit some i && !bit was i && (nth D i).all fun d => bit was d.toNat || bit r d.toNat
def readyM (D : List (List Int)) (was some : List Bool) : Nat → List Bool
  | 0 => []
  | k + 1 => readyM D was some k ++ [readyStep D was some k (readyM D was some k)]
@[simp] theorem readyM_length (D : List (List Int)) (was some : List Bool) (k : Nat) : (readyM D was some k).length = k := by
  induction k with
  | zero => rfl
  | succ k ih => simp [readyM, ih]
theorem bit_append_left {m t : List Bool} {j : Nat} (h : j < m.length) : bit (m ++ t) j = bit m j := by simp [bit, List.getD_eq_getElem?_getD, List.getElem?_append_left h]
theorem bit_append_right {m t : List Bool} {j : Nat} (h : m.length ≤ j) : bit (m ++ t) j = bit t (j - m.length) := by simp [bit, List.getD_eq_getElem?_getD, List.getElem?_append_right h]
theorem bit_out {m : List Bool} {j : Nat} (h : m.length ≤ j) : bit m j = false := by simp [bit, List.getD_eq_getElem?_getD, List.getElem?_eq_none h]
theorem bit_readyM_stay {D : List (List Int)} {was some : List Bool} {k j : Nat} (hj : j < k) : bit (readyM D was some k) j = bit (readyM D was some (j + 1)) j := by
  induction k with
  | zero => omega
  | succ k ih =>
    by_cases h : j = k
    · subst h; rfl
    · rw [readyM, bit_append_left (by simp; omega)]; exact ih (by omega)
theorem readyStep_stay {D : List (List Int)} (hr : rightD D = true) {was some : List Bool} {i k : Nat} (h : i ≤ k) : readyStep D was some i (readyM D was some k) = readyStep D was some i (readyM D was some i) := by
  unfold readyStep
  congr 1
  rw [Bool.eq_iff_iff, List.all_eq_true, List.all_eq_true]
  refine forall_congr' fun d => forall_congr' fun hd => ?_
  have := right_mem hr hd
  rw [bit_readyM_stay (k := k) (by omega), bit_readyM_stay (k := i) (by omega)]
theorem bit_readyM {D : List (List Int)} (hr : rightD D = true) {was some : List Bool} {k j : Nat} (hj : j < k) :
    bit (readyM D was some k) j = true ↔ bit some j = true ∧ bit was j = false ∧ ∀ d ∈ nth D j, bit was d.toNat = true ∨ bit (readyM D was some k) d.toNat = true := by
  rw [bit_readyM_stay hj, readyM, bit_append_right (by simp)]
  simp only [readyM_length, Nat.sub_self]
  have : bit [readyStep D was some j (readyM D was some j)] 0 = readyStep D was some j (readyM D was some j) := rfl
  rw [this, ← readyStep_stay hr (k := k) (by omega)]
  simp only [readyStep, Bool.and_eq_true, Bool.not_eq_true', List.all_eq_true, Bool.or_eq_true, and_assoc]
def readyL (D : List (List Int)) (done some : List Int) : List Int := if rightD D then thoseL (readyM D (marksL done D.length) (marksL some D.length) D.length) else []
theorem mem_readyL {D : List (List Int)} (hr : rightD D = true) {done some : List Int} {j : Nat} :
    (j : Int) ∈ readyL D done some ↔ j < D.length ∧ (j : Int) ∈ some ∧ (j : Int) ∉ done ∧ ∀ d ∈ nth D j, d ∈ done ∨ d ∈ readyL D done some := by
  have e : readyL D done some = thoseL (readyM D (marksL done D.length) (marksL some D.length) D.length) := by rw [readyL, if_pos hr]
  rw [e, mem_thoseL']
  by_cases hj : j < D.length
  · rw [bit_readyM hr hj]
    simp only [bit_marksL, hj, true_and]
    refine and_congr_right fun _ => ?_
    have h1 : bit (marksL done D.length) j = false ↔ (j : Int) ∉ done := by
      rw [← Bool.not_eq_true, bit_marksL]; simp [hj]
    rw [h1]
    refine and_congr_right fun _ => forall_congr' fun d => forall_congr' fun hd => ?_
    have := right_mem hr hd
    obtain ⟨c, rfl⟩ : ∃ c : Nat, d = c := ⟨d.toNat, by omega⟩
    rw [mem_thoseL']
    simp only [Int.toNat_natCast]
    have hc : c < D.length := by omega
    simp [hc]
  · constructor
    · intro h; have := bit_lt h; simp at this; omega
    · intro h; exact absurd h.1 hj
theorem readyL_mem {D : List (List Int)} {done some : List Int} {a : Int} (h : a ∈ readyL D done some) : rightD D = true ∧ ∃ j : Nat, a = j ∧ j < D.length := by
  unfold readyL at h
  split at h
  · rename_i hr
    obtain ⟨j, rfl, hb⟩ := mem_thoseL.1 h
    exact ⟨hr, j, rfl, by have := bit_lt hb; simpa using this⟩
  · simp at h
/-- With what was done closed, what was done and what is ready are closed; and nothing more of them could come. -/
theorem ready_closed {D : List (List Int)} {was some : List Int} (hw : closedB D was = true) : closedB D (was ++ readyL D was some) = true := by
  obtain ⟨hr, h1, h2⟩ := closed_iff.1 hw
  rw [closed_iff]
  refine ⟨hr, fun i hi => ?_, fun i hi d hd => ?_⟩
  · rcases List.mem_append.1 hi with h | h
    · exact h1 i h
    · obtain ⟨_, j, rfl, hj⟩ := readyL_mem h; omega
  · rcases List.mem_append.1 hi with h | h
    · exact List.mem_append.2 (.inl (h2 i h d hd))
    · exact List.mem_append.2 (((mem_readyL hr).1 h).2.2.2 d hd)
theorem ready_most {D : List (List Int)} {was some : List Int} {n : Int} (h0 : 0 ≤ n) (h1 : n < (D.length : Int)) (hs : n ∈ some) (hn : n ∉ was ++ readyL D was some) : closedB D ((was ++ readyL D was some) ++ [n]) = false := by
  rw [Bool.eq_false_iff]
  intro hc
  obtain ⟨hr, _, h2⟩ := closed_iff.1 hc
  obtain ⟨k, rfl⟩ : ∃ k : Nat, n = k := ⟨n.toNat, by omega⟩
  apply hn
  refine List.mem_append.2 (.inr ((mem_readyL hr).2 ⟨by omega, hs, fun h => hn (List.mem_append.2 (.inl h)), fun d hd => ?_⟩))
  have := right_mem hr hd
  rcases List.mem_append.1 (h2 k (by simp) d hd) with h | h
  · exact List.mem_append.1 h
  · simp at h; omega
/-- With more done more is ready. -/
theorem ready_more {D : List (List Int)} {done more some : List Int} (hr : rightD D = true) (hdm : ∀ a ∈ done, a ∈ more) {a : Int} (h : a ∈ readyL D done some) : a ∈ readyL D more some ∨ a ∈ more := by
  obtain ⟨_, j, rfl, hj⟩ := readyL_mem h
  clear hj
  induction j using Nat.strongRecOn with
  | ind j ih =>
    obtain ⟨h1, h2, h3, h4⟩ := (mem_readyL hr).1 h
    by_cases hm : (j : Int) ∈ more
    · exact .inr hm
    · refine .inl ((mem_readyL hr).2 ⟨h1, h2, hm, fun d hd => ?_⟩)
      have hl := right_mem hr hd
      obtain ⟨c, rfl⟩ : ∃ c : Nat, d = c := ⟨d.toNat, by omega⟩
      rcases h4 _ hd with h5 | h5
      · exact .inl (hdm _ h5)
      · exact (ih c (by omega) h5).symm

/-! ### Before, Above -/
def aheadL (D : List (List Int)) (b : Nat) : List Bool := closeD D (marksL (nth D b) D.length)
@[simp] theorem aheadL_length (D : List (List Int)) (b : Nat) : (aheadL D b).length = D.length := by simp [aheadL]
theorem bit_aheadL {D : List (List Int)} (hr : rightD D = true) {b a : Nat} : bit (aheadL D b) a = true ↔ Ahead D b a := by
  rw [aheadL, bit_closeD hr (by simp)]
  constructor
  · rintro (h | ⟨i, h1, h2⟩)
    · exact .one (bit_marksL.1 h).2
    · exact .more (bit_marksL.1 h1).2 h2
  · intro h
    cases h with
    | one h => have := right_mem hr h; exact .inl (bit_marksL.2 ⟨by omega, h⟩)
    | more h h' => have := right_mem hr h; exact .inr ⟨_, bit_marksL.2 ⟨by omega, h⟩, h'⟩
def beforeB (D : List (List Int)) (a b : Int) : Bool := decide (0 ≤ a) && decide (a < (D.length : Int)) && decide (0 ≤ b) && decide (b < (D.length : Int)) && rightD D && bit (aheadL D b.toNat) a.toNat
theorem before_iff {D : List (List Int)} {a b : Int} : beforeB D a b = true ↔ rightD D = true ∧ 0 ≤ a ∧ 0 ≤ b ∧ Ahead D b.toNat a.toNat := by
  simp only [beforeB, Bool.and_eq_true, decide_eq_true_eq]
  constructor
  · rintro ⟨⟨⟨⟨⟨h0, _⟩, h1⟩, _⟩, hr⟩, h⟩; exact ⟨hr, h0, h1, (bit_aheadL hr).1 h⟩
  · rintro ⟨hr, h0, h1, h⟩
    have := h.lt hr
    exact ⟨⟨⟨⟨⟨h0, by omega⟩, h1⟩, by omega⟩, hr⟩, (bit_aheadL hr).2 h⟩
def aboveM (D : List (List Int)) (a : Nat) : Nat → List Bool
  | 0 => []
  | k + 1 => aboveM D a k ++ [decide (a < k) && (nth D k).any fun d => decide (d = (a : Int)) || bit (aboveM D a k) d.toNat]
@[simp] theorem aboveM_length (D : List (List Int)) (a k : Nat) : (aboveM D a k).length = k := by
  induction k with
  | zero => rfl
  | succ k ih => simp [aboveM, ih]
theorem bit_aboveM {D : List (List Int)} (hr : rightD D = true) {a k j : Nat} (hj : j < k) : bit (aboveM D a k) j = true ↔ Ahead D j a := by
  induction k generalizing j with
  | zero => omega
  | succ k ih =>
    by_cases h : j = k
    · subst h
      rw [aboveM, bit_append_right (by simp)]
      simp only [aboveM_length, Nat.sub_self]
      show (decide (a < j) && (nth D j).any fun d => decide (d = (a : Int)) || bit (aboveM D a j) d.toNat) = true ↔ _
      simp only [Bool.and_eq_true, decide_eq_true_eq, List.any_eq_true, Bool.or_eq_true]
      constructor
      · rintro ⟨_, d, hd, rfl | h⟩
        · exact .one hd
        · have := right_mem hr hd
          exact .more (c := d.toNat) (by rw [Int.toNat_of_nonneg this.1]; exact hd) ((ih (by omega)).1 h)
      · intro h
        refine ⟨(h.lt hr).1, ?_⟩
        cases h with
        | one h => exact ⟨_, h, .inl rfl⟩
        | more h h' => have := right_mem hr h; exact ⟨_, h, .inr (by simpa using (ih (by omega)).2 h')⟩
    · rw [aboveM, bit_append_left (by simp; omega)]; exact ih (by omega)
def aboveL (D : List (List Int)) (a : Int) : List Int := if decide (0 ≤ a) && decide (a < (D.length : Int)) && rightD D then thoseL (aboveM D a.toNat D.length) else []
theorem mem_aboveL {D : List (List Int)} {a : Int} {b : Nat} : (b : Int) ∈ aboveL D a ↔ beforeB D a b = true := by
  rw [before_iff, aboveL]
  split
  · rename_i h
    simp only [Bool.and_eq_true, decide_eq_true_eq] at h
    rw [mem_thoseL']
    constructor
    · intro hb
      have hl := bit_lt hb
      exact ⟨h.2, h.1.1, by omega, by simpa using (bit_aboveM h.2 (by simpa using hl)).1 hb⟩
    · rintro ⟨hr, _, _, ha⟩
      have := ha.lt hr
      exact (bit_aboveM hr (by simpa using this.2)).2 (by simpa using ha)
  · rename_i h
    simp only [Bool.and_eq_true, decide_eq_true_eq] at h
    constructor
    · intro h'; simp at h'
    · rintro ⟨hr, h0, _, ha⟩
      have := ha.lt hr
      exact absurd ⟨⟨h0, by omega⟩, hr⟩ h

/-! ### Depth -/
def deepRow (l : List Int) (r : List Int) : Int := l.foldl (fun m d => max m (r.getD d.toNat 0)) 0
def deepL (D : List (List Int)) : Nat → List Int
  | 0 => []
  | k + 1 => deepL D k ++ [deepRow (nth D k) (deepL D k) + 1]
@[simp] theorem deepL_length (D : List (List Int)) (k : Nat) : (deepL D k).length = k := by
  induction k with
  | zero => rfl
  | succ k ih => simp [deepL, ih]
def deep (D : List (List Int)) (i : Nat) : Int := deepRow (nth D i) (deepL D i) + 1
theorem deepL_at {D : List (List Int)} {k i : Nat} (h : i < k) : (deepL D k).getD i 0 = deep D i := by
  induction k with
  | zero => omega
  | succ k ih =>
    by_cases e : i = k
    · subst e; simp [deepL, List.getD_eq_getElem?_getD, deep]
    · have := ih (by omega)
      rw [← this, deepL]
      simp [List.getD_eq_getElem?_getD, List.getElem?_append_left (show i < (deepL D k).length by simp; omega)]
theorem foldl_max_le {l : List Int} {f : Int → Int} {z b : Int} : l.foldl (fun m d => max m (f d)) z ≤ b ↔ z ≤ b ∧ ∀ d ∈ l, f d ≤ b := by
  induction l generalizing z with
  | nil => simp
  | cons a l ih =>
    simp only [List.foldl_cons, ih, List.mem_cons, forall_eq_or_imp]
    constructor
    · rintro ⟨h1, h2⟩; exact ⟨by omega, by omega, h2⟩
    · rintro ⟨h1, h2, h3⟩; exact ⟨by omega, h3⟩
theorem deep_le {D : List (List Int)} (hr : rightD D = true) {i : Nat} {b : Int} : deep D i ≤ b ↔ 1 ≤ b ∧ ∀ c : Nat, (c : Int) ∈ nth D i → deep D c + 1 ≤ b := by
  have e : deep D i ≤ b ↔ deepRow (nth D i) (deepL D i) ≤ b - 1 := by unfold deep; omega
  rw [e, deepRow, foldl_max_le (f := fun d => (deepL D i).getD d.toNat 0)]
  constructor
  · rintro ⟨h1, h2⟩
    refine ⟨by omega, fun c hc => ?_⟩
    have hl := right_mem hr hc
    have := h2 _ hc
    simp only [Int.toNat_natCast] at this
    rw [deepL_at (by omega)] at this; omega
  · rintro ⟨h1, h2⟩
    refine ⟨by omega, fun d hd => ?_⟩
    have hl := right_mem hr hd
    obtain ⟨c, rfl⟩ : ∃ c : Nat, d = c := ⟨d.toNat, by omega⟩
    have := h2 c hd
    simp only [Int.toNat_natCast]
    rw [deepL_at (by omega)]; omega
theorem deep_pos {D : List (List Int)} (i : Nat) : 1 ≤ deep D i := by
  have : (0 : Int) ≤ deepRow (nth D i) (deepL D i) := by
    unfold deepRow
    have := (foldl_max_le (l := nth D i) (f := fun d => (deepL D i).getD d.toNat 0) (z := 0) (b := _)).1 (Int.le_refl _)
    exact this.1
  unfold deep; omega
theorem deep_lt {D : List (List Int)} (hr : rightD D = true) {b a : Nat} (h : Ahead D b a) : deep D a < deep D b := by
  induction h with
  | one h => have := ((deep_le hr).1 (Int.le_refl _)).2 _ h; omega
  | more h _ ih => have := ((deep_le hr).1 (Int.le_refl _)).2 _ h; omega
theorem deep_most {D : List (List Int)} (hr : rightD D = true) (i : Nat) : deep D i ≤ i + 1 := by
  induction i using Nat.strongRecOn with
  | ind i ih =>
    refine (deep_le hr).2 ⟨by omega, fun c hc => ?_⟩
    have := right_mem hr hc
    have := ih c (by omega)
    omega
def depthI (D : List (List Int)) (a : Int) : Int := if decide (0 ≤ a) && decide (a < (D.length : Int)) && rightD D then deep D a.toNat else 0

/-! ### Thin -/
def said (D : List (List Int)) (i : Nat) (d : Int) : Bool := (nth D i).any fun k => bit (aheadL D k.toNat) d.toNat
def thinRow (D : List (List Int)) (i : Nat) : List Int := (thoseL (marksL (nth D i) i)).filter fun d => !said D i d
def thinD (D : List (List Int)) : List (List Int) := if rightD D then (List.range D.length).map (thinRow D) else []
theorem thinD_length {D : List (List Int)} (hr : rightD D = true) : (thinD D).length = D.length := by simp [thinD, hr]
theorem nth_thinD {D : List (List Int)} (hr : rightD D = true) {i : Nat} (hi : i < D.length) : nth (thinD D) i = thinRow D i := by
  simp [nth, thinD, hr, List.getD_eq_getElem?_getD, hi]
theorem said_iff {D : List (List Int)} (hr : rightD D = true) {i : Nat} {d : Nat} : said D i d = true ↔ ∃ k : Nat, (k : Int) ∈ nth D i ∧ Ahead D k d := by
  simp only [said, List.any_eq_true]
  constructor
  · rintro ⟨k, hk, h⟩
    have := right_mem hr hk
    exact ⟨k.toNat, by rw [Int.toNat_of_nonneg this.1]; exact hk, by simpa using (bit_aheadL hr).1 h⟩
  · rintro ⟨k, hk, h⟩; exact ⟨k, hk, by simpa using (bit_aheadL hr).2 h⟩
theorem mem_thinRow {D : List (List Int)} (hr : rightD D = true) {i : Nat} {d : Nat} : (d : Int) ∈ thinRow D i ↔ (d : Int) ∈ nth D i ∧ ¬ ∃ k : Nat, (k : Int) ∈ nth D i ∧ Ahead D k d := by
  rw [thinRow, List.mem_filter, mem_thoseL', bit_marksL, ← said_iff hr]
  simp only [Bool.not_eq_true', Bool.not_eq_true]
  refine and_congr_left fun _ => ⟨fun h => h.2, fun h => ⟨?_, h⟩⟩
  have := right_mem hr h; omega
theorem thinRow_nat {D : List (List Int)} {i : Nat} {a : Int} (h : a ∈ thinRow D i) : ∃ d : Nat, a = d := by
  rw [thinRow, List.mem_filter] at h
  obtain ⟨j, rfl, _⟩ := mem_thoseL.1 h.1
  exact ⟨j, rfl⟩
theorem sub_thinRow {D : List (List Int)} (hr : rightD D = true) {i : Nat} {a : Int} (h : a ∈ thinRow D i) : a ∈ nth D i := by
  obtain ⟨d, rfl⟩ := thinRow_nat h
  exact ((mem_thinRow hr).1 h).1
theorem thoseL_sorted (m : List Bool) : (thoseL m).Pairwise (· < ·) := by
  unfold thoseL
  rw [List.pairwise_map]
  refine List.Pairwise.imp ?_ (List.Pairwise.filter _ List.pairwise_lt_range)
  intro a b h; omega
theorem thinRow_sorted (D : List (List Int)) (i : Nat) : (thinRow D i).Pairwise (· < ·) := (thoseL_sorted _).filter _
theorem marksL_le_length (l : List Int) (n : Nat) : (thoseL (marksL l n)).length ≤ n := by
  simp only [thoseL, List.length_map]
  refine Nat.le_trans (List.length_filter_le _ _) (by simp)
theorem thin_right {D : List (List Int)} (hr : rightD D = true) : rightD (thinD D) = true := by
  rw [right_iff, thinD_length hr]
  refine ⟨(right_iff.1 hr).1, fun i hi => ?_⟩
  rw [nth_thinD hr hi]
  refine ⟨?_, fun d hd => ?_⟩
  · have h1 := (right_iff.1 hr).1
    have h2 := List.length_filter_le (fun d => !said D i d) (thoseL (marksL (nth D i) i))
    have h3 := marksL_le_length (nth D i) i
    unfold thinRow; omega
  · have := right_mem hr (sub_thinRow hr hd); omega
theorem thin_ahead {D : List (List Int)} (hr : rightD D = true) {b a : Nat} : Ahead (thinD D) b a ↔ Ahead D b a := by
  constructor
  · intro h
    have key : ∀ {b a : Nat}, (a : Int) ∈ nth (thinD D) b → (a : Int) ∈ nth D b := by
      intro b a h
      have hb := (right_mem (thin_right hr) h).2.2
      rw [thinD_length hr] at hb
      rw [nth_thinD hr hb] at h
      exact sub_thinRow hr h
    induction h with
    | one h => exact .one (key h)
    | more h _ ih => exact .more (key h) ih
  · intro h
    induction b using Nat.strongRecOn generalizing a with
    | ind b ih =>
      have hb := (h.lt hr).2
      -- what stands in D's row comes ahead in the thin ones: the greatest first
      have row : ∀ j a : Nat, b - a ≤ j → (a : Int) ∈ nth D b → Ahead (thinD D) b a := by
        intro j
        induction j with
        | zero =>
          intro a hj ha
          have := right_mem hr ha; omega
        | succ j ihj =>
          intro a hj ha
          have hl := right_mem hr ha
          by_cases ht : (a : Int) ∈ thinRow D b
          · exact .one (by rw [nth_thinD hr hb]; exact ht)
          · have : ∃ k : Nat, (k : Int) ∈ nth D b ∧ Ahead D k a := by
              apply Classical.byContradiction
              intro hn
              exact ht ((mem_thinRow hr).2 ⟨ha, hn⟩)
            obtain ⟨k, hk, hka⟩ := this
            have hk' := right_mem hr hk
            have := hka.lt hr
            exact (ihj k (by omega) hk).trans (ih k (by omega) hka)
      cases h with
      | one h => exact row _ _ (Nat.le_refl _) h
      | more h h' =>
        have := right_mem hr h
        exact (row _ _ (Nat.le_refl _) h).trans (ih _ (by omega) h')
theorem thin_deep {D : List (List Int)} (hr : rightD D = true) (i : Nat) (hi : i < D.length) : deep (thinD D) i = deep D i := by
  induction i using Nat.strongRecOn with
  | ind i ih =>
    have hr' := thin_right hr
    apply Int.le_antisymm
    · refine (deep_le hr').2 ⟨deep_pos _, fun c hc => ?_⟩
      rw [nth_thinD hr hi] at hc
      have hd := sub_thinRow hr hc
      have := right_mem hr hd
      rw [ih c (by omega) (by omega)]
      exact ((deep_le hr).1 (Int.le_refl _)).2 c hd
    · refine (deep_le hr).2 ⟨deep_pos _, ?_⟩
      have row : ∀ j c : Nat, i - c ≤ j → (c : Int) ∈ nth D i → deep D c + 1 ≤ deep (thinD D) i := by
        intro j
        induction j with
        | zero => intro c hj hc; have := right_mem hr hc; omega
        | succ j ihj =>
          intro c hj hc
          have hl := right_mem hr hc
          by_cases ht : (c : Int) ∈ thinRow D i
          · have := ((deep_le hr').1 (Int.le_refl _)).2 c (by rw [nth_thinD hr hi]; exact ht)
            rwa [ih c (by omega) (by omega)] at this
          · have : ∃ k : Nat, (k : Int) ∈ nth D i ∧ Ahead D k c := by
              apply Classical.byContradiction
              intro hn
              exact ht ((mem_thinRow hr).2 ⟨hc, hn⟩)
            obtain ⟨k, hk, hka⟩ := this
            have hk' := right_mem hr hk
            have hlt := hka.lt hr
            have h1 := ihj k (by omega) hk
            have h2 := deep_lt hr hka
            omega
      exact fun c hc => row _ c (Nat.le_refl _) hc
theorem thin_before {D : List (List Int)} (hr : rightD D = true) (a b : Int) : beforeB (thinD D) a b = beforeB D a b := by
  rw [Bool.eq_iff_iff, before_iff, before_iff, thin_ahead hr]
  simp [hr, thin_right hr]
theorem thin_depth {D : List (List Int)} (hr : rightD D = true) (a : Int) : depthI (thinD D) a = depthI D a := by
  unfold depthI
  rw [thinD_length hr, hr, thin_right hr]
  split
  · rename_i h
    simp only [Bool.and_eq_true, decide_eq_true_eq] at h
    exact thin_deep hr _ (by omega)
  · rfl
theorem sorted_ext {l l' : List Int} (h : l.Pairwise (· < ·)) (h' : l'.Pairwise (· < ·)) (he : ∀ a, a ∈ l ↔ a ∈ l') : l = l' := by
  induction l generalizing l' with
  | nil =>
    cases l' with
    | nil => rfl
    | cons b r => have := (he b).2 (by simp); simp at this
  | cons a l ih =>
    cases l' with
    | nil => have := (he a).1 (by simp); simp at this
    | cons b r =>
      obtain ⟨h1, h2⟩ := List.pairwise_cons.1 h
      obtain ⟨h3, h4⟩ := List.pairwise_cons.1 h'
      have hab : a = b := by
        rcases List.mem_cons.1 ((he a).1 (by simp)) with e | e
        · exact e
        · rcases List.mem_cons.1 ((he b).2 (by simp)) with e' | e'
          · exact e'.symm
          · have := h1 _ e'; have := h3 _ e; omega
      subst hab
      rw [ih h2 h4 fun c => ?_]
      have := he c
      simp only [List.mem_cons] at this
      constructor
      · intro hc
        rcases this.1 (.inr hc) with e | e
        · have := h1 _ hc; omega
        · exact e
      · intro hc
        rcases this.2 (.inr hc) with e | e
        · have := h3 _ hc; omega
        · exact e
theorem thin_thin {D : List (List Int)} (hr : rightD D = true) : thinD (thinD D) = thinD D := by
  have hr' := thin_right hr
  have hl := thinD_length hr
  have e1 : thinD (thinD D) = (List.range (thinD D).length).map (thinRow (thinD D)) := by rw [thinD, if_pos hr']
  have e2 : thinD D = (List.range D.length).map (thinRow D) := by rw [thinD, if_pos hr]
  rw [e1, hl]
  conv => rhs; rw [e2]
  refine List.map_congr_left fun i hi => ?_
  have hi : i < D.length := by simpa using hi
  refine sorted_ext (thinRow_sorted _ _) (thinRow_sorted _ _) fun a => ?_
  constructor
  · intro h
    have := sub_thinRow hr' h
    rwa [nth_thinD hr hi] at this
  · intro h
    obtain ⟨d, rfl⟩ := thinRow_nat h
    refine (mem_thinRow hr').2 ⟨by rw [nth_thinD hr hi]; exact h, ?_⟩
    rintro ⟨k, hk, hka⟩
    rw [nth_thinD hr hi] at hk
    exact ((mem_thinRow hr).1 h).2 ⟨k, sub_thinRow hr hk, (thin_ahead hr).1 hka⟩
end Go.Sel.Gra
/- Small words of my own for the walks over selvedge: slices of slices of whole numbers. No program in sight. -/
namespace Go.Sel
open Go.RowKit Go.Sel.Gra

/-- A slice value's three parts as one value. -/
def sv (s : Option Addr × Nat × Nat) : Value := .slice s.1 s.2.1 s.2.2

/-- '.slice A n c' reads as the rows D. -/
def Dp (w : World) (A : Option Addr) (n c : Nat) (D : List (List Int)) : Prop :=
  D.length = n ∧ ∃ ss : List (Option Addr × Nat × Nat), ss.length = n ∧ Rd w A n c (ss.map sv) ∧ ∀ j (h : j < ss.length), (nth D j).length = ss[j].2.1 ∧ Rd w ss[j].1 ss[j].2.1 ss[j].2.2 (iv .i64 (nth D j))
theorem Dp.len {w : World} {A : Option Addr} {n c : Nat} {D : List (List Int)} (h : Dp w A n c D) : D.length = n := h.1
theorem Dp.le {w : World} {A : Option Addr} {n c : Nat} {D : List (List Int)} (h : Dp w A n c D) : n ≤ c := by
  obtain ⟨_, ss, _, hr, _⟩ := h; exact hr.le
theorem Dp.cap {w : World} {A : Option Addr} {n c : Nat} {D : List (List Int)} (h : Dp w A n c D) : c ≤ 9223372036854775807 := by
  obtain ⟨_, ss, _, hr, _⟩ := h; exact hr.cap
theorem Dp.below {w w' : World} {A : Option Addr} {n c : Nat} {D : List (List Int)} (h : Dp w A n c D) (hb : Below w.heap.size w w') : Dp w' A n c D := by
  obtain ⟨h1, ss, h2, h3, h4⟩ := h
  exact ⟨h1, ss, h2, h3.below hb, fun j hj => ⟨(h4 j hj).1, (h4 j hj).2.below hb⟩⟩
/-- The i-th row: where its slice stands, and what it reads as. -/
theorem Dp.at_ {w : World} {A : Option Addr} {n c : Nat} {D : List (List Int)} (h : Dp w A n c D) {i : Nat} (hi : i < n) :
    ∃ b off A' n' c', A = some ⟨b, off, none⟩ ∧ w.cell? ⟨b, off + i, none⟩ = some (.slice A' n' c') ∧ (nth D i).length = n' ∧ Rd w A' n' c' (iv .i64 (nth D i)) := by
  obtain ⟨h1, ss, h2, h3, h4⟩ := h
  obtain ⟨b, off, rfl, _, hc⟩ := h3.form (by simp; omega)
  have hs : i < ss.length := by omega
  have := hc i (by simpa using hs)
  simp only [List.getElem_map, sv] at this
  exact ⟨b, off, _, _, _, rfl, this, (h4 i hs).1, (h4 i hs).2⟩
theorem Dp.nil {w : World} {A : Option Addr} {c : Nat} (h : c ≤ 9223372036854775807) : Dp w A 0 c [] := ⟨rfl, [], rfl, Rd.nil h, fun j h => by simp at h⟩
/-- Rows built one behind another. -/
theorem Dp.mk_ {w : World} {A : Option Addr} {n c : Nat} {D : List (List Int)} (ss : List (Option Addr × Nat × Nat)) (hD : D.length = n) (hs : ss.length = n) (hr : Rd w A n c (ss.map sv)) (h : ∀ j (h : j < ss.length), (nth D j).length = ss[j].2.1 ∧ Rd w ss[j].1 ss[j].2.1 ss[j].2.2 (iv .i64 (nth D j))) : Dp w A n c D := ⟨hD, ss, hs, hr, h⟩
end Go.Sel
