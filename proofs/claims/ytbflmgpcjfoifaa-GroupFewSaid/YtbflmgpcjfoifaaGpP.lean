/- Groups, plainly: what the document says of them. No program in sight. -/
import Derived.Test.YtbflmgpcjfoifaaSel7
set_option linter.unusedSimpArgs false
set_option linter.unusedVariables false
namespace Go.Sel.Gp

/-- A group: its number, state, patches, those that it comes behind. -/
structure G where
  n : Int
  st : Int
  ps : List Int
  ah : List Int
deriving DecidableEq
def zG : G := ⟨0, 0, [], []⟩
def nthG (S : List G) (i : Nat) : G := S.getD i zG
theorem nthG_get {S : List G} {i : Nat} (h : i < S.length) : nthG S i = S[i] := by simp [nthG, List.getD_eq_getElem?_getD, h]
theorem nthG_set {S : List G} {i j : Nat} (h : i < S.length) (g : G) : nthG (S.set i g) j = if i = j then g else nthG S j := by
  unfold nthG
  simp only [List.getD_eq_getElem?_getD, List.getElem?_set]
  split
  · rename_i e; subst e; simp [h]
  · rfl
/-- Numbers with one more, each once, rising if they rise. -/
def withL : List Int → Int → List Int
  | [], n => [n]
  | x :: l, n => if n ≤ x then n :: (x :: l).filter (fun y => y != n) else x :: withL l n
theorem mem_withL {l : List Int} {n x : Int} : x ∈ withL l n ↔ x = n ∨ x ∈ l := by
  induction l with
  | nil => simp [withL]
  | cons a l ih =>
    unfold withL
    split
    · rename_i h
      rw [List.mem_cons, List.mem_filter]
      simp only [bne_iff_ne, ne_eq]
      constructor
      · rintro (h1 | ⟨h1, _⟩)
        · exact .inl h1
        · exact .inr h1
      · rintro (h1 | h1)
        · exact .inl h1
        · by_cases e : x = n
          · exact .inl e
          · exact .inr ⟨h1, e⟩
    · rw [List.mem_cons, ih, List.mem_cons]
      constructor
      · rintro (h1 | h1 | h1)
        · exact .inr (.inl h1)
        · exact .inl h1
        · exact .inr (.inr h1)
      · rintro (h1 | h1 | h1)
        · exact .inr (.inl h1)
        · exact .inl h1
        · exact .inr (.inr h1)
theorem withL_rises {l : List Int} {n : Int} (h : l.Pairwise (· < ·)) : (withL l n).Pairwise (· < ·) := by
  induction l with
  | nil => simp [withL]
  | cons a l ih =>
    unfold withL
    split
    · rename_i hn
      rw [List.pairwise_cons]
      refine ⟨fun x hx => ?_, h.filter _⟩
      simp only [List.mem_filter, bne_iff_ne, ne_eq] at hx
      rcases List.mem_cons.1 hx.1 with e | e
      · have := hx.2; omega
      · have := (List.pairwise_cons.1 h).1 x e; omega
    · rw [List.pairwise_cons]
      refine ⟨fun x hx => ?_, ih (List.pairwise_cons.1 h).2⟩
      rcases mem_withL.1 hx with e | e
      · omega
      · exact (List.pairwise_cons.1 h).1 x e
theorem withL_length (l : List Int) (n : Int) : (withL l n).length ≤ l.length + 1 := by
  induction l with
  | nil => simp [withL]
  | cons a l ih =>
    unfold withL
    split
    · have := List.length_filter_le (fun y => y != n) (a :: l)
      simp only [List.length_cons] at *
      omega
    · simp only [List.length_cons]; omega
/-- The place of a group. -/
def posG (S : List G) (n : Int) : Option Nat := S.findIdx? (fun g => g.n == n)
theorem posG_lt {S : List G} {n : Int} {i : Nat} (h : posG S n = some i) : i < S.length ∧ (nthG S i).n = n ∧ ∀ j, j < i → (nthG S j).n ≠ n := by
  unfold posG at h
  rw [List.findIdx?_eq_some_iff_getElem] at h
  obtain ⟨h1, h2, h3⟩ := h
  refine ⟨h1, by rw [nthG_get h1]; simpa using h2, fun j hj => ?_⟩
  have := h3 j hj
  rw [nthG_get (by omega)]
  simpa using this
theorem posG_none {S : List G} {n : Int} (h : posG S n = none) : ∀ j, j < S.length → (nthG S j).n ≠ n := by
  unfold posG at h
  rw [List.findIdx?_eq_none_iff] at h
  intro j hj
  rw [nthG_get hj]
  simpa using h _ (List.getElem_mem hj)
def makeS (S : List G) (next : Int) : Int × Int × List G × Int := if 8 ≤ S.length then (0, 11, S, next) else (next, 0, S ++ [⟨next, 1, [], []⟩], next + 1)
def dependS (S : List G) (later ahead : Int) : Int × List G :=
  match posG S later, posG S ahead with
  | some i, some k => if (nthG S i).st ≠ 1 ∨ (nthG S k).st ≠ 4 then (13, S) else (0, S.set i { nthG S i with ah := (nthG S i).ah ++ [ahead] })
  | _, _ => (5, S)
def turnS (S : List G) (n a b c : Int) : Int × List G :=
  match posG S n with
  | none => (5, S)
  | some i => if (nthG S i).st ≠ a ∧ (nthG S i).st ≠ b then (13, S) else (0, S.set i { nthG S i with st := c })
def abandonS (S : List G) (n : Int) : Int × List G :=
  match posG S n with
  | none => (5, S)
  | some i => if (nthG S i).st = 2 then (13, S) else if S.any (fun g => decide (n ∈ g.ah)) then (12, S) else (0, S.take i ++ S.drop (i + 1))
def took1 (p : Int) (g : G) : G := if g.st = 2 then { g with ps := withL g.ps p } else g
def tookS (S : List G) (p : Int) : Int × List G := if p < 0 then (2, S) else (0, S.map (took1 p))
def patchesS (S : List G) (n : Int) : List Int := match posG S n with | none => [] | some i => (nthG S i).ps
def stateS (S : List G) (n : Int) : Int := match posG S n with | none => 0 | some i => (nthG S i).st
def ahOf (S : List G) (n : Int) : List Int := match posG S n with | none => [] | some i => (nthG S i).ah
def withAll (out l : List Int) : List Int := l.foldl withL out
/-- One round more: with what these come behind. -/
def roundS (S : List G) (out : List Int) : List Int := out.foldl (fun o k => withAll o (ahOf S k)) out
def roundsS (S : List G) : Nat → List Int → List Int
  | 0, out => out
  | r + 1, out => roundS S (roundsS S r out)
def aheadS (S : List G) (n : Int) : List Int := match posG S n with | none => [] | some i => roundsS S S.length (withAll [] (nthG S i).ah)
def behind1 (S : List G) (out : List Int) (g : G) : List Int := if g.st = 2 then (aheadS S g.n).foldl (fun o a => withAll o (patchesS S a)) out else out
def behindS (S : List G) : List Int := S.foldl (behind1 S) []
def engagedS (S : List G) : List Int := (S.filter fun g => decide (g.st = 2)).map (·.n)
end Go.Sel.Gp
/- Groups, plainly: what the rounds keep. No program in sight. -/
set_option linter.unusedSimpArgs false
set_option linter.unusedVariables false
namespace Go.Sel.Gp

theorem rises_length : ∀ {xs L : List Int}, xs.Pairwise (· < ·) → (∀ x ∈ xs, x ∈ L) → xs.length ≤ L.length
  | [], _, _, _ => by simp
  | x :: t, L, h, hs => by
    obtain ⟨h1, h2⟩ := List.pairwise_cons.1 h
    have hx : x ∈ L := hs x (by simp)
    have := rises_length (xs := t) (L := L.erase x) h2 fun y hy => by
      have := h1 y hy
      exact (List.mem_erase_of_ne (by omega)).2 (hs y (by simp [hy]))
    rw [List.length_erase_of_mem hx] at this
    have hl := List.length_pos_of_mem hx
    simp only [List.length_cons]
    omega
/-- A rising row of numbers of L. -/
structure Ok (L : List Int) (out : List Int) : Prop where
  rises : out.Pairwise (· < ·)
  of : ∀ x ∈ out, x ∈ L
theorem Ok.length {L out : List Int} (h : Ok L out) : out.length ≤ L.length := rises_length h.rises h.of
theorem Ok.nil {L : List Int} : Ok L [] := ⟨List.Pairwise.nil, by simp⟩
theorem Ok.with {L out : List Int} (h : Ok L out) {n : Int} (hn : n ∈ L) : Ok L (withL out n) :=
  ⟨withL_rises h.rises, fun x hx => by
    rcases mem_withL.1 hx with e | e
    · rw [e]; exact hn
    · exact h.of x e⟩
theorem Ok.all {L : List Int} : ∀ {l out : List Int}, Ok L out → (∀ x ∈ l, x ∈ L) → Ok L (withAll out l)
  | [], _, h, _ => h
  | x :: l, out, h, hl => Ok.all (l := l) (h.with (hl x (by simp))) (fun y hy => hl y (by simp [hy]))
/-- All that anything comes behind. -/
def Ah (S : List G) : List Int := S.flatMap (·.ah)
def Ps (S : List G) : List Int := S.flatMap (·.ps)
theorem mem_ah {S : List G} {i : Nat} (h : i < S.length) {x : Int} (hx : x ∈ (nthG S i).ah) : x ∈ Ah S := by
  rw [nthG_get h] at hx
  exact List.mem_flatMap.2 ⟨_, List.getElem_mem h, hx⟩
theorem mem_ps {S : List G} {i : Nat} (h : i < S.length) {x : Int} (hx : x ∈ (nthG S i).ps) : x ∈ Ps S := by
  rw [nthG_get h] at hx
  exact List.mem_flatMap.2 ⟨_, List.getElem_mem h, hx⟩
theorem ahOf_mem {S : List G} {n x : Int} (h : x ∈ ahOf S n) : x ∈ Ah S := by
  unfold ahOf at h
  cases hp : posG S n with
  | none => rw [hp] at h; simp at h
  | some i => rw [hp] at h; exact mem_ah (posG_lt hp).1 h
theorem patchesS_mem {S : List G} {n x : Int} (h : x ∈ patchesS S n) : x ∈ Ps S := by
  unfold patchesS at h
  cases hp : posG S n with
  | none => rw [hp] at h; simp at h
  | some i => rw [hp] at h; exact mem_ps (posG_lt hp).1 h
theorem ah_le {S : List G} {i : Nat} (h : i < S.length) : (nthG S i).ah.length ≤ (Ah S).length := by
  rw [nthG_get h, Ah, List.length_flatMap]
  have : ∀ (S : List G) i (h : i < S.length), S[i].ah.length ≤ (S.map fun g => g.ah.length).sum := by
    intro S
    induction S with
    | nil => intro i h; simp at h
    | cons g S ih =>
      intro i h
      cases i with
      | zero => simp
      | succ i => simp only [List.getElem_cons_succ, List.map_cons, List.sum_cons]; have := ih i (by simpa using h); omega
  exact this S i h
theorem ps_le {S : List G} {i : Nat} (h : i < S.length) : (nthG S i).ps.length ≤ (Ps S).length := by
  rw [nthG_get h, Ps, List.length_flatMap]
  have : ∀ (S : List G) i (h : i < S.length), S[i].ps.length ≤ (S.map fun g => g.ps.length).sum := by
    intro S
    induction S with
    | nil => intro i h; simp at h
    | cons g S ih =>
      intro i h
      cases i with
      | zero => simp
      | succ i => simp only [List.getElem_cons_succ, List.map_cons, List.sum_cons]; have := ih i (by simpa using h); omega
  exact this S i h
/-- One key of a round. -/
def round1 (S : List G) (o : List Int) (k : Int) : List Int := withAll o (ahOf S k)
theorem Ok.round1 {S : List G} {o : List Int} (h : Ok (Ah S) o) (k : Int) : Ok (Ah S) (round1 S o k) := h.all fun x hx => ahOf_mem hx
theorem Ok.fold {S : List G} : ∀ {l o : List Int}, Ok (Ah S) o → Ok (Ah S) (l.foldl (Gp.round1 S) o)
  | [], _, h => h
  | k :: l, o, h => Ok.fold (l := l) (h.round1 k)
theorem Ok.round {S : List G} {o : List Int} (h : Ok (Ah S) o) : Ok (Ah S) (roundS S o) := Ok.fold h
theorem Ok.rounds {S : List G} {o : List Int} (h : Ok (Ah S) o) : ∀ r, Ok (Ah S) (roundsS S r o)
  | 0 => h
  | r + 1 => (Ok.rounds h r).round
theorem foldl_take {α β : Type} (f : α → β → α) (l : List β) (z : α) {k : Nat} (h : k < l.length) : (l.take (k + 1)).foldl f z = f ((l.take k).foldl f z) l[k] := by
  rw [List.take_succ_eq_append_getElem h, List.foldl_append]
  rfl
theorem aheadS_ok {S : List G} (n : Int) : Ok (Ah S) (aheadS S n) := by
  unfold aheadS
  cases hp : posG S n with
  | none => exact Ok.nil
  | some i => exact (Ok.nil.all fun x hx => mem_ah (posG_lt hp).1 hx).rounds _
end Go.Sel.Gp
/- Groups, plainly: what comes behind what, through others. No program in sight. -/
set_option linter.unusedSimpArgs false
set_option linter.unusedVariables false
namespace Go.Sel.Gp

/-- a comes ahead of n, itself or through others. -/
inductive Rch (S : List G) : Int → Int → Prop
  | one {n a : Int} : a ∈ ahOf S n → Rch S n a
  | more {n a y : Int} : a ∈ ahOf S n → Rch S a y → Rch S n y
theorem Rch.iff {S : List G} {n y : Int} : Rch S n y ↔ y ∈ ahOf S n ∨ ∃ a, a ∈ ahOf S n ∧ Rch S a y := by
  constructor
  · intro h
    cases h with
    | one h => exact .inl h
    | more h k => exact .inr ⟨_, h, k⟩
  · rintro (h | ⟨a, h, k⟩)
    · exact .one h
    · exact .more h k
theorem Rch.trans {S : List G} {n a y : Int} (h : Rch S n a) (k : Rch S a y) : Rch S n y := by
  induction h with
  | one h => exact .more h k
  | more h _ ih => exact .more h (ih k)
/-- A way from n: each comes ahead of the one before it. -/
def Pth (S : List G) : Int → List Int → Prop
  | _, [] => True
  | n, a :: l => a ∈ ahOf S n ∧ Pth S a l
theorem Pth.snoc {S : List G} : ∀ {l : List Int} {n z y : Int}, Pth S n (l ++ [z]) → y ∈ ahOf S z → Pth S n (l ++ [z] ++ [y])
  | [], _, _, _, h, hy => ⟨h.1, hy, trivial⟩
  | _ :: l, _, _, _, h, hy => ⟨h.1, Pth.snoc (l := l) h.2 hy⟩
theorem Pth.last {S : List G} : ∀ {l : List Int} {n z y : Int}, Pth S n (l ++ [z] ++ [y]) → Pth S n (l ++ [z]) ∧ y ∈ ahOf S z
  | [], _, _, _, h => ⟨⟨h.1, trivial⟩, h.2.1⟩
  | _ :: l, _, _, _, h => ⟨⟨h.1, (Pth.last (l := l) h.2).1⟩, (Pth.last (l := l) h.2).2⟩
theorem Rch.path {S : List G} {n y : Int} (h : Rch S n y) : ∃ l, Pth S n (l ++ [y]) := by
  induction h with
  | one h => exact ⟨[], h, trivial⟩
  | more h _ ih =>
    obtain ⟨l, hl⟩ := ih
    exact ⟨_ :: l, h, hl⟩
theorem mem_withAll {l : List Int} : ∀ {o : List Int} {x : Int}, x ∈ withAll o l ↔ x ∈ o ∨ x ∈ l := by
  induction l with
  | nil => intro o x; simp [withAll]
  | cons a l ih =>
    intro o x
    have : withAll o (a :: l) = withAll (withL o a) l := rfl
    rw [this, ih, mem_withL, List.mem_cons]
    constructor
    · rintro ((h | h) | h)
      · exact .inr (.inl h)
      · exact .inl h
      · exact .inr (.inr h)
    · rintro (h | h | h)
      · exact .inl (.inr h)
      · exact .inl (.inl h)
      · exact .inr h
theorem mem_fold1 {S : List G} : ∀ {l o : List Int} {x : Int}, x ∈ l.foldl (fun o k => withAll o (ahOf S k)) o ↔ x ∈ o ∨ ∃ k ∈ l, x ∈ ahOf S k := by
  intro l
  induction l with
  | nil => intro o x; simp
  | cons a l ih =>
    intro o x
    rw [List.foldl_cons, ih, mem_withAll]
    simp only [List.mem_cons, exists_eq_or_imp]
    constructor
    · rintro ((h | h) | h)
      · exact .inl h
      · exact .inr (.inl h)
      · exact .inr (.inr h)
    · rintro (h | h | h)
      · exact .inl (.inl h)
      · exact .inl (.inr h)
      · exact .inr h
theorem mem_roundS {S : List G} {o : List Int} {x : Int} : x ∈ roundS S o ↔ x ∈ o ∨ ∃ k ∈ o, x ∈ ahOf S k := mem_fold1
theorem rounds_sub {S : List G} {o : List Int} {n : Int} (h : ∀ x ∈ o, Rch S n x) : ∀ r, ∀ x ∈ roundsS S r o, Rch S n x
  | 0 => h
  | r + 1 => fun x hx => by
    rcases mem_roundS.1 hx with h1 | ⟨k, h1, h2⟩
    · exact rounds_sub h r x h1
    · exact (rounds_sub h r k h1).trans (.one h2)
theorem rounds_has {S : List G} {o : List Int} {n : Int} (h : ∀ x ∈ ahOf S n, x ∈ o) : ∀ r (l : List Int) (y : Int), l.length ≤ r → Pth S n (l ++ [y]) → y ∈ roundsS S r o := by
  intro r
  induction r with
  | zero =>
    intro l y hl hp
    obtain rfl : l = [] := List.eq_nil_of_length_eq_zero (by omega)
    exact h y hp.1
  | succ r ih =>
    intro l y hl hp
    refine mem_roundS.2 ?_
    rcases List.eq_nil_or_concat l with rfl | ⟨l', z, rfl⟩
    · exact .inl (ih [] y (by simp) hp)
    · rw [List.concat_eq_append] at hp hl
      obtain ⟨h1, h2⟩ := hp.last
      exact .inr ⟨z, ih l' z (by simpa using hl) h1, h2⟩
/-- Nothing comes behind itself: all that something comes behind is there, is released, and has a smaller rank. -/
def AhOk (S : List G) : Prop := ∃ rk : Int → Nat, ∀ i, i < S.length → ∀ a ∈ (nthG S i).ah, ∃ k, posG S a = some k ∧ (nthG S k).st = 4 ∧ rk a < rk (nthG S i).n
theorem AhOk.of {S : List G} (h : AhOk S) : ∃ rk : Int → Nat, ∀ n a, a ∈ ahOf S n → (∃ k, posG S a = some k ∧ (nthG S k).st = 4) ∧ rk a < rk n := by
  obtain ⟨rk, h⟩ := h
  refine ⟨rk, fun n a ha => ?_⟩
  unfold ahOf at ha
  cases hp : posG S n with
  | none => rw [hp] at ha; simp at ha
  | some i =>
    rw [hp] at ha
    obtain ⟨k, h1, h2, h3⟩ := h i (posG_lt hp).1 a ha
    rw [(posG_lt hp).2.1] at h3
    exact ⟨⟨k, h1, h2⟩, h3⟩
theorem AhOk.rch {S : List G} (h : AhOk S) {n y : Int} (hr : Rch S n y) : ∃ k, posG S y = some k ∧ (nthG S k).st = 4 := by
  obtain ⟨rk, h⟩ := h.of
  induction hr with
  | one ha => exact (h _ _ ha).1
  | more _ _ ih => exact ih
theorem AhOk.irr {S : List G} (h : AhOk S) {n : Int} : ¬ Rch S n n := by
  obtain ⟨rk, h⟩ := h.of
  have key : ∀ {n y : Int}, Rch S n y → rk y < rk n := by
    intro n y hr
    induction hr with
    | one ha => exact (h _ _ ha).2
    | more ha _ ih => have := (h _ _ ha).2; omega
  intro hr
  have := key hr
  omega
theorem nodup_length : ∀ {xs L : List Int}, xs.Nodup → (∀ x ∈ xs, x ∈ L) → xs.length ≤ L.length
  | [], _, _, _ => by simp
  | x :: t, L, h, hs => by
    obtain ⟨h1, h2⟩ := List.nodup_cons.1 h
    have hx : x ∈ L := hs x (by simp)
    have := nodup_length (xs := t) (L := L.erase x) h2 fun y hy => (List.mem_erase_of_ne (fun e => h1 (by rw [← e]; exact hy))).2 (hs y (by simp [hy]))
    rw [List.length_erase_of_mem hx] at this
    have hl := List.length_pos_of_mem hx
    simp only [List.length_cons]
    omega
theorem posG_mem {S : List G} {n : Int} {i : Nat} (h : posG S n = some i) : n ∈ S.map (·.n) := by
  obtain ⟨h1, h2, _⟩ := posG_lt h
  rw [nthG_get h1] at h2
  exact List.mem_map.2 ⟨_, List.getElem_mem h1, h2⟩
theorem pth_short {S : List G} (h : AhOk S) {n : Int} {l : List Int} (hp : Pth S n l) : l.length ≤ S.length := by
  obtain ⟨rk, h⟩ := h.of
  have key : ∀ {l : List Int} {n : Int}, Pth S n l → (∀ x ∈ l, rk x < rk n ∧ ∃ k, posG S x = some k) ∧ l.Nodup := by
    intro l
    induction l with
    | nil => intro n _; simp
    | cons a l ih =>
      intro n hp
      obtain ⟨h1, h2⟩ := hp
      obtain ⟨h3, h4⟩ := ih h2
      obtain ⟨⟨k, hk, _⟩, h5⟩ := h _ _ h1
      refine ⟨fun x hx => ?_, List.nodup_cons.2 ⟨fun ha => ?_, h4⟩⟩
      · rcases List.mem_cons.1 hx with rfl | hx
        · exact ⟨h5, k, hk⟩
        · exact ⟨by have := (h3 x hx).1; omega, (h3 x hx).2⟩
      · have := (h3 a ha).1
        omega
  obtain ⟨k1, k2⟩ := key hp
  have := nodup_length k2 (L := S.map (·.n)) fun x hx => by
    obtain ⟨_, i, hi⟩ := k1 x hx
    exact posG_mem hi
  simpa using this
theorem mem_aheadS {S : List G} (h : AhOk S) {n y : Int} : y ∈ aheadS S n ↔ Rch S n y := by
  unfold aheadS
  cases hp : posG S n with
  | none =>
    have ha : ahOf S n = [] := by rw [ahOf, hp]
    refine ⟨fun h => by simp at h, fun hr => ?_⟩
    rcases Rch.iff.1 hr with h1 | ⟨a, h1, _⟩
    · rw [ha] at h1; simp at h1
    · rw [ha] at h1; simp at h1
  | some i =>
    have ha : ahOf S n = (nthG S i).ah := by rw [ahOf, hp]
    constructor
    · refine rounds_sub (n := n) (fun x hx => .one ?_) _ y
      rw [ha]
      exact (mem_withAll.1 hx).elim (fun h => by simp at h) id
    · intro hr
      obtain ⟨l, hl⟩ := hr.path
      have := pth_short h hl
      rw [List.length_append, List.length_singleton] at this
      refine rounds_has (n := n) (fun x hx => mem_withAll.2 (.inr ?_)) _ l y (by omega) hl
      rw [← ha]
      exact hx
theorem rises_ext : ∀ {xs ys : List Int}, xs.Pairwise (· < ·) → ys.Pairwise (· < ·) → (∀ x, x ∈ xs ↔ x ∈ ys) → xs = ys
  | [], [], _, _, _ => rfl
  | [], y :: ys, _, _, h => absurd ((h y).2 (by simp)) (by simp)
  | x :: xs, [], _, _, h => absurd ((h x).1 (by simp)) (by simp)
  | x :: xs, y :: ys, h1, h2, h => by
    obtain ⟨a1, a2⟩ := List.pairwise_cons.1 h1
    obtain ⟨b1, b2⟩ := List.pairwise_cons.1 h2
    have e : x = y := by
      have hx := (h x).1 (by simp)
      have hy := (h y).2 (by simp)
      rcases List.mem_cons.1 hx with e | hx
      · exact e
      · rcases List.mem_cons.1 hy with e | hy
        · exact e.symm
        · have := b1 x hx; have := a1 y hy; omega
    subst e
    congr 1
    refine rises_ext a2 b2 fun z => ?_
    have hz := h z
    simp only [List.mem_cons] at hz
    constructor
    · intro hzx
      rcases hz.1 (.inr hzx) with e | k
      · have := a1 z hzx; omega
      · exact k
    · intro hzy
      rcases hz.2 (.inr hzy) with e | k
      · have := b1 z hzy; omega
      · exact k
theorem mem_behindS {S : List G} {y : Int} : y ∈ behindS S ↔ ∃ g ∈ S, g.st = 2 ∧ ∃ a ∈ aheadS S g.n, y ∈ patchesS S a := by
  have k1 : ∀ (l o : List Int), y ∈ l.foldl (fun o a => withAll o (patchesS S a)) o ↔ y ∈ o ∨ ∃ a ∈ l, y ∈ patchesS S a := by
    intro l
    induction l with
    | nil => intro o; simp
    | cons a l ih =>
      intro o
      rw [List.foldl_cons, ih, mem_withAll]
      simp only [List.mem_cons, exists_eq_or_imp, or_assoc]
  have key : ∀ (l : List G) (o : List Int), y ∈ l.foldl (behind1 S) o ↔ y ∈ o ∨ ∃ g ∈ l, g.st = 2 ∧ ∃ a ∈ aheadS S g.n, y ∈ patchesS S a := by
    intro l
    induction l with
    | nil => intro o; simp
    | cons g l ih =>
      intro o
      rw [List.foldl_cons, ih]
      unfold behind1
      split
      · rename_i hst
        rw [k1]
        simp only [List.mem_cons, exists_eq_or_imp, or_assoc, hst, true_and]
      · rename_i hst
        simp only [List.mem_cons, exists_eq_or_imp, hst, false_and, false_or]
  rw [behindS, key]
  simp
theorem withAll_rises {l : List Int} : ∀ {o : List Int}, o.Pairwise (· < ·) → (withAll o l).Pairwise (· < ·) := by
  induction l with
  | nil => intro o h; exact h
  | cons a l ih => intro o h; exact ih (withL_rises h)
theorem behindS_rises (S : List G) : (behindS S).Pairwise (· < ·) := by
  have k1 : ∀ (l o : List Int), o.Pairwise (· < ·) → (l.foldl (fun o a => withAll o (patchesS S a)) o).Pairwise (· < ·) := by
    intro l
    induction l with
    | nil => intro o h; exact h
    | cons a l ih => intro o h; exact ih _ (withAll_rises h)
  have key : ∀ (l : List G) (o : List Int), o.Pairwise (· < ·) → (l.foldl (behind1 S) o).Pairwise (· < ·) := by
    intro l
    induction l with
    | nil => intro o h; exact h
    | cons g l ih =>
      intro o h
      refine ih _ ?_
      unfold behind1
      split
      · exact k1 _ _ h
      · exact h
  exact key S [] List.Pairwise.nil
end Go.Sel.Gp
/- Groups, plainly: what holds behind any deeds. No program in sight. -/
set_option linter.unusedSimpArgs false
set_option linter.unusedVariables false
namespace Go.Sel.Gp

/-- Deeds. -/
def doS (S : List G) (next kind n m : Int) : List G × Int :=
  if kind = 0 then (makeS S next).2.2 else if kind = 1 then ((dependS S n m).2, next) else if kind = 2 then ((turnS S n 1 3 2).2, next) else if kind = 3 then ((turnS S n 2 2 3).2, next)
  else if kind = 4 then ((turnS S n 1 3 4).2, next) else if kind = 5 then ((abandonS S n).2, next) else if kind = 6 then ((tookS S m).2, next) else (S, next)
/-- What comes ahead is there, is released, and has a smaller rank. -/
def AhM (S : List G) : Prop := ∃ rk : Int → Nat, ∀ g ∈ S, ∀ a ∈ g.ah, (∃ h ∈ S, h.n = a ∧ h.st = 4) ∧ rk a < rk g.n
theorem posG_of_mem {S : List G} (hn : (S.map (·.n)).Nodup) {h : G} (hm : h ∈ S) : ∃ k, posG S h.n = some k ∧ k < S.length ∧ nthG S k = h := by
  obtain ⟨k, hk, rfl⟩ := List.getElem_of_mem hm
  refine ⟨k, ?_, hk, nthG_get hk⟩
  unfold posG
  rw [List.findIdx?_eq_some_iff_getElem]
  refine ⟨hk, by simp, fun j hj => ?_⟩
  rw [List.nodup_iff_pairwise_ne, List.pairwise_iff_getElem] at hn
  have := hn j k (by simp; omega) (by simpa using hk) hj
  simpa using this
theorem rises_nodup {l : List Int} (h : l.Pairwise (· < ·)) : l.Nodup := h.imp fun h => by omega
theorem mem_nthG {S : List G} {i : Nat} (h : i < S.length) : nthG S i ∈ S := by rw [nthG_get h]; exact List.getElem_mem h
theorem AhM.ok {S : List G} (h : AhM S) (hn : (S.map (·.n)).Nodup) : AhOk S := by
  obtain ⟨rk, h⟩ := h
  refine ⟨rk, fun i hi a ha => ?_⟩
  obtain ⟨⟨x, hx, rfl, hst⟩, hr⟩ := h _ (mem_nthG hi) a ha
  obtain ⟨k, h1, _, h2⟩ := posG_of_mem hn hx
  exact ⟨k, h1, by rw [h2]; exact hst, hr⟩
structure Inv (S : List G) (next : Int) (k : Nat) : Prop where
  rise : (S.map (·.n)).Pairwise (· < ·)
  lo : ∀ g ∈ S, 1 ≤ g.n ∧ g.n < next
  nx : 1 ≤ next ∧ next ≤ k + 1
  len : S.length ≤ 8
  st : ∀ g ∈ S, 1 ≤ g.st ∧ g.st ≤ 4
  ps : ∀ g ∈ S, g.ps.Pairwise (· < ·) ∧ (∀ p ∈ g.ps, 0 ≤ p ∧ p ≤ 9223372036854775807) ∧ g.ps.length ≤ k
  ah : AhM S
  ahl : ∀ g ∈ S, g.ah.length ≤ k
theorem Inv.nil : Inv [] 1 0 := ⟨List.Pairwise.nil, by simp, by simp, by simp, by simp, by simp, ⟨fun _ => 0, by simp⟩, by simp⟩
theorem Inv.nodup {S : List G} {next : Int} {k : Nat} (h : Inv S next k) : (S.map (·.n)).Nodup := rises_nodup h.rise
theorem Inv.ok {S : List G} {next : Int} {k : Nat} (h : Inv S next k) : AhOk S := h.ah.ok h.nodup
theorem Inv.mono {S : List G} {next : Int} {k k' : Nat} (h : Inv S next k) (hk : k ≤ k') : Inv S next k' :=
  ⟨h.rise, h.lo, ⟨h.nx.1, by have := h.nx.2; omega⟩, h.len, h.st, fun g hg => ⟨(h.ps g hg).1, (h.ps g hg).2.1, Nat.le_trans (h.ps g hg).2.2 hk⟩, h.ah, fun g hg => Nat.le_trans (h.ahl g hg) hk⟩
theorem mem_set_cases {S : List G} {i : Nat} {x g : G} (h : g ∈ S.set i x) : g = x ∨ g ∈ S := (List.mem_or_eq_of_mem_set h).symm
theorem set_map_n {S : List G} {i : Nat} {x : G} (hi : i < S.length) (hx : x.n = (nthG S i).n) : (S.set i x).map (·.n) = S.map (·.n) := by
  rw [List.map_set, hx, nthG_get hi]
  have : (S.map (·.n))[i]'(by simpa using hi) = S[i].n := by simp
  rw [← this, List.set_getElem_self]
/-- One group is turned, its number kept: those not released may come to be so, or not; the released stay. -/
theorem AhM.set {S : List G} (h : AhM S) (hn : (S.map (·.n)).Nodup) {i : Nat} (hi : i < S.length) {x : G} (hx : x.n = (nthG S i).n) (hst : (nthG S i).st = 4 → x.st = 4) (hah : x.ah = (nthG S i).ah) : AhM (S.set i x) := by
  obtain ⟨rk, h⟩ := h
  have keep : ∀ a, (∃ h ∈ S, h.n = a ∧ h.st = 4) → ∃ h ∈ S.set i x, h.n = a ∧ h.st = 4 := by
    rintro a ⟨g, hg, rfl, h4⟩
    obtain ⟨k, hk, rfl⟩ := List.getElem_of_mem hg
    by_cases e : i = k
    · subst e
      rw [nthG_get hi] at hx hst
      exact ⟨x, List.mem_set hi x, hx, hst h4⟩
    · exact ⟨S[k], by
        have : (S.set i x)[k]'(by simpa using hk) = S[k] := List.getElem_set_ne e _
        rw [← this]; exact List.getElem_mem _, rfl, h4⟩
  refine ⟨rk, fun g hg a ha => ?_⟩
  rcases mem_set_cases hg with rfl | hg
  · rw [hah] at ha
    rw [hx]
    obtain ⟨h1, h2⟩ := h _ (mem_nthG hi) a ha
    exact ⟨keep a h1, h2⟩
  · obtain ⟨h1, h2⟩ := h g hg a ha
    exact ⟨keep a h1, h2⟩
theorem AhM.link {S : List G} (h : AhM S) (hn : (S.map (·.n)).Nodup) {i k : Nat} (hi : i < S.length) (hk : k < S.length) (h1 : (nthG S i).st = 1) (h4 : (nthG S k).st = 4) : AhM (S.set i { nthG S i with ah := (nthG S i).ah ++ [(nthG S k).n] }) := by
  obtain ⟨rk, h⟩ := h
  have hne : ∀ x ∈ S, x.st = 4 → x.n ≠ (nthG S i).n := fun x hx hs e => by
    obtain ⟨j, e1, hj, e2⟩ := posG_of_mem hn hx
    obtain ⟨j', e3, hj', e4⟩ := posG_of_mem hn (mem_nthG hi)
    rw [e, e3] at e1
    cases e1
    rw [e2] at e4
    rw [← e4] at h1
    omega
  have keep : ∀ a, (∃ h ∈ S, h.n = a ∧ h.st = 4) → ∃ h ∈ S.set i { nthG S i with ah := (nthG S i).ah ++ [(nthG S k).n] }, h.n = a ∧ h.st = 4 := by
    rintro a ⟨g, hg, rfl, h4'⟩
    obtain ⟨j, hj, rfl⟩ := List.getElem_of_mem hg
    by_cases e : i = j
    · subst e
      rw [nthG_get hi] at h1
      omega
    · exact ⟨S[j], by
        have : (S.set i { nthG S i with ah := (nthG S i).ah ++ [(nthG S k).n] })[j]'(by simpa using hj) = S[j] := List.getElem_set_ne e _
        rw [← this]; exact List.getElem_mem _, rfl, h4'⟩
  refine ⟨fun x => if x = (nthG S i).n then rk (nthG S i).n + rk (nthG S k).n + 1 else rk x, fun g hg a ha => ?_⟩
  have old : ∀ g ∈ S, ∀ a ∈ g.ah, (∃ h ∈ S, h.n = a ∧ h.st = 4) ∧ rk a < rk g.n ∧ a ≠ (nthG S i).n := fun g hg a ha => by
    obtain ⟨⟨x, hx, e, hs⟩, h2⟩ := h g hg a ha
    exact ⟨⟨x, hx, e, hs⟩, h2, by rw [← e]; exact hne x hx hs⟩
  rcases mem_set_cases hg with rfl | hg
  · rcases List.mem_append.1 ha with ha | ha
    · obtain ⟨b1, b2, b3⟩ := old _ (mem_nthG hi) a ha
      refine ⟨keep a b1, ?_⟩
      simp only [b3, if_false, if_true]
      omega
    · have ea : a = (nthG S k).n := by simpa using ha
      subst ea
      refine ⟨keep _ ⟨_, mem_nthG hk, rfl, h4⟩, ?_⟩
      simp only [hne _ (mem_nthG hk) h4, if_false, if_true]
      omega
  · obtain ⟨b1, b2, b3⟩ := old g hg a ha
    refine ⟨keep a b1, ?_⟩
    simp only [b3, if_false]
    split
    · rename_i e
      rw [e] at b2
      omega
    · exact b2
theorem Inv.set {S : List G} {next : Int} {k : Nat} (h : Inv S next k) {i : Nat} (hi : i < S.length) {x : G} (hx : x.n = (nthG S i).n) (h1 : 1 ≤ x.st ∧ x.st ≤ 4) (hps : x.ps = (nthG S i).ps) (hah : x.ah.length ≤ (nthG S i).ah.length + 1) (hm : AhM (S.set i x)) : Inv (S.set i x) next (k + 1) := by
  have hg := mem_nthG hi
  refine ⟨by rw [set_map_n hi hx]; exact h.rise, fun g hg' => ?_, ⟨h.nx.1, by have := h.nx.2; omega⟩, by simpa using h.len, fun g hg' => ?_, fun g hg' => ?_, hm, fun g hg' => ?_⟩
  · rcases mem_set_cases hg' with rfl | h'
    · rw [hx]; exact h.lo _ hg
    · exact h.lo g h'
  · rcases mem_set_cases hg' with rfl | h'
    · exact h1
    · exact h.st g h'
  · rcases mem_set_cases hg' with rfl | h'
    · rw [hps]; exact ⟨(h.ps _ hg).1, (h.ps _ hg).2.1, by have := (h.ps _ hg).2.2; omega⟩
    · exact ⟨(h.ps _ h').1, (h.ps _ h').2.1, by have := (h.ps _ h').2.2; omega⟩
  · rcases mem_set_cases hg' with rfl | h'
    · have := h.ahl _ hg; omega
    · have := h.ahl _ h'; omega
theorem Inv.turn {S : List G} {next : Int} {k : Nat} (h : Inv S next k) (n a b c : Int) (ha : a ≠ 4) (hb : b ≠ 4) (hc : 1 ≤ c ∧ c ≤ 4) : Inv (turnS S n a b c).2 next (k + 1) := by
  unfold turnS
  cases hp : posG S n with
  | none => exact h.mono (by omega)
  | some i =>
    simp only
    have hi := (posG_lt hp).1
    split
    · exact h.mono (by omega)
    · rename_i hst
      exact h.set hi rfl hc rfl (by simp) (h.ah.set h.nodup hi rfl (fun e => by omega) rfl)
theorem Inv.depend {S : List G} {next : Int} {k : Nat} (h : Inv S next k) (n m : Int) : Inv (dependS S n m).2 next (k + 1) := by
  unfold dependS
  cases hp : posG S n with
  | none => exact h.mono (by omega)
  | some i =>
    cases hq : posG S m with
    | none => exact h.mono (by omega)
    | some j =>
      simp only
      have hi := (posG_lt hp).1
      have hj := (posG_lt hq).1
      split
      · exact h.mono (by omega)
      · rename_i hst
        have hm := h.ah.link h.nodup hi hj (by omega) (by omega)
        rw [(posG_lt hq).2.1] at hm
        exact h.set hi rfl (h.st (nthG S i) (mem_nthG hi)) rfl (by simp) hm
theorem AhM.map {S : List G} (h : AhM S) (f : G → G) (h1 : ∀ g, (f g).n = g.n) (h2 : ∀ g, (f g).st = g.st) (h3 : ∀ g, (f g).ah = g.ah) : AhM (S.map f) := by
  obtain ⟨rk, h⟩ := h
  refine ⟨rk, fun g hg a ha => ?_⟩
  obtain ⟨g0, hg0, rfl⟩ := List.mem_map.1 hg
  rw [h3] at ha
  obtain ⟨⟨x, hx, e, hs⟩, hr⟩ := h g0 hg0 a ha
  exact ⟨⟨f x, List.mem_map_of_mem hx, by rw [h1]; exact e, by rw [h2]; exact hs⟩, by rw [h1]; exact hr⟩
theorem took1_n (p : Int) (g : G) : (took1 p g).n = g.n := by unfold took1; split <;> rfl
theorem took1_st (p : Int) (g : G) : (took1 p g).st = g.st := by unfold took1; split <;> rfl
theorem took1_ah (p : Int) (g : G) : (took1 p g).ah = g.ah := by unfold took1; split <;> rfl
theorem Inv.took {S : List G} {next : Int} {k : Nat} (h : Inv S next k) (p : Int) (hp : p ≤ 9223372036854775807) : Inv (tookS S p).2 next (k + 1) := by
  unfold tookS
  split
  · exact h.mono (by omega)
  · rename_i hp0
    simp only
    refine ⟨?_, fun g hg => ?_, ⟨h.nx.1, by have := h.nx.2; omega⟩, by simpa using h.len, fun g hg => ?_, fun g hg => ?_, h.ah.map _ (took1_n p) (took1_st p) (took1_ah p), fun g hg => ?_⟩
    · have : (S.map (took1 p)).map (·.n) = S.map (·.n) := by rw [List.map_map]; exact List.map_congr_left fun g _ => took1_n p g
      rw [this]; exact h.rise
    all_goals obtain ⟨g0, hg0, rfl⟩ := List.mem_map.1 hg
    · rw [took1_n]; exact h.lo _ hg0
    · rw [took1_st]; exact h.st _ hg0
    · obtain ⟨h1, h2, h3⟩ := h.ps _ hg0
      unfold took1
      split
      · refine ⟨withL_rises h1, fun q hq => ?_, ?_⟩
        · rcases mem_withL.1 hq with rfl | hq
          · omega
          · exact h2 q hq
        · have := withL_length g0.ps p
          simp only
          omega
      · exact ⟨h1, h2, by omega⟩
    · rw [took1_ah]; have := h.ahl _ hg0; omega
theorem AhM.less {S T : List G} (h : AhM S) (hs : ∀ g ∈ T, g ∈ S) (hk : ∀ g ∈ T, ∀ a ∈ g.ah, ∀ x ∈ S, x.n = a → x ∈ T) : AhM T := by
  obtain ⟨rk, h⟩ := h
  refine ⟨rk, fun g hg a ha => ?_⟩
  obtain ⟨⟨x, hx, e, hst⟩, hr⟩ := h g (hs g hg) a ha
  exact ⟨⟨x, hk g hg a ha x hx e, e, hst⟩, hr⟩
theorem Inv.abandon {S : List G} {next : Int} {k : Nat} (h : Inv S next k) (n : Int) : Inv (abandonS S n).2 next (k + 1) := by
  unfold abandonS
  cases hp : posG S n with
  | none => exact h.mono (by omega)
  | some i =>
    simp only
    have hi := (posG_lt hp).1
    have hin := (posG_lt hp).2.1
    split
    · exact h.mono (by omega)
    · split
      · exact h.mono (by omega)
      · rename_i _ hany
        have hsub : (S.take i ++ S.drop (i + 1)).Sublist S := by
          rw [← List.eraseIdx_eq_take_drop_succ]
          exact List.eraseIdx_sublist _ _
        have hmem : ∀ g ∈ S.take i ++ S.drop (i + 1), g ∈ S := fun g hg => hsub.subset hg
        have hback : ∀ x ∈ S, x.n ≠ n → x ∈ S.take i ++ S.drop (i + 1) := fun x hx hne => by
          rw [← List.eraseIdx_eq_take_drop_succ]
          obtain ⟨j, hj, rfl⟩ := List.getElem_of_mem hx
          refine List.mem_eraseIdx_iff_getElem.2 ⟨j, hj, fun e => hne ?_, rfl⟩
          subst e
          rw [← hin, nthG_get hi]
        refine ⟨h.rise.sublist (hsub.map _), fun g hg => h.lo g (hmem g hg), ⟨h.nx.1, by have := h.nx.2; omega⟩, Nat.le_trans hsub.length_le h.len, fun g hg => h.st g (hmem g hg), fun g hg => ⟨(h.ps g (hmem g hg)).1, (h.ps g (hmem g hg)).2.1, by have := (h.ps g (hmem g hg)).2.2; omega⟩, h.ah.less hmem fun g hg a ha x hx e => hback x hx fun e' => ?_, fun g hg => by have := h.ahl g (hmem g hg); omega⟩
        apply hany
        rw [List.any_eq_true]
        refine ⟨g, hmem g hg, ?_⟩
        rw [decide_eq_true_eq, ← e', e]
        exact ha
theorem AhM.more {S : List G} (h : AhM S) {x : G} (hx : x.ah = []) : AhM (S ++ [x]) := by
  obtain ⟨rk, h⟩ := h
  refine ⟨rk, fun g hg a ha => ?_⟩
  rcases List.mem_append.1 hg with hg | hg
  · obtain ⟨⟨y, hy, e⟩, hr⟩ := h g hg a ha
    exact ⟨⟨y, List.mem_append_left _ hy, e⟩, hr⟩
  · have : g = x := by simpa using hg
    subst this
    rw [hx] at ha
    simp at ha
theorem Inv.make {S : List G} {next : Int} {k : Nat} (h : Inv S next k) : Inv (makeS S next).2.2.1 (makeS S next).2.2.2 (k + 1) := by
  unfold makeS
  split
  · exact h.mono (by omega)
  · rename_i hl
    simp only
    have key : ∀ {p : G → Prop}, (∀ g ∈ S, p g) → p ⟨next, 1, [], []⟩ → ∀ g ∈ S ++ [⟨next, 1, [], []⟩], p g := fun h1 h2 g hg => by
      rcases List.mem_append.1 hg with hg | hg
      · exact h1 g hg
      · have : g = ⟨next, 1, [], []⟩ := by simpa using hg
        rw [this]; exact h2
    refine ⟨?_, key (fun g hg => ⟨(h.lo g hg).1, by have := (h.lo g hg).2; omega⟩) ⟨h.nx.1, by simp only; omega⟩, ⟨by have := h.nx.1; omega, by have := h.nx.2; omega⟩, by simp; omega, key h.st (by simp), key (fun g hg => ⟨(h.ps g hg).1, (h.ps g hg).2.1, by have := (h.ps g hg).2.2; omega⟩) (by simp), h.ah.more rfl, key (fun g hg => by have := h.ahl g hg; omega) (by simp)⟩
    rw [List.map_append, List.pairwise_append]
    refine ⟨h.rise, by simp, fun a ha b hb => ?_⟩
    obtain ⟨g, hg, rfl⟩ := List.mem_map.1 ha
    have : b = next := by simpa using hb
    rw [this]
    exact (h.lo g hg).2
theorem Inv.deed {S : List G} {next : Int} {k : Nat} (h : Inv S next k) (kind n m : Int) (hm : m ≤ 9223372036854775807) : Inv (doS S next kind n m).1 (doS S next kind n m).2 (k + 1) := by
  unfold doS
  split
  · exact h.make
  · split
    · exact h.depend n m
    · split
      · exact h.turn n 1 3 2 (by decide) (by decide) (by decide)
      · split
        · exact h.turn n 2 2 3 (by decide) (by decide) (by decide)
        · split
          · exact h.turn n 1 3 4 (by decide) (by decide) (by decide)
          · split
            · exact h.abandon n
            · split
              · exact h.took m hm
              · exact h.mono (by omega)
section
variable {S : List G} {next : Int} {k : Nat} (h : Inv S next k)
include h
theorem Inv.wf (hk : k ≤ 1000000) : ∀ g ∈ S, -9223372036854775808 ≤ g.n ∧ g.n ≤ 9223372036854775807 := fun g hg => by
  have := h.lo g hg; have := h.nx; omega
theorem Inv.ahS : (Ah S).length ≤ 8 * k := by
  have : ∀ l : List G, (∀ g ∈ l, g.ah.length ≤ k) → (Ah l).length ≤ l.length * k := by
    intro l
    induction l with
    | nil => intro _; simp [Ah]
    | cons a l ih =>
      intro hl
      have h1 := hl a (by simp)
      have h2 := ih fun g hg => hl g (by simp [hg])
      have e : (Ah (a :: l)).length = a.ah.length + (Ah l).length := by simp [Ah]
      rw [e, List.length_cons, Nat.add_mul]
      omega
  have h1 := this S h.ahl
  have h2 : S.length * k ≤ 8 * k := Nat.mul_le_mul_right k h.len
  omega
theorem Inv.psS : (Ps S).length ≤ 8 * k := by
  have : ∀ l : List G, (∀ g ∈ l, g.ps.length ≤ k) → (Ps l).length ≤ l.length * k := by
    intro l
    induction l with
    | nil => intro _; simp [Ps]
    | cons a l ih =>
      intro hl
      have h1 := hl a (by simp)
      have h2 := ih fun g hg => hl g (by simp [hg])
      have e : (Ps (a :: l)).length = a.ps.length + (Ps l).length := by simp [Ps]
      rw [e, List.length_cons, Nat.add_mul]
      omega
  have h1 := this S fun g hg => (h.ps g hg).2.2
  have h2 : S.length * k ≤ 8 * k := Nat.mul_le_mul_right k h.len
  omega
theorem Inv.pos : ∀ x ∈ Ah S, ∃ i, posG S x = some i := fun x hx => by
  obtain ⟨g, hg, hx⟩ := List.mem_flatMap.1 hx
  obtain ⟨rk, hr⟩ := h.ah
  obtain ⟨⟨y, hy, e, _⟩, _⟩ := hr g hg x hx
  obtain ⟨i, hi, _⟩ := posG_of_mem h.nodup hy
  exact ⟨i, by rw [← e]; exact hi⟩
theorem Inv.patches (n : Int) : (patchesS S n).Pairwise (· < ·) ∧ (∀ p ∈ patchesS S n, 0 ≤ p ∧ p ≤ 9223372036854775807) ∧ (patchesS S n).length ≤ k := by
  unfold patchesS
  cases hp : posG S n with
  | none => simp
  | some i => exact h.ps _ (mem_nthG (posG_lt hp).1)
theorem Inv.behind : ∀ x ∈ behindS S, 0 ≤ x ∧ x ≤ 9223372036854775807 := fun x hx => by
  obtain ⟨g, _, _, a, _, hp⟩ := mem_behindS.1 hx
  exact (h.patches a).2.1 x hp
theorem Inv.behindl : (behindS S).length ≤ 8 * k := by
  have h1 := rises_length (behindS_rises S) (L := Ps S) fun x hx => by
    obtain ⟨g, _, _, a, _, hp⟩ := mem_behindS.1 hx
    exact patchesS_mem hp
  have := h.psS
  omega
theorem Inv.aheadl (n : Int) : (aheadS S n).length ≤ 8 := by
  have h1 := rises_length (aheadS_ok n).rises (L := S.map (·.n)) fun x hx => by
    obtain ⟨j, hj, _⟩ := h.ok.rch ((mem_aheadS h.ok).1 hx)
    exact posG_mem hj
  have := h.len
  simp only [List.length_map] at h1
  omega
theorem Inv.stateB (n : Int) : 0 ≤ stateS S n ∧ stateS S n ≤ 4 := by
  unfold stateS
  cases hp : posG S n with
  | none => simp
  | some i => have := h.st _ (mem_nthG (posG_lt hp).1); simp only; omega
end
end Go.Sel.Gp
