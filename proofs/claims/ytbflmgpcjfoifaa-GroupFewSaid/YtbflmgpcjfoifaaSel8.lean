/- A region that draws its order, inside a fence: what holds of each set of operations that are over is carried on by each operation. No program in sight. -/
import Derived.OrdersIn
set_option linter.unusedSimpArgs false
set_option linter.unusedVariables false
namespace Go.Sel
open Go

section
variable {F : Fence} {n : Nat} {P : Program} {md : Region.Mode} {ops : Array Oper} {Q : Exit → Act → World → Prop}
def openOnes (ops : Array Oper) (L : Array Bool) : Nat := (List.range ops.size).countP fun i => !L.getD i false
theorem openOnes_zero {L : Array Bool} (h : openOnes ops L = 0) (i : Nat) (hi : i < ops.size) : L.getD i false = true := by
  unfold openOnes at h
  rw [List.countP_eq_zero] at h
  have := h i (by simpa using hi)
  simpa using this
theorem countP_lt {p q : Nat → Bool} : ∀ (l : List Nat) (i : Nat), (∀ j, q j = true → p j = true) → i ∈ l → p i = true → q i = false → l.countP q < l.countP p
  | [], i, _, hi, _, _ => by simp at hi
  | a :: l, i, h, hi, hp, hq => by
    have mono : l.countP q ≤ l.countP p := List.countP_mono_left fun x _ hx => h x hx
    by_cases e : a = i
    · subst e
      rw [List.countP_cons_of_pos hp, List.countP_cons_of_neg (by simp [hq])]
      omega
    · have hil : i ∈ l := by
        rcases List.mem_cons.1 hi with h' | h'
        · exact absurd h'.symm e
        · exact h'
      have ih := countP_lt l i h hil hp hq
      by_cases hqa : q a = true
      · rw [List.countP_cons_of_pos hqa, List.countP_cons_of_pos (h a hqa)]; omega
      · rw [List.countP_cons_of_neg hqa]
        have : l.countP p ≤ (a :: l).countP p := by rw [List.countP_cons]; omega
        omega
theorem getD_both' {L : Array Bool} {i : Nat} (h : L.getD i true = false) : L.getD i false = false ∧ i < L.size := by
  by_cases hi : i < L.size
  · exact ⟨by simpa [Array.getD, hi] using h, hi⟩
  · simp [Array.getD, hi] at h
theorem getD_set {L : Array Bool} {i j : Nat} (hi : i < L.size) : (L.setIfInBounds i true).getD j false = (decide (i = j) || L.getD j false) := by
  by_cases e : i = j
  · subst e; simp [Array.getD, hi]
  · by_cases hj : j < L.size
    · simp [Array.getD, hj, e, Array.getElem_setIfInBounds_ne (h := e)]
    · simp [Array.getD, hj, e]
theorem wpAnyIn_good (G : Array Bool → Act → World → Prop)
    (hac : ∀ (i : Nat) (o : Oper), ops[i]? = some o → ∀ e ∈ o.after, Region.binds md e = true → e.on < i)
    (hsz : ∀ L a w, G L a w → L.size = ops.size)
    (hend : ∀ L a w, G L a w → (∀ i, i < ops.size → L.getD i false = true) → Q .normal a w)
    (hstep : ∀ (i : Nat) (o : Oper) (L : Array Bool) (a : Act) (w : World), ops[i]? = some o → i < L.size → L.getD i false = false → (∀ e ∈ o.after, Region.binds md e = true → L.getD e.on false = true) → G L a w →
      ∀ K : Act → World → Prop, (∀ a' w', G (L.setIfInBounds i true) a' w' → K a' w') → wpOpIn F n P ops Q i K a w) :
    ∀ (fuel : Nat) (L : Array Bool) (a : Act) (w : World), G L a w → openOnes ops L ≤ fuel → wpAnyIn F n P md ops Q fuel L a w := by
  intro fuel
  induction fuel with
  | zero =>
    intro L a w hG hf
    have hall := fun i hi => openOnes_zero (ops := ops) (L := L) (by omega) i hi
    refine ⟨?_, hend L a w hG hall⟩
    rw [List.eq_nil_iff_forall_not_mem]
    intro i hi
    obtain ⟨h0, o, ho, _⟩ := mem_ready.1 hi
    have hlt := (Array.getElem?_eq_some_iff.1 ho).1
    have := hall i hlt
    have h1 := (getD_both' h0).1
    rw [this] at h1; cases h1
  | succ fuel ih =>
    intro L a w hG hf
    constructor
    · intro hr
      by_cases hall : ∀ i, i < ops.size → L.getD i false = true
      · exact hend L a w hG hall
      · exfalso
        -- the least one that is open is ready
        have hex : ∃ i, i < ops.size ∧ L.getD i false = false := by
          apply Classical.byContradiction
          intro hn
          apply hall
          intro i hi
          cases h : L.getD i false with
          | true => rfl
          | false => exact absurd ⟨i, hi, h⟩ hn
        have hmin : ∃ i, (i < ops.size ∧ L.getD i false = false) ∧ ∀ j, j < i → L.getD j false = true := by
          obtain ⟨i, hi⟩ := hex
          induction i using Nat.strongRecOn with
          | ind i ihh =>
            by_cases h : ∀ j, j < i → L.getD j false = true
            · exact ⟨i, hi, h⟩
            · have : ∃ j, j < i ∧ L.getD j false = false := by
                apply Classical.byContradiction
                intro hn
                apply h
                intro j hj
                cases h' : L.getD j false with
                | true => rfl
                | false => exact absurd ⟨j, hj, h'⟩ hn
              obtain ⟨j, hj, hjf⟩ := this
              exact ihh j hj ⟨by omega, hjf⟩
        obtain ⟨i, ⟨hi, hif⟩, hlow⟩ := hmin
        have hmem : i ∈ Region.ready md ops L := by
          rw [mem_ready]
          have hiL : i < L.size := by rw [hsz L a w hG]; exact hi
          refine ⟨by simp [Array.getD, hiL] at hif ⊢; exact hif, ops[i], Array.getElem?_eq_getElem hi, fun e he hb => hlow _ (hac i _ (Array.getElem?_eq_getElem hi) e he hb)⟩
        rw [hr] at hmem; cases hmem
    · intro i hi
      obtain ⟨h0, o, ho, hdep⟩ := mem_ready.1 hi
      obtain ⟨h1, h2⟩ := getD_both' h0
      refine hstep i o L a w ho h2 h1 hdep hG _ fun a' w' hG' => ih _ a' w' hG' ?_
      have hlt : openOnes ops (L.setIfInBounds i true) < openOnes ops L := by
        refine countP_lt _ i (fun j hj => ?_) (by simpa using (Array.getElem?_eq_some_iff.1 ho).1) (by simp [h1]) (by rw [getD_set h2]; simp)
        rw [getD_set h2] at hj
        simp at hj ⊢
        exact hj.2
      omega
theorem wpOpIn_lit {i : Nat} {o : Oper} {K : Act → World → Prop} {a : Act} {w : World} (hi : ops[i]? = some o) (hg : o.guard = none) (h : o.wpIn F n P a w K Q) : wpOpIn F n P ops Q i K a w := by
  unfold wpOpIn
  rw [hi]
  have hw : Region.wanted o (yielded ops a.tmps) = true := by simp [Region.wanted, hg]
  simp only [hw, if_true]
  exact h
def acB (md : Region.Mode) (ops : Array Oper) : Bool :=
  (List.range ops.size).all fun i => match ops[i]? with
    | some o => o.after.all fun e => !Region.binds md e || decide (e.on < i)
    | none => true
theorem acB_spec (h : acB md ops = true) (i : Nat) (o : Oper) (ho : ops[i]? = some o) (e : _) (he : e ∈ o.after) (hb : Region.binds md e = true) : e.on < i := by
  have hi := (Array.getElem?_eq_some_iff.1 ho).1
  have := List.all_eq_true.1 h i (by simpa using hi)
  rw [ho] at this
  have := Array.all_eq_true'.1 this e he
  rw [hb] at this
  simpa using this
end
end Go.Sel
