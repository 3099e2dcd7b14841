/- A region that draws its order, in a fence (in a round too): what may come up, one or two. No program in sight. -/
import Derived.OrdersIn
import Derived.Test.YtbflmgpcjfoifaaSel8
set_option linter.unusedSimpArgs false
set_option linter.unusedVariables false
namespace Go.Sel
open Go
section
variable {F : Fence} {n : Nat} {P : Program} {ops : Array Oper} {Q : Exit → Act → World → Prop} {md : Region.Mode}
theorem in_one (i : Nat) {oi : Oper} {fuel : Nat} {L : Array Bool} {a : Act} {w : World} (hi : ops[i]? = some oi) (hr : Region.ready md ops L = [i]) (hw : Region.wanted oi (yielded ops a.tmps) = true)
    (h : ∀ K : Act → World → Prop, (∀ a' w', wpAnyIn F n P md ops Q fuel (L.setIfInBounds i true) a' w' → K a' w') → Oper.wpIn F n P oi a w K Q) : wpAnyIn F n P md ops Q (fuel + 1) L a w := by
  refine wpAnyIn_ready hr (by simp) (AllReadyIn.cons hi (fun K hK => ?_) AllReadyIn.nil)
  rw [if_pos hw]
  exact h K hK
theorem in_two (i j : Nat) {oi oj : Oper} {fuel : Nat} {L : Array Bool} {a : Act} {w : World} (hi : ops[i]? = some oi) (hj : ops[j]? = some oj) (hr : Region.ready md ops L = [i, j]) (hw : Region.wanted oi (yielded ops a.tmps) = true) (hv : Region.wanted oj (yielded ops a.tmps) = true)
    (h : ∀ K : Act → World → Prop, (∀ a' w', wpAnyIn F n P md ops Q fuel (L.setIfInBounds i true) a' w' → K a' w') → Oper.wpIn F n P oi a w K Q)
    (k : ∀ K : Act → World → Prop, (∀ a' w', wpAnyIn F n P md ops Q fuel (L.setIfInBounds j true) a' w' → K a' w') → Oper.wpIn F n P oj a w K Q) : wpAnyIn F n P md ops Q (fuel + 1) L a w := by
  refine wpAnyIn_ready hr (by simp) (AllReadyIn.cons hi (fun K hK => ?_) (AllReadyIn.cons hj (fun K hK => ?_) AllReadyIn.nil))
  · rw [if_pos hw]
    exact h K hK
  · rw [if_pos hv]
    exact k K hK
theorem in_end {fuel : Nat} {L : Array Bool} {a : Act} {w : World} (hr : Region.ready md ops L = []) (h : Q .normal a w) : wpAnyIn F n P md ops Q fuel L a w := wpAnyIn_done hr h fuel
end
end Go.Sel
/- A region that draws its order, inside a fence: all but the last operation only read, and the last one wants them all. No program in sight. -/
set_option linter.unusedSimpArgs false
set_option linter.unusedVariables false
namespace Go.Sel
open Go
section
variable {F : Fence} {n : Nat} {P : Program} {md : Region.Mode} {ops : Array Oper} {Q : Exit → Act → World → Prop}
/-- Each operation but the last one has a later one that wants it. -/
def consB (md : Region.Mode) (ops : Array Oper) (m : Nat) : Bool :=
  (List.range m).all fun i => (List.range (m + 1)).any fun k => decide (i < k) && match ops[k]? with
    | some o => o.after.any fun e => Region.binds md e && e.on == i
    | none => false
theorem consB_spec {m : Nat} (h : consB md ops m = true) {i : Nat} (hi : i < m) : ∃ k o, i < k ∧ k ≤ m ∧ ops[k]? = some o ∧ ∃ e ∈ o.after, Region.binds md e = true ∧ e.on = i := by
  have h1 := List.all_eq_true.1 h i (by simpa using hi)
  obtain ⟨k, hk, h2⟩ := List.any_eq_true.1 h1
  have hk' : k < m + 1 := by simpa using hk
  simp only [Bool.and_eq_true, decide_eq_true_eq] at h2
  obtain ⟨h3, h4⟩ := h2
  cases ho : ops[k]? with
  | none => rw [ho] at h4; cases h4
  | some o =>
    rw [ho] at h4
    obtain ⟨e, he, h5⟩ := Array.any_eq_true'.1 h4
    simp only [Bool.and_eq_true, beq_iff_eq] at h5
    exact ⟨k, o, h3, by omega, ho, e, he, h5.1, h5.2⟩
theorem in_reads (m : Nat) (W : World) (A : (Nat → Bool) → Act) {a₀ : Act} (hm : ops.size = m + 1) (hac : acB md ops = true) (hcons : consB md ops m = true) (h0 : a₀ = A (fun _ => false)) (hcg : ∀ L L', (∀ j, j < m → L j = L' j) → A L = A L')
    (hread : ∀ i o, ops[i]? = some o → i < m → ∀ L : Nat → Bool, (∀ e ∈ o.after, Region.binds md e = true → L e.on = true) → ∀ K : Act → World → Prop, K (A (fun j => decide (i = j) || L j)) W → wpOpIn F n P ops Q i K (A L) W)
    (hlast : ∀ K : Act → World → Prop, (∀ a' w', Q .normal a' w' → K a' w') → wpOpIn F n P ops Q m K (A fun _ => true) W) :
    wpAnyIn F n P md ops Q ops.size (Array.replicate ops.size false) a₀ W := by
  refine wpAnyIn_good (fun L a w => L.size = ops.size ∧ (∀ i o, ops[i]? = some o → L.getD i false = true → ∀ e ∈ o.after, Region.binds md e = true → L.getD e.on false = true) ∧ ((L.getD m false = false ∧ w = W ∧ a = A (fun j => L.getD j false)) ∨ (L.getD m false = true ∧ Q .normal a w))) (acB_spec hac) (fun L a w h => h.1) ?_ ?_ _ _ _ _ ?_ ?_
  · rintro L a w ⟨_, _, ⟨h, _⟩ | ⟨_, h⟩⟩ hall
    · rw [hall m (by omega)] at h; cases h
    · exact h
  · rintro i o L a w ho hi hf hdep ⟨hs, hcl, hst⟩ K hK
    have hcl' : ∀ k o', ops[k]? = some o' → (L.setIfInBounds i true).getD k false = true → ∀ e ∈ o'.after, Region.binds md e = true → (L.setIfInBounds i true).getD e.on false = true := fun k o' hk hkL e he hb => by
      rw [getD_set hi] at hkL ⊢
      simp only [Bool.or_eq_true, decide_eq_true_eq] at hkL ⊢
      rcases hkL with rfl | hkL
      · rw [ho] at hk
        cases hk
        exact .inr (hdep e he hb)
      · exact .inr (hcl k o' hk hkL e he hb)
    rcases hst with ⟨hmf, rfl, rfl⟩ | ⟨hmt, hq⟩
    · by_cases him : i = m
      · subst him
        have hall : ∀ d j, j < i → i - j ≤ d → L.getD j false = true := by
          intro d
          induction d with
          | zero => intro j hj hd; omega
          | succ d ih =>
            intro j hj hd
            obtain ⟨k, o', h1, h2, h3, e, he, h4, h5⟩ := consB_spec hcons hj
            by_cases hki : k = i
            · subst hki
              rw [ho] at h3
              cases h3
              rw [← h5]
              exact hdep e he h4
            · rw [← h5]
              exact hcl k o' h3 (ih k (by omega) (by omega)) e he h4
        rw [hcg (fun j => L.getD j false) (fun _ => true) (fun j hj => hall (i - j) j hj (Nat.le_refl _))]
        exact hlast K fun a' w' hq => hK a' w' ⟨by simpa using hs, hcl', .inr ⟨by rw [getD_set hi]; simp, hq⟩⟩
      · have hlt : i < m := by
          have := (Array.getElem?_eq_some_iff.1 ho).1
          omega
        refine hread i o ho hlt _ hdep K (hK _ _ ⟨by simpa using hs, hcl', .inl ⟨?_, rfl, ?_⟩⟩)
        · rw [getD_set hi]
          simp [him, hmf]
        · congr 1
          funext j
          rw [getD_set hi]
    · exfalso
      have hall : ∀ d j, j < m → m - j ≤ d → L.getD j false = true := by
        intro d
        induction d with
        | zero => intro j hj hd; omega
        | succ d ih =>
          intro j hj hd
          obtain ⟨k, o', h1, h2, h3, e, he, h4, h5⟩ := consB_spec hcons hj
          rw [← h5]
          by_cases hkm : k = m
          · subst hkm
            exact hcl k o' h3 hmt e he h4
          · exact hcl k o' h3 (ih k (by omega) (by omega)) e he h4
      have hlt := (Array.getElem?_eq_some_iff.1 ho).1
      by_cases him : i = m
      · subst him
        rw [hmt] at hf; cases hf
      · rw [hall (m - i) i (by omega) (Nat.le_refl _)] at hf; cases hf
  · have hz : ∀ j, (Array.replicate ops.size false).getD j false = false := fun j => by
      simp only [Array.getD]
      split <;> simp
    refine ⟨by simp, fun i o _ h => (by rw [hz] at h; cases h), .inl ⟨hz m, rfl, ?_⟩⟩
    rw [h0]
    congr 1
    funext j
    rw [hz]
  · have : openOnes ops (Array.replicate ops.size false) ≤ (List.range ops.size).length := List.countP_le_length
    simpa using this
end
end Go.Sel
