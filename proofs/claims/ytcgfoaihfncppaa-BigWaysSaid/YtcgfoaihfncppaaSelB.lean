/- A region that draws its order, operation by operation in an order of one's own: loads and the like first; what is left comes up as the edges let it. No program in sight. -/
import Derived.Test.YtcgfoaihfncppaaSelA
set_option linter.unusedSimpArgs false
set_option linter.unusedVariables false
namespace Go.Sel
open Go

section
variable {P : Program} {ops : Array Oper} {Q : Exit → Act → World → Prop} {md : Region.Mode} {S : World → Prop} {ds : List Nat}
/-- What may be taken now, said in one Bool. -/
def okB (md : Region.Mode) (ops : Array Oper) (ds : List Nat) (i : Nat) (L : Array Bool) : Bool := ds.contains i && Region.noSelect ops && Region.free md ops L i && (Region.ready md ops L).contains i
/-- Operation i is taken first. -/
theorem any_take (i : Nat) {oi : Oper} {v : Value} {fuel : Nat} {L : Array Bool} {a : Act} {w : World} (hi : ops[i]? = some oi) (hok : okB md ops ds i L = true)
    (hQ : ∀ c a d v w, Q (.panic c) (Act.put a d v) w → Q (.panic c) a w) (hw : Region.wanted oi (yielded ops a.tmps) = true) (hS : S w)
    (hrun : ∀ w, S w → (execOp a.eval oi).run P w = .ok (.value v) w) (h : ∀ K : Act → Prop, (∀ a, wpAnyD P md ops Q S ds fuel (L.setIfInBounds i true) a w → K a) → K (a.put oi.dst v)) :
    wpAnyD P md ops Q S ds (fuel + 1) L a w := by
  simp only [okB, Bool.and_eq_true] at hok
  obtain ⟨⟨⟨h1, h2⟩, h3⟩, h4⟩ := hok
  exact wpAnyD_take (by simpa using h1) hi h2 h3 h4 (fun c a w h => hQ c a _ _ w h) (.inl ⟨hw, hrun⟩) hS (h _ (fun _ h => h))
/-- One comes up, and none beside it. -/
theorem any_one (i : Nat) {oi : Oper} {fuel : Nat} {L : Array Bool} {a : Act} {w : World} (hi : ops[i]? = some oi) (hr : Region.ready md ops L = [i]) (hw : Region.wanted oi (yielded ops a.tmps) = true)
    (h : ∀ K : Act → World → Prop, (∀ a' w', (lateB md ops ds i = false → S w') → wpAnyD P md ops Q S ds fuel (L.setIfInBounds i true) a' w' → K a' w') → oi.wp P a w K Q) :
    wpAnyD P md ops Q S ds (fuel + 1) L a w := by
  refine wpAnyD_all hr (by simp) fun j hj => ?_
  obtain rfl : j = i := by simpa using hj
  unfold wpOp
  rw [hi]
  simp only [hw, if_true]
  exact .inl (h _ fun a' w' h1 h2 => ⟨h1, h2⟩)
/-- One of two comes up. -/
theorem any_two (i j : Nat) {oi oj : Oper} {fuel : Nat} {L : Array Bool} {a : Act} {w : World} (hi : ops[i]? = some oi) (hj : ops[j]? = some oj) (hr : Region.ready md ops L = [i, j]) (hwi : Region.wanted oi (yielded ops a.tmps) = true) (hwj : Region.wanted oj (yielded ops a.tmps) = true)
    (h1 : ∀ K : Act → World → Prop, (∀ a' w', (lateB md ops ds i = false → S w') → wpAnyD P md ops Q S ds fuel (L.setIfInBounds i true) a' w' → K a' w') → oi.wp P a w K Q)
    (h2 : ∀ K : Act → World → Prop, (∀ a' w', (lateB md ops ds j = false → S w') → wpAnyD P md ops Q S ds fuel (L.setIfInBounds j true) a' w' → K a' w') → oj.wp P a w K Q) :
    wpAnyD P md ops Q S ds (fuel + 1) L a w := by
  refine wpAnyD_all hr (by simp) fun k hk => ?_
  simp only [List.mem_cons, List.not_mem_nil, or_false] at hk
  rcases hk with rfl | rfl
  · unfold wpOp
    rw [hi]
    simp only [hwi, if_true]
    exact .inl (h1 _ fun a' w' h1 h2 => ⟨h1, h2⟩)
  · unfold wpOp
    rw [hj]
    simp only [hwj, if_true]
    exact .inl (h2 _ fun a' w' h1 h2 => ⟨h1, h2⟩)
theorem any_start {id : Nat} {a : Act} {w : World} {S : World → Prop} (hS : At S w.drew) (ds : List Nat) (hm : P.follows .mixedOrders = true)
    (h : wpAnyD P .any ops Q S ds ops.size (Array.replicate ops.size false) a w.drew) : (Code.region id ops true).wp P Q a w := wp_region_D S ds hm h
theorem any_end {fuel : Nat} {L : Array Bool} {a : Act} {w : World} (hr : Region.ready md ops L = []) (h : Q .normal a w) : wpAnyD P md ops Q S ds fuel L a w := wpAnyD_done hr h fuel
end
end Go.Sel
