/- More small words of my own: append of a slice of structs that is read; stores at the end of a region that draws. No program in sight. -/
import Derived.Test.YtbflmgpcjfoifaaMb1
import Derived.Test.YtbflmgpcjfoifaaSelB
set_option linter.unusedSimpArgs false
set_option linter.unusedVariables false
namespace Go.Sel
open Go.RowKit

section
variable {P : Program}
/-- 'append(v, s...)', s read as 'ys'. -/
theorem run_extendN {w : World} (base : Nat) (t ty e : TypeId) (z : Value) (size bytes : Nat)
    (ht : P.underlying t = some (.slice e)) (hinfo : (P.info? e).map (fun i => (i.zero, i.size, i.bytes)) = some (some z, size, bytes)) (hz : z.cells.size = size) (hs0 : 0 < size)
    (v : Value) (n : Nat) (xs : List Value) (HO : w.ownsRow base e size v n xs) (A : Option Addr) (m c : Nat) (ys : List Value) (hr : Rd w A m c ys) (hl : ys.length = m * size) (h1 : ∀ u ∈ ys, u.oneCell' = true)
    (hmax : n + m ≤ maxLen) (hb : (n + m) * bytes ≤ 140737488355328) (hbase : base ≤ w.heap.size) :
    ∃ v' w1, (Builtin.append_ #[t, t] ty #[v, .slice A m c]).run P w = .ok v' w1 ∧ w1.ownsRow base e size v' (n + m) (xs ++ ys) ∧ w.grownBy w1 v.ownBlock ∧ (v'.ownBlock = v.ownBlock ∨ v'.ownBlock = some w.heap.size) := by
  obtain ⟨i0, hi, hzz⟩ := Option.map_eq_some_iff.1 hinfo
  simp only [Prod.mk.injEq] at hzz
  obtain ⟨hz0, hz1, hz2⟩ := hzz
  cases A with
  | none =>
    have hys : ys = [] := by
      rcases hr.at_ with h | ⟨b, off, h, _⟩
      · exact h
      · cases h
    subst hys
    have hm : m = 0 := by
      simp only [List.length_nil] at hl
      rcases Nat.eq_zero_or_pos m with h | h
      · exact h
      · have := Nat.mul_pos h hs0; omega
    subst hm
    refine ⟨v, w, ?_, by simpa using HO, World.grownBy.refl w _, .inl rfl⟩
    rcases HO.2 with ⟨rfl, rfl⟩ | ⟨g, cap, cur, rfl, _, _, hnc, _⟩
    · simp [Builtin.append_, run_underlying ht, sizeOf, typeInfo, hi, Builtin.lenOf, Builtin.firstCells]
    · simp [Builtin.append_, run_underlying ht, sizeOf, typeInfo, hi, Builtin.lenOf, Builtin.firstCells, hnc, storeCells]
  | some a =>
    obtain ⟨v', w1, hr1, hown, hg, _, hat⟩ := run_append_own_at (P := P) w base t ty e i0 z size bytes ht hi hz0 hz1 hz2 hz hs0 v n xs HO a m c ys hl (fun j u hu => by
      obtain ⟨hj, hu'⟩ := List.getElem?_eq_some_iff.1 hu
      rcases hr.at_ with h | ⟨b, off, h, hc⟩
      · subst h; simp at hj
      · injection h with h
        subst h
        have ha : (⟨b, off, none⟩ : Addr).add j = ⟨b, off + j, none⟩ := by unfold Addr.add; split <;> simp_all
        rw [ha, hc j hj, hu']) h1 hmax hb hbase
    exact ⟨v', w1, hr1, hown, hg, hat⟩
end
/-- A row of structs of the call's own is read. -/
theorem rd_ownM {w : World} {base n size : Nat} {e : TypeId} {v : Value} {cs : List Value} (hs0 : 0 < size) (h : w.ownsRow base e size v n cs) : ∃ A c, v = .slice A n c ∧ cs.length = n * size ∧ Rd w A n c cs := by
  have hl : cs.length = n * size := h.1
  rcases h.2 with ⟨rfl, h0⟩ | ⟨g, cap, cur, rfl, hb, hh, hn, hc, hs, ht⟩
  · subst h0
    exact ⟨none, 0, rfl, hl, ⟨Nat.le_refl _, by omega, .inl (List.eq_nil_of_length_eq_zero (by simpa using hl))⟩⟩
  · refine ⟨_, cap, rfl, hl, ⟨hn, by simpa [maxLen] using hc, .inr ⟨g, 0, rfl, fun j hj => ?_⟩⟩⟩
    have := h.cells (g := g) rfl j cs[j] (by simp)
    have ha : (⟨g, 0, none⟩ : Addr).add j = ⟨g, 0 + j, none⟩ := by unfold Addr.add; split <;> simp_all
    rwa [ha] at this
theorem rd_far {w w1 : World} {b off n c : Nat} {cs : List Value} {row : Option Nat} (h : Rd w (some ⟨b, off, none⟩) n c cs) (hg : w.grownBy w1 row) (hne : row ≠ some b) : Rd w1 (some ⟨b, off, none⟩) n c cs := by
  refine ⟨h.le, h.cap, h.at_.imp id ?_⟩
  rintro ⟨b', off', e, hc⟩
  injection e with e; injection e with e1 e2; subst e1 e2
  refine ⟨b, off, rfl, fun j hj => ?_⟩
  have h1 := hc j hj
  rw [hg.cell_far ⟨b, off + j, none⟩ (World.block_lt_of_cell? _ _ h1) (Ne.symm hne)]
  exact h1
theorem own_emptyN (w : World) (e : TypeId) (base size : Nat) (hb : base ≤ w.heap.size) : (w.alloc (.cells #[] e)).ownsRow base e size (.slice (some ⟨w.heap.size, 0, none⟩) 0 0) 0 [] :=
  ⟨by simp, .inr ⟨w.heap.size, 0, #[], rfl, hb, blk11 w _, Nat.le_refl _, by decide, by simp, by simp⟩⟩
section
variable {P : Program} {ops : Array Oper} {Q : Exit → Act → World → Prop} {md : Region.Mode} {S : World → Prop} {ds : List Nat}
/-- One comes up, and none beside it; it waits for all that was taken first. -/
theorem any_last (i : Nat) {oi : Oper} {fuel : Nat} {L : Array Bool} {a : Act} {w : World} (hi : ops[i]? = some oi) (hr : Region.ready md ops L = [i]) (hl : lateB md ops ds i = true) (hw : Region.wanted oi (yielded ops a.tmps) = true)
    (h : ∀ K : Act → World → Prop, (∀ a' w', wpAnyD P md ops Q S ds fuel (L.setIfInBounds i true) a' w' → K a' w') → oi.wp P a w K Q) :
    wpAnyD P md ops Q S ds (fuel + 1) L a w :=
  any_one i hi hr hw fun K hK => h K fun a' w' h' => hK a' w' (fun e => by rw [hl] at e; cases e) h'
end
end Go.Sel
