/- Groups, plainly: what is released stays. No program in sight. -/
import Derived.Test.YtbflmgpcjfoifaaGpP
set_option linter.unusedSimpArgs false
set_option linter.unusedVariables false
namespace Go.Sel.Gp

section
variable {S : List G} (hn : (S.map (·.n)).Nodup)
include hn
theorem ahOf_in {g : G} (h : g ∈ S) : ahOf S g.n = g.ah := by
  obtain ⟨k, h1, _, h2⟩ := posG_of_mem hn h
  rw [ahOf, h1]
  exact congrArg G.ah h2
theorem patchesS_in {g : G} (h : g ∈ S) : patchesS S g.n = g.ps := by
  obtain ⟨k, h1, _, h2⟩ := posG_of_mem hn h
  rw [patchesS, h1]
  exact congrArg G.ps h2
theorem stateS_in {g : G} (h : g ∈ S) : stateS S g.n = g.st := by
  obtain ⟨k, h1, _, h2⟩ := posG_of_mem hn h
  rw [stateS, h1]
  exact congrArg G.st h2
end
theorem stateS_out {S : List G} {x : Int} (h : ∀ g ∈ S, g.n ≠ x) : stateS S x = 0 := by
  unfold stateS
  cases hp : posG S x with
  | none => rfl
  | some i => exact absurd (posG_lt hp).2.1 (h _ (mem_nthG (posG_lt hp).1))
theorem patchesS_out {S : List G} {x : Int} (h : ∀ g ∈ S, g.n ≠ x) : patchesS S x = [] := by
  unfold patchesS
  cases hp : posG S x with
  | none => rfl
  | some i => exact absurd (posG_lt hp).2.1 (h _ (mem_nthG (posG_lt hp).1))
theorem in_of_state {S : List G} {next : Int} {k : Nat} (h : Inv S next k) {x s : Int} (hs : stateS S x = s) (h0 : s ≠ 0) : ∃ g ∈ S, g.n = x ∧ g.st = s := by
  unfold stateS at hs
  cases hp : posG S x with
  | none => rw [hp] at hs; exact absurd hs.symm h0
  | some i => rw [hp] at hs; exact ⟨_, mem_nthG (posG_lt hp).1, (posG_lt hp).2.1, hs⟩
/-- A released group stays as it is, or is forgotten while nothing comes behind it. -/
def Keeps4 (S T : List G) : Prop := ∀ g ∈ S, g.st = 4 → g ∈ T ∨ ((∀ g' ∈ T, g'.n ≠ g.n) ∧ ∀ g' ∈ S, g.n ∉ g'.ah)
theorem Keeps4.of {S T : List G} (h : ∀ g ∈ S, g.st = 4 → g ∈ T) : Keeps4 S T := fun g hg h4 => .inl (h g hg h4)
theorem keeps_set {S : List G} {i : Nat} (hi : i < S.length) (h : (nthG S i).st ≠ 4) (x : G) : Keeps4 S (S.set i x) := .of fun g hg h4 => by
  obtain ⟨j, hj, rfl⟩ := List.getElem_of_mem hg
  by_cases e : i = j
  · subst e
    rw [nthG_get hi] at h
    exact absurd h4 h
  · have : (S.set i x)[j]'(by simpa using hj) = S[j] := List.getElem_set_ne e _
    rw [← this]
    exact List.getElem_mem _
theorem Keeps4.refl (S : List G) : Keeps4 S S := .of fun g hg _ => hg
theorem Inv.keeps4 {S : List G} {next : Int} {k : Nat} (h : Inv S next k) (kind n m : Int) : Keeps4 S (doS S next kind n m).1 := by
  have hturn : ∀ n a b c, a ≠ 4 → b ≠ 4 → Keeps4 S (turnS S n a b c).2 := fun n a b c ha hb => by
    unfold turnS
    cases hp : posG S n with
    | none => exact Keeps4.refl S
    | some i =>
      simp only
      split
      · exact Keeps4.refl S
      · exact keeps_set (posG_lt hp).1 (by omega) _
  unfold doS
  split
  · unfold makeS
    split
    · exact Keeps4.refl S
    · exact .of fun g hg _ => List.mem_append_left _ hg
  · split
    · unfold dependS
      cases hp : posG S n with
      | none => exact Keeps4.refl S
      | some i =>
        cases hq : posG S m with
        | none => exact Keeps4.refl S
        | some j =>
          simp only
          split
          · exact Keeps4.refl S
          · exact keeps_set (posG_lt hp).1 (by omega) _
    · split
      · exact hturn n 1 3 2 (by decide) (by decide)
      · split
        · exact hturn n 2 2 3 (by decide) (by decide)
        · split
          · exact hturn n 1 3 4 (by decide) (by decide)
          · split
            · unfold abandonS
              cases hp : posG S n with
              | none => exact Keeps4.refl S
              | some i =>
                simp only
                have hi := (posG_lt hp).1
                have hin := (posG_lt hp).2.1
                split
                · exact Keeps4.refl S
                · split
                  · exact Keeps4.refl S
                  · rename_i _ hany
                    simp only
                    rw [← List.eraseIdx_eq_take_drop_succ]
                    intro g hg _
                    obtain ⟨j, hj, rfl⟩ := List.getElem_of_mem hg
                    by_cases e : j = i
                    · subst e
                      right
                      rw [nthG_get hi] at hin
                      refine ⟨fun g' hg' e' => ?_, fun g' hg' hm => hany ?_⟩
                      · obtain ⟨j', hj', hne, rfl⟩ := List.mem_eraseIdx_iff_getElem.1 hg'
                        have := h.nodup
                        rw [List.nodup_iff_pairwise_ne, List.pairwise_iff_getElem] at this
                        rcases Nat.lt_trichotomy j' j with hlt | hlt | hlt
                        · exact this j' j (by simpa using hj') (by simpa using hj) hlt (by simpa using e')
                        · exact hne hlt
                        · exact this j j' (by simpa using hj) (by simpa using hj') hlt (by simpa using e'.symm)
                      · rw [List.any_eq_true]
                        exact ⟨g', hg', by rw [decide_eq_true_eq, ← hin]; exact hm⟩
                    · exact .inl (List.mem_eraseIdx_iff_getElem.2 ⟨j, hj, e, rfl⟩)
            · split
              · unfold tookS
                split
                · exact Keeps4.refl S
                · refine .of fun g hg h4 => List.mem_map.2 ⟨g, hg, ?_⟩
                  unfold took1
                  rw [if_neg (by omega)]
              · exact Keeps4.refl S
theorem rch_keep {S T : List G} (hS : (S.map (·.n)).Nodup) (hT : (T.map (·.n)).Nodup) (hA : AhM S) (hK : Keeps4 S T) {x : Int} (hx : ∃ g, g ∈ S ∧ g ∈ T ∧ g.n = x ∧ g.st = 4) : ∀ y, Rch S x y ↔ Rch T x y := by
  obtain ⟨rk, hA⟩ := hA
  have step : ∀ x, (∃ g, g ∈ S ∧ g ∈ T ∧ g.n = x ∧ g.st = 4) → ahOf S x = ahOf T x ∧ ∀ a ∈ ahOf S x, ∃ g, g ∈ S ∧ g ∈ T ∧ g.n = a ∧ g.st = 4 := by
    rintro x ⟨g, h1, h2, rfl, h4⟩
    refine ⟨by rw [ahOf_in hS h1, ahOf_in hT h2], fun a ha => ?_⟩
    rw [ahOf_in hS h1] at ha
    obtain ⟨⟨y, hy, e, hy4⟩, _⟩ := hA g h1 a ha
    rcases hK y hy hy4 with h | ⟨_, h⟩
    · exact ⟨y, hy, h, e, hy4⟩
    · exact absurd ha (by rw [← e]; exact h g h1)
  intro y
  constructor
  · intro hr
    induction hr with
    | one ha => exact .one (by rw [← (step _ hx).1]; exact ha)
    | more ha _ ih => exact .more (by rw [← (step _ hx).1]; exact ha) (ih ((step _ hx).2 _ ha))
  · intro hr
    induction hr with
    | one ha => exact .one (by rw [(step _ hx).1]; exact ha)
    | more ha _ ih =>
      rw [← (step _ hx).1] at ha
      exact .more ha (ih ((step _ hx).2 _ ha))
theorem stays {S T : List G} {next next' : Int} {k k' : Nat} (h : Inv S next k) (h' : Inv T next' k') (hK : Keeps4 S T) {x : Int} (hx : stateS S x = 4) :
    stateS T x = 0 ∨ (stateS T x = 4 ∧ patchesS T x = patchesS S x ∧ aheadS T x = aheadS S x) := by
  obtain ⟨g, hg, rfl, h4⟩ := in_of_state h hx (by decide)
  rcases hK g hg h4 with ht | ⟨ho, _⟩
  · right
    refine ⟨by rw [stateS_in h'.nodup ht, h4], by rw [patchesS_in h'.nodup ht, patchesS_in h.nodup hg], rises_ext (aheadS_ok _).rises (aheadS_ok _).rises fun y => ?_⟩
    rw [mem_aheadS h'.ok, mem_aheadS h.ok]
    exact (rch_keep h.nodup h'.nodup h.ah hK ⟨g, hg, ht, rfl, h4⟩ y).symm
  · exact .inl (stateS_out ho)
theorem turn_no {S : List G} {next : Int} {k : Nat} (h : Inv S next k) {x s a b c : Int} (hx : stateS S x = s) (h0 : s ≠ 0) (ha : s ≠ a) (hb : s ≠ b) : turnS S x a b c = (13, S) := by
  unfold stateS at hx
  unfold turnS
  cases hp : posG S x with
  | none => rw [hp] at hx; exact absurd hx.symm h0
  | some i =>
    rw [hp] at hx
    simp only at hx ⊢
    rw [if_pos ⟨by omega, by omega⟩]
end Go.Sel.Gp
