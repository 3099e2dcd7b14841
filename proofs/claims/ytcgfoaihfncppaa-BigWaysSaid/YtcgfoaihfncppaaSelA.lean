/- A region that draws its order, walked in the order of its text: what only reads is taken first under one condition S on the world, what writes or calls comes up alone. No program in sight. -/
import Derived.Test.YtcgfoaihfncppaaSel9
import Derived.Tactics
set_option linter.unusedSimpArgs false
set_option linter.unusedVariables false
namespace Go.Sel
open Go

/-- S of a world (its name keeps S apart). -/
def At (S : World → Prop) (w : World) : Prop := S w
section
variable {P : Program} {ops : Array Oper} {Q : Exit → Act → World → Prop} {md : Region.Mode} {S : World → Prop} {ts : List Nat}
/-- In the order of the text: each of ts may come up and none that could come ahead of it touches what it touches; each other comes up alone. -/
def lexDB (md : Region.Mode) (ops : Array Oper) (ts : List Nat) : Nat → Nat → Array Bool → Bool
  | 0, _, L => (Region.ready md ops L).isEmpty
  | n + 1, k, L => (if ts.contains k then (Region.ready md ops L).contains k && Region.free md ops L k else Region.ready md ops L == [k]) && lexDB md ops ts n (k + 1) (L.setIfInBounds k true)
/-- The walk in the order of the text. -/
def wpLexD (P : Program) (md : Region.Mode) (ops : Array Oper) (Q : Exit → Act → World → Prop) (S : World → Prop) (ts : List Nat) : List Oper → Nat → Act → World → Prop
  | [], _, a, w => Q .normal a w
  | o :: rest, k, a, w => if ts.contains k = true then S w ∧ ∃ v, YieldsIf P ops S o v a ∧ wpLexD P md ops Q S ts rest (k + 1) (a.put o.dst v) w
    else if Region.wanted o (yielded ops a.tmps) then o.wp P a w (fun (a' : Act) (w' : World) => (lateB md ops ts k = false → S w') ∧ wpLexD P md ops Q S ts rest (k + 1) a' w') Q
      else (lateB md ops ts k = false → S w) ∧ wpLexD P md ops Q S ts rest (k + 1) (a.put o.dst undef) w
theorem wpAnyD_lex (hs : Region.noSelect ops = true) (hQ : ∀ c a d v w, Q (.panic c) (Act.put a d v) w → Q (.panic c) a w) : ∀ (l : List Oper) (k : Nat) (L : Array Bool) (a : Act) (w : World), (∀ j, l[j]? = ops[k + j]?) →
    lexDB md ops ts l.length k L = true → wpLexD P md ops Q S ts l k a w → wpAnyD P md ops Q S ts l.length L a w
  | [], k, L, a, w, hl, hB, h => ⟨by simpa [lexDB] using hB, h⟩
  | o :: l, k, L, a, w, hl, hB, h => by
    have h0 : ops[k]? = some o := by simpa using (hl 0).symm
    have hl' : ∀ j, l[j]? = ops[k + 1 + j]? := fun j => by have := hl (j + 1); simpa [Nat.add_assoc, Nat.add_comm 1 j] using this
    simp only [List.length_cons, lexDB, Bool.and_eq_true] at hB
    obtain ⟨hB1, hB2⟩ := hB
    unfold wpLexD at h
    by_cases hk : ts.contains k = true
    · rw [if_pos hk] at h hB1
      obtain ⟨hS, v, hy, hr⟩ := h
      simp only [Bool.and_eq_true] at hB1
      exact wpAnyD_take (by simpa using hk) h0 hs hB1.2 hB1.1 (fun c a w h => hQ c a _ _ w h) hy hS (wpAnyD_lex hs hQ l (k + 1) _ _ _ hl' hB2 hr)
    · rw [if_neg hk] at h hB1
      have hr1 : Region.ready md ops L = [k] := by simpa using hB1
      refine wpAnyD_all hr1 (by simp) fun j hj => ?_
      obtain rfl : j = k := by simpa using hj
      unfold wpOp
      rw [h0]
      simp only
      by_cases hw : Region.wanted o (yielded ops a.tmps) = true
      · rw [if_pos hw] at h ⊢
        refine .inl ?_
        refine Oper.wp_mono ?_ h
        exact fun a' w' h' => ⟨h'.1, wpAnyD_lex hs hQ l (j + 1) _ a' w' hl' hB2 h'.2⟩
      · rw [if_neg hw] at h ⊢
        exact ⟨h.1, wpAnyD_lex hs hQ l (j + 1) _ _ w hl' hB2 h.2⟩
theorem wp_region_lexD {id : Nat} {a : Act} {w : World} {l : List Oper} {S : World → Prop} (hS : At S w.drew) (ts : List Nat) (hm : P.follows .mixedOrders = true)
    (hB : (Region.noSelect l.toArray && lexDB .any l.toArray ts l.length 0 (Array.replicate l.length false)) = true) (hQ : ∀ c a d v w, Q (.panic c) (Act.put a d v) w → Q (.panic c) a w)
    (h : wpLexD P .any l.toArray Q S ts l 0 a w.drew) : (Code.region id l.toArray true).wp P Q a w := by
  rw [Bool.and_eq_true] at hB
  refine wp_region_D S ts hm ?_
  have := wpAnyD_lex (md := .any) hB.1 hQ l 0 (Array.replicate l.length false) a w.drew (by simp) hB.2 h
  simpa using this

theorem lexD_take {o : Oper} {rest : List Oper} {k : Nat} {a : Act} {w : World} {v : Value} (hk : ts.contains k = true) (hw : Region.wanted o (yielded ops a.tmps) = true) (hS : S w)
    (hrun : ∀ w, S w → (execOp a.eval o).run P w = .ok (.value v) w) (h : ∀ K : Act → Prop, (∀ a, wpLexD P md ops Q S ts rest (k + 1) a w → K a) → K (a.put o.dst v)) : wpLexD P md ops Q S ts (o :: rest) k a w := by
  unfold wpLexD
  rw [if_pos hk]
  exact ⟨hS, v, .inl ⟨hw, hrun⟩, h _ (fun _ h => h)⟩
theorem lexD_skip {o : Oper} {rest : List Oper} {k : Nat} {a : Act} {w : World} (hk : ts.contains k = true) (hw : Region.wanted o (yielded ops a.tmps) = false) (hS : S w)
    (h : ∀ K : Act → Prop, (∀ a, wpLexD P md ops Q S ts rest (k + 1) a w → K a) → K (a.put o.dst undef)) : wpLexD P md ops Q S ts (o :: rest) k a w := by
  unfold wpLexD
  rw [if_pos hk]
  exact ⟨hS, undef, .inr ⟨hw, rfl⟩, h _ (fun _ h => h)⟩
theorem lexD_do {o : Oper} {rest : List Oper} {k : Nat} {a : Act} {w : World} (hk : ts.contains k = false) (hw : Region.wanted o (yielded ops a.tmps) = true)
    (h : ∀ K : Act → World → Prop, (∀ a' w', (lateB md ops ts k = false → S w') → wpLexD P md ops Q S ts rest (k + 1) a' w' → K a' w') → o.wp P a w K Q) : wpLexD P md ops Q S ts (o :: rest) k a w := by
  unfold wpLexD
  rw [if_neg (by rw [hk]; simp), if_pos hw]
  exact h _ (fun a' w' h1 h2 => ⟨h1, h2⟩)
/-- One that waits for all that was taken first. -/
theorem lexD_late {o : Oper} {rest : List Oper} {k : Nat} {a : Act} {w : World} (hk : (!ts.contains k && lateB md ops ts k) = true) (hw : Region.wanted o (yielded ops a.tmps) = true)
    (h : ∀ K : Act → World → Prop, (∀ a' w', wpLexD P md ops Q S ts rest (k + 1) a' w' → K a' w') → o.wp P a w K Q) : wpLexD P md ops Q S ts (o :: rest) k a w := by
  simp only [Bool.and_eq_true, Bool.not_eq_true'] at hk
  exact lexD_do hk.1 hw fun K hK => h K fun a' w' h' => hK a' w' (fun e => by rw [hk.2] at e; cases e) h'
/-- One that is not taken first, its guard false. -/
theorem lexD_pass {o : Oper} {rest : List Oper} {k : Nat} {a : Act} {w : World} (hk : ts.contains k = false) (hw : Region.wanted o (yielded ops a.tmps) = false) (hS : S w)
    (h : ∀ K : Act → Prop, (∀ a, wpLexD P md ops Q S ts rest (k + 1) a w → K a) → K (a.put o.dst undef)) : wpLexD P md ops Q S ts (o :: rest) k a w := by
  unfold wpLexD
  rw [if_neg (by rw [hk]; simp), if_neg (by rw [hw]; simp)]
  exact ⟨fun _ => hS, h _ (fun _ h => h)⟩
theorem lexD_nil {k : Nat} {a : Act} {w : World} (h : Q .normal a w) : wpLexD P md ops Q S ts [] k a w := h
end
end Go.Sel
