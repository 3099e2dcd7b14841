/- Took, plainly: a patch laid at each engaged group, one behind another. -/
import Derived.Test.YtbflmgpcjfoifaaGq9
set_option linter.unusedSimpArgs false
set_option linter.unusedVariables false
namespace Go.Proofs.Ytbflmgpcjfoifaa
open Go.RowKit Go.Sel Go.Sel.Gp
def tookAt (p : Int) (T : List G) (i : Nat) : List G := T.set i { nthG T i with ps := withL (nthG T i).ps p }
def tookI (S : List G) (p : Int) (is : List Nat) : List G := is.foldl (tookAt p) S
theorem tookI_upto (S : List G) (p : Int) : ∀ k, k ≤ S.length → tookI S p ((List.range k).filter fun i => decide ((nthG S i).st = 2)) = tookK S p k := by
  intro k
  induction k with
  | zero => intro _; rw [tookK_zero]; rfl
  | succ k ih =>
    intro h
    have hk : k < S.length := by omega
    rw [List.range_succ, List.filter_append, tookI, List.foldl_append]
    have e : List.foldl (tookAt p) S ((List.range k).filter fun i => decide ((nthG S i).st = 2)) = tookK S p k := ih (by omega)
    rw [e, tookK_succ hk]
    by_cases hst : (nthG S k).st = 2
    · simp only [List.filter_cons, hst, decide_true, if_true, List.filter_nil, List.foldl_cons, List.foldl_nil]
      rw [tookAt, tookK_at hk, took1, if_pos hst]
    · simp only [List.filter_cons, hst, decide_false, List.filter_nil, List.foldl_nil, Bool.false_eq_true, if_false]
      rw [took1, if_neg hst, ← tookK_at (p := p) hk, nthG_get (by simpa using hk), List.set_getElem_self]
theorem tookI_all (S : List G) (p : Int) : tookI S p (engI S) = S.map (took1 p) := by
  rw [engI, tookI_upto S p _ (Nat.le_refl _), tookK_end]
@[simp] theorem tookI_length (S : List G) (p : Int) (is : List Nat) : (tookI S p is).length = S.length := by
  unfold tookI
  induction is generalizing S with
  | nil => rfl
  | cons i is ih => rw [List.foldl_cons, ih, tookAt, List.length_set]
theorem tookI_snoc (S : List G) (p : Int) (is : List Nat) (i : Nat) : tookI S p (is ++ [i]) = tookAt p (tookI S p is) i := by
  rw [tookI, List.foldl_append]
  rfl
end Go.Proofs.Ytbflmgpcjfoifaa
