/- Walks of graph's reference: Before, Above, Depth. -/
import Derived.Test.YtpicagcapgjiaaaGraJ
import Derived.Test.YtpicagcapgjiaaaGra8
import Derived.Test.YtpicagcapgjiaaaGra9
set_option linter.unusedSimpArgs false
set_option linter.unusedVariables false
namespace Go.Proofs.Ytpicagcapgjiaaa
open Go.RowKit Go.Sel Go.Sel.Gra Go.Shelf

attribute [local go_sem] Oper.semAt_some

theorem before_ref {D : List (List Int)} {a b : Int} (h : a ≠ b) (h0 : 0 ≤ b) (h1 : b < (D.length : Int)) : decide (a ∈ closeL D [b]) = beforeB D a b := by
  obtain ⟨bn, rfl⟩ := Int.eq_ofNat_of_zero_le h0
  rw [Bool.eq_iff_iff, decide_eq_true_eq, before_iff]
  constructor
  · intro ha
    obtain ⟨hr, j, rfl, hj⟩ := closeL_mem ha
    refine ⟨hr, by omega, by omega, ?_⟩
    rcases (mem_closeL hr).1 ha with ⟨_, hm⟩ | ⟨i, hi, hm, hA⟩
    · exact absurd (List.mem_singleton.1 hm) h
    · have : (i : Int) = bn := List.mem_singleton.1 hm
      have : i = bn := by omega
      subst this
      simpa using hA
  · rintro ⟨hr, ha, _, hA⟩
    obtain ⟨an, rfl⟩ := Int.eq_ofNat_of_zero_le ha
    exact (mem_closeL hr).2 (.inr ⟨bn, by omega, by simp, by simpa using hA⟩)
theorem before_not {D : List (List Int)} {a b : Int} (h : a = b ∨ b < 0 ∨ (D.length : Int) ≤ b) : beforeB D a b = false := by
  cases hb : beforeB D a b with
  | false => rfl
  | true =>
    obtain ⟨hr, h0, h1, hA⟩ := before_iff.1 hb
    have := hA.lt hr
    omega

def aboveK (D : List (List Int)) (a : Int) (k : Nat) : List Int := ((List.range k).filter fun i : Nat => beforeB D a (i : Int)).map fun i : Nat => (i : Int)
theorem aboveK_in {D : List (List Int)} {a : Int} {k : Nat} (h : beforeB D a (k : Int) = true) : aboveK D a (k + 1) = aboveK D a k ++ [(k : Int)] := by simp [aboveK, List.range_succ, h]
theorem aboveK_out {D : List (List Int)} {a : Int} {k : Nat} (h : beforeB D a (k : Int) = false) : aboveK D a (k + 1) = aboveK D a k := by simp [aboveK, List.range_succ, h]
theorem aboveK_length (D : List (List Int)) (a : Int) (k : Nat) : (aboveK D a k).length ≤ k := by
  rw [aboveK, List.length_map]
  exact Nat.le_trans (List.length_filter_le _ _) (by simp)
theorem aboveK_sorted (D : List (List Int)) (a : Int) (k : Nat) : (aboveK D a k).Pairwise (· < ·) := by
  rw [aboveK, List.pairwise_map]
  exact (List.Pairwise.filter _ (List.pairwise_lt_range)).imp (fun h => by omega)
theorem above_ref (D : List (List Int)) (a : Int) : aboveL D a = aboveK D a D.length := by
  have hs : (aboveL D a).Pairwise (· < ·) := by
    rw [aboveL]
    split
    · exact thoseL_sorted _
    · exact List.Pairwise.nil
  have hnat : ∀ x ∈ aboveL D a, ∃ j : Nat, x = j := fun x hx => by
    rw [aboveL] at hx
    split at hx
    · obtain ⟨j, h, _⟩ := mem_thoseL.1 hx
      exact ⟨j, h⟩
    · simp at hx
  refine sorted_ext hs (aboveK_sorted _ _ _) (fun x => ?_)
  constructor
  · intro hx
    obtain ⟨j, rfl⟩ := hnat x hx
    have hb := mem_aboveL.1 hx
    obtain ⟨hr, h0, h1, hA⟩ := before_iff.1 hb
    have := hA.lt hr
    rw [aboveK, List.mem_map]
    exact ⟨j, List.mem_filter.2 ⟨by simp at this ⊢; omega, hb⟩, rfl⟩
  · intro hx
    rw [aboveK, List.mem_map] at hx
    obtain ⟨j, hj, rfl⟩ := hx
    exact mem_aboveL.2 (List.mem_filter.1 hj).2
theorem aboveK_not {D : List (List Int)} (h : rightD D = false) (a : Int) : aboveL D a = [] := by simp [aboveL, h]

theorem mkIn (n : Nat) (hn : n ≤ 1000) (w : World) : (Instr.makeSlice 23 (.int .i64 (n : Int)) (.int .i64 (n : Int))).run Try.prog w = .ok (.slice (some ⟨w.heap.size, 0, none⟩) n n) (w.alloc (.cells (iv .i64 (partI [] n)).toArray 3)) := by
  have := run_makeN 23 3 (.int .i64 0) 8 Try.underlying23 infoInt rfl n (by omega) (by omega) w
  rw [this, partI_nil]; simp [iv]

end Go.Proofs.Ytpicagcapgjiaaa
