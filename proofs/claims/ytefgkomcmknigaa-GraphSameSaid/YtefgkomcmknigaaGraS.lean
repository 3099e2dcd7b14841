/- slices.Sort laid at this program: plain words of the shelf's own maker (numbers of this seat), then its contract at a row of the call's own. -/
import Derived.Test.YtefgkomcmknigaaGra11
import Derived.Ground.SlgmProg
import Derived.Shelf.SortM.Plain
import Derived.Shelf.SortM.SortNone
set_option linter.unusedSimpArgs false
set_option linter.unusedVariables false
namespace Go.Proofs.Ytefgkomcmknigaa
open Go.RowKit Go.Sel Go.Sel.Gra Go.Shelf

def Try.laysM5_ren : Go.Shelf.Ren := ⟨fun | 5 => 36 | 8 => 50 | 7 => 49 | 19 => 62 | 20 => 63 | 10 => 53 | 11 => 54 | 12 => 55 | 13 => 56 | 14 => 57 | 15 => 58 | 16 => 59 | 17 => 60 | 18 => 61 | 30 => 64 | 31 => 65 | 32 => 66 | 33 => 67 | 34 => 68 | 35 => 69 | 40 => 70 | n => n, fun | 23 => 27 | 25 => 3 | 3 => 3 | 32 => 60 | 22 => 27 | 0 => 0 | 44 => 73 | 46 => 75 | 4 => 4 | 36 => 65 | 35 => 64 | 41 => 70 | 5 => 5 | 9 => 9 | 53 => 76 | 57 => 80 | 63 => 82 | 64 => 83 | n => n, fun | n => n⟩
theorem Try.laysM5 : Go.Proofs.SlLaysM.n5 Try.prog Try.laysM5_ren := {
  mixed := by kernel_rfl
  f5 := ⟨Try.f36.name, by decide, Try.func36.trans (congrArg some (by kernel_rfl))⟩
  f7 := ⟨Try.f49.name, by decide, Try.func49.trans (congrArg some (by kernel_rfl))⟩
  f8 := Try.func50.trans (congrArg some (by kernel_rfl))
  f10 := ⟨Try.f53.name, by decide, Try.func53.trans (congrArg some (by kernel_rfl))⟩
  f11 := ⟨Try.f54.name, by decide, Try.func54.trans (congrArg some (by kernel_rfl))⟩
  f12 := ⟨Try.f55.name, by decide, Try.func55.trans (congrArg some (by kernel_rfl))⟩
  f13 := ⟨Try.f56.name, by decide, Try.func56.trans (congrArg some (by kernel_rfl))⟩
  f14 := ⟨Try.f57.name, by decide, Try.func57.trans (congrArg some (by kernel_rfl))⟩
  f15 := ⟨Try.f58.name, by decide, Try.func58.trans (congrArg some (by kernel_rfl))⟩
  f16 := ⟨Try.f59.name, by decide, Try.func59.trans (congrArg some (by kernel_rfl))⟩
  f17 := ⟨Try.f60.name, by decide, Try.func60.trans (congrArg some (by kernel_rfl))⟩
  f18 := ⟨Try.f61.name, by decide, Try.func61.trans (congrArg some (by kernel_rfl))⟩
  f19 := Try.func62.trans (congrArg some (by kernel_rfl))
  f20 := Try.func63.trans (congrArg some (by kernel_rfl))
  f30 := ⟨Try.f64.name, by decide, Try.func64.trans (congrArg some (by kernel_rfl))⟩
  f31 := Try.func65.trans (congrArg some (by kernel_rfl))
  f32 := Try.func66.trans (congrArg some (by kernel_rfl))
  f33 := ⟨Try.f67.name, by decide, Try.func67.trans (congrArg some (by kernel_rfl))⟩
  f34 := ⟨Try.f68.name, by decide, Try.func68.trans (congrArg some (by kernel_rfl))⟩
  f35 := ⟨Try.f69.name, by decide, Try.func69.trans (congrArg some (by kernel_rfl))⟩
  f40 := ⟨Try.f70.name, by decide, Try.func70.trans (congrArg some (by kernel_rfl))⟩
  t0 := Try.underlying0
  a0 := Try.isAgg0
  z0 := Try.sizeOf0
  v0 := Try.zeroValue0
  t3 := Try.underlying3
  a3 := Try.isAgg3
  z3 := Try.sizeOf3
  v3 := Try.zeroValue3
  t4 := Try.underlying4
  a4 := Try.isAgg4
  z4 := Try.sizeOf4
  v4 := Try.zeroValue4
  t5 := Try.underlying5
  a5 := Try.isAgg5
  z5 := Try.sizeOf5
  v5 := Try.zeroValue5
  t9 := Try.underlying9
  a9 := Try.isAgg9
  z9 := Try.sizeOf9
  v9 := Try.zeroValue9
  t22 := Try.underlying27
  a22 := Try.isAgg27
  z22 := Try.sizeOf27
  v22 := Try.zeroValue27
  t23 := Try.underlying27
  a23 := Try.isAgg27
  z23 := Try.sizeOf27
  v23 := Try.zeroValue27
  t25 := Try.underlying3
  a25 := Try.isAgg3
  z25 := Try.sizeOf3
  v25 := Try.zeroValue3
  t32 := Try.underlying60
  a32 := Try.isAgg60
  z32 := Try.sizeOf60
  v32 := Try.zeroValue60
  t35 := Try.underlying64
  a35 := Try.isAgg64
  z35 := Try.sizeOf64
  v35 := Try.zeroValue64
  t36 := Try.underlying65
  a36 := Try.isAgg65
  z36 := Try.sizeOf65
  v36 := Try.zeroValue65
  t41 := Try.underlying70
  a41 := Try.isAgg70
  z41 := Try.sizeOf70
  v41 := Try.zeroValue70
  t44 := Try.underlying73
  a44 := Try.isAgg73
  z44 := Try.sizeOf73
  v44 := Try.zeroValue73
  t46 := Try.underlying75
  a46 := Try.isAgg75
  z46 := Try.sizeOf75
  v46 := Try.zeroValue75
  t53 := Try.underlying76
  a53 := Try.isAgg76
  z53 := Try.sizeOf76
  v53 := Try.zeroValue76
  t57 := Try.underlying80
  a57 := Try.isAgg80
  z57 := Try.sizeOf80
  v57 := Try.zeroValue80
  t63 := Try.underlying82
  a63 := Try.isAgg82
  z63 := Try.sizeOf82
  v63 := Try.zeroValue82
  t64 := Try.underlying83
  a64 := Try.isAgg83
  z64 := Try.sizeOf83
  v64 := Try.zeroValue83 }

theorem putCells_take (d : Array Int) (cs : Array Value) (h : d.size ≤ cs.size) : (Go.Sort.putCells (Value.int .i64) 0 d cs).toList.take d.size = iv .i64 d.toList := by
  apply List.ext_getElem?
  intro i
  by_cases hi : i < d.size
  · have hi2 : i < cs.size := by omega
    rw [List.getElem?_take_of_lt hi]
    simp [Go.Sort.putCells, iv, hi, hi2]
  · rw [List.getElem?_eq_none (by simp; omega), List.getElem?_eq_none (by simp [iv]; omega)]

theorem Sort_any (xs : List Int) (hl : xs.length ≤ 1000) (v : Value) (base : Nat) (W : World) (ho : W.ownsRow base 3 1 v xs.length (iv .i64 xs)) :
    Calls Try.prog 36 #[v] W fun e W' => e = .returned (.tuple #[]) ∧ W'.ownsRow base 3 1 v xs.length (iv .i64 (xs.mergeSort fun x y => decide (x ≤ y))) ∧ Fr (fun k => v.ownBlock = some k) W W' := by
  rcases ho.2 with ⟨rfl, h0⟩ | ⟨g, cap, cur, rfl, hb, hg, hn, hc, hs, ht⟩
  · refine (AnyM.slices_Sort_int_none Try.laysM5 none 0 W).mono ?_
    rintro e W' ⟨rfl, rfl⟩
    have : xs = [] := List.eq_nil_of_length_eq_zero h0
    subst this
    refine ⟨rfl, ?_, Fr.refl _ _⟩
    simp at ho ⊢; exact ho
  · have hlt : g < W.heap.size := (Array.getElem?_eq_some_iff.1 hg).1
    have hH : Go.Sort.Holds (Value.int .i64) W g 0 xs.toArray := fun j hj => by
      have hj' : j < xs.length := by simpa using hj
      refine ⟨?_, by rw [Nat.zero_add]; exact blk_free hg j⟩
      rw [Nat.zero_add, blk_cell hg j]
      have h1 : (cur.toList.take (xs.length * 1))[j]? = (iv .i64 xs)[j]? := by rw [ht]
      rw [Nat.mul_one, List.getElem?_take_of_lt hj'] at h1
      rw [← Array.getElem?_toList, h1]
      simp [iv, hj']
    refine (AnyM.slices_Sort_int Try.laysM5 g 0 cap xs W hH hlt (by omega)).mono ?_
    rintro e W' ⟨rfl, m, os, rfl⟩
    have hsz : (xs.mergeSort fun x y => decide (x ≤ y)).length = xs.length := List.length_mergeSort _
    refine ⟨rfl, ⟨by simp [iv], .inr ⟨g, cap, Go.Sort.putCells (Value.int .i64) 0 (xs.mergeSort fun x y => decide (x ≤ y)).toArray cur, rfl, hb, ?_, hn, hc, by simpa [Go.Sort.putCells] using hs, ?_⟩⟩, ?_⟩
    · have h1 : (W.heap.modify g (Go.Sort.onCells (Go.Sort.putCells (Value.int .i64) 0 (xs.mergeSort fun x y => decide (x ≤ y)).toArray)))[g]? = some (.cells (Go.Sort.putCells (Value.int .i64) 0 (xs.mergeSort fun x y => decide (x ≤ y)).toArray cur) 3 (0, 0)) := by
        rw [Array.getElem?_modify, if_pos rfl, hg]; rfl
      show (W.heap.modify g _ ++ os)[g]? = _
      rw [Array.getElem?_append_left (by rw [Array.size_modify]; exact hlt)]
      exact h1
    · have := putCells_take (xs.mergeSort fun x y => decide (x ≤ y)).toArray cur (by simp [hsz]; omega)
      rw [Nat.mul_one]
      simpa [hsz] using this
    · refine ⟨rfl, rfl, rfl, ?_, fun k hk hne => ?_⟩
      · show W.heap.size ≤ (W.heap.modify g _ ++ os).size
        simp
      · have hkg : g ≠ k := fun e => hne (by rw [← e]; rfl)
        show (W.heap.modify g _ ++ os)[k]? = _
        rw [Array.getElem?_append_left (by rw [Array.size_modify]; exact hk), Array.getElem?_modify, if_neg hkg]

theorem mergeSort_rev (xs : List Int) (h : xs.reverse.Pairwise (· < ·)) : (xs.mergeSort fun x y => decide (x ≤ y)) = xs.reverse := by
  have hp : (xs.mergeSort fun x y => decide (x ≤ y)).Pairwise (· ≤ ·) := by
    have := List.pairwise_mergeSort (le := fun x y : Int => decide (x ≤ y)) (fun a b c h1 h2 => by simp at *; omega) (fun a b => by simp; omega) xs
    exact this.imp (fun h => by simpa using h)
  have hperm := List.mergeSort_perm xs (fun x y => decide (x ≤ y))
  have hnd : (xs.mergeSort fun x y => decide (x ≤ y)).Nodup := by
    rw [hperm.nodup_iff, ← (List.reverse_perm xs).nodup_iff]
    exact h.imp (fun h => by omega)
  have hlt : (xs.mergeSort fun x y => decide (x ≤ y)).Pairwise (· < ·) := (List.pairwise_and_iff.2 ⟨hp, hnd⟩).imp (fun h => by omega)
  exact sorted_ext hlt h (fun a => by rw [hperm.mem_iff, List.mem_reverse])

theorem SortC_rev (xs : List Int) (h : xs.Pairwise (· < ·)) (hl : xs.length ≤ 1000) : SortC xs.reverse := fun v base W ho => by
  have h1 := Sort_any xs.reverse (by simpa using hl) v base W ho
  rw [mergeSort_rev xs.reverse (by rw [List.reverse_reverse]; exact h)] at h1
  exact h1

theorem Thin_all (A : Option Addr) (n c : Nat) (D : List (List Int)) (w : World) (hD : Dp w A n c D) :
    Calls Try.prog 13 #[.slice A n c] w fun e w' => (∃ A' c', e = .returned (.slice A' (thinD D).length c') ∧ Dp w' A' (thinD D).length c' (thinD D)) ∧ Below w.heap.size w w' :=
  Thin_any A n c D w hD fun hr i hi => SortC_rev _ (thinRow_sorted D i) (by
    have h256 := (right_iff.1 hr).1
    have h1 : (thinRow D i).length ≤ i := Nat.le_trans (List.length_filter_le _ _) (marksL_le_length _ _)
    have := hD.len
    omega)
end Go.Proofs.Ytefgkomcmknigaa
