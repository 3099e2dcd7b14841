/- slices.Sort laid at this program: plain words of the shelf's own maker (numbers of this seat), then its contract at a row of the call's own. -/
import Derived.Test.YtpicagcapgjiaaaGra11
import Derived.Ground.SlgmProg
import Derived.Shelf.SortM.Plain
import Derived.Shelf.SortM.SortNone
set_option linter.unusedSimpArgs false
set_option linter.unusedVariables false
namespace Go.Proofs.Ytpicagcapgjiaaa
open Go.RowKit Go.Sel Go.Sel.Gra Go.Shelf

def Try.laysM5_ren : Go.Shelf.Ren := ⟨fun | 5 => 75 | 8 => 105 | 7 => 104 | 19 => 129 | 20 => 130 | 10 => 120 | 11 => 121 | 12 => 122 | 13 => 123 | 14 => 124 | 15 => 125 | 16 => 126 | 17 => 127 | 18 => 128 | 30 => 138 | 31 => 139 | 32 => 140 | 33 => 141 | 34 => 142 | 35 => 143 | 40 => 146 | n => n, fun | 23 => 23 | 25 => 3 | 3 => 3 | 32 => 132 | 22 => 23 | 0 => 0 | 44 => 154 | 46 => 156 | 4 => 4 | 36 => 147 | 35 => 146 | 41 => 97 | 5 => 5 | 9 => 9 | 53 => 163 | 57 => 167 | 63 => 171 | 64 => 172 | n => n, fun | n => n⟩
theorem Try.laysM5 : Go.Proofs.SlLaysM.n5 Try.prog Try.laysM5_ren := {
  mixed := by kernel_rfl
  f5 := ⟨Try.f75.name, by decide, Try.func75.trans (congrArg some (by kernel_rfl))⟩
  f7 := ⟨Try.f104.name, by decide, Try.func104.trans (congrArg some (by kernel_rfl))⟩
  f8 := Try.func105.trans (congrArg some (by kernel_rfl))
  f10 := ⟨Try.f120.name, by decide, Try.func120.trans (congrArg some (by kernel_rfl))⟩
  f11 := ⟨Try.f121.name, by decide, Try.func121.trans (congrArg some (by kernel_rfl))⟩
  f12 := ⟨Try.f122.name, by decide, Try.func122.trans (congrArg some (by kernel_rfl))⟩
  f13 := ⟨Try.f123.name, by decide, Try.func123.trans (congrArg some (by kernel_rfl))⟩
  f14 := ⟨Try.f124.name, by decide, Try.func124.trans (congrArg some (by kernel_rfl))⟩
  f15 := ⟨Try.f125.name, by decide, Try.func125.trans (congrArg some (by kernel_rfl))⟩
  f16 := ⟨Try.f126.name, by decide, Try.func126.trans (congrArg some (by kernel_rfl))⟩
  f17 := ⟨Try.f127.name, by decide, Try.func127.trans (congrArg some (by kernel_rfl))⟩
  f18 := ⟨Try.f128.name, by decide, Try.func128.trans (congrArg some (by kernel_rfl))⟩
  f19 := Try.func129.trans (congrArg some (by kernel_rfl))
  f20 := Try.func130.trans (congrArg some (by kernel_rfl))
  f30 := ⟨Try.f138.name, by decide, Try.func138.trans (congrArg some (by kernel_rfl))⟩
  f31 := Try.func139.trans (congrArg some (by kernel_rfl))
  f32 := Try.func140.trans (congrArg some (by kernel_rfl))
  f33 := ⟨Try.f141.name, by decide, Try.func141.trans (congrArg some (by kernel_rfl))⟩
  f34 := ⟨Try.f142.name, by decide, Try.func142.trans (congrArg some (by kernel_rfl))⟩
  f35 := ⟨Try.f143.name, by decide, Try.func143.trans (congrArg some (by kernel_rfl))⟩
  f40 := ⟨Try.f146.name, by decide, Try.func146.trans (congrArg some (by kernel_rfl))⟩
  t0 := Try.underlying0
  a0 := Try.isAgg0
  z0 := Try.sizeOf0
  v0 := Try.zeroValue0
  t3 := Try.underlying3
  a3 := Try.isAgg3
  z3 := Try.sizeOf3
  v3 := Try.zeroValue3
  t4 := Try.underlying4
  a4 := Try.isAgg4
  z4 := Try.sizeOf4
  v4 := Try.zeroValue4
  t5 := Try.underlying5
  a5 := Try.isAgg5
  z5 := Try.sizeOf5
  v5 := Try.zeroValue5
  t9 := Try.underlying9
  a9 := Try.isAgg9
  z9 := Try.sizeOf9
  v9 := Try.zeroValue9
  t22 := Try.underlying23
  a22 := Try.isAgg23
  z22 := Try.sizeOf23
  v22 := Try.zeroValue23
  t23 := Try.underlying23
  a23 := Try.isAgg23
  z23 := Try.sizeOf23
  v23 := Try.zeroValue23
  t25 := Try.underlying3
  a25 := Try.isAgg3
  z25 := Try.sizeOf3
  v25 := Try.zeroValue3
  t32 := Try.underlying132
  a32 := Try.isAgg132
  z32 := Try.sizeOf132
  v32 := Try.zeroValue132
  t35 := Try.underlying146
  a35 := Try.isAgg146
  z35 := Try.sizeOf146
  v35 := Try.zeroValue146
  t36 := Try.underlying147
  a36 := Try.isAgg147
  z36 := Try.sizeOf147
  v36 := Try.zeroValue147
  t41 := Try.underlying97
  a41 := Try.isAgg97
  z41 := Try.sizeOf97
  v41 := Try.zeroValue97
  t44 := Try.underlying154
  a44 := Try.isAgg154
  z44 := Try.sizeOf154
  v44 := Try.zeroValue154
  t46 := Try.underlying156
  a46 := Try.isAgg156
  z46 := Try.sizeOf156
  v46 := Try.zeroValue156
  t53 := Try.underlying163
  a53 := Try.isAgg163
  z53 := Try.sizeOf163
  v53 := Try.zeroValue163
  t57 := Try.underlying167
  a57 := Try.isAgg167
  z57 := Try.sizeOf167
  v57 := Try.zeroValue167
  t63 := Try.underlying171
  a63 := Try.isAgg171
  z63 := Try.sizeOf171
  v63 := Try.zeroValue171
  t64 := Try.underlying172
  a64 := Try.isAgg172
  z64 := Try.sizeOf172
  v64 := Try.zeroValue172 }

theorem putCells_take (d : Array Int) (cs : Array Value) (h : d.size ≤ cs.size) : (Go.Sort.putCells (Value.int .i64) 0 d cs).toList.take d.size = iv .i64 d.toList := by
  apply List.ext_getElem?
  intro i
  by_cases hi : i < d.size
  · have hi2 : i < cs.size := by omega
    rw [List.getElem?_take_of_lt hi]
    simp [Go.Sort.putCells, iv, hi, hi2]
  · rw [List.getElem?_eq_none (by simp; omega), List.getElem?_eq_none (by simp [iv]; omega)]

theorem Sort_any (xs : List Int) (hl : xs.length ≤ 1000) (v : Value) (base : Nat) (W : World) (ho : W.ownsRow base 3 1 v xs.length (iv .i64 xs)) :
    Calls Try.prog 75 #[v] W fun e W' => e = .returned (.tuple #[]) ∧ W'.ownsRow base 3 1 v xs.length (iv .i64 (xs.mergeSort fun x y => decide (x ≤ y))) ∧ Fr (fun k => v.ownBlock = some k) W W' := by
  rcases ho.2 with ⟨rfl, h0⟩ | ⟨g, cap, cur, rfl, hb, hg, hn, hc, hs, ht⟩
  · refine (AnyM.slices_Sort_int_none Try.laysM5 none 0 W).mono ?_
    rintro e W' ⟨rfl, rfl⟩
    have : xs = [] := List.eq_nil_of_length_eq_zero h0
    subst this
    refine ⟨rfl, ?_, Fr.refl _ _⟩
    simp at ho ⊢; exact ho
  · have hlt : g < W.heap.size := (Array.getElem?_eq_some_iff.1 hg).1
    have hH : Go.Sort.Holds (Value.int .i64) W g 0 xs.toArray := fun j hj => by
      have hj' : j < xs.length := by simpa using hj
      refine ⟨?_, by rw [Nat.zero_add]; exact blk_free hg j⟩
      rw [Nat.zero_add, blk_cell hg j]
      have h1 : (cur.toList.take (xs.length * 1))[j]? = (iv .i64 xs)[j]? := by rw [ht]
      rw [Nat.mul_one, List.getElem?_take_of_lt hj'] at h1
      rw [← Array.getElem?_toList, h1]
      simp [iv, hj']
    refine (AnyM.slices_Sort_int Try.laysM5 g 0 cap xs W hH hlt (by omega)).mono ?_
    rintro e W' ⟨rfl, m, os, rfl⟩
    have hsz : (xs.mergeSort fun x y => decide (x ≤ y)).length = xs.length := List.length_mergeSort _
    refine ⟨rfl, ⟨by simp [iv], .inr ⟨g, cap, Go.Sort.putCells (Value.int .i64) 0 (xs.mergeSort fun x y => decide (x ≤ y)).toArray cur, rfl, hb, ?_, hn, hc, by simpa [Go.Sort.putCells] using hs, ?_⟩⟩, ?_⟩
    · have h1 : (W.heap.modify g (Go.Sort.onCells (Go.Sort.putCells (Value.int .i64) 0 (xs.mergeSort fun x y => decide (x ≤ y)).toArray)))[g]? = some (.cells (Go.Sort.putCells (Value.int .i64) 0 (xs.mergeSort fun x y => decide (x ≤ y)).toArray cur) 3 (0, 0)) := by
        rw [Array.getElem?_modify, if_pos rfl, hg]; rfl
      show (W.heap.modify g _ ++ os)[g]? = _
      rw [Array.getElem?_append_left (by rw [Array.size_modify]; exact hlt)]
      exact h1
    · have := putCells_take (xs.mergeSort fun x y => decide (x ≤ y)).toArray cur (by simp [hsz]; omega)
      rw [Nat.mul_one]
      simpa [hsz] using this
    · refine ⟨rfl, rfl, rfl, ?_, fun k hk hne => ?_⟩
      · show W.heap.size ≤ (W.heap.modify g _ ++ os).size
        simp
      · have hkg : g ≠ k := fun e => hne (by rw [← e]; rfl)
        show (W.heap.modify g _ ++ os)[k]? = _
        rw [Array.getElem?_append_left (by rw [Array.size_modify]; exact hk), Array.getElem?_modify, if_neg hkg]

theorem mergeSort_rev (xs : List Int) (h : xs.reverse.Pairwise (· < ·)) : (xs.mergeSort fun x y => decide (x ≤ y)) = xs.reverse := by
  have hp : (xs.mergeSort fun x y => decide (x ≤ y)).Pairwise (· ≤ ·) := by
    have := List.pairwise_mergeSort (le := fun x y : Int => decide (x ≤ y)) (fun a b c h1 h2 => by simp at *; omega) (fun a b => by simp; omega) xs
    exact this.imp (fun h => by simpa using h)
  have hperm := List.mergeSort_perm xs (fun x y => decide (x ≤ y))
  have hnd : (xs.mergeSort fun x y => decide (x ≤ y)).Nodup := by
    rw [hperm.nodup_iff, ← (List.reverse_perm xs).nodup_iff]
    exact h.imp (fun h => by omega)
  have hlt : (xs.mergeSort fun x y => decide (x ≤ y)).Pairwise (· < ·) := (List.pairwise_and_iff.2 ⟨hp, hnd⟩).imp (fun h => by omega)
  exact sorted_ext hlt h (fun a => by rw [hperm.mem_iff, List.mem_reverse])

theorem SortC_rev (xs : List Int) (h : xs.Pairwise (· < ·)) (hl : xs.length ≤ 1000) : SortC xs.reverse := fun v base W ho => by
  have h1 := Sort_any xs.reverse (by simpa using hl) v base W ho
  rw [mergeSort_rev xs.reverse (by rw [List.reverse_reverse]; exact h)] at h1
  exact h1

theorem Thin_all (A : Option Addr) (n c : Nat) (D : List (List Int)) (w : World) (hD : Dp w A n c D) :
    Calls Try.prog 58 #[.slice A n c] w fun e w' => (∃ A' c', e = .returned (.slice A' (thinD D).length c') ∧ Dp w' A' (thinD D).length c' (thinD D)) ∧ Below w.heap.size w w' :=
  Thin_any A n c D w hD fun hr i hi => SortC_rev _ (thinRow_sorted D i) (by
    have h256 := (right_iff.1 hr).1
    have h1 : (thinRow D i).length ≤ i := Nat.le_trans (List.length_filter_le _ _) (marksL_le_length _ _)
    have := hD.len
    omega)
end Go.Proofs.Ytpicagcapgjiaaa
