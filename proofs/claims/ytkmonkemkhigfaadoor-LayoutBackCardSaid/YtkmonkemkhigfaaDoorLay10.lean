/- Walks of layout: an inode's bytes. -/
import Derived.Test.YtkmonkemkhigfaaDoorLay9
import Derived.Test.YtkmonkemkhigfaaDoorLayJ
set_option linter.unusedSimpArgs false
set_option linter.unusedVariables false
namespace Go.Proofs.YtkmonkemkhigfaaDoor
open Go.RowKit Go.Sel Go.Sel.Lay

set_option maxHeartbeats 1000000 in
theorem Inode_no (k l z : Int) (A : Option Addr) (n c : Nat) (xs : List Int) (w : World) (ha : Rd w A n c (iv .i64 xs)) (hn : xs.length = n)
    (k0 : 0 ≤ k) (k1 : k ≤ 255) (l0 : -9223372036854775808 ≤ l) (l1 : l ≤ 9223372036854775807) (z0 : -9223372036854775808 ≤ z) (z1 : z ≤ 9223372036854775807) (hz : inoOk k l z xs = false) :
    Calls Tryd.prog 26 #[.agg #[.int .u8 k, .int .i64 l, .int .i64 z, .slice A n c]] w fun e w' => e = .returned (.tuple #[.slice none 0 0, .int .i64 3]) ∧ Below w.heap.size w w' := by
  have HA := Lib.hid ha
  have HZ := Lib.hid hz
  have HN := Lib.hid hn
  clear ha hz hn
  go_enter Tryd.func26, Tryd.ntmps26
  go_wp2_with (go_at_call 32; refine (Right_any k l z A n c xs _ (HA.out.alloc _) HN.out k0 k1 l0 l1 z0 z1).mono ?_; rintro e w1 ⟨rfl, hB⟩; rw [HZ.out]; have HB := Lib.hid hB; clear hB)
  go_ret2
  exact ⟨rfl, below_then (below_al _ _) HB.out⟩

set_option maxHeartbeats 1000000 in
theorem Inode_ok (k l z : Int) (A : Option Addr) (n c : Nat) (xs : List Int) (w : World) (ha : Rd w A n c (iv .i64 xs)) (hn : xs.length = n) (hz : inoOk k l z xs = true) :
    Calls Tryd.prog 26 #[.agg #[.int .u8 k, .int .i64 l, .int .i64 z, .slice A n c]] w fun e w' => (∃ A, e = .returned (.tuple #[.slice A 16 16, .int .i64 0]) ∧ Rd w' A 16 16 (iv .u8 (inoB k l z xs))) ∧ Below w.heap.size w w' := by
  obtain ⟨hb, k0, k2, l0, l1, z0, z1⟩ := inoOk_parts hz
  obtain ⟨b1, _, b3⟩ := blksOk_parts hb
  have HA := Lib.hid ha
  have HZ := Lib.hid hz
  have HN := Lib.hid hn
  have B1 := Lib.hid b1
  clear ha hz hb b1
  go_enter Tryd.func26, Tryd.ntmps26
  go_wp2_with (go_at_call 32; refine (Right_any k l z A n c xs _ (HA.out.alloc _) HN.out k0 (by omega) (by omega) (by omega) (by omega) (by omega)).mono ?_; rintro e w1 ⟨rfl, hB⟩; rw [HZ.out]; have c0 := keep_cell (new_cell w #[.int .u8 k, .int .i64 l, .int .i64 z, .slice A n c] 45 0 _ rfl) hB; have c1 := keep_cell (new_cell w #[.int .u8 k, .int .i64 l, .int .i64 z, .slice A n c] 45 1 _ rfl) hB; have c2 := keep_cell (new_cell w #[.int .u8 k, .int .i64 l, .int .i64 z, .slice A n c] 45 2 _ rfl) hB; have c3 := keep_cell (new_cell w #[.int .u8 k, .int .i64 l, .int .i64 z, .slice A n c] 45 3 _ rfl) hB; have HB := Lib.hid (below_then (below_al _ _) hB); have c3' : ∀ o, (w1.alloc o).cell? ⟨w.heap.size, 3, none⟩ = some (.slice A n c) := fun o => keep_cell c3 (below_al w1 o); clear hB)
  have hw1 := HB.out.size
  have HB1 := Lib.hid (below_then HB.out (below_al w1 (.cells #[.int .u8 k, .int .u8 l, .int .u8 (z % 256), .int .u8 (z / 256), .int .u8 0, .int .u8 0, .int .u8 0, .int .u8 0, .int .u8 0, .int .u8 0, .int .u8 0, .int .u8 0, .int .u8 0, .int .u8 0, .int .u8 0, .int .u8 0] 58)))
  clear c0 c1 c2 c3 c3' HB
  go_loopw [26] (fun v wr => ∃ j : Nat, j ≤ n ∧ v = .int .i64 j ∧ Hid (∃ cells, wr.heap[w1.heap.size]? = some (.cells cells 58 (0, 0)) ∧ cells.toList = iv .u8 (inoPart k l z xs j)) ∧ Hid (Below w.heap.size w wr)) (fun v _ => n - (intOf v).toNat)
  case atStart => exact ⟨0, by omega, rfl, ⟨_, blk11 _ _, rfl⟩, HB1.out⟩
  case round =>
    obtain ⟨j, hj, rfl, HC, HB⟩ := hrel
    obtain ⟨cells, hb2, hcells⟩ := HC.out
    by_cases hlt : j < n
    · have hjx : j < xs.length := by omega
      obtain ⟨b, off, rfl, hbw, hcell⟩ := (HA.out.below HB.out).form (by simp; omega)
      have x0 := hcell j (by simpa using hjx)
      rw [iv_at] at x0
      have hx := B1.out _ (List.getElem_mem hjx)
      have d0 : wr.cell? ⟨w1.heap.size, 8 + j, none⟩ = some (.int .u8 0) := by
        rw [blk_cell hb2, ← Array.getElem?_toList, hcells, inoPart_get k l z xs j hjx b3]
      have f0 := blk_free hb2 (8 + j)
      have e2 := Lib.hid (blk_set hb2 (8 + j) (.int .u8 (xs[j]'hjx)))
      have HC2 := Lib.hid hcells
      have e3 := Lib.hid (HB.out.setCell (p := ⟨w1.heap.size, 8 + j, none⟩) hw1 (.int .u8 (xs[j]'hjx)))
      clear hb2 hcells HB HC hcell
      go_wp2
      refine ⟨⟨j + 1, by omega, by go_num, ⟨_, e2.out, ?_⟩, e3⟩, by simp [intOf]; omega⟩
      rw [Array.toList_setIfInBounds, HC2.out, inoPart_set k l z xs j hjx b3]
    · obtain rfl : j = n := by omega
      have HC2 := Lib.hid hcells
      have HB3 := Lib.hid hb2
      clear hb2 hcells HC
      go_wp2
      go_ret2
      refine ⟨⟨_, rfl, rd_block HB3.out 16 16 _ 0 (by omega) (by omega) fun i hi => ?_⟩, HB.out⟩
      rw [Nat.zero_add, ← Array.getElem?_toList, HC2.out, ← HN.out, inoPart_end]
      simp

set_option maxHeartbeats 1000000 in
theorem rInode_no (k l z : Int) (A : Option Addr) (n c : Nat) (xs : List Int) (w : World) (ha : Rd w A n c (iv .i64 xs)) (hn : xs.length = n)
    (k0 : 0 ≤ k) (k1 : k ≤ 255) (l0 : -9223372036854775808 ≤ l) (l1 : l ≤ 9223372036854775807) (z0 : -9223372036854775808 ≤ z) (z1 : z ≤ 9223372036854775807) (hz : inoOk k l z xs = false) :
    Calls Tryd.prog 29 #[.agg #[.int .u8 k, .int .i64 l, .int .i64 z, .slice A n c]] w fun e w' => e = .returned (.tuple #[.slice none 0 0, .int .i64 3]) ∧ Below w.heap.size w w' := by
  have HA := Lib.hid ha
  have HZ := Lib.hid hz
  have HN := Lib.hid hn
  clear ha hz hn
  go_enter Tryd.func29, Tryd.ntmps29
  go_wp2_with (go_at_call 33; refine (rRight_any k l z A n c xs _ (HA.out.alloc _) HN.out k0 k1 l0 l1 z0 z1).mono ?_; rintro e w1 ⟨rfl, hB⟩; rw [HZ.out]; have HB := Lib.hid hB; clear hB)
  go_ret2
  exact ⟨rfl, below_then (below_al _ _) HB.out⟩

theorem mk16 (w : World) : (Instr.makeSlice 22 (.int .i64 16) (.int .i64 16)).run Tryd.prog w = .ok (.slice (some ⟨w.heap.size, 0, none⟩) 16 16) (w.alloc (.cells #[.int .u8 0, .int .u8 0, .int .u8 0, .int .u8 0, .int .u8 0, .int .u8 0, .int .u8 0, .int .u8 0, .int .u8 0, .int .u8 0, .int .u8 0, .int .u8 0, .int .u8 0, .int .u8 0, .int .u8 0, .int .u8 0] 5)) := by kernel_rfl

set_option maxHeartbeats 1000000 in
theorem rInode_ok (k l z : Int) (A : Option Addr) (n c : Nat) (xs : List Int) (w : World) (ha : Rd w A n c (iv .i64 xs)) (hn : xs.length = n) (hz : inoOk k l z xs = true) :
    Calls Tryd.prog 29 #[.agg #[.int .u8 k, .int .i64 l, .int .i64 z, .slice A n c]] w fun e w' => (∃ A, e = .returned (.tuple #[.slice A 16 16, .int .i64 0]) ∧ Rd w' A 16 16 (iv .u8 (inoB k l z xs))) ∧ Below w.heap.size w w' := by
  obtain ⟨hb, k0, k2, l0, l1, z0, z1⟩ := inoOk_parts hz
  obtain ⟨b1, _, b3⟩ := blksOk_parts hb
  have hmk := mk16
  have HA := Lib.hid ha
  have HZ := Lib.hid hz
  have HN := Lib.hid hn
  have B1 := Lib.hid b1
  clear ha hz hb b1
  go_enter Tryd.func29, Tryd.ntmps29
  go_wp2_with (go_at_call 33; refine (rRight_any k l z A n c xs _ (HA.out.alloc _) HN.out k0 (by omega) (by omega) (by omega) (by omega) (by omega)).mono ?_; rintro e w1 ⟨rfl, hB⟩; rw [HZ.out]; have b1 := blk_below (blk11 w (.cells #[.int .u8 k, .int .i64 l, .int .i64 z, .slice A n c] 45)) hB (by simp); have c0 := keep_cell (new_cell w #[.int .u8 k, .int .i64 l, .int .i64 z, .slice A n c] 45 0 _ rfl) hB; have c1 := keep_cell (new_cell w #[.int .u8 k, .int .i64 l, .int .i64 z, .slice A n c] 45 1 _ rfl) hB; have c2 := keep_cell (new_cell w #[.int .u8 k, .int .i64 l, .int .i64 z, .slice A n c] 45 2 _ rfl) hB; have c3 := keep_cell (new_cell w #[.int .u8 k, .int .i64 l, .int .i64 z, .slice A n c] 45 3 _ rfl) hB; have HB := Lib.hid (below_then (below_al _ _) hB); skip)
  have hw1 := HB.out.size
  have hlt1 : w.heap.size < w1.heap.size := Nat.lt_of_lt_of_le (Nat.lt_succ_self _) (by have := hB.size; simpa using this)
  have BB := Lib.hid b1
  clear c3 hB b1
  go_region
  have B1' := Lib.hid (blk_below BB.out (below_al w1 (.cells #[.int .u8 k, .int .u8 l, .int .u8 (z % 256), .int .u8 (z / 256), .int .u8 0, .int .u8 0, .int .u8 0, .int .u8 0, .int .u8 0, .int .u8 0, .int .u8 0, .int .u8 0, .int .u8 0, .int .u8 0, .int .u8 0, .int .u8 0] 5)).drew hlt1)
  have B2' := Lib.hid (blk11 w1 (.cells #[.int .u8 k, .int .u8 l, .int .u8 (z % 256), .int .u8 (z / 256), .int .u8 0, .int .u8 0, .int .u8 0, .int .u8 0, .int .u8 0, .int .u8 0, .int .u8 0, .int .u8 0, .int .u8 0, .int .u8 0, .int .u8 0, .int .u8 0] 5))
  have HB1 := Lib.hid (below_then HB.out (below_al w1 (.cells #[.int .u8 k, .int .u8 l, .int .u8 (z % 256), .int .u8 (z / 256), .int .u8 0, .int .u8 0, .int .u8 0, .int .u8 0, .int .u8 0, .int .u8 0, .int .u8 0, .int .u8 0, .int .u8 0, .int .u8 0, .int .u8 0, .int .u8 0] 5)).drew)
  clear c0 c1 c2 HB BB
  have B2 : Hid (∃ cells, (w1.alloc (.cells #[.int .u8 k, .int .u8 l, .int .u8 (z % 256), .int .u8 (z / 256), .int .u8 0, .int .u8 0, .int .u8 0, .int .u8 0, .int .u8 0, .int .u8 0, .int .u8 0, .int .u8 0, .int .u8 0, .int .u8 0, .int .u8 0, .int .u8 0] 5)).drew.heap[w1.heap.size]? = some (.cells cells 5 (0, 0)) ∧ cells.toList = iv .u8 (inoPart k l z xs 0)) := ⟨_, B2'.out, rfl⟩
  clear B2'
  generalize (w1.alloc (.cells #[.int .u8 k, .int .u8 l, .int .u8 (z % 256), .int .u8 (z / 256), .int .u8 0, .int .u8 0, .int .u8 0, .int .u8 0, .int .u8 0, .int .u8 0, .int .u8 0, .int .u8 0, .int .u8 0, .int .u8 0, .int .u8 0, .int .u8 0] 5)).drew = w2 at *
  go_wp2
  go_loopw [5] (fun v wr => ∃ j : Nat, j ≤ n ∧ v = .int .i64 j ∧ Hid (wr.heap[w.heap.size]? = some (.cells #[.int .u8 k, .int .i64 l, .int .i64 z, .slice A n c] 45 (0, 0))) ∧ Hid (∃ cells, wr.heap[w1.heap.size]? = some (.cells cells 5 (0, 0)) ∧ cells.toList = iv .u8 (inoPart k l z xs j)) ∧ Hid (Below w.heap.size w wr)) (fun v _ => n - (intOf v).toNat)
  case atStart => exact ⟨0, by omega, rfl, B1'.out, B2.out, HB1.out⟩
  case round =>
    obtain ⟨j, hj, rfl, HX, HC, HB⟩ := hrel
    obtain ⟨cells, hb2, hcells⟩ := HC.out
    have x3 := blk_cell HX.out 3
    simp only [List.getElem?_toArray, List.getElem?_cons_zero, List.getElem?_cons_succ] at x3
    by_cases hlt : j < n
    · have hjx : j < xs.length := by omega
      obtain ⟨b, off, rfl, hbw, hcell⟩ := (HA.out.below HB.out).form (by simp; omega)
      have x0 := hcell j (by simpa using hjx)
      rw [iv_at] at x0
      have hx := B1.out _ (List.getElem_mem hjx)
      have d0 : wr.cell? ⟨w1.heap.size, 8 + j, none⟩ = some (.int .u8 0) := by
        rw [blk_cell hb2, ← Array.getElem?_toList, hcells, inoPart_get k l z xs j hjx b3]
      have f0 := blk_free hb2 (8 + j)
      have e1 := Lib.hid (blk_far (p := ⟨w1.heap.size, 8 + j, none⟩) HX.out (by simp; omega) (.int .u8 (xs[j]'hjx)))
      have e2 := Lib.hid (blk_set hb2 (8 + j) (.int .u8 (xs[j]'hjx)))
      have HC2 := Lib.hid hcells
      have e3 := Lib.hid (HB.out.setCell (p := ⟨w1.heap.size, 8 + j, none⟩) hw1 (.int .u8 (xs[j]'hjx)))
      clear hb2 hcells HB HC hcell HX
      go_wp2
      refine ⟨⟨j + 1, by omega, by go_num, e1, ⟨_, e2.out, ?_⟩, e3⟩, by simp [intOf]; omega⟩
      rw [Array.toList_setIfInBounds, HC2.out, inoPart_set k l z xs j hjx b3]
    · obtain rfl : j = n := by omega
      have HC2 := Lib.hid hcells
      have HB3 := Lib.hid hb2
      clear hb2 hcells HC
      go_wp2
      go_ret2
      refine ⟨⟨_, rfl, rd_block HB3.out 16 16 _ 0 (by omega) (by omega) fun i hi => ?_⟩, HB.out⟩
      rw [Nat.zero_add, ← Array.getElem?_toList, HC2.out, ← HN.out, inoPart_end]
      simp
end Go.Proofs.YtkmonkemkhigfaaDoor
