/- Walks of laws on layout: an inode's bytes and what bytes say. -/
import Derived.Test.YtkmonkemkhigfaaDoorLay13
import Derived.Test.YtkmonkemkhigfaaDoorLay11
import Derived.Test.YtkmonkemkhigfaaDoorSel4
import Derived.Deep.RegionHeld3
set_option linter.unusedSimpArgs false
set_option linter.unusedVariables false
namespace Go.Proofs.YtkmonkemkhigfaaDoor
open Go.RowKit Go.Sel Go.Sel.Lay

/-- Inode, whatever is asked: its bytes, or none. -/
def ioB (k l z : Int) (xs : List Int) : List Int := if inoOk k l z xs then inoB k l z xs else []
def ioE (k l z : Int) (xs : List Int) : Int := if inoOk k l z xs then 0 else 3
theorem ioB_byte (k l z : Int) (xs : List Int) : AllByte (ioB k l z xs) := by
  unfold ioB
  split
  · rename_i h; exact inoB_byte h
  · intro x hx; simp at hx
theorem Inode_any (k l z : Int) (A : Option Addr) (n c : Nat) (xs : List Int) (w : World) (ha : Rd w A n c (iv .i64 xs)) (hn : xs.length = n)
    (k0 : 0 ≤ k) (k1 : k ≤ 255) (l0 : -9223372036854775808 ≤ l) (l1 : l ≤ 9223372036854775807) (z0 : -9223372036854775808 ≤ z) (z1 : z ≤ 9223372036854775807) :
    Calls Tryd.prog 26 #[.agg #[.int .u8 k, .int .i64 l, .int .i64 z, .slice A n c]] w fun e w' => (∃ A c', e = .returned (.tuple #[.slice A (ioB k l z xs).length c', .int .i64 (ioE k l z xs)]) ∧ Rd w' A (ioB k l z xs).length c' (iv .u8 (ioB k l z xs))) ∧ Below w.heap.size w w' := by
  by_cases h : inoOk k l z xs = true
  · obtain ⟨hb, _⟩ := inoOk_parts h
    have h8 := (blksOk_parts hb).2.2
    refine (Inode_ok k l z A n c xs w ha hn h).mono ?_
    rintro e w' ⟨⟨A', rfl, hr⟩, hB⟩
    have e1 : ioB k l z xs = inoB k l z xs := by simp [ioB, h]
    have e2 : ioE k l z xs = 0 := by simp [ioE, h]
    rw [e1, e2, inoB_length _ _ _ _ h8]
    exact ⟨⟨A', 16, rfl, hr⟩, hB⟩
  · have h' := Bool.eq_false_iff.2 h
    refine (Inode_no k l z A n c xs w ha hn k0 k1 l0 l1 z0 z1 h').mono ?_
    rintro e w' ⟨rfl, hB⟩
    have e1 : ioB k l z xs = [] := by simp [ioB, h']
    have e2 : ioE k l z xs = 3 := by simp [ioE, h']
    rw [e1, e2]
    exact ⟨⟨none, 0, rfl, ⟨by simp, by omega, .inl rfl⟩⟩, hB⟩
theorem rInode_any (k l z : Int) (A : Option Addr) (n c : Nat) (xs : List Int) (w : World) (ha : Rd w A n c (iv .i64 xs)) (hn : xs.length = n)
    (k0 : 0 ≤ k) (k1 : k ≤ 255) (l0 : -9223372036854775808 ≤ l) (l1 : l ≤ 9223372036854775807) (z0 : -9223372036854775808 ≤ z) (z1 : z ≤ 9223372036854775807) :
    Calls Tryd.prog 29 #[.agg #[.int .u8 k, .int .i64 l, .int .i64 z, .slice A n c]] w fun e w' => (∃ A c', e = .returned (.tuple #[.slice A (ioB k l z xs).length c', .int .i64 (ioE k l z xs)]) ∧ Rd w' A (ioB k l z xs).length c' (iv .u8 (ioB k l z xs))) ∧ Below w.heap.size w w' := by
  by_cases h : inoOk k l z xs = true
  · obtain ⟨hb, _⟩ := inoOk_parts h
    have h8 := (blksOk_parts hb).2.2
    refine (rInode_ok k l z A n c xs w ha hn h).mono ?_
    rintro e w' ⟨⟨A', rfl, hr⟩, hB⟩
    have e1 : ioB k l z xs = inoB k l z xs := by simp [ioB, h]
    have e2 : ioE k l z xs = 0 := by simp [ioE, h]
    rw [e1, e2, inoB_length _ _ _ _ h8]
    exact ⟨⟨A', 16, rfl, hr⟩, hB⟩
  · have h' := Bool.eq_false_iff.2 h
    refine (rInode_no k l z A n c xs w ha hn k0 k1 l0 l1 z0 z1 h').mono ?_
    rintro e w' ⟨rfl, hB⟩
    have e1 : ioB k l z xs = [] := by simp [ioB, h']
    have e2 : ioE k l z xs = 3 := by simp [ioE, h']
    rw [e1, e2]
    exact ⟨⟨none, 0, rfl, ⟨by simp, by omega, .inl rfl⟩⟩, hB⟩

theorem rK_in (xs : List Int) (h : AllByte xs) : 0 ≤ rK xs ∧ rK xs ≤ 255 := by
  unfold rK
  split
  · rename_i h'
    have hl : xs.length = 16 := by simp [riOk] at h'; exact h'.1.1
    have : xs.getD 0 0 = xs[0] := by simp [List.getD_eq_getElem?_getD, List.getElem?_eq_getElem (show 0 < xs.length by omega)]
    rw [this]; exact h _ (List.getElem_mem _)
  · omega

/-- 'few' and 'small', on lists. -/
theorem take_rd {w : World} {A : Option Addr} {n c : Nat} {k : IntKind} {xs : List Int} (h : Rd w A n c (iv k xs)) (hn : xs.length = n) (j : Nat) : Rd w A (min n j) c (iv k (xs.take j)) ∧ (xs.take j).length = min n j := by
  refine ⟨?_, by rw [List.length_take, hn, Nat.min_comm]⟩
  by_cases hj : n ≤ j
  · rw [Nat.min_eq_left hj, List.take_of_length_le (by omega)]; exact h
  · rw [Nat.min_eq_right (by omega)]
    have := Rd.upto h j (by omega)
    rwa [iv, ← List.map_take] at this

/-- Behind a struct's store, and an empty slice that is built. -/
theorem stored4 {w w1 : World} {b : Nat} {a0 a1 a2 a3 : Value} {e : TypeId} (hb : w1.heap[b]? = some (.cells #[a0, a1, a2, a3] e (0, 0))) (hB : Below b w w1) (v0 v1 v2 v3 : Value) (u : TypeId) :
    (((((w1.setCell ⟨b, 0, none⟩ v0).setCell ⟨b, 1, none⟩ v1).setCell ⟨b, 2, none⟩ v2).setCell ⟨b, 3, none⟩ v3).alloc (.cells #[] u)).heap[b]? = some (.cells #[v0, v1, v2, v3] e (0, 0)) ∧
    Below b w (((((w1.setCell ⟨b, 0, none⟩ v0).setCell ⟨b, 1, none⟩ v1).setCell ⟨b, 2, none⟩ v2).setCell ⟨b, 3, none⟩ v3).alloc (.cells #[] u)) ∧
    (((((w1.setCell ⟨b, 0, none⟩ v0).setCell ⟨b, 1, none⟩ v1).setCell ⟨b, 2, none⟩ v2).setCell ⟨b, 3, none⟩ v3).alloc (.cells #[] u)).ownsRow b u 1 (.slice (some ⟨w1.heap.size, 0, none⟩) 0 0) 0 [] ∧
    w1.heap.size < (((((w1.setCell ⟨b, 0, none⟩ v0).setCell ⟨b, 1, none⟩ v1).setCell ⟨b, 2, none⟩ v2).setCell ⟨b, 3, none⟩ v3).alloc (.cells #[] u)).heap.size := by
  have hlt : b < w1.heap.size := (Array.getElem?_eq_some_iff.1 hb).1
  have h4 := blk_set (blk_set (blk_set (blk_set hb 0 v0) 1 v1) 2 v2) 3 v3
  have hsz : ((((w1.setCell ⟨b, 0, none⟩ v0).setCell ⟨b, 1, none⟩ v1).setCell ⟨b, 2, none⟩ v2).setCell ⟨b, 3, none⟩ v3).heap.size = w1.heap.size := by simp
  refine ⟨?_, ((((hB.setCell (Nat.le_refl _) _).setCell (Nat.le_refl _) _).setCell (Nat.le_refl _) _).setCell (Nat.le_refl _) _).alloc (by omega) _, ?_, by simp⟩
  · exact blk_below h4 (below_al _ _) (by omega)
  · have := own_empty ((((w1.setCell ⟨b, 0, none⟩ v0).setCell ⟨b, 1, none⟩ v1).setCell ⟨b, 2, none⟩ v2).setCell ⟨b, 3, none⟩ v3) b u (by omega)
    rwa [hsz] at this

theorem sameOk_self (k l z : Int) (xs : List Int) : sameOk k l z xs k l z xs = true := by simp [sameOk]
theorem sevenRd {w w' : World} {A1 A2 A3 A4 A5 A6 A7 : Option Addr} {n1 n2 n3 n4 n5 n6 n7 c1 c2 c3 c4 c5 c6 c7 : Nat} {l1 l2 l3 l4 l5 l6 l7 : List Value}
    (h : Hid (Rd w A1 n1 c1 l1 ∧ Rd w A2 n2 c2 l2 ∧ Rd w A3 n3 c3 l3 ∧ Rd w A4 n4 c4 l4 ∧ Rd w A5 n5 c5 l5 ∧ Rd w A6 n6 c6 l6 ∧ Rd w A7 n7 c7 l7)) (hB : Below w.heap.size w w') :
    Hid (Rd w' A1 n1 c1 l1 ∧ Rd w' A2 n2 c2 l2 ∧ Rd w' A3 n3 c3 l3 ∧ Rd w' A4 n4 c4 l4 ∧ Rd w' A5 n5 c5 l5 ∧ Rd w' A6 n6 c6 l6 ∧ Rd w' A7 n7 c7 l7) := by
  obtain ⟨h1, h2, h3, h4, h5, h6, h7⟩ := h.out
  exact ⟨h1.below hB, h2.below hB, h3.below hB, h4.below hB, h5.below hB, h6.below hB, h7.below hB⟩
theorem sevenHid {w : World} {A1 A2 A3 A4 A5 A6 A7 : Option Addr} {n1 n2 n3 n4 n5 n6 n7 c1 c2 c3 c4 c5 c6 c7 : Nat} {l1 l2 l3 l4 l5 l6 l7 : List Value}
    (h : Hid (Rd w A1 n1 c1 l1 ∧ Rd w A2 n2 c2 l2 ∧ Rd w A3 n3 c3 l3 ∧ Rd w A4 n4 c4 l4 ∧ Rd w A5 n5 c5 l5 ∧ Rd w A6 n6 c6 l6 ∧ Rd w A7 n7 c7 l7)) :
    Hid (Rd w A1 n1 c1 l1 ∧ Rd w A2 n2 c2 l2 ∧ Rd w A3 n3 c3 l3 ∧ Rd w A4 n4 c4 l4 ∧ Rd w A5 n5 c5 l5 ∧ Rd w A6 n6 c6 l6 ∧ Rd w A7 n7 c7 l7) := h

set_option maxHeartbeats 1000000 in
theorem law_LayoutInodes (k l z : Int) (A : Option Addr) (n c : Nat) (xs : List Int) (B : Option Addr) (m d : Nat) (ys : List Int) (w : World) (ha : Rd w A n c (iv .i64 xs)) (hn : xs.length = n)
    (k0 : 0 ≤ k) (k1 : k ≤ 255) (l0 : -9223372036854775808 ≤ l) (l1 : l ≤ 9223372036854775807) (z0 : -9223372036854775808 ≤ z) (z1 : z ≤ 9223372036854775807)
    (hb : Rd w B m d (iv .u8 ys)) (hm : ys.length = m) (hy : AllByte ys) :
    Calls Tryd.prog 8 #[.agg #[.int .u8 k, .int .i64 l, .int .i64 z, .slice A n c], .slice B m d] w fun e w' => e = .returned (.bool true) ∧ Below w.heap.size w w' := by
  have hyt : AllByte (ys.take 40) := fun x h => hy x (List.mem_of_mem_take h)
  have HS := take_rd ha hn 12
  have HF := take_rd hb hm 40
  have hc1 := ha.le
  have hc2 := ha.cap
  have hd1 := hb.le
  have hd2 := hb.cap
  have HSA := Lib.hid HS.1
  have HSL := Lib.hid HS.2
  have HFA := Lib.hid HF.1
  have HFL := Lib.hid HF.2
  have HY := Lib.hid hyt
  clear ha hn hb hm hy hyt HS HF
  go_enter Tryd.func8, Tryd.ntmps8
  go_wp2_with (first
    | (go_at_call 25; refine (small_any k l z A n c _ hc1 hc2).mono ?_; rintro e w1 ⟨rfl, hB⟩; have b1 := blk_below (blk11 w (.cells #[.int .u8 k, .int .i64 l, .int .i64 z, .slice A n c] 45)) hB (by simp); have c0 := blk_cell b1 0; have c1 := blk_cell b1 1; have c2 := blk_cell b1 2; have c3 := blk_cell b1 3; have f0 := blk_free b1 0; have f1 := blk_free b1 1; have f2 := blk_free b1 2; have f3 := blk_free b1 3; simp only [List.getElem?_toArray, List.getElem?_cons_zero, List.getElem?_cons_succ] at c0 c1 c2 c3; have HB1 := Lib.hid (below_then (below_al _ _) hB); have HBK := Lib.hid b1; have hs1 : w.heap.size < w1.heap.size := Nat.lt_of_lt_of_le (by simp) hB.size; clear hB b1)
    | (go_at_call 14; have HBK0 := HBK; refine (few_any _ _ _ _ hd1 hd2).mono ?_; rintro e w3 ⟨rfl, hw⟩; have HX := stored4 HBK.out HB1.out (.int .u8 k) (.int .i64 l) (.int .i64 z) (.slice A (min n 12) c) 5; rw [← hw] at HX; have HX1 := Lib.hid HX.1; have HX2 := Lib.hid HX.2.1; have HX3 := Lib.hid HX.2.2.1; have hs3 := HX.2.2.2; have e0 := blk_cell HX.1 0; have e1 := blk_cell HX.1 1; have e2 := blk_cell HX.1 2; have e3 := blk_cell HX.1 3; simp only [List.getElem?_toArray, List.getElem?_cons_zero, List.getElem?_cons_succ] at e0 e1 e2 e3; clear HX hw HBK HBK0 HB1 c0 c1 c2 c3 f0 f1 f2 f3)
    | (at_builtin; refine wpList_spread rfl _ _ 22 5 rfl w.heap.size (.int .u8 0) 1 Tryd.underlying22 (by kernel_rfl) rfl _ 0 [] _ _ _ (iv .u8 (ys.take 40)) rfl rfl (iv_oneCell _ _) HX3.out (HFA.out.below HX2.out) (by rw [iv_length]; exact HFL.out) HX2.out.size (by omega) (by omega) ?_; intro v1 w4 ho hg; simp only [Nat.zero_add, List.nil_append] at ho; obtain ⟨A5, c5, rfl, _, hr5⟩ := rd_own ho; have HR5 := Lib.hid hr5; have b4 := (hg.block w.heap.size (by omega) (fun he => by have h1 : w.heap.size = w1.heap.size := Option.some.inj he; omega)).trans HX1.out; have c0 := blk_cell b4 0; have c1 := blk_cell b4 1; have c2 := blk_cell b4 2; have c3 := blk_cell b4 3; simp only [List.getElem?_toArray, List.getElem?_cons_zero, List.getElem?_cons_succ] at c0 c1 c2 c3; have HB4 := Lib.hid (below_grown HX2.out hg HX2.out.size (fun g h => by have h1 : w1.heap.size = g := Option.some.inj h; omega)); clear ho hr5 b4 hg HX1 HX2 HX3 e0 e1 e2 e3)
    | (go_at_call 26; refine (Inode_any k l z A (min n 12) c (xs.take 12) _ (HSA.out.below HB4.out) HSL.out k0 k1 l0 l1 z0 z1).mono ?_; rintro e w5 ⟨⟨A6, c6, rfl, hr6⟩, hB⟩; have HR6 := Lib.hid hr6; have d0 := keep_cell c0 hB; have d1 := keep_cell c1 hB; have d2 := keep_cell c2 hB; have d3 := keep_cell c3 hB; have HB5 := Lib.hid hB; clear hB hr6 c0 c1 c2 c3)
    | (go_at_call 29; refine (rInode_any k l z A (min n 12) c (xs.take 12) _ (HSA.out.below (below_then HB4.out HB5.out)) HSL.out k0 k1 l0 l1 z0 z1).mono ?_; rintro e w6 ⟨⟨A7, c7, rfl, hr7⟩, hB⟩; have HR7 := Lib.hid hr7; have HB6 := Lib.hid hB; clear hB hr7)
    | (go_at_call 30; refine (ReadInode_any A5 _ c5 (ys.take 40) _ (HR5.out.below (below_then HB5.out HB6.out)) HFL.out HY.out).mono ?_; rintro e w7 ⟨⟨A8, c8, rfl, hr8⟩, hB⟩; have HR8 := Lib.hid hr8; have HB7 := Lib.hid hB; clear hB hr8)
    | (go_at_call 14; refine (few_any _ _ _ _ hd1 hd2).mono ?_; rintro e w9 ⟨rfl, rfl⟩)
    | (go_at_call 31; refine (rReadInode_any B (min m 40) d (ys.take 40) _ (HFA.out.below (below_then (below_then (below_then (below_then HB4.out HB5.out) HB6.out) HB7.out) (below_al _ _))) HFL.out HY.out).mono ?_; rintro e w8 ⟨⟨A9, c9, rfl, hr9⟩, hB⟩; have HR9 := Lib.hid hr9; have HB8 := Lib.hid hB; clear hB hr9))
  generalize rK (ys.take 40) = qk at *
  generalize rL (ys.take 40) = ql at *
  generalize rZ (ys.take 40) = qz at *
  generalize rE (ys.take 40) = qe at *
  generalize rB (ys.take 40) = qb at *
  have hio := ioB_byte k l z (xs.take 12)
  have HIO := Lib.hid hio
  clear hio
  generalize ioE k l z (xs.take 12) = ie at *
  generalize ioB k l z (xs.take 12) = ib at *
  have T9 := below_al w8 (.cells #[.int .u8 qk, .int .i64 ql, .int .i64 qz, .slice A9 qb.length c9] 45)
  have T8 := below_then HB8.out T9
  have T7 := below_then (below_al w7 (.cells #[.int .u8 qk, .int .i64 ql, .int .i64 qz, .slice A8 qb.length c8] 45)) T8
  have T6 := below_then HB7.out T7
  have T5 := below_then HB6.out T6
  have T4 := below_then HB5.out T5
  have T0 := below_then HB4.out T4
  have x0 := keep_cell d0 T5
  have x1 := keep_cell d1 T5
  have x2 := keep_cell d2 T5
  have x3 := keep_cell d3 T5
  have y0 := keep_cell (new_cell w7 #[.int .u8 qk, .int .i64 ql, .int .i64 qz, .slice A8 qb.length c8] 45 0 _ rfl) T8
  have y1 := keep_cell (new_cell w7 #[.int .u8 qk, .int .i64 ql, .int .i64 qz, .slice A8 qb.length c8] 45 1 _ rfl) T8
  have y2 := keep_cell (new_cell w7 #[.int .u8 qk, .int .i64 ql, .int .i64 qz, .slice A8 qb.length c8] 45 2 _ rfl) T8
  have y3 := keep_cell (new_cell w7 #[.int .u8 qk, .int .i64 ql, .int .i64 qz, .slice A8 qb.length c8] 45 3 _ rfl) T8
  have z0' := new_cell w8 #[.int .u8 qk, .int .i64 ql, .int .i64 qz, .slice A9 qb.length c9] 45 0 _ rfl
  have z1' := new_cell w8 #[.int .u8 qk, .int .i64 ql, .int .i64 qz, .slice A9 qb.length c9] 45 1 _ rfl
  have z2' := new_cell w8 #[.int .u8 qk, .int .i64 ql, .int .i64 qz, .slice A9 qb.length c9] 45 2 _ rfl
  have z3' := new_cell w8 #[.int .u8 qk, .int .i64 ql, .int .i64 qz, .slice A9 qb.length c9] 45 3 _ rfl
  have R5 := Lib.hid (HR5.out.below T4)
  have R6 := Lib.hid (HR6.out.below T5)
  have R7 := Lib.hid (HR7.out.below T6)
  have R8 := Lib.hid (HR8.out.below T7)
  have R9 := Lib.hid (HR9.out.below T9)
  have RA := Lib.hid (HSA.out.below T0)
  have RB := Lib.hid (HFA.out.below T0)
  have HT0 := Lib.hid T0
  clear T0 T4 T5 T6 T7 T8 T9 d0 d1 d2 d3 HR5 HR6 HR7 HR8 HR9 HSA HFA HB4 HB5 HB6 HB7 HB8
  generalize w7.heap.size = b7 at *
  generalize w8.heap.size = b8 at *
  generalize w8.alloc (.cells #[.int .u8 qk, .int .i64 ql, .int .i64 qz, .slice A9 qb.length c9] 45) = w10 at *
  go_region_held3 (fun w' => w'.cell? ⟨w.heap.size, 0, none⟩ = some (.int .u8 k) ∧ w'.cell? ⟨w.heap.size, 1, none⟩ = some (.int .i64 l) ∧ w'.cell? ⟨w.heap.size, 2, none⟩ = some (.int .i64 z) ∧ w'.cell? ⟨w.heap.size, 3, none⟩ = some (.slice A (min n 12) c) ∧
      w'.cell? ⟨b7, 0, none⟩ = some (.int .u8 qk) ∧ w'.cell? ⟨b7, 1, none⟩ = some (.int .i64 ql) ∧ w'.cell? ⟨b7, 2, none⟩ = some (.int .i64 qz) ∧ w'.cell? ⟨b7, 3, none⟩ = some (.slice A8 qb.length c8) ∧
      w'.cell? ⟨b8, 0, none⟩ = some (.int .u8 qk) ∧ w'.cell? ⟨b8, 1, none⟩ = some (.int .i64 ql) ∧ w'.cell? ⟨b8, 2, none⟩ = some (.int .i64 qz) ∧ w'.cell? ⟨b8, 3, none⟩ = some (.slice A9 qb.length c9) ∧
      Hid (Rd w' A5 (min m 40) c5 (iv .u8 (ys.take 40)) ∧ Rd w' A6 ib.length c6 (iv .u8 ib) ∧ Rd w' A7 ib.length c7 (iv .u8 ib) ∧ Rd w' A8 qb.length c8 (iv .i64 qb) ∧ Rd w' A9 qb.length c9 (iv .i64 qb) ∧ Rd w' A (min n 12) c (iv .i64 (xs.take 12)) ∧ Rd w' B (min m 40) d (iv .u8 (ys.take 40))) ∧
      (convert 22 9 (.slice A6 ib.length c6)).run Tryd.prog w' = .ok (.string (strOfNums ib)) w' ∧ (convert 22 9 (.slice A7 ib.length c7)).run Tryd.prog w' = .ok (.string (strOfNums ib)) w' ∧
      (convert 22 9 (.slice A5 (min m 40) c5)).run Tryd.prog w' = .ok (.string (strOfNums (ys.take 40))) w' ∧ (convert 22 9 (.slice B (min m 40) d)).run Tryd.prog w' = .ok (.string (strOfNums (ys.take 40))) w' ∧ Hid (Below w.heap.size w w'))
    (first
      | exact ⟨x0, x1, x2, x3, y0, y1, y2, y3, z0', z1', z2', z3', ⟨rd_drewN 1 R5.out, rd_drewN 1 R6.out, rd_drewN 1 R7.out, rd_drewN 1 R8.out, rd_drewN 1 R9.out, rd_drewN 1 RA.out, rd_drewN 1 RB.out⟩,
          Rd.strD R6.out rfl Tryd.underlying22 Tryd.underlying5 Tryd.underlying9, Rd.strD R7.out rfl Tryd.underlying22 Tryd.underlying5 Tryd.underlying9, Rd.strD R5.out HFL.out Tryd.underlying22 Tryd.underlying5 Tryd.underlying9, Rd.strD RB.out HFL.out Tryd.underlying22 Tryd.underlying5 Tryd.underlying9, HT0.out.drew⟩
      | ((try go_split_ands); have HQ := sevenRd (by assumption) hB; exact ⟨keep_cell (by assumption) hB, keep_cell (by assumption) hB, keep_cell (by assumption) hB, keep_cell (by assumption) hB, keep_cell (by assumption) hB, keep_cell (by assumption) hB, keep_cell (by assumption) hB, keep_cell (by assumption) hB, keep_cell (by assumption) hB, keep_cell (by assumption) hB, keep_cell (by assumption) hB, keep_cell (by assumption) hB, HQ,
          Rd.str HQ.out.2.1 rfl Tryd.underlying22 Tryd.underlying5 Tryd.underlying9, Rd.str HQ.out.2.2.1 rfl Tryd.underlying22 Tryd.underlying5 Tryd.underlying9, Rd.str HQ.out.1 HFL.out Tryd.underlying22 Tryd.underlying5 Tryd.underlying9, Rd.str HQ.out.2.2.2.2.2.2 HFL.out Tryd.underlying22 Tryd.underlying5 Tryd.underlying9, below_then (Hid.out (by assumption)) hB⟩))
    (first
      | (go_at_call 16; refine (live_any _).mono ?_; rintro e w11 ⟨rfl, hB⟩)
      | (go_at_call 28; (try go_split_ands); have HQ := sevenHid (by assumption); refine (rSame_any qk ql qz A8 _ c8 qb qk ql qz A9 _ c9 qb _ HQ.out.2.2.2.1 rfl HQ.out.2.2.2.2.1 rfl).mono ?_; rw [sameOk_self]; rintro e w11 ⟨rfl, hB⟩)
      | (go_at_call 32; (try go_split_ands); have HQ := sevenHid (by assumption); refine (Right_any k l z A _ c (xs.take 12) _ HQ.out.2.2.2.2.2.1 HSL.out k0 k1 l0 l1 z0 z1).mono ?_; rintro e w11 ⟨rfl, hB⟩)
      | (go_at_call 33; (try go_split_ands); have HQ := sevenHid (by assumption); refine (rRight_any k l z A _ c (xs.take 12) _ HQ.out.2.2.2.2.2.1 HSL.out k0 k1 l0 l1 z0 z1).mono ?_; rintro e w11 ⟨rfl, hB⟩)
      | (go_at_call 14; refine (few_any _ _ _ _ hd1 hd2).mono ?_; rintro e w11 ⟨rfl, rfl⟩; have hB := Below.refl w11.heap.size w11))
  go_split_ands
  go_wp2
  go_ret
  exact ⟨rfl, Hid.out (by assumption)⟩
end Go.Proofs.YtkmonkemkhigfaaDoor
