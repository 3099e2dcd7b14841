/- Walks of laws on layout: whether two inodes are the same. -/
import Derived.Test.YtkmonkemkhigfaaDoorLay14
import Derived.Test.YtkmonkemkhigfaaDoorLayL
import Derived.Deep.RegionHeld3
import Derived.Deep.RegionWith
set_option linter.unusedSimpArgs false
set_option linter.unusedVariables false
namespace Go.Proofs.YtkmonkemkhigfaaDoor
open Go.RowKit Go.Sel Go.Sel.Lay

/-- Behind a struct's store. -/
theorem stored4b {w1 : World} {b : Nat} {a0 a1 a2 a3 : Value} {e : TypeId} (hb : w1.heap[b]? = some (.cells #[a0, a1, a2, a3] e (0, 0))) (v0 v1 v2 v3 : Value) :
    ((((w1.setCell ⟨b, 0, none⟩ v0).setCell ⟨b, 1, none⟩ v1).setCell ⟨b, 2, none⟩ v2).setCell ⟨b, 3, none⟩ v3).heap[b]? = some (.cells #[v0, v1, v2, v3] e (0, 0)) :=
  blk_set (blk_set (blk_set (blk_set hb 0 v0) 1 v1) 2 v2) 3 v3
theorem stored4f {w1 : World} {b c : Nat} {o : Option Obj} (hb : w1.heap[c]? = o) (hc : b ≠ c) (v0 v1 v2 v3 : Value) :
    ((((w1.setCell ⟨b, 0, none⟩ v0).setCell ⟨b, 1, none⟩ v1).setCell ⟨b, 2, none⟩ v2).setCell ⟨b, 3, none⟩ v3).heap[c]? = o :=
  blk_far (blk_far (blk_far (blk_far hb (by simpa using hc) v0) (by simpa using hc) v1) (by simpa using hc) v2) (by simpa using hc) v3
theorem stored4B {w w1 : World} {B b : Nat} (hB : Below B w w1) (hb : B ≤ b) (v0 v1 v2 v3 : Value) :
    Below B w ((((w1.setCell ⟨b, 0, none⟩ v0).setCell ⟨b, 1, none⟩ v1).setCell ⟨b, 2, none⟩ v2).setCell ⟨b, 3, none⟩ v3) :=
  (((hB.setCell hb _).setCell hb _).setCell hb _).setCell hb _
theorem sameOk_comm (k l z : Int) (xs : List Int) (k' l' z' : Int) (ys : List Int) : sameOk k' l' z' ys k l z xs = sameOk k l z xs k' l' z' ys := by
  rw [Bool.eq_iff_iff]
  simp only [sameOk, Bool.and_eq_true, decide_eq_true_eq]
  constructor
  · rintro ⟨⟨⟨rfl, rfl⟩, rfl⟩, rfl⟩; simp
  · rintro ⟨⟨⟨rfl, rfl⟩, rfl⟩, rfl⟩; simp
theorem io_same {k l z k' l' z' : Int} {xs ys : List Int} (h : inoOk k l z xs = true) (h' : inoOk k' l' z' ys = true) :
    ((strOfNums (ioB k l z xs)).toList == (strOfNums (ioB k' l' z' ys)).toList) = sameOk k l z xs k' l' z' ys := by
  have e1 : ioB k l z xs = inoB k l z xs := by simp [ioB, h]
  have e2 : ioB k' l' z' ys = inoB k' l' z' ys := by simp [ioB, h']
  rw [e1, e2, strOfNums_beq (inoB_byte h) (inoB_byte h'), Bool.eq_iff_iff]
  simp only [decide_eq_true_eq, inoB_inj h h', sameOk, Bool.and_eq_true, and_assoc]

set_option maxHeartbeats 2000000 in
theorem law_LayoutSame (k l z : Int) (A : Option Addr) (n c : Nat) (xs : List Int) (k' l' z' : Int) (A' : Option Addr) (n' c' : Nat) (ys : List Int) (w : World) (ha : Rd w A n c (iv .i64 xs)) (hn : xs.length = n)
    (k0 : 0 ≤ k) (k1 : k ≤ 255) (l0 : -9223372036854775808 ≤ l) (l1 : l ≤ 9223372036854775807) (z0 : -9223372036854775808 ≤ z) (z1 : z ≤ 9223372036854775807)
    (hb : Rd w A' n' c' (iv .i64 ys)) (hn' : ys.length = n') (k0' : 0 ≤ k') (k1' : k' ≤ 255) (l0' : -9223372036854775808 ≤ l') (l1' : l' ≤ 9223372036854775807) (z0' : -9223372036854775808 ≤ z') (z1' : z' ≤ 9223372036854775807) :
    Calls Tryd.prog 7 #[.agg #[.int .u8 k, .int .i64 l, .int .i64 z, .slice A n c], .agg #[.int .u8 k', .int .i64 l', .int .i64 z', .slice A' n' c']] w fun e w' => e = .returned (.bool true) ∧ Below w.heap.size w w' := by
  have HS := take_rd ha hn 12
  have HF := take_rd hb hn' 12
  have hc1 := ha.le
  have hc2 := ha.cap
  have hd1 := hb.le
  have hd2 := hb.cap
  have HSA := Lib.hid HS.1
  have HSL := Lib.hid HS.2
  have HFA := Lib.hid HF.1
  have HFL := Lib.hid HF.2
  clear ha hn hb hn' HS HF
  go_enter Tryd.func7, Tryd.ntmps7
  go_wp2
  have g1 := blk21 w (.cells #[.int .u8 k, .int .i64 l, .int .i64 z, .slice A n c] 45) (.cells #[.int .u8 k', .int .i64 l', .int .i64 z', .slice A' n' c'] 45)
  have g2 := blk22 w (.cells #[.int .u8 k, .int .i64 l, .int .i64 z, .slice A n c] 45) (.cells #[.int .u8 k', .int .i64 l', .int .i64 z', .slice A' n' c'] 45)
  have HW : Hid (Below w.heap.size w ((w.alloc (.cells #[.int .u8 k, .int .i64 l, .int .i64 z, .slice A n c] 45)).alloc (.cells #[.int .u8 k', .int .i64 l', .int .i64 z', .slice A' n' c'] 45))) := ((Below.refl _ _).alloc (Nat.le_refl _) _).alloc (by simp) _
  have hsz : w.heap.size + 1 < ((w.alloc (.cells #[.int .u8 k, .int .i64 l, .int .i64 z, .slice A n c] 45)).alloc (.cells #[.int .u8 k', .int .i64 l', .int .i64 z', .slice A' n' c'] 45)).heap.size := by simp
  generalize (w.alloc (.cells #[.int .u8 k, .int .i64 l, .int .i64 z, .slice A n c] 45)).alloc (.cells #[.int .u8 k', .int .i64 l', .int .i64 z', .slice A' n' c'] 45) = w0 at *
  have c0 := blk_cell g1 0
  have c1 := blk_cell g1 1
  have c2 := blk_cell g1 2
  have c3 := blk_cell g1 3
  have d0 := blk_cell g2 0
  have d1 := blk_cell g2 1
  have d2 := blk_cell g2 2
  have d3 := blk_cell g2 3
  simp only [List.getElem?_toArray, List.getElem?_cons_zero, List.getElem?_cons_succ] at c0 c1 c2 c3 d0 d1 d2 d3
  have G1 := Lib.hid g1
  have G2 := Lib.hid g2
  clear g1 g2
  go_region_with (first
    | (go_at_call 25; have HM := hsz; (with_reducible refine (small_any k l z A n c _ hc1 hc2).mono ?_); rintro e w1 ⟨rfl, hB⟩; have p1 := Lib.hid (blk_below (w := w0.drew) G1.out hB (by simp; omega)); have p2 := Lib.hid (blk_below (w := w0.drew) G2.out hB (by simp; omega)); have e0 := blk_cell p2.out 0; have e1 := blk_cell p2.out 1; have e2 := blk_cell p2.out 2; have e3 := blk_cell p2.out 3; simp only [List.getElem?_toArray, List.getElem?_cons_zero, List.getElem?_cons_succ] at e0 e1 e2 e3; have HB1 := Lib.hid (below_then (HW.out.drew) hB); have hs1 : w.heap.size + 1 < w1.heap.size := Nat.lt_of_lt_of_le hsz (by have := hB.size; simpa using this); clear hB hsz)
    | (go_at_call 25; (with_reducible refine (small_any k' l' z' A' n' c' _ hd1 hd2).mono ?_); rintro e w2 ⟨rfl, hB⟩; have q1 := Lib.hid (blk_below p1.out hB (by omega)); have q2 := Lib.hid (blk_below p2.out hB (by omega)); have u0 := blk_cell q1.out 0; have u1 := blk_cell q1.out 1; have u2 := blk_cell q1.out 2; have u3 := blk_cell q1.out 3; have v0 := blk_cell q2.out 0; have v1 := blk_cell q2.out 1; have v2 := blk_cell q2.out 2; have v3 := blk_cell q2.out 3; have r0 := blk_free q1.out 0; have r1 := blk_free q1.out 1; have r2 := blk_free q1.out 2; have r3 := blk_free q1.out 3; have s0 := blk_free q2.out 0; have s1 := blk_free q2.out 1; have s2 := blk_free q2.out 2; have s3 := blk_free q2.out 3; simp only [List.getElem?_toArray, List.getElem?_cons_zero, List.getElem?_cons_succ] at u0 u1 u2 u3 v0 v1 v2 v3; have HB2 := Lib.hid (below_then HB1.out hB); have hs2 : w.heap.size + 1 < w2.heap.size := Nat.lt_of_lt_of_le hs1 hB.size; clear hB))
  all_goals
    have F1 := stored4f (b := w.heap.size + 1) (stored4b q1.out (.int .u8 k) (.int .i64 l) (.int .i64 z) (.slice A (min n 12) c)) (by omega) (.int .u8 k') (.int .i64 l') (.int .i64 z') (.slice A' (min n' 12) c')
    have F2 := stored4b (stored4f (b := w.heap.size) q2.out (by omega) (.int .u8 k) (.int .i64 l) (.int .i64 z) (.slice A (min n 12) c)) (.int .u8 k') (.int .i64 l') (.int .i64 z') (.slice A' (min n' 12) c')
    have F3 := Lib.hid (stored4B (stored4B HB2.out (Nat.le_refl _) (.int .u8 k) (.int .i64 l) (.int .i64 z) (.slice A (min n 12) c)) (b := w.heap.size + 1) (by omega) (.int .u8 k') (.int .i64 l') (.int .i64 z') (.slice A' (min n' 12) c'))
    clear c0 c1 c2 c3 d0 d1 d2 d3 e0 e1 e2 e3 u0 u1 u2 u3 v0 v1 v2 v3 r0 r1 r2 r3 s0 s1 s2 s3 p1 p2 q1 q2 G1 G2 HB1 HB2
    generalize (((((((w2.setCell ⟨w.heap.size, 0, none⟩ (.int .u8 k)).setCell ⟨w.heap.size, 1, none⟩ (.int .i64 l)).setCell ⟨w.heap.size, 2, none⟩ (.int .i64 z)).setCell ⟨w.heap.size, 3, none⟩ (.slice A (min n 12) c)).setCell ⟨w.heap.size + 1, 0, none⟩ (.int .u8 k')).setCell ⟨w.heap.size + 1, 1, none⟩ (.int .i64 l')).setCell ⟨w.heap.size + 1, 2, none⟩ (.int .i64 z')).setCell ⟨w.heap.size + 1, 3, none⟩ (.slice A' (min n' 12) c') = w3 at *
    have c0 := blk_cell F1 0
    have c1 := blk_cell F1 1
    have c2 := blk_cell F1 2
    have c3 := blk_cell F1 3
    have d0 := blk_cell F2 0
    have d1 := blk_cell F2 1
    have d2 := blk_cell F2 2
    have d3 := blk_cell F2 3
    simp only [List.getElem?_toArray, List.getElem?_cons_zero, List.getElem?_cons_succ] at c0 c1 c2 c3 d0 d1 d2 d3
    clear F1 F2
    have HM3 := hs2
    go_wp2_with (first
      | (go_at_call 26; have HM := HM3; (with_reducible refine (Inode_any k l z A (min n 12) c (xs.take 12) _ (HSA.out.below F3.out) HSL.out k0 k1 l0 l1 z0 z1).mono ?_); rintro e w5 ⟨⟨A6, c6, rfl, hr6⟩, hB⟩; have HR6 := Lib.hid hr6; have e0 := keep_cell c0 hB; have e1 := keep_cell c1 hB; have e2 := keep_cell c2 hB; have e3 := keep_cell c3 hB; have f0 := keep_cell d0 hB; have f1 := keep_cell d1 hB; have f2 := keep_cell d2 hB; have f3 := keep_cell d3 hB; have HB5 := Lib.hid (below_then F3.out hB); clear hB hr6 c0 c1 c2 c3 d0 d1 d2 d3 HM3 HM)
      | (go_at_call 26; (with_reducible refine (Inode_any k' l' z' A' (min n' 12) c' (ys.take 12) _ (HFA.out.below HB5.out) HFL.out k0' k1' l0' l1' z0' z1').mono ?_); rintro e w6 ⟨⟨A7, c7, rfl, hr7⟩, hB⟩; have HR7 := Lib.hid hr7; have HR6' := Lib.hid (HR6.out.below hB); have c0 := keep_cell e0 hB; have c1 := keep_cell e1 hB; have c2 := keep_cell e2 hB; have c3 := keep_cell e3 hB; have d0 := keep_cell f0 hB; have d1 := keep_cell f1 hB; have d2 := keep_cell f2 hB; have d3 := keep_cell f3 hB; have HB6 := Lib.hid (below_then HB5.out hB); clear hB hr7 e0 e1 e2 e3 f0 f1 f2 f3 HR6 HB5))
    have RA := Lib.hid (HSA.out.below HB6.out)
    have RB := Lib.hid (HFA.out.below HB6.out)
    have HCOM := Lib.hid (sameOk_comm k l z (xs.take 12) k' l' z' (ys.take 12))
    have HSAME : Hid (inoOk k l z (xs.take 12) = true → inoOk k' l' z' (ys.take 12) = true → ((strOfNums (ioB k l z (xs.take 12))).toList == (strOfNums (ioB k' l' z' (ys.take 12))).toList) = sameOk k l z (xs.take 12) k' l' z' (ys.take 12)) := io_same
    generalize ioB k l z (xs.take 12) = ib at *
    generalize ioB k' l' z' (ys.take 12) = jb at *
    generalize hq : sameOk k l z (xs.take 12) k' l' z' (ys.take 12) = q at *
    have HQQ := Lib.hid hq
    clear hq F3
    have HRDS : Hid (Rds w6 [(A, min n 12, c, iv .i64 (xs.take 12)), (A', min n' 12, c', iv .i64 (ys.take 12)), (A6, ib.length, c6, iv .u8 ib), (A7, jb.length, c7, iv .u8 jb)]) := Rds.cons RA.out (Rds.cons RB.out (Rds.cons HR6'.out (Rds.cons HR7.out (Rds.nil _))))
    clear RA RB HR6' HR7
    have hc6 := Rd.str (P := Tryd.prog) (Rds.get HRDS (.tail _ (.tail _ (.head _)))) rfl Tryd.underlying22 Tryd.underlying5 Tryd.underlying9
    have hc7 := Rd.str (P := Tryd.prog) (Rds.get HRDS (.tail _ (.tail _ (.tail _ (.head _))))) rfl Tryd.underlying22 Tryd.underlying5 Tryd.underlying9
    by_cases hok : inoOk k l z (xs.take 12) = true ∧ inoOk k' l' z' (ys.take 12) = true
    · have i1 : ioE k l z (xs.take 12) = 0 := by simp [ioE, hok.1]
      have i2 : ioE k' l' z' (ys.take 12) = 0 := by simp [ioE, hok.2]
      have hbe := HSAME.out hok.1 hok.2
      rw [i1, i2]
      clear hok i1 i2 HSAME
      go_region_held3 (fun w' => w'.cell? ⟨w.heap.size, 0, none⟩ = some (.int .u8 k) ∧ w'.cell? ⟨w.heap.size, 1, none⟩ = some (.int .i64 l) ∧ w'.cell? ⟨w.heap.size, 2, none⟩ = some (.int .i64 z) ∧ w'.cell? ⟨w.heap.size, 3, none⟩ = some (.slice A (min n 12) c) ∧ w'.cell? ⟨w.heap.size + 1, 0, none⟩ = some (.int .u8 k') ∧ w'.cell? ⟨w.heap.size + 1, 1, none⟩ = some (.int .i64 l') ∧ w'.cell? ⟨w.heap.size + 1, 2, none⟩ = some (.int .i64 z') ∧ w'.cell? ⟨w.heap.size + 1, 3, none⟩ = some (.slice A' (min n' 12) c') ∧ Hid (Rds w' [(A, min n 12, c, iv .i64 (xs.take 12)), (A', min n' 12, c', iv .i64 (ys.take 12)), (A6, ib.length, c6, iv .u8 ib), (A7, jb.length, c7, iv .u8 jb)]) ∧ (convert 22 9 (.slice A6 ib.length c6)).run Tryd.prog w' = .ok (.string (strOfNums ib)) w' ∧ (convert 22 9 (.slice A7 jb.length c7)).run Tryd.prog w' = .ok (.string (strOfNums jb)) w' ∧ Hid (Below w.heap.size w w'))
      (first
        | exact ⟨keep_cell (by assumption) (Below.refl _ _).drew, keep_cell (by assumption) (Below.refl _ _).drew, keep_cell (by assumption) (Below.refl _ _).drew, keep_cell (by assumption) (Below.refl _ _).drew, keep_cell (by assumption) (Below.refl _ _).drew, keep_cell (by assumption) (Below.refl _ _).drew, keep_cell (by assumption) (Below.refl _ _).drew, keep_cell (by assumption) (Below.refl _ _).drew, Rds.below (by assumption) (Below.refl _ _).drew, Rd.str (Rds.get (Rds.below (L := [(A, min n 12, c, iv .i64 (xs.take 12)), (A', min n' 12, c', iv .i64 (ys.take 12)), (A6, ib.length, c6, iv .u8 ib), (A7, jb.length, c7, iv .u8 jb)]) (by assumption) (Below.refl _ _).drew) (.tail _ (.tail _ (.head _)))) rfl Tryd.underlying22 Tryd.underlying5 Tryd.underlying9, Rd.str (Rds.get (Rds.below (L := [(A, min n 12, c, iv .i64 (xs.take 12)), (A', min n' 12, c', iv .i64 (ys.take 12)), (A6, ib.length, c6, iv .u8 ib), (A7, jb.length, c7, iv .u8 jb)]) (by assumption) (Below.refl _ _).drew) (.tail _ (.tail _ (.tail _ (.head _))))) rfl Tryd.underlying22 Tryd.underlying5 Tryd.underlying9, below_then (Hid.out (by assumption)) (Below.refl _ _).drew⟩
        | ((try go_split_ands); exact ⟨keep_cell (by assumption) hB, keep_cell (by assumption) hB, keep_cell (by assumption) hB, keep_cell (by assumption) hB, keep_cell (by assumption) hB, keep_cell (by assumption) hB, keep_cell (by assumption) hB, keep_cell (by assumption) hB, Rds.below (by assumption) hB, Rd.str (Rds.get (Rds.below (L := [(A, min n 12, c, iv .i64 (xs.take 12)), (A', min n' 12, c', iv .i64 (ys.take 12)), (A6, ib.length, c6, iv .u8 ib), (A7, jb.length, c7, iv .u8 jb)]) (by assumption) hB) (.tail _ (.tail _ (.head _)))) rfl Tryd.underlying22 Tryd.underlying5 Tryd.underlying9, Rd.str (Rds.get (Rds.below (L := [(A, min n 12, c, iv .i64 (xs.take 12)), (A', min n' 12, c', iv .i64 (ys.take 12)), (A6, ib.length, c6, iv .u8 ib), (A7, jb.length, c7, iv .u8 jb)]) (by assumption) hB) (.tail _ (.tail _ (.tail _ (.head _))))) rfl Tryd.underlying22 Tryd.underlying5 Tryd.underlying9, below_then (Hid.out (by assumption)) hB⟩))
      (first
        | (go_at_call 16; refine (live_any _).mono ?_; rintro e w11 ⟨rfl, hB⟩)
        | (go_at_call 27; (try go_split_ands); have QA := Rds.get (L := [(A, min n 12, c, iv .i64 (xs.take 12)), (A', min n' 12, c', iv .i64 (ys.take 12)), (A6, ib.length, c6, iv .u8 ib), (A7, jb.length, c7, iv .u8 jb)]) (by assumption) (.head _); have QB := Rds.get (L := [(A, min n 12, c, iv .i64 (xs.take 12)), (A', min n' 12, c', iv .i64 (ys.take 12)), (A6, ib.length, c6, iv .u8 ib), (A7, jb.length, c7, iv .u8 jb)]) (by assumption) (.tail _ (.head _)); (with_reducible refine (Same_any k l z A _ c (xs.take 12) k' l' z' A' _ c' (ys.take 12) _ QA HSL.out QB HFL.out).mono ?_); rw [HQQ.out]; rintro e w11 ⟨rfl, hB⟩)
        | (go_at_call 27; (try go_split_ands); have QA := Rds.get (L := [(A, min n 12, c, iv .i64 (xs.take 12)), (A', min n' 12, c', iv .i64 (ys.take 12)), (A6, ib.length, c6, iv .u8 ib), (A7, jb.length, c7, iv .u8 jb)]) (by assumption) (.head _); have QB := Rds.get (L := [(A, min n 12, c, iv .i64 (xs.take 12)), (A', min n' 12, c', iv .i64 (ys.take 12)), (A6, ib.length, c6, iv .u8 ib), (A7, jb.length, c7, iv .u8 jb)]) (by assumption) (.tail _ (.head _)); (with_reducible refine (Same_any k' l' z' A' _ c' (ys.take 12) k l z A _ c (xs.take 12) _ QB HFL.out QA HSL.out).mono ?_); rw [HCOM.out]; rintro e w11 ⟨rfl, hB⟩)
        | (go_at_call 27; (try go_split_ands); have QA := Rds.get (L := [(A, min n 12, c, iv .i64 (xs.take 12)), (A', min n' 12, c', iv .i64 (ys.take 12)), (A6, ib.length, c6, iv .u8 ib), (A7, jb.length, c7, iv .u8 jb)]) (by assumption) (.head _); have QB := Rds.get (L := [(A, min n 12, c, iv .i64 (xs.take 12)), (A', min n' 12, c', iv .i64 (ys.take 12)), (A6, ib.length, c6, iv .u8 ib), (A7, jb.length, c7, iv .u8 jb)]) (by assumption) (.tail _ (.head _)); (with_reducible refine (Same_any k l z A _ c (xs.take 12) k l z A _ c (xs.take 12) _ QA HSL.out QA HSL.out).mono ?_); rw [sameOk_self]; rintro e w11 ⟨rfl, hB⟩)
        | (go_at_call 28; (try go_split_ands); have QA := Rds.get (L := [(A, min n 12, c, iv .i64 (xs.take 12)), (A', min n' 12, c', iv .i64 (ys.take 12)), (A6, ib.length, c6, iv .u8 ib), (A7, jb.length, c7, iv .u8 jb)]) (by assumption) (.head _); have QB := Rds.get (L := [(A, min n 12, c, iv .i64 (xs.take 12)), (A', min n' 12, c', iv .i64 (ys.take 12)), (A6, ib.length, c6, iv .u8 ib), (A7, jb.length, c7, iv .u8 jb)]) (by assumption) (.tail _ (.head _)); (with_reducible refine (rSame_any k l z A _ c (xs.take 12) k' l' z' A' _ c' (ys.take 12) _ QA HSL.out QB HFL.out).mono ?_); rw [HQQ.out]; rintro e w11 ⟨rfl, hB⟩))
      go_split_ands
      go_wp2
      go_region_held3 (fun w' => w'.cell? ⟨w.heap.size, 0, none⟩ = some (.int .u8 k) ∧ w'.cell? ⟨w.heap.size, 1, none⟩ = some (.int .i64 l) ∧ w'.cell? ⟨w.heap.size, 2, none⟩ = some (.int .i64 z) ∧ w'.cell? ⟨w.heap.size, 3, none⟩ = some (.slice A (min n 12) c) ∧ w'.cell? ⟨w.heap.size + 1, 0, none⟩ = some (.int .u8 k') ∧ w'.cell? ⟨w.heap.size + 1, 1, none⟩ = some (.int .i64 l') ∧ w'.cell? ⟨w.heap.size + 1, 2, none⟩ = some (.int .i64 z') ∧ w'.cell? ⟨w.heap.size + 1, 3, none⟩ = some (.slice A' (min n' 12) c') ∧ Hid (Rds w' [(A, min n 12, c, iv .i64 (xs.take 12)), (A', min n' 12, c', iv .i64 (ys.take 12)), (A6, ib.length, c6, iv .u8 ib), (A7, jb.length, c7, iv .u8 jb)]) ∧ (convert 22 9 (.slice A6 ib.length c6)).run Tryd.prog w' = .ok (.string (strOfNums ib)) w' ∧ (convert 22 9 (.slice A7 jb.length c7)).run Tryd.prog w' = .ok (.string (strOfNums jb)) w' ∧ Hid (Below w.heap.size w w'))
      (first
        | exact ⟨keep_cell (by assumption) (Below.refl _ _).drew, keep_cell (by assumption) (Below.refl _ _).drew, keep_cell (by assumption) (Below.refl _ _).drew, keep_cell (by assumption) (Below.refl _ _).drew, keep_cell (by assumption) (Below.refl _ _).drew, keep_cell (by assumption) (Below.refl _ _).drew, keep_cell (by assumption) (Below.refl _ _).drew, keep_cell (by assumption) (Below.refl _ _).drew, Rds.below (by assumption) (Below.refl _ _).drew, Rd.str (Rds.get (Rds.below (L := [(A, min n 12, c, iv .i64 (xs.take 12)), (A', min n' 12, c', iv .i64 (ys.take 12)), (A6, ib.length, c6, iv .u8 ib), (A7, jb.length, c7, iv .u8 jb)]) (by assumption) (Below.refl _ _).drew) (.tail _ (.tail _ (.head _)))) rfl Tryd.underlying22 Tryd.underlying5 Tryd.underlying9, Rd.str (Rds.get (Rds.below (L := [(A, min n 12, c, iv .i64 (xs.take 12)), (A', min n' 12, c', iv .i64 (ys.take 12)), (A6, ib.length, c6, iv .u8 ib), (A7, jb.length, c7, iv .u8 jb)]) (by assumption) (Below.refl _ _).drew) (.tail _ (.tail _ (.tail _ (.head _))))) rfl Tryd.underlying22 Tryd.underlying5 Tryd.underlying9, below_then (Hid.out (by assumption)) (Below.refl _ _).drew⟩
        | ((try go_split_ands); exact ⟨keep_cell (by assumption) hB, keep_cell (by assumption) hB, keep_cell (by assumption) hB, keep_cell (by assumption) hB, keep_cell (by assumption) hB, keep_cell (by assumption) hB, keep_cell (by assumption) hB, keep_cell (by assumption) hB, Rds.below (by assumption) hB, Rd.str (Rds.get (Rds.below (L := [(A, min n 12, c, iv .i64 (xs.take 12)), (A', min n' 12, c', iv .i64 (ys.take 12)), (A6, ib.length, c6, iv .u8 ib), (A7, jb.length, c7, iv .u8 jb)]) (by assumption) hB) (.tail _ (.tail _ (.head _)))) rfl Tryd.underlying22 Tryd.underlying5 Tryd.underlying9, Rd.str (Rds.get (Rds.below (L := [(A, min n 12, c, iv .i64 (xs.take 12)), (A', min n' 12, c', iv .i64 (ys.take 12)), (A6, ib.length, c6, iv .u8 ib), (A7, jb.length, c7, iv .u8 jb)]) (by assumption) hB) (.tail _ (.tail _ (.tail _ (.head _))))) rfl Tryd.underlying22 Tryd.underlying5 Tryd.underlying9, below_then (Hid.out (by assumption)) hB⟩))
      (first
        | (go_at_call 16; refine (live_any _).mono ?_; rintro e w11 ⟨rfl, hB⟩)
        | (go_at_call 27; (try go_split_ands); have QA := Rds.get (L := [(A, min n 12, c, iv .i64 (xs.take 12)), (A', min n' 12, c', iv .i64 (ys.take 12)), (A6, ib.length, c6, iv .u8 ib), (A7, jb.length, c7, iv .u8 jb)]) (by assumption) (.head _); have QB := Rds.get (L := [(A, min n 12, c, iv .i64 (xs.take 12)), (A', min n' 12, c', iv .i64 (ys.take 12)), (A6, ib.length, c6, iv .u8 ib), (A7, jb.length, c7, iv .u8 jb)]) (by assumption) (.tail _ (.head _)); (with_reducible refine (Same_any k l z A _ c (xs.take 12) k' l' z' A' _ c' (ys.take 12) _ QA HSL.out QB HFL.out).mono ?_); rw [HQQ.out]; rintro e w11 ⟨rfl, hB⟩)
        | (go_at_call 27; (try go_split_ands); have QA := Rds.get (L := [(A, min n 12, c, iv .i64 (xs.take 12)), (A', min n' 12, c', iv .i64 (ys.take 12)), (A6, ib.length, c6, iv .u8 ib), (A7, jb.length, c7, iv .u8 jb)]) (by assumption) (.head _); have QB := Rds.get (L := [(A, min n 12, c, iv .i64 (xs.take 12)), (A', min n' 12, c', iv .i64 (ys.take 12)), (A6, ib.length, c6, iv .u8 ib), (A7, jb.length, c7, iv .u8 jb)]) (by assumption) (.tail _ (.head _)); (with_reducible refine (Same_any k' l' z' A' _ c' (ys.take 12) k l z A _ c (xs.take 12) _ QB HFL.out QA HSL.out).mono ?_); rw [HCOM.out]; rintro e w11 ⟨rfl, hB⟩)
        | (go_at_call 27; (try go_split_ands); have QA := Rds.get (L := [(A, min n 12, c, iv .i64 (xs.take 12)), (A', min n' 12, c', iv .i64 (ys.take 12)), (A6, ib.length, c6, iv .u8 ib), (A7, jb.length, c7, iv .u8 jb)]) (by assumption) (.head _); have QB := Rds.get (L := [(A, min n 12, c, iv .i64 (xs.take 12)), (A', min n' 12, c', iv .i64 (ys.take 12)), (A6, ib.length, c6, iv .u8 ib), (A7, jb.length, c7, iv .u8 jb)]) (by assumption) (.tail _ (.head _)); (with_reducible refine (Same_any k l z A _ c (xs.take 12) k l z A _ c (xs.take 12) _ QA HSL.out QA HSL.out).mono ?_); rw [sameOk_self]; rintro e w11 ⟨rfl, hB⟩)
        | (go_at_call 28; (try go_split_ands); have QA := Rds.get (L := [(A, min n 12, c, iv .i64 (xs.take 12)), (A', min n' 12, c', iv .i64 (ys.take 12)), (A6, ib.length, c6, iv .u8 ib), (A7, jb.length, c7, iv .u8 jb)]) (by assumption) (.head _); have QB := Rds.get (L := [(A, min n 12, c, iv .i64 (xs.take 12)), (A', min n' 12, c', iv .i64 (ys.take 12)), (A6, ib.length, c6, iv .u8 ib), (A7, jb.length, c7, iv .u8 jb)]) (by assumption) (.tail _ (.head _)); (with_reducible refine (rSame_any k l z A _ c (xs.take 12) k' l' z' A' _ c' (ys.take 12) _ QA HSL.out QB HFL.out).mono ?_); rw [HQQ.out]; rintro e w11 ⟨rfl, hB⟩))
      go_split_ands
      go_wp2
      go_ret
      exact ⟨ret_bool (by simp), Hid.out (by assumption)⟩
    · by_cases ho1 : inoOk k l z (xs.take 12) = true
      · have i1 : ioE k l z (xs.take 12) = 0 := by simp [ioE, ho1]
        have i2 : ioE k' l' z' (ys.take 12) = 3 := by
          have : inoOk k' l' z' (ys.take 12) = false := Bool.eq_false_iff.2 fun h => hok ⟨ho1, h⟩
          simp [ioE, this]
        rw [i1, i2]
        clear hok ho1 i1 i2 HSAME
        go_region
        all_goals
          have C0 : w6.drew.cell? ⟨w.heap.size, 0, none⟩ = some (.int .u8 k) := c0
          have C1 : w6.drew.cell? ⟨w.heap.size, 1, none⟩ = some (.int .i64 l) := c1
          have C2 : w6.drew.cell? ⟨w.heap.size, 2, none⟩ = some (.int .i64 z) := c2
          have C3 : w6.drew.cell? ⟨w.heap.size, 3, none⟩ = some (.slice A (min n 12) c) := c3
          have D0 : w6.drew.cell? ⟨w.heap.size + 1, 0, none⟩ = some (.int .u8 k') := d0
          have D1 : w6.drew.cell? ⟨w.heap.size + 1, 1, none⟩ = some (.int .i64 l') := d1
          have D2 : w6.drew.cell? ⟨w.heap.size + 1, 2, none⟩ = some (.int .i64 z') := d2
          have D3 : w6.drew.cell? ⟨w.heap.size + 1, 3, none⟩ = some (.slice A' (min n' 12) c') := d3
          have HRD := Rds.below HRDS (Below.refl w6.heap.size w6).drew
          have HBD := Lib.hid (HB6.out.drew)
          clear c0 c1 c2 c3 d0 d1 d2 d3 HRDS HB6 hc6 hc7
          generalize w6.drew = w9 at *
          go_wp2
          go_region_held3 (fun w' => w'.cell? ⟨w.heap.size, 0, none⟩ = some (.int .u8 k) ∧ w'.cell? ⟨w.heap.size, 1, none⟩ = some (.int .i64 l) ∧ w'.cell? ⟨w.heap.size, 2, none⟩ = some (.int .i64 z) ∧ w'.cell? ⟨w.heap.size, 3, none⟩ = some (.slice A (min n 12) c) ∧ w'.cell? ⟨w.heap.size + 1, 0, none⟩ = some (.int .u8 k') ∧ w'.cell? ⟨w.heap.size + 1, 1, none⟩ = some (.int .i64 l') ∧ w'.cell? ⟨w.heap.size + 1, 2, none⟩ = some (.int .i64 z') ∧ w'.cell? ⟨w.heap.size + 1, 3, none⟩ = some (.slice A' (min n' 12) c') ∧ Hid (Rds w' [(A, min n 12, c, iv .i64 (xs.take 12)), (A', min n' 12, c', iv .i64 (ys.take 12)), (A6, ib.length, c6, iv .u8 ib), (A7, jb.length, c7, iv .u8 jb)]) ∧ (convert 22 9 (.slice A6 ib.length c6)).run Tryd.prog w' = .ok (.string (strOfNums ib)) w' ∧ (convert 22 9 (.slice A7 jb.length c7)).run Tryd.prog w' = .ok (.string (strOfNums jb)) w' ∧ Hid (Below w.heap.size w w'))
          (first
            | exact ⟨keep_cell (by assumption) (Below.refl _ _).drew, keep_cell (by assumption) (Below.refl _ _).drew, keep_cell (by assumption) (Below.refl _ _).drew, keep_cell (by assumption) (Below.refl _ _).drew, keep_cell (by assumption) (Below.refl _ _).drew, keep_cell (by assumption) (Below.refl _ _).drew, keep_cell (by assumption) (Below.refl _ _).drew, keep_cell (by assumption) (Below.refl _ _).drew, Rds.below (by assumption) (Below.refl _ _).drew, Rd.str (Rds.get (Rds.below (L := [(A, min n 12, c, iv .i64 (xs.take 12)), (A', min n' 12, c', iv .i64 (ys.take 12)), (A6, ib.length, c6, iv .u8 ib), (A7, jb.length, c7, iv .u8 jb)]) (by assumption) (Below.refl _ _).drew) (.tail _ (.tail _ (.head _)))) rfl Tryd.underlying22 Tryd.underlying5 Tryd.underlying9, Rd.str (Rds.get (Rds.below (L := [(A, min n 12, c, iv .i64 (xs.take 12)), (A', min n' 12, c', iv .i64 (ys.take 12)), (A6, ib.length, c6, iv .u8 ib), (A7, jb.length, c7, iv .u8 jb)]) (by assumption) (Below.refl _ _).drew) (.tail _ (.tail _ (.tail _ (.head _))))) rfl Tryd.underlying22 Tryd.underlying5 Tryd.underlying9, below_then (Hid.out (by assumption)) (Below.refl _ _).drew⟩
            | ((try go_split_ands); exact ⟨keep_cell (by assumption) hB, keep_cell (by assumption) hB, keep_cell (by assumption) hB, keep_cell (by assumption) hB, keep_cell (by assumption) hB, keep_cell (by assumption) hB, keep_cell (by assumption) hB, keep_cell (by assumption) hB, Rds.below (by assumption) hB, Rd.str (Rds.get (Rds.below (L := [(A, min n 12, c, iv .i64 (xs.take 12)), (A', min n' 12, c', iv .i64 (ys.take 12)), (A6, ib.length, c6, iv .u8 ib), (A7, jb.length, c7, iv .u8 jb)]) (by assumption) hB) (.tail _ (.tail _ (.head _)))) rfl Tryd.underlying22 Tryd.underlying5 Tryd.underlying9, Rd.str (Rds.get (Rds.below (L := [(A, min n 12, c, iv .i64 (xs.take 12)), (A', min n' 12, c', iv .i64 (ys.take 12)), (A6, ib.length, c6, iv .u8 ib), (A7, jb.length, c7, iv .u8 jb)]) (by assumption) hB) (.tail _ (.tail _ (.tail _ (.head _))))) rfl Tryd.underlying22 Tryd.underlying5 Tryd.underlying9, below_then (Hid.out (by assumption)) hB⟩))
          (first
            | (go_at_call 16; refine (live_any _).mono ?_; rintro e w11 ⟨rfl, hB⟩)
            | (go_at_call 27; (try go_split_ands); have QA := Rds.get (L := [(A, min n 12, c, iv .i64 (xs.take 12)), (A', min n' 12, c', iv .i64 (ys.take 12)), (A6, ib.length, c6, iv .u8 ib), (A7, jb.length, c7, iv .u8 jb)]) (by assumption) (.head _); have QB := Rds.get (L := [(A, min n 12, c, iv .i64 (xs.take 12)), (A', min n' 12, c', iv .i64 (ys.take 12)), (A6, ib.length, c6, iv .u8 ib), (A7, jb.length, c7, iv .u8 jb)]) (by assumption) (.tail _ (.head _)); (with_reducible refine (Same_any k l z A _ c (xs.take 12) k' l' z' A' _ c' (ys.take 12) _ QA HSL.out QB HFL.out).mono ?_); rw [HQQ.out]; rintro e w11 ⟨rfl, hB⟩)
            | (go_at_call 27; (try go_split_ands); have QA := Rds.get (L := [(A, min n 12, c, iv .i64 (xs.take 12)), (A', min n' 12, c', iv .i64 (ys.take 12)), (A6, ib.length, c6, iv .u8 ib), (A7, jb.length, c7, iv .u8 jb)]) (by assumption) (.head _); have QB := Rds.get (L := [(A, min n 12, c, iv .i64 (xs.take 12)), (A', min n' 12, c', iv .i64 (ys.take 12)), (A6, ib.length, c6, iv .u8 ib), (A7, jb.length, c7, iv .u8 jb)]) (by assumption) (.tail _ (.head _)); (with_reducible refine (Same_any k' l' z' A' _ c' (ys.take 12) k l z A _ c (xs.take 12) _ QB HFL.out QA HSL.out).mono ?_); rw [HCOM.out]; rintro e w11 ⟨rfl, hB⟩)
            | (go_at_call 27; (try go_split_ands); have QA := Rds.get (L := [(A, min n 12, c, iv .i64 (xs.take 12)), (A', min n' 12, c', iv .i64 (ys.take 12)), (A6, ib.length, c6, iv .u8 ib), (A7, jb.length, c7, iv .u8 jb)]) (by assumption) (.head _); have QB := Rds.get (L := [(A, min n 12, c, iv .i64 (xs.take 12)), (A', min n' 12, c', iv .i64 (ys.take 12)), (A6, ib.length, c6, iv .u8 ib), (A7, jb.length, c7, iv .u8 jb)]) (by assumption) (.tail _ (.head _)); (with_reducible refine (Same_any k l z A _ c (xs.take 12) k l z A _ c (xs.take 12) _ QA HSL.out QA HSL.out).mono ?_); rw [sameOk_self]; rintro e w11 ⟨rfl, hB⟩)
            | (go_at_call 28; (try go_split_ands); have QA := Rds.get (L := [(A, min n 12, c, iv .i64 (xs.take 12)), (A', min n' 12, c', iv .i64 (ys.take 12)), (A6, ib.length, c6, iv .u8 ib), (A7, jb.length, c7, iv .u8 jb)]) (by assumption) (.head _); have QB := Rds.get (L := [(A, min n 12, c, iv .i64 (xs.take 12)), (A', min n' 12, c', iv .i64 (ys.take 12)), (A6, ib.length, c6, iv .u8 ib), (A7, jb.length, c7, iv .u8 jb)]) (by assumption) (.tail _ (.head _)); (with_reducible refine (rSame_any k l z A _ c (xs.take 12) k' l' z' A' _ c' (ys.take 12) _ QA HSL.out QB HFL.out).mono ?_); rw [HQQ.out]; rintro e w11 ⟨rfl, hB⟩))
          go_split_ands
          go_wp2
          go_ret
          exact ⟨ret_bool (by simp), Hid.out (by assumption)⟩
      · have i1 : ioE k l z (xs.take 12) = 3 := by simp [ioE, ho1]
        rw [i1]
        generalize ioE k' l' z' (ys.take 12) = je at *
        clear hok ho1 i1 HSAME
        go_region
        all_goals
          have C0 : w6.drew.cell? ⟨w.heap.size, 0, none⟩ = some (.int .u8 k) := c0
          have C1 : w6.drew.cell? ⟨w.heap.size, 1, none⟩ = some (.int .i64 l) := c1
          have C2 : w6.drew.cell? ⟨w.heap.size, 2, none⟩ = some (.int .i64 z) := c2
          have C3 : w6.drew.cell? ⟨w.heap.size, 3, none⟩ = some (.slice A (min n 12) c) := c3
          have D0 : w6.drew.cell? ⟨w.heap.size + 1, 0, none⟩ = some (.int .u8 k') := d0
          have D1 : w6.drew.cell? ⟨w.heap.size + 1, 1, none⟩ = some (.int .i64 l') := d1
          have D2 : w6.drew.cell? ⟨w.heap.size + 1, 2, none⟩ = some (.int .i64 z') := d2
          have D3 : w6.drew.cell? ⟨w.heap.size + 1, 3, none⟩ = some (.slice A' (min n' 12) c') := d3
          have HRD := Rds.below HRDS (Below.refl w6.heap.size w6).drew
          have HBD := Lib.hid (HB6.out.drew)
          clear c0 c1 c2 c3 d0 d1 d2 d3 HRDS HB6 hc6 hc7
          generalize w6.drew = w9 at *
          go_wp2
          go_region_held3 (fun w' => w'.cell? ⟨w.heap.size, 0, none⟩ = some (.int .u8 k) ∧ w'.cell? ⟨w.heap.size, 1, none⟩ = some (.int .i64 l) ∧ w'.cell? ⟨w.heap.size, 2, none⟩ = some (.int .i64 z) ∧ w'.cell? ⟨w.heap.size, 3, none⟩ = some (.slice A (min n 12) c) ∧ w'.cell? ⟨w.heap.size + 1, 0, none⟩ = some (.int .u8 k') ∧ w'.cell? ⟨w.heap.size + 1, 1, none⟩ = some (.int .i64 l') ∧ w'.cell? ⟨w.heap.size + 1, 2, none⟩ = some (.int .i64 z') ∧ w'.cell? ⟨w.heap.size + 1, 3, none⟩ = some (.slice A' (min n' 12) c') ∧ Hid (Rds w' [(A, min n 12, c, iv .i64 (xs.take 12)), (A', min n' 12, c', iv .i64 (ys.take 12)), (A6, ib.length, c6, iv .u8 ib), (A7, jb.length, c7, iv .u8 jb)]) ∧ (convert 22 9 (.slice A6 ib.length c6)).run Tryd.prog w' = .ok (.string (strOfNums ib)) w' ∧ (convert 22 9 (.slice A7 jb.length c7)).run Tryd.prog w' = .ok (.string (strOfNums jb)) w' ∧ Hid (Below w.heap.size w w'))
          (first
            | exact ⟨keep_cell (by assumption) (Below.refl _ _).drew, keep_cell (by assumption) (Below.refl _ _).drew, keep_cell (by assumption) (Below.refl _ _).drew, keep_cell (by assumption) (Below.refl _ _).drew, keep_cell (by assumption) (Below.refl _ _).drew, keep_cell (by assumption) (Below.refl _ _).drew, keep_cell (by assumption) (Below.refl _ _).drew, keep_cell (by assumption) (Below.refl _ _).drew, Rds.below (by assumption) (Below.refl _ _).drew, Rd.str (Rds.get (Rds.below (L := [(A, min n 12, c, iv .i64 (xs.take 12)), (A', min n' 12, c', iv .i64 (ys.take 12)), (A6, ib.length, c6, iv .u8 ib), (A7, jb.length, c7, iv .u8 jb)]) (by assumption) (Below.refl _ _).drew) (.tail _ (.tail _ (.head _)))) rfl Tryd.underlying22 Tryd.underlying5 Tryd.underlying9, Rd.str (Rds.get (Rds.below (L := [(A, min n 12, c, iv .i64 (xs.take 12)), (A', min n' 12, c', iv .i64 (ys.take 12)), (A6, ib.length, c6, iv .u8 ib), (A7, jb.length, c7, iv .u8 jb)]) (by assumption) (Below.refl _ _).drew) (.tail _ (.tail _ (.tail _ (.head _))))) rfl Tryd.underlying22 Tryd.underlying5 Tryd.underlying9, below_then (Hid.out (by assumption)) (Below.refl _ _).drew⟩
            | ((try go_split_ands); exact ⟨keep_cell (by assumption) hB, keep_cell (by assumption) hB, keep_cell (by assumption) hB, keep_cell (by assumption) hB, keep_cell (by assumption) hB, keep_cell (by assumption) hB, keep_cell (by assumption) hB, keep_cell (by assumption) hB, Rds.below (by assumption) hB, Rd.str (Rds.get (Rds.below (L := [(A, min n 12, c, iv .i64 (xs.take 12)), (A', min n' 12, c', iv .i64 (ys.take 12)), (A6, ib.length, c6, iv .u8 ib), (A7, jb.length, c7, iv .u8 jb)]) (by assumption) hB) (.tail _ (.tail _ (.head _)))) rfl Tryd.underlying22 Tryd.underlying5 Tryd.underlying9, Rd.str (Rds.get (Rds.below (L := [(A, min n 12, c, iv .i64 (xs.take 12)), (A', min n' 12, c', iv .i64 (ys.take 12)), (A6, ib.length, c6, iv .u8 ib), (A7, jb.length, c7, iv .u8 jb)]) (by assumption) hB) (.tail _ (.tail _ (.tail _ (.head _))))) rfl Tryd.underlying22 Tryd.underlying5 Tryd.underlying9, below_then (Hid.out (by assumption)) hB⟩))
          (first
            | (go_at_call 16; refine (live_any _).mono ?_; rintro e w11 ⟨rfl, hB⟩)
            | (go_at_call 27; (try go_split_ands); have QA := Rds.get (L := [(A, min n 12, c, iv .i64 (xs.take 12)), (A', min n' 12, c', iv .i64 (ys.take 12)), (A6, ib.length, c6, iv .u8 ib), (A7, jb.length, c7, iv .u8 jb)]) (by assumption) (.head _); have QB := Rds.get (L := [(A, min n 12, c, iv .i64 (xs.take 12)), (A', min n' 12, c', iv .i64 (ys.take 12)), (A6, ib.length, c6, iv .u8 ib), (A7, jb.length, c7, iv .u8 jb)]) (by assumption) (.tail _ (.head _)); (with_reducible refine (Same_any k l z A _ c (xs.take 12) k' l' z' A' _ c' (ys.take 12) _ QA HSL.out QB HFL.out).mono ?_); rw [HQQ.out]; rintro e w11 ⟨rfl, hB⟩)
            | (go_at_call 27; (try go_split_ands); have QA := Rds.get (L := [(A, min n 12, c, iv .i64 (xs.take 12)), (A', min n' 12, c', iv .i64 (ys.take 12)), (A6, ib.length, c6, iv .u8 ib), (A7, jb.length, c7, iv .u8 jb)]) (by assumption) (.head _); have QB := Rds.get (L := [(A, min n 12, c, iv .i64 (xs.take 12)), (A', min n' 12, c', iv .i64 (ys.take 12)), (A6, ib.length, c6, iv .u8 ib), (A7, jb.length, c7, iv .u8 jb)]) (by assumption) (.tail _ (.head _)); (with_reducible refine (Same_any k' l' z' A' _ c' (ys.take 12) k l z A _ c (xs.take 12) _ QB HFL.out QA HSL.out).mono ?_); rw [HCOM.out]; rintro e w11 ⟨rfl, hB⟩)
            | (go_at_call 27; (try go_split_ands); have QA := Rds.get (L := [(A, min n 12, c, iv .i64 (xs.take 12)), (A', min n' 12, c', iv .i64 (ys.take 12)), (A6, ib.length, c6, iv .u8 ib), (A7, jb.length, c7, iv .u8 jb)]) (by assumption) (.head _); have QB := Rds.get (L := [(A, min n 12, c, iv .i64 (xs.take 12)), (A', min n' 12, c', iv .i64 (ys.take 12)), (A6, ib.length, c6, iv .u8 ib), (A7, jb.length, c7, iv .u8 jb)]) (by assumption) (.tail _ (.head _)); (with_reducible refine (Same_any k l z A _ c (xs.take 12) k l z A _ c (xs.take 12) _ QA HSL.out QA HSL.out).mono ?_); rw [sameOk_self]; rintro e w11 ⟨rfl, hB⟩)
            | (go_at_call 28; (try go_split_ands); have QA := Rds.get (L := [(A, min n 12, c, iv .i64 (xs.take 12)), (A', min n' 12, c', iv .i64 (ys.take 12)), (A6, ib.length, c6, iv .u8 ib), (A7, jb.length, c7, iv .u8 jb)]) (by assumption) (.head _); have QB := Rds.get (L := [(A, min n 12, c, iv .i64 (xs.take 12)), (A', min n' 12, c', iv .i64 (ys.take 12)), (A6, ib.length, c6, iv .u8 ib), (A7, jb.length, c7, iv .u8 jb)]) (by assumption) (.tail _ (.head _)); (with_reducible refine (rSame_any k l z A _ c (xs.take 12) k' l' z' A' _ c' (ys.take 12) _ QA HSL.out QB HFL.out).mono ?_); rw [HQQ.out]; rintro e w11 ⟨rfl, hB⟩))
          go_split_ands
          go_wp2
          go_ret
          exact ⟨ret_bool (by simp), Hid.out (by assumption)⟩
end Go.Proofs.YtkmonkemkhigfaaDoor
