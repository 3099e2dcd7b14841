/- Walks of laws on layout: an inode's bytes with one turned. -/
import Derived.Test.YtkmonkemkhigfaaDoorLay14
import Derived.Test.YtkmonkemkhigfaaDoorLayM
set_option linter.unusedSimpArgs false
set_option linter.unusedVariables false
namespace Go.Proofs.YtkmonkemkhigfaaDoor
open Go.RowKit Go.Sel Go.Sel.Lay

/-- Behind a struct's store. -/
theorem stored4c {w w1 : World} {b : Nat} {a0 a1 a2 a3 : Value} {e : TypeId} (hb : w1.heap[b]? = some (.cells #[a0, a1, a2, a3] e (0, 0))) (hB : Below b w w1) (v0 v1 v2 v3 : Value) :
    ((((w1.setCell ⟨b, 0, none⟩ v0).setCell ⟨b, 1, none⟩ v1).setCell ⟨b, 2, none⟩ v2).setCell ⟨b, 3, none⟩ v3).heap[b]? = some (.cells #[v0, v1, v2, v3] e (0, 0)) ∧
    Below b w ((((w1.setCell ⟨b, 0, none⟩ v0).setCell ⟨b, 1, none⟩ v1).setCell ⟨b, 2, none⟩ v2).setCell ⟨b, 3, none⟩ v3) :=
  ⟨blk_set (blk_set (blk_set (blk_set hb 0 v0) 1 v1) 2 v2) 3 v3, (((hB.setCell (Nat.le_refl _) _).setCell (Nat.le_refl _) _).setCell (Nat.le_refl _) _).setCell (Nat.le_refl _) _⟩

set_option maxHeartbeats 2000000 in
theorem law_LayoutTurned (k l z : Int) (A : Option Addr) (n c : Nat) (xs : List Int) (at_ by_ : Int) (w : World) (ha : Rd w A n c (iv .i64 xs)) (hn : xs.length = n)
    (k0 : 0 ≤ k) (k1 : k ≤ 255) (l0 : -9223372036854775808 ≤ l) (l1 : l ≤ 9223372036854775807) (z0 : -9223372036854775808 ≤ z) (z1 : z ≤ 9223372036854775807)
    (a0 : 0 ≤ at_) (a1 : at_ ≤ 255) (y0 : 0 ≤ by_) (y1 : by_ ≤ 255) :
    Calls Tryd.prog 10 #[.agg #[.int .u8 k, .int .i64 l, .int .i64 z, .slice A n c], .int .u8 at_, .int .u8 by_] w fun e w' => e = .returned (.bool true) ∧ Below w.heap.size w w' := by
  have HS := take_rd ha hn 12
  have hc1 := ha.le
  have hc2 := ha.cap
  have HSA := Lib.hid HS.1
  have HSL := Lib.hid HS.2
  clear ha hn HS
  by_cases hok : inoOk k l z (xs.take 12) = true
  · have HOK := Lib.hid hok
    have H8 := Lib.hid (blksOk_parts (inoOk_parts hok).1).2.2
    clear hok
    by_cases hy : by_ = 0
    · subst hy
      go_enter Tryd.func10, Tryd.ntmps10
      go_wp2_with (first
        | (go_at_call 25; refine (small_any k l z A n c _ hc1 hc2).mono ?_; rintro e w1 ⟨rfl, hB⟩; have b1 := blk_below (blk11 w (.cells #[.int .u8 k, .int .i64 l, .int .i64 z, .slice A n c] 45)) hB (by simp); have c0 := blk_cell b1 0; have c1 := blk_cell b1 1; have c2 := blk_cell b1 2; have c3 := blk_cell b1 3; have f0 := blk_free b1 0; have f1 := blk_free b1 1; have f2 := blk_free b1 2; have f3 := blk_free b1 3; simp only [List.getElem?_toArray, List.getElem?_cons_zero, List.getElem?_cons_succ] at c0 c1 c2 c3; have HST := Lib.hid (stored4c b1 (below_then (below_al _ _) hB) (.int .u8 k) (.int .i64 l) (.int .i64 z) (.slice A (min n 12) c)); clear hB b1)
        | (go_at_call 26; (with_reducible refine (Inode_ok k l z A (min n 12) c (xs.take 12) _ (HSA.out.below HST.out.2) HSL.out HOK.out).mono ?_); rintro e w5 ⟨⟨A6, rfl, hr6⟩, hB⟩; have HB5 := Lib.hid (below_then HST.out.2 hB); clear hB hr6)
        | (go_at_call 16; refine (live_any _).mono ?_; rintro e w9 ⟨rfl, hB⟩; have HB9 := Lib.hid (below_then HB5.out hB); clear hB))
      go_ret
      exact ⟨rfl, HB9.out⟩
    · obtain ⟨i, hi⟩ := Int.eq_ofNat_of_zero_le (show 0 ≤ at_ % 16 by omega)
      have hi16 : i < 16 := by omega
      have hlen := inoB_length k l z (xs.take 12) H8.out
      have hby := inoB_byte HOK.out
      generalize hL : inoB k l z (xs.take 12) = L at *
      have HL := Lib.hid hL
      have hiL : i < L.length := by omega
      obtain ⟨o0, o1⟩ := hby _ (List.getElem_mem hiL)
      have hxb := xor_byte L[i] by_ o0 o1 y0 y1
      generalize hv : bits BinOp.xor IntKind.u8 L[i] by_ = v at *
      have HCS : Hid (L.set i v ≠ L) := set_ne hiL (hxb.2 hy)
      have HCB : Hid (AllByte (L.set i v)) := by
        intro x hx
        rcases List.mem_or_eq_of_mem_set hx with h | rfl
        · exact hby x h
        · exact hxb.1
      have HCL : Hid ((L.set i v).length = 16) := by show _ = _; simp [hlen]
      have HSET : Hid ((iv .u8 L).set i (.int .u8 v) = iv .u8 (L.set i v)) := by show _ = _; simp [iv, List.map_set]
      have HLN := Lib.hid hlen
      generalize hli : L[i] = li at *
      have HLI := Lib.hid hli
      have HGI : Hid ((iv .u8 L)[i]? = some (.int .u8 li)) := by
        show _ = _
        rw [List.getElem?_eq_getElem (by simpa using hiL), iv_at, HLI.out]
      have HBYL := Lib.hid hby
      clear hlen hby hL hxb hli
      have hyb : (by_ == 0) = false := by simpa using hy
      clear hy
      by_cases hr : riOk (L.set i v) = true
      · have HR := Lib.hid hr
        have hE : rE (L.set i v) = 0 := (r_yes hr).2.2.2.2
        have HE := Lib.hid hE
        have HNS : Hid (sameOk (rK (L.set i v)) (rL (L.set i v)) (rZ (L.set i v)) (rB (L.set i v)) k l z (xs.take 12) = false) := turned_other (by rw [HL.out]; exact HCS.out) hr
        clear hr hE
        go_enter Tryd.func10, Tryd.ntmps10
        go_wp2_with (first
          | (go_at_call 25; refine (small_any k l z A n c _ hc1 hc2).mono ?_; rintro e w1 ⟨rfl, hB⟩; have b1 := blk_below (blk11 w (.cells #[.int .u8 k, .int .i64 l, .int .i64 z, .slice A n c] 45)) hB (by simp); have c0 := blk_cell b1 0; have c1 := blk_cell b1 1; have c2 := blk_cell b1 2; have c3 := blk_cell b1 3; have f0 := blk_free b1 0; have f1 := blk_free b1 1; have f2 := blk_free b1 2; have f3 := blk_free b1 3; simp only [List.getElem?_toArray, List.getElem?_cons_zero, List.getElem?_cons_succ] at c0 c1 c2 c3; have HST := Lib.hid (stored4c b1 (below_then (below_al _ _) hB) (.int .u8 k) (.int .i64 l) (.int .i64 z) (.slice A (min n 12) c)); have s0 := blk_cell HST.out.1 0; have s1 := blk_cell HST.out.1 1; have s2 := blk_cell HST.out.1 2; have s3 := blk_cell HST.out.1 3; simp only [List.getElem?_toArray, List.getElem?_cons_zero, List.getElem?_cons_succ] at s0 s1 s2 s3; clear hB b1)
          | (go_at_call 26; (with_reducible refine (Inode_ok k l z A (min n 12) c (xs.take 12) _ (HSA.out.below HST.out.2) HSL.out HOK.out).mono ?_); rintro e w5 ⟨⟨A6, rfl, hr6⟩, hB⟩; rw [HL.out] at hr6; have HR6 := Lib.hid hr6; have s0 := keep_cell s0 hB; have s1 := keep_cell s1 hB; have s2 := keep_cell s2 hB; have s3 := keep_cell s3 hB; have HB5 := Lib.hid (below_then HST.out.2 hB); clear hB hr6)
          | (at_builtin; refine wpList_spread rfl _ _ 22 5 rfl w5.heap.size (.int .u8 0) 1 Tryd.underlying22 (by kernel_rfl) rfl _ 0 [] _ _ _ (iv .u8 L) rfl rfl (iv_oneCell _ _) (own_empty _ _ _ (Nat.le_refl _)) (HR6.out.alloc _) (by rw [iv_length]; exact HLN.out) (by simp) (by omega) (by omega) ?_; intro v1 w6 ho hg; simp only [Nat.zero_add, List.nil_append] at ho; obtain ⟨g, cap, rfl, hg1, hg2⟩ := ho.form (by omega); have x0 := ho.cellAt i (by omega); have x1 := ho.frozenAt i; rw [HGI.out] at x0; have HO6 := Lib.hid ho; have HB6 := Lib.hid (below_grown (B := w5.heap.size) (below_al w5 (.cells #[] 5)) hg (by simp) (fun q h => by have h1 : w5.heap.size = q := Option.some.inj h; omega)); clear ho hg)
          | (go_at_call 30; have HST6 := HO6.out.stored i (.int .u8 v); refine (ReadInode_any (some ⟨g, 0, none⟩) 16 cap (L.set i v) _ (by rw [← HSET.out]; exact own_rd HST6.1) HCL.out HCB.out).mono ?_; rintro e w8 ⟨⟨A8, c8, rfl, hr8⟩, hB⟩; rw [HE.out]; have HB8 := Lib.hid (below_then (HB6.out.setCell (p := ⟨g, i, none⟩) hg1 (.int .u8 v)) hB); have r0 := keep_cell s0 HB8.out; have r1 := keep_cell s1 HB8.out; have r2 := keep_cell s2 HB8.out; have r3 := keep_cell s3 HB8.out; have HR8 := Lib.hid hr8; clear hr8 hB HST6 x0 x1)
          | (go_at_call 16; refine (live_any _).mono ?_; rintro e w9 ⟨rfl, hB⟩; have m0 := keep_cell (new_cell w8 #[.int .u8 (rK (L.set i v)), .int .i64 (rL (L.set i v)), .int .i64 (rZ (L.set i v)), .slice A8 (rB (L.set i v)).length c8] 45 0 _ rfl) hB; have m1 := keep_cell (new_cell w8 #[.int .u8 (rK (L.set i v)), .int .i64 (rL (L.set i v)), .int .i64 (rZ (L.set i v)), .slice A8 (rB (L.set i v)).length c8] 45 1 _ rfl) hB; have m2 := keep_cell (new_cell w8 #[.int .u8 (rK (L.set i v)), .int .i64 (rL (L.set i v)), .int .i64 (rZ (L.set i v)), .slice A8 (rB (L.set i v)).length c8] 45 2 _ rfl) hB; have m3 := keep_cell (new_cell w8 #[.int .u8 (rK (L.set i v)), .int .i64 (rL (L.set i v)), .int .i64 (rZ (L.set i v)), .slice A8 (rB (L.set i v)).length c8] 45 3 _ rfl) hB; have q0 := keep_cell r0 (below_then (below_al w8 _) hB); have q1 := keep_cell r1 (below_then (below_al w8 _) hB); have q2 := keep_cell r2 (below_then (below_al w8 _) hB); have q3 := keep_cell r3 (below_then (below_al w8 _) hB); have HR9 := Lib.hid (HR8.out.below (below_then (below_al w8 _) hB)); have HB9 := Lib.hid (below_then HB5.out (below_then HB8.out (below_then (below_al w8 _) hB))); clear hB)
          | (go_at_call 27; refine (Same_any _ _ _ A8 _ c8 (rB (L.set i v)) k l z A _ c (xs.take 12) _ HR9.out rfl (HSA.out.below HB9.out) HSL.out).mono ?_; rw [HNS.out]; rintro e w10 ⟨rfl, hB⟩; have HB10 := Lib.hid (below_then HB9.out hB); clear hB))
        go_ret
        exact ⟨rfl, HB10.out⟩
      · have hE : rE (L.set i v) = 3 := (r_no (Bool.eq_false_iff.2 hr)).2.2.2.2
        have HE := Lib.hid hE
        clear hr hE
        go_enter Tryd.func10, Tryd.ntmps10
        go_wp2_with (first
          | (go_at_call 25; refine (small_any k l z A n c _ hc1 hc2).mono ?_; rintro e w1 ⟨rfl, hB⟩; have b1 := blk_below (blk11 w (.cells #[.int .u8 k, .int .i64 l, .int .i64 z, .slice A n c] 45)) hB (by simp); have c0 := blk_cell b1 0; have c1 := blk_cell b1 1; have c2 := blk_cell b1 2; have c3 := blk_cell b1 3; have f0 := blk_free b1 0; have f1 := blk_free b1 1; have f2 := blk_free b1 2; have f3 := blk_free b1 3; simp only [List.getElem?_toArray, List.getElem?_cons_zero, List.getElem?_cons_succ] at c0 c1 c2 c3; have HST := Lib.hid (stored4c b1 (below_then (below_al _ _) hB) (.int .u8 k) (.int .i64 l) (.int .i64 z) (.slice A (min n 12) c)); have s0 := blk_cell HST.out.1 0; have s1 := blk_cell HST.out.1 1; have s2 := blk_cell HST.out.1 2; have s3 := blk_cell HST.out.1 3; simp only [List.getElem?_toArray, List.getElem?_cons_zero, List.getElem?_cons_succ] at s0 s1 s2 s3; clear hB b1)
          | (go_at_call 26; (with_reducible refine (Inode_ok k l z A (min n 12) c (xs.take 12) _ (HSA.out.below HST.out.2) HSL.out HOK.out).mono ?_); rintro e w5 ⟨⟨A6, rfl, hr6⟩, hB⟩; rw [HL.out] at hr6; have HR6 := Lib.hid hr6; have s0 := keep_cell s0 hB; have s1 := keep_cell s1 hB; have s2 := keep_cell s2 hB; have s3 := keep_cell s3 hB; have HB5 := Lib.hid (below_then HST.out.2 hB); clear hB hr6)
          | (at_builtin; refine wpList_spread rfl _ _ 22 5 rfl w5.heap.size (.int .u8 0) 1 Tryd.underlying22 (by kernel_rfl) rfl _ 0 [] _ _ _ (iv .u8 L) rfl rfl (iv_oneCell _ _) (own_empty _ _ _ (Nat.le_refl _)) (HR6.out.alloc _) (by rw [iv_length]; exact HLN.out) (by simp) (by omega) (by omega) ?_; intro v1 w6 ho hg; simp only [Nat.zero_add, List.nil_append] at ho; obtain ⟨g, cap, rfl, hg1, hg2⟩ := ho.form (by omega); have x0 := ho.cellAt i (by omega); have x1 := ho.frozenAt i; rw [HGI.out] at x0; have HO6 := Lib.hid ho; have HB6 := Lib.hid (below_grown (B := w5.heap.size) (below_al w5 (.cells #[] 5)) hg (by simp) (fun q h => by have h1 : w5.heap.size = q := Option.some.inj h; omega)); clear ho hg)
          | (go_at_call 30; have HST6 := HO6.out.stored i (.int .u8 v); refine (ReadInode_any (some ⟨g, 0, none⟩) 16 cap (L.set i v) _ (by rw [← HSET.out]; exact own_rd HST6.1) HCL.out HCB.out).mono ?_; rintro e w8 ⟨⟨A8, c8, rfl, hr8⟩, hB⟩; rw [HE.out]; have HB8 := Lib.hid (below_then (HB6.out.setCell (p := ⟨g, i, none⟩) hg1 (.int .u8 v)) hB); have r0 := keep_cell s0 HB8.out; have r1 := keep_cell s1 HB8.out; have r2 := keep_cell s2 HB8.out; have r3 := keep_cell s3 HB8.out; have HR8 := Lib.hid hr8; clear hr8 hB HST6 x0 x1)
          | (go_at_call 16; refine (live_any _).mono ?_; rintro e w9 ⟨rfl, hB⟩; have m0 := keep_cell (new_cell w8 #[.int .u8 (rK (L.set i v)), .int .i64 (rL (L.set i v)), .int .i64 (rZ (L.set i v)), .slice A8 (rB (L.set i v)).length c8] 45 0 _ rfl) hB; have m1 := keep_cell (new_cell w8 #[.int .u8 (rK (L.set i v)), .int .i64 (rL (L.set i v)), .int .i64 (rZ (L.set i v)), .slice A8 (rB (L.set i v)).length c8] 45 1 _ rfl) hB; have m2 := keep_cell (new_cell w8 #[.int .u8 (rK (L.set i v)), .int .i64 (rL (L.set i v)), .int .i64 (rZ (L.set i v)), .slice A8 (rB (L.set i v)).length c8] 45 2 _ rfl) hB; have m3 := keep_cell (new_cell w8 #[.int .u8 (rK (L.set i v)), .int .i64 (rL (L.set i v)), .int .i64 (rZ (L.set i v)), .slice A8 (rB (L.set i v)).length c8] 45 3 _ rfl) hB; have q0 := keep_cell r0 (below_then (below_al w8 _) hB); have q1 := keep_cell r1 (below_then (below_al w8 _) hB); have q2 := keep_cell r2 (below_then (below_al w8 _) hB); have q3 := keep_cell r3 (below_then (below_al w8 _) hB); have HR9 := Lib.hid (HR8.out.below (below_then (below_al w8 _) hB)); have HB9 := Lib.hid (below_then HB5.out (below_then HB8.out (below_then (below_al w8 _) hB))); clear hB))
        go_ret
        exact ⟨rfl, HB9.out⟩
  · have HOK := Lib.hid (Bool.eq_false_iff.2 hok)
    clear hok
    go_enter Tryd.func10, Tryd.ntmps10
    go_wp2_with (first
        | (go_at_call 25; refine (small_any k l z A n c _ hc1 hc2).mono ?_; rintro e w1 ⟨rfl, hB⟩; have b1 := blk_below (blk11 w (.cells #[.int .u8 k, .int .i64 l, .int .i64 z, .slice A n c] 45)) hB (by simp); have c0 := blk_cell b1 0; have c1 := blk_cell b1 1; have c2 := blk_cell b1 2; have c3 := blk_cell b1 3; have f0 := blk_free b1 0; have f1 := blk_free b1 1; have f2 := blk_free b1 2; have f3 := blk_free b1 3; simp only [List.getElem?_toArray, List.getElem?_cons_zero, List.getElem?_cons_succ] at c0 c1 c2 c3; have HST := Lib.hid (stored4c b1 (below_then (below_al _ _) hB) (.int .u8 k) (.int .i64 l) (.int .i64 z) (.slice A (min n 12) c)); clear hB b1)
        | (go_at_call 26; (with_reducible refine (Inode_no k l z A (min n 12) c (xs.take 12) _ (HSA.out.below HST.out.2) HSL.out k0 k1 l0 l1 z0 z1 HOK.out).mono ?_); rintro e w5 ⟨rfl, hB⟩; have HB5 := Lib.hid (below_then HST.out.2 hB); clear hB)
        | (go_at_call 16; refine (live_any _).mono ?_; rintro e w9 ⟨rfl, hB⟩; have HB9 := Lib.hid (below_then HB5.out hB); clear hB))
    go_ret
    exact ⟨rfl, HB9.out⟩
end Go.Proofs.YtkmonkemkhigfaaDoor
