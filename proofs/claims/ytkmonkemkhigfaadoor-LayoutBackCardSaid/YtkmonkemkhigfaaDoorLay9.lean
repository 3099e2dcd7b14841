/- Walks of layout: which inodes are right. -/
import Derived.Test.YtkmonkemkhigfaaDoorLay8
import Derived.Test.YtkmonkemkhigfaaDoorLayI
set_option linter.unusedSimpArgs false
set_option linter.unusedVariables false
namespace Go.Proofs.YtkmonkemkhigfaaDoor
open Go.RowKit Go.Sel Go.Sel.Lay

/-- An inode's value. -/
def inoV (k l z : Int) (A : Option Addr) (n c : Nat) : Value := .agg #[.int .u8 k, .int .i64 l, .int .i64 z, .slice A n c]

set_option maxHeartbeats 400000 in
theorem small_any (k l z : Int) (A : Option Addr) (n c : Nat) (w : World) (hc : n ≤ c) (hm : c ≤ 9223372036854775807) :
    Calls Tryd.prog 25 #[.agg #[.int .u8 k, .int .i64 l, .int .i64 z, .slice A n c]] w fun e w' => e = .returned (.agg #[.int .u8 k, .int .i64 l, .int .i64 z, .slice A (min n 12) c]) ∧ Below w.heap.size w w' := by
  by_cases h : n ≤ 12
  · rw [Nat.min_eq_left h]
    go_enter Tryd.func25, Tryd.ntmps25
    go_wp2
    refine bodyPost_ret (v := .agg #[.int .u8 k, .int .i64 l, .int .i64 z, .slice A n c]) (by simp [results, Tryd.results25, go_sem]) rfl ?_
    exact ⟨rfl, ((Below.refl _ _).alloc (Nat.le_refl _) _).alloc (by simp) _⟩
  · rw [Nat.min_eq_right (by omega)]
    go_enter Tryd.func25, Tryd.ntmps25
    go_wp2
    refine bodyPost_ret (v := .agg #[.int .u8 k, .int .i64 l, .int .i64 z, .slice A 12 c]) (by simp [results, Tryd.results25, go_sem]) rfl ?_
    exact ⟨rfl, ((Below.refl _ _).alloc (Nat.le_refl _) _).alloc (by simp) _⟩

set_option maxHeartbeats 1000000 in
theorem Right_any (k l z : Int) (A : Option Addr) (n c : Nat) (xs : List Int) (w : World) (ha : Rd w A n c (iv .i64 xs)) (hn : xs.length = n)
    (k0 : 0 ≤ k) (k1 : k ≤ 255) (l0 : -9223372036854775808 ≤ l) (l1 : l ≤ 9223372036854775807) (z0 : -9223372036854775808 ≤ z) (z1 : z ≤ 9223372036854775807) :
    Calls Tryd.prog 32 #[.agg #[.int .u8 k, .int .i64 l, .int .i64 z, .slice A n c]] w fun e w' => e = .returned (.bool (inoOk k l z xs)) ∧ Below w.heap.size w w' := by
  have hc1 := ha.le
  have hc2 := ha.cap
  by_cases h8 : n ≤ 8
  · have hmm := @run_makeMap Tryd.prog
    go_enter Tryd.func32, Tryd.ntmps32
    go_wp2
    go_loopw [15] (fun v wr => ∃ j : Nat, j ≤ n ∧ v = .int .i64 j ∧ Hid (wr.heap[w.heap.size]? = some (.cells #[.int .u8 k, .int .i64 l, .int .i64 z, .slice A n c] 45 (0, 0))) ∧
      Hid (IMap wr (w.heap.size + 1) (seenL (xs.take j))) ∧ Hid (Below w.heap.size w wr) ∧ Hid (goodTo xs j)) (fun v _ => n - (intOf v).toNat)
    case atStart => exact ⟨0, by omega, rfl, blk21 _ _ _, (by show IMap _ _ (seenL []); have := IMap.new (w.alloc (.cells #[.int .u8 k, .int .i64 l, .int .i64 z, .slice A n c] 45)) (t := 62) (kt := 3) (e := 4); simpa [seenL] using this), ((Below.refl _ _).alloc (Nat.le_refl _) _).alloc (by simp) _, goodTo_zero xs⟩
    case round =>
      obtain ⟨j, hj, rfl, HB1, HM, HB, HG⟩ := hrel
      by_cases hlt : j < n
      · have HR := Lib.hid (ha.below HB.out)
        have hjx : j < xs.length := by omega
        have hjv : j < (iv .i64 xs).length := by simpa using hjx
        obtain ⟨b, off, rfl, hbw, hcell⟩ := HR.out.form (by omega)
        have c0 : wr.cell? ⟨b, off + j, none⟩ = some (.int .i64 (xs[j]'hjx)) := by rw [hcell j hjv, iv_at]
        have hlk : (Instr.lookup 62 (.map (some (w.heap.size + 1))) (.int .i64 (xs[j]'hjx)) false).run Tryd.prog wr = .ok (.bool ((xs.take j).contains (xs[j]'hjx))) wr := by
          rw [HM.out.lookup Tryd.underlying62 Tryd.underlying3 (z := .bool false) (by kernel_rfl) _, look_seen]
        have HC := Lib.hid hcell
        clear hcell
        by_cases hs : (xs.take j).contains (xs[j]'hjx) = true
        · have HK := Lib.hid (inoOk_no (k := k) (l := l) (z := z) (blksOk_seen hjx hs))
          rw [hs] at hlk
          clear hs ha
          go_wp2
          all_goals go_ret
          all_goals exact ⟨ret_bool HK.out.symm, HB.out⟩
        · have hs' := Bool.eq_false_iff.2 hs
          rw [hs'] at hlk
          have HS := Lib.hid hs'
          clear hs hs' ha
          by_cases hok : 11 ≤ xs[j]'hjx ∧ xs[j]'hjx < 96
          · obtain ⟨o1, o2⟩ := hok
            have HN : Hid (goodTo xs (j + 1)) := goodTo_succ HG.out hjx (by simp [blkI, o1, o2]) HS.out
            have HP : Hid (put (seenL (xs.take j)) (xs[j]'hjx) (.bool true) = seenL (xs.take (j + 1))) := by
              show _ = _; rw [put_seen _ _ HS.out, List.take_succ_eq_append_getElem hjx]
            obtain ⟨w1, hrun, hm1, hb1⟩ := HM.out.store Tryd.underlying62 Tryd.underlying3 (xs[j]'hjx) (.bool true)
            rw [HP.out] at hm1
            have HM1 := Lib.hid hm1
            have HBB := Lib.hid hb1
            clear hm1 hb1 HP
            generalize hx : xs[j]'hjx = x at *
            go_wp2
            refine ⟨⟨j + 1, by omega, by go_num, (HBB.out.far _ (by omega)).trans HB1.out, HM1.out, HBB.out.below HB.out (by omega), HN.out⟩, by simp [intOf]; omega⟩
          · have HK := Lib.hid (inoOk_no (k := k) (l := l) (z := z) (blksOk_bad hjx (by simp [blkI]; omega)))
            go_wp2
            all_goals go_ret
            all_goals exact ⟨ret_bool HK.out.symm, HB.out⟩
      · obtain rfl : j = n := by omega
        have HK := Lib.hid (inoOk_yes (k := k) (l := l) (z := z) (goodTo_end HG.out (by omega) (by omega)))
        have c0 := blk_cell HB1.out 0
        have c1 := blk_cell HB1.out 1
        have c2 := blk_cell HB1.out 2
        have c3 := blk_cell HB1.out 3
        simp only [List.getElem?_toArray, List.getElem?_cons_zero, List.getElem?_cons_succ] at c0 c1 c2 c3
        clear ha HB1 HM HG
        have ht : z < 0 ∨ z.tdiv 32 = z / 32 := (Int.lt_or_le z 0).imp id Int.tdiv_eq_ediv_of_nonneg
        have hm : z < 0 ∨ z.tmod 32 = z % 32 := (Int.lt_or_le z 0).imp id Int.tmod_eq_emod_of_nonneg
        go_wp2
        all_goals
          go_ret
          refine ⟨ret_bool ?_, HB.out⟩
          rw [HK.out, Bool.eq_iff_iff]
          simp only [Lay.kindOk, Bool.or_eq_true, Bool.and_eq_true, decide_eq_true_eq, beq_iff_eq, Bool.false_eq_true, false_iff, true_iff, wrap64]
          simp only [beq_iff_eq, bne_iff_ne, beq_eq_false_iff_ne, bne_eq_false_iff_eq, ne_eq] at *
          omega
  · have hb : blksOk xs = false := blksOk_long (by omega)
    have HB := Lib.hid (inoOk_no (k := k) (l := l) (z := z) hb)
    clear hb ha
    go_enter Tryd.func32, Tryd.ntmps32
    go_wp2
    go_ret
    exact ⟨ret_bool HB.out.symm, (Below.refl _ _).alloc (Nat.le_refl _) _⟩

set_option maxHeartbeats 1000000 in
theorem rRight_any (k l z : Int) (A : Option Addr) (n c : Nat) (xs : List Int) (w : World) (ha : Rd w A n c (iv .i64 xs)) (hn : xs.length = n)
    (k0 : 0 ≤ k) (k1 : k ≤ 255) (l0 : -9223372036854775808 ≤ l) (l1 : l ≤ 9223372036854775807) (z0 : -9223372036854775808 ≤ z) (z1 : z ≤ 9223372036854775807) :
    Calls Tryd.prog 33 #[.agg #[.int .u8 k, .int .i64 l, .int .i64 z, .slice A n c]] w fun e w' => e = .returned (.bool (inoOk k l z xs)) ∧ Below w.heap.size w w' := by
  have hc1 := ha.le
  have hc2 := ha.cap
  go_enter Tryd.func33, Tryd.ntmps33
  go_wp2
  have HA := Lib.hid (ha.alloc (.cells #[.int .u8 k, .int .i64 l, .int .i64 z, .slice A n c] 45))
  have c0 := new_cell w #[.int .u8 k, .int .i64 l, .int .i64 z, .slice A n c] 45 0 _ rfl
  have c1 := new_cell w #[.int .u8 k, .int .i64 l, .int .i64 z, .slice A n c] 45 1 _ rfl
  have c2 := new_cell w #[.int .u8 k, .int .i64 l, .int .i64 z, .slice A n c] 45 2 _ rfl
  have c3 := new_cell w #[.int .u8 k, .int .i64 l, .int .i64 z, .slice A n c] 45 3 _ rfl
  have HB := Lib.hid (below_al w (.cells #[.int .u8 k, .int .i64 l, .int .i64 z, .slice A n c] 45))
  clear ha
  generalize w.alloc (.cells #[.int .u8 k, .int .i64 l, .int .i64 z, .slice A n c] 45) = w0 at *
  go_loopw [3] (fun v wr => ∃ j : Nat, j ≤ n ∧ j ≤ 8 ∧ v = .int .i64 j ∧ Hid (goodTo xs j) ∧ ∃ q, wr = w0.drewN q) (fun v _ => n - (intOf v).toNat)
  case atStart => exact ⟨0, by omega, by omega, rfl, goodTo_zero xs, 0, rfl⟩
  case round =>
    obtain ⟨j, hj, hj8, rfl, HG, q, rfl⟩ := hrel
    by_cases hlt : j < n
    · have hjx : j < xs.length := by omega
      obtain ⟨b, off, rfl, hbw, hcell⟩ := HA.out.form (by simp; omega)
      have HC := Lib.hid hcell
      have x0 := hcell j (by simpa using hjx)
      rw [iv_at] at x0
      clear hcell
      by_cases hok : j ≤ 7 ∧ 11 ≤ xs[j]'hjx ∧ xs[j]'hjx < 96
      · obtain ⟨o0, o1, o2⟩ := hok
        go_wp2
        go_loopw [4] (fun v wr => ∃ i : Nat, i ≤ j ∧ v = .int .i64 i ∧ Hid (∀ i' (h : i' < xs.length), i' < i → xs[i'] ≠ xs[j]) ∧ ∃ q, wr = w0.drewN q) (fun v _ => j - (intOf v).toNat)
        case atStart => exact ⟨0, by omega, rfl, fun i' _ h => absurd h (by omega), q, rfl⟩
        case round =>
          obtain ⟨i, hi, rfl, HN, q, rfl⟩ := hrel
          by_cases hit : i < j
          · have hix : i < xs.length := by omega
            have y0 := HC.out i (by simpa using hix)
            rw [iv_at] at y0
            by_cases hxy : xs[i] = xs[j]
            · have HK := Lib.hid (inoOk_no (k := k) (l := l) (z := z) (blksOk_twice hjx hit hxy))
              have hne : (xs[i] == xs[j]) = true := by simp [hxy]
              clear hxy
              go_wp2
              go_quiet (fail)
              go_wp2
              go_ret
              exact ⟨ret_bool HK.out.symm, Below.then_drewN (Below.then_drewN HB.out _) _⟩
            · have hne : (xs[i] == xs[j]) = false := by simp [hxy]
              have HX := Lib.hid hxy
              clear hxy
              go_wp2
              go_quiet (fail)
              go_wp2
              refine ⟨⟨i + 1, by omega, by go_num, ?_, ⟨_, rfl⟩⟩, by simp [intOf]; omega⟩
              intro i' h' hlt'
              by_cases he : i' = i
              · subst he; exact HX.out
              · exact HN.out i' h' (by omega)
          · obtain rfl : i = j := by omega
            go_wp2
            refine ⟨⟨i + 1, by omega, by omega, by go_num, ?_, ⟨_, rfl⟩⟩, by simp [intOf]; omega⟩
            refine goodTo_succ HG.out hjx (by simp [blkI, o1, o2]) ?_
            rw [Bool.eq_false_iff]
            intro hcn
            have hmem : xs[i] ∈ xs.take i := by simpa using hcn
            obtain ⟨i', hi', he⟩ := List.getElem_of_mem hmem
            simp only [List.length_take] at hi'
            rw [List.getElem_take] at he
            exact HN.out i' (by omega) (by omega) he
      · have HK := Lib.hid (inoOk_no (k := k) (l := l) (z := z) (show blksOk xs = false by
          by_cases h7 : j ≤ 7
          · exact blksOk_bad hjx (by simp [blkI]; omega)
          · exact blksOk_long (by omega)))
        go_wp2
        all_goals first
          | (exfalso; omega)
          | (go_ret; exact ⟨ret_bool HK.out.symm, Below.then_drewN HB.out _⟩)
    · obtain rfl : j = n := by omega
      have HK := Lib.hid (inoOk_yes (k := k) (l := l) (z := z) (goodTo_end HG.out (by omega) (by omega)))
      have ht : z < 0 ∨ (z + 31).tdiv 32 = (z + 31) / 32 := (Int.lt_or_le z 0).imp id fun h => Int.tdiv_eq_ediv_of_nonneg (by omega)
      clear HG
      go_wp2
      all_goals
        go_ret
        refine ⟨ret_bool ?_, Below.then_drewN HB.out _⟩
        rw [HK.out, Bool.eq_iff_iff]
        simp only [Lay.kindOk, Bool.or_eq_true, Bool.and_eq_true, decide_eq_true_eq, beq_iff_eq, Bool.false_eq_true, false_iff, true_iff, wrap64]
        simp only [beq_iff_eq, bne_iff_ne, beq_eq_false_iff_ne, bne_eq_false_iff_eq, ne_eq] at *
        omega
end Go.Proofs.YtkmonkemkhigfaaDoor
