/- Walks of two laws on layout: names, entries. -/
import Derived.Test.YtkmonkemkhigfaaDoorLay7
import Derived.Deep.RegionHeld3
set_option linter.unusedSimpArgs false
set_option linter.unusedVariables false
namespace Go.Proofs.YtkmonkemkhigfaaDoor
open Go.RowKit Go.Sel Go.Sel.Lay

theorem keep_cell {w w' : World} {a : Addr} {v : Value} (h : w.cell? a = some v) (hB : Below w.heap.size w w') : w'.cell? a = some v := (hB.cell (World.block_lt_of_cell? w a h)).trans h
theorem new_cell (w : World) (cs : Array Value) (e : TypeId) (j : Nat) (v : Value) (h : cs[j]? = some v) : (w.alloc (.cells cs e)).cell? ⟨w.heap.size, j, none⟩ = some v := (blk_cell (blk11 w _) j).trans h
def whB (n : Int) : Int := if n < 0 ∨ 16 ≤ n then 0 else 3 + n / 2
def whO (n : Int) : Int := if n < 0 ∨ 16 ≤ n then 0 else n % 2 * 16
def whE (n : Int) : Int := if n < 0 ∨ 16 ≤ n then 2 else 0
theorem Where_f (n : Int) (w : World) (h0 : -9223372036854775808 ≤ n) (h1 : n ≤ 9223372036854775807) :
    Calls Tryd.prog 22 #[.int .i64 n] w fun e w' => e = .returned (.tuple #[.int .i64 (whB n), .int .i64 (whO n), .int .i64 (whE n)]) ∧ w' = w := Where_any n w h0 h1
theorem rWhere_f (n : Int) (w : World) (h0 : -9223372036854775808 ≤ n) (h1 : n ≤ 9223372036854775807) :
    Calls Tryd.prog 23 #[.int .i64 n] w fun e w' => e = .returned (.tuple #[.int .i64 (whB n), .int .i64 (whO n), .int .i64 (whE n)]) ∧ w' = w := rWhere_any n w h0 h1
theorem nums_append (s t : ByteArray) : nums (s ++ t) = nums s ++ nums t := by simp [nums, ByteArray.data_append]
theorem nameOk_z (l : List Int) (h : nameOk l = true) : nameOk (l ++ [122]) = decide (l.length < 7) := by
  simp only [nameOk, Bool.and_eq_true, decide_eq_true_eq] at h
  have h1 : (l ++ [122]).all chI = true := by rw [List.all_append, h.1.1]; decide
  unfold nameOk
  rw [h1, Bool.eq_iff_iff]
  simp
  omega
theorem nameOk_long (l : List Int) (h : 7 < l.length) : nameOk l = false := by
  unfold nameOk
  rw [Bool.and_eq_false_iff]
  exact .inr (decide_eq_false (by omega))
theorem entOk_name (l : List Int) (i : Int) (h0 : 1 ≤ i) (h1 : i ≤ 15) : entOk l i = nameOk l := by
  unfold entOk
  rw [decide_eq_false (show ¬ i = 0 by omega), decide_eq_true h0, decide_eq_true h1]
  simp

set_option maxHeartbeats 1000000 in
theorem law_LayoutNames (s : ByteArray) (i : Int) (w : World) (hs : s.size ≤ 9223372036854775807) (i0 : 0 ≤ i) (i1 : i ≤ 255) :
    Calls Tryd.prog 4 #[.string s, .int .u8 i] w fun e w' => e = .returned (.bool true) ∧ Below w.heap.size w w' := by
  by_cases hl : s.size ≤ 20
  · by_cases hn : nameOk (nums s) = true
    · have HOK : Hid (entOk (nums s) (i % 15 + 1) = true) := by show _ = _; rw [entOk_name _ _ (by omega) (by omega)]; exact hn
      have hen := rd_entB HOK.out
      have hre := re_ok hen.2.2
      have HRE : Hid (reName (entB (nums s) (i % 15 + 1)) = s ∧ reIno (entB (nums s) (i % 15 + 1)) = i % 15 + 1 ∧ reErr (entB (nums s) (i % 15 + 1)) = 0) :=
        ⟨by rw [hre.1, hen.1, strOfNums_nums], by rw [hre.2.1, hen.2.1], hre.2.2⟩
      have HZ : Hid (nameOk (nums (s ++ ⟨#[122]⟩)) = decide ((s.size : Int) < 7)) := by
        show _ = _
        rw [nums_append, show nums ⟨#[122]⟩ = [122] by decide, nameOk_z _ hn, nums_length, Bool.eq_iff_iff]
        simp
        omega
      have HBY : Hid (AllByte (entB (nums s) (i % 15 + 1))) := by
        intro x hx
        rw [entB_cons, List.mem_cons, List.mem_append, List.mem_replicate] at hx
        rcases hx with rfl | hx | ⟨_, rfl⟩
        · omega
        · exact nums_byte s x hx
        · omega
      have HL := Lib.hid (entB_length (nums s) (i % 15 + 1) (entOk_le HOK.out))
      have HN := Lib.hid hn
      have hzz : (s ++ ⟨#[122]⟩).size ≤ 9223372036854775807 := by simp [ByteArray.size_append]; show s.size + 1 ≤ _; omega
      clear hn hen hre
      go_enter Tryd.func4, Tryd.ntmps4
      go_wp2_with (first
        | (go_at_call 17; refine (Entry_yes s (i % 15 + 1) _ HOK.out).mono ?_; rintro e w1 ⟨⟨A1, rfl, hr1⟩, hB⟩; have HR1 := Lib.hid hr1; have HB1 := Lib.hid hB; clear hr1 hB)
        | (go_at_call 19; refine (ReadEntry_any _ _ _ _ _ (HR1.out.below HB2.out) HL.out HBY.out).mono ?_; rw [HRE.out.1, HRE.out.2.1, HRE.out.2.2]; rintro e w3 ⟨rfl, hB⟩; have HB3 := Lib.hid hB; clear hB)
        | (go_at_call 16; refine (live_any _).mono ?_; rintro e w4 ⟨rfl, hB⟩; have c0 := (hB.cell (p := ⟨w3.heap.size, 0, none⟩) (by simp)).trans (blk_cell (blk11 _ _) 0); have c1 := (hB.cell (p := ⟨w3.heap.size, 1, none⟩) (by simp)).trans (blk_cell (blk11 _ _) 1); simp only [List.getElem?_toArray, List.getElem?_cons_zero, List.getElem?_cons_succ] at c0 c1; have HB4 := Lib.hid hB; clear hB)
        | (go_at_call 18; (with_reducible refine (Name_any (s ++ ⟨#[122]⟩) _ hzz).mono ?_); rw [HZ.out]; rintro e w5 ⟨rfl, hB⟩; have HB5 := Lib.hid hB; clear hB)
        | (go_at_call 18; (with_reducible refine (Name_any s _ hs).mono ?_); rw [HN.out]; rintro e w2 ⟨rfl, hB⟩; have HB2 := Lib.hid hB; clear hB))
      go_ret
      exact ⟨ret_bool (by simp), below_then (below_then (below_then (below_then (below_then HB1.out HB2.out) HB3.out) (below_al _ _)) HB4.out) HB5.out⟩
    · have hn' := Bool.eq_false_iff.2 hn
      have HOK : Hid (entOk (nums s) (i % 15 + 1) = false) := by show _ = _; rw [entOk_name _ _ (by omega) (by omega)]; exact hn'
      have HN := Lib.hid hn'
      clear hn hn'
      go_enter Tryd.func4, Tryd.ntmps4
      go_wp2_with (first
        | (go_at_call 17; refine (Entry_no s (i % 15 + 1) _ HOK.out hs (by omega) (by omega)).mono ?_; rintro e w1 ⟨rfl, hB⟩; have HB1 := Lib.hid hB; clear hB)
        | (go_at_call 16; refine (live_any _).mono ?_; rintro e w4 ⟨rfl, hB⟩; have HB4 := Lib.hid hB; clear hB)
        | (go_at_call 18; (with_reducible refine (Name_any s _ hs).mono ?_); rw [HN.out]; rintro e w2 ⟨rfl, hB⟩; have HB2 := Lib.hid hB; clear hB))
      go_ret
      exact ⟨rfl, below_then (below_then HB1.out HB2.out) HB4.out⟩
  · have he : (s.extract 0 20).size = 20 := by rw [ByteArray.size_extract]; omega
    have hn' : nameOk (nums (s.extract 0 20)) = false := nameOk_long _ (by rw [nums_length, he]; omega)
    have HOK : Hid (entOk (nums (s.extract 0 20)) (i % 15 + 1) = false) := by show _ = _; rw [entOk_name _ _ (by omega) (by omega)]; exact hn'
    have HN := Lib.hid hn'
    have HE := Lib.hid he
    clear hn' he
    go_enter Tryd.func4, Tryd.ntmps4
    go_wp2_with (first
        | (go_at_call 17; refine (Entry_no (s.extract 0 20) (i % 15 + 1) _ HOK.out (by rw [HE.out]; omega) (by omega) (by omega)).mono ?_; rintro e w1 ⟨rfl, hB⟩; have HB1 := Lib.hid hB; clear hB)
        | (go_at_call 16; refine (live_any _).mono ?_; rintro e w4 ⟨rfl, hB⟩; have HB4 := Lib.hid hB; clear hB)
        | (go_at_call 18; (with_reducible refine (Name_any (s.extract 0 20) _ (by rw [HE.out]; omega)).mono ?_); rw [HN.out]; rintro e w2 ⟨rfl, hB⟩; have HB2 := Lib.hid hB; clear hB))
    go_ret
    exact ⟨rfl, below_then (below_then HB1.out HB2.out) HB4.out⟩

set_option maxHeartbeats 1000000 in
theorem law_LayoutEntries (s : ByteArray) (i : Int) (A : Option Addr) (m c : Nat) (xs : List Int) (ino : Int) (w : World) (hs : s.size ≤ 9223372036854775807) (i0 : -9223372036854775808 ≤ i) (i1 : i ≤ 9223372036854775807)
    (ha : Rd w A m c (iv .u8 xs)) (hn : xs.length = m) (hx : AllByte xs) (n0 : -9223372036854775808 ≤ ino) (n1 : ino ≤ 9223372036854775807) :
    Calls Tryd.prog 5 #[.agg #[.string s, .int .i64 i], .slice A m c, .int .i64 ino] w fun e w' => e = .returned (.bool true) ∧ Below w.heap.size w w' := by
  have hxt : AllByte (xs.take 40) := fun x h => hx x (List.mem_of_mem_take h)
  have hlt : (xs.take 40).length = min m 40 := by rw [List.length_take, hn, Nat.min_comm]
  have htake : Rd w A (min m 40) c (iv .u8 (xs.take 40)) := by
    by_cases h : m ≤ 40
    · rw [Nat.min_eq_left h, List.take_of_length_le (by omega)]; exact ha
    · rw [Nat.min_eq_right (by omega)]
      have := Rd.upto ha 40 (by omega)
      rwa [iv, ← List.map_take] at this
  have HA := Lib.hid htake
  have HX := Lib.hid hxt
  have HN := Lib.hid hlt
  have hc1 := ha.le
  have hc2 := ha.cap
  clear ha hn hx htake hxt hlt
  by_cases hok : entOk (nums s) i = true
  · have HOK := Lib.hid hok
    clear hok
    go_enter Tryd.func5, Tryd.ntmps5
    go_wp2_with (first
      | (go_at_call 17; refine (Entry_yes s i _ HOK.out).mono ?_; rintro e w1 ⟨⟨A1, rfl, hr1⟩, hB⟩; have c0 := (hB.cell (p := ⟨w.heap.size, 0, none⟩) (by simp)).trans (blk_cell (blk11 _ _) 0); have c1 := (hB.cell (p := ⟨w.heap.size, 1, none⟩) (by simp)).trans (blk_cell (blk11 _ _) 1); simp only [List.getElem?_toArray, List.getElem?_cons_zero, List.getElem?_cons_succ] at c0 c1; have HR1 := Lib.hid hr1; have HB1 := Lib.hid (below_then (below_al _ _) hB); clear hr1 hB)
      | (go_at_call 20; refine (rEntry_yes s i _ HOK.out).mono ?_; rintro e w2 ⟨⟨A2, rfl, hr2⟩, hB⟩; have HR2 := Lib.hid hr2; have HB2 := Lib.hid hB; clear hr2 hB)
      | (go_at_call 14; refine (few_any _ _ _ _ hc1 hc2).mono ?_; rintro e w3 ⟨rfl, rfl⟩)
      | (go_at_call 19; refine (ReadEntry_any _ _ _ _ _ (HA.out.below (below_then HB1.out HB2.out)) HN.out HX.out).mono ?_; rintro e w4 ⟨rfl, hB⟩; have HB3 := Lib.hid hB; clear hB)
      | (go_at_call 21; refine (rReadEntry_any _ _ _ _ _ (HA.out.below (below_then (below_then (below_then HB1.out HB2.out) HB3.out) (below_al _ _))) HN.out HX.out).mono ?_; rintro e w5 ⟨rfl, hB⟩; have HB4 := Lib.hid hB; clear hB)
      | (go_at_call 22; refine (Where_f _ _ n0 n1).mono ?_; rintro e w6 ⟨rfl, rfl⟩)
      | (go_at_call 23; refine (rWhere_f _ _ n0 n1).mono ?_; rintro e w7 ⟨rfl, rfl⟩))
    generalize reName (xs.take 40) = rn at *
    generalize reIno (xs.take 40) = ri at *
    have B6 := below_then (below_then (below_then (below_then HB2.out HB3.out) (below_al w4 _)) HB4.out) (below_al w5 (.cells #[.string rn, .int .i64 ri] 33))
    have B4 := below_then HB4.out (below_al w5 (.cells #[.string rn, .int .i64 ri] 33))
    have c0' := keep_cell c0 B6
    have x0 := keep_cell (new_cell w4 #[.string rn, .int .i64 ri] 33 0 _ rfl) B4
    have x1 := keep_cell (new_cell w4 #[.string rn, .int .i64 ri] 33 1 _ rfl) B4
    have y0 := new_cell w5 #[.string rn, .int .i64 ri] 33 0 _ rfl
    have y1 := new_cell w5 #[.string rn, .int .i64 ri] 33 1 _ rfl
    have r1 := HR1.out.below B6
    have r2 := HR2.out.below (below_then (below_then (below_then HB3.out (below_al w4 _)) HB4.out) (below_al w5 (.cells #[.string rn, .int .i64 ri] 33)))
    have HB6 := Lib.hid (below_then HB1.out B6)
    clear c0 c1 B6 B4 HB1 HB2 HB3 HB4 HR1 HR2
    generalize w4.heap.size = b4 at *
    generalize w5.heap.size = b5 at *
    generalize w5.alloc (.cells #[.string rn, .int .i64 ri] 33) = w6 at *
    have he := entB_length (nums s) i (entOk_le HOK.out)
    have HR1 := Lib.hid r1
    have HR2 := Lib.hid r2
    have HE := Lib.hid he
    clear r1 r2 he
    go_region_held3 (fun w' => w'.cell? ⟨w.heap.size, 0, none⟩ = some (.string s) ∧ w'.cell? ⟨b4, 0, none⟩ = some (.string rn) ∧ w'.cell? ⟨b4, 1, none⟩ = some (.int .i64 ri) ∧ w'.cell? ⟨b5, 0, none⟩ = some (.string rn) ∧ w'.cell? ⟨b5, 1, none⟩ = some (.int .i64 ri) ∧
        Rd w' A1 8 8 (iv .u8 (entB (nums s) i)) ∧ Rd w' A2 8 8 (iv .u8 (entB (nums s) i)) ∧ (convert 22 9 (.slice A1 8 8)).run Tryd.prog w' = .ok (.string (strOfNums (entB (nums s) i))) w' ∧ (convert 22 9 (.slice A2 8 8)).run Tryd.prog w' = .ok (.string (strOfNums (entB (nums s) i))) w' ∧ Hid (Below w.heap.size w w'))
      (first
        | exact ⟨c0', x0, x1, y0, y1, rd_drewN 1 HR1.out, rd_drewN 1 HR2.out, Rd.strD HR1.out HE.out Tryd.underlying22 Tryd.underlying5 Tryd.underlying9, Rd.strD HR2.out HE.out Tryd.underlying22 Tryd.underlying5 Tryd.underlying9, HB6.out.drew⟩
        | (go_split_ands; exact ⟨keep_cell (by assumption) hB, keep_cell (by assumption) hB, keep_cell (by assumption) hB, keep_cell (by assumption) hB, keep_cell (by assumption) hB, Rd.below (by assumption) hB, Rd.below (by assumption) hB, Rd.str (Rd.below (by assumption) hB) HE.out Tryd.underlying22 Tryd.underlying5 Tryd.underlying9, Rd.str (Rd.below (by assumption) hB) HE.out Tryd.underlying22 Tryd.underlying5 Tryd.underlying9, below_then (Hid.out (by assumption)) hB⟩))
      (first
        | (go_at_call 16; refine (live_any _).mono ?_; rintro e w7 ⟨rfl, hB⟩)
        | (go_at_call 18; refine (Name_any s _ hs).mono ?_; rintro e w7 ⟨rfl, hB⟩)
        | (go_at_call 24; refine (rName_any s _ hs).mono ?_; rintro e w7 ⟨rfl, rfl⟩; have hB := Below.refl w7.heap.size w7))
    go_split_ands
    go_wp2
    go_ret
    exact ⟨rfl, Hid.out (by assumption)⟩
  · have HOK := Lib.hid (Bool.eq_false_iff.2 hok)
    have hcv := conv_nil
    clear hok
    go_enter Tryd.func5, Tryd.ntmps5
    go_wp2_with (first
      | (go_at_call 17; refine (Entry_no s i _ HOK.out hs i0 i1).mono ?_; rintro e w1 ⟨rfl, hB⟩; have c0 := (hB.cell (p := ⟨w.heap.size, 0, none⟩) (by simp)).trans (blk_cell (blk11 _ _) 0); have c1 := (hB.cell (p := ⟨w.heap.size, 1, none⟩) (by simp)).trans (blk_cell (blk11 _ _) 1); simp only [List.getElem?_toArray, List.getElem?_cons_zero, List.getElem?_cons_succ] at c0 c1; have HB1 := Lib.hid (below_then (below_al _ _) hB); clear hB)
      | (go_at_call 20; refine (rEntry_no s i _ HOK.out hs i0 i1).mono ?_; rintro e w2 ⟨rfl, hB⟩; have HB2 := Lib.hid hB; clear hB)
      | (go_at_call 14; refine (few_any _ _ _ _ hc1 hc2).mono ?_; rintro e w3 ⟨rfl, rfl⟩)
      | (go_at_call 19; refine (ReadEntry_any _ _ _ _ _ (HA.out.below (below_then HB1.out HB2.out)) HN.out HX.out).mono ?_; rintro e w4 ⟨rfl, hB⟩; have HB3 := Lib.hid hB; clear hB)
      | (go_at_call 21; refine (rReadEntry_any _ _ _ _ _ (HA.out.below (below_then (below_then (below_then HB1.out HB2.out) HB3.out) (below_al _ _))) HN.out HX.out).mono ?_; rintro e w5 ⟨rfl, hB⟩; have HB4 := Lib.hid hB; clear hB)
      | (go_at_call 22; refine (Where_f _ _ n0 n1).mono ?_; rintro e w6 ⟨rfl, rfl⟩)
      | (go_at_call 23; refine (rWhere_f _ _ n0 n1).mono ?_; rintro e w7 ⟨rfl, rfl⟩))
    generalize reName (xs.take 40) = rn at *
    generalize reIno (xs.take 40) = ri at *
    have B6 := below_then (below_then (below_then (below_then HB2.out HB3.out) (below_al w4 _)) HB4.out) (below_al w5 (.cells #[.string rn, .int .i64 ri] 33))
    have B4 := below_then HB4.out (below_al w5 (.cells #[.string rn, .int .i64 ri] 33))
    have c0' := keep_cell c0 B6
    have x0 := keep_cell (new_cell w4 #[.string rn, .int .i64 ri] 33 0 _ rfl) B4
    have x1 := keep_cell (new_cell w4 #[.string rn, .int .i64 ri] 33 1 _ rfl) B4
    have y0 := new_cell w5 #[.string rn, .int .i64 ri] 33 0 _ rfl
    have y1 := new_cell w5 #[.string rn, .int .i64 ri] 33 1 _ rfl
    have HB6 := Lib.hid (below_then HB1.out B6)
    clear c0 c1 B6 B4 HB1 HB2 HB3 HB4
    generalize w4.heap.size = b4 at *
    generalize w5.heap.size = b5 at *
    generalize w5.alloc (.cells #[.string rn, .int .i64 ri] 33) = w6 at *
    go_region_held3 (fun w' => w'.cell? ⟨w.heap.size, 0, none⟩ = some (.string s) ∧ w'.cell? ⟨b4, 0, none⟩ = some (.string rn) ∧ w'.cell? ⟨b4, 1, none⟩ = some (.int .i64 ri) ∧ w'.cell? ⟨b5, 0, none⟩ = some (.string rn) ∧ w'.cell? ⟨b5, 1, none⟩ = some (.int .i64 ri) ∧ Hid (Below w.heap.size w w'))
      (first
        | exact ⟨c0', x0, x1, y0, y1, HB6.out.drew⟩
        | (go_split_ands; exact ⟨keep_cell (by assumption) hB, keep_cell (by assumption) hB, keep_cell (by assumption) hB, keep_cell (by assumption) hB, keep_cell (by assumption) hB, below_then (Hid.out (by assumption)) hB⟩))
      (first
        | (go_at_call 16; refine (live_any _).mono ?_; rintro e w7 ⟨rfl, hB⟩)
        | (go_at_call 18; refine (Name_any s _ hs).mono ?_; rintro e w7 ⟨rfl, hB⟩)
        | (go_at_call 24; refine (rName_any s _ hs).mono ?_; rintro e w7 ⟨rfl, rfl⟩; have hB := Below.refl w7.heap.size w7))
    go_split_ands
    go_wp2
    go_ret
    exact ⟨rfl, Hid.out (by assumption)⟩
end Go.Proofs.YtkmonkemkhigfaaDoor
