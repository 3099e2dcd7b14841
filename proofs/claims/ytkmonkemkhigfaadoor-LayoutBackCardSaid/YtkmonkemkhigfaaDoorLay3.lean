/- Walks of layout: entries. -/
import Derived.Test.YtkmonkemkhigfaaDoorProg
import Derived.Test.YtkmonkemkhigfaaDoorLayP
import Derived.Test.YtkmonkemkhigfaaDoorLib1
import Derived.Test.YtkmonkemkhigfaaDoorLay1
import Derived.Lib.BufferWrite
set_option linter.unusedSimpArgs false
set_option linter.unusedVariables false
namespace Go.Proofs.YtkmonkemkhigfaaDoor
open Go.RowKit Go.Sel Go.Sel.Lay

def z8 : Array Value := #[.int .u8 0, .int .u8 0, .int .u8 0, .int .u8 0, .int .u8 0, .int .u8 0, .int .u8 0, .int .u8 0]
theorem mk8 (w : World) : (Instr.makeSlice 22 (.int .i64 8) (.int .i64 8)).run Tryd.prog w = .ok (.slice (some ⟨w.heap.size, 0, none⟩) 8 8) (w.alloc (.cells z8 5)) := by kernel_rfl

theorem entB_cells (s : ByteArray) (hs : s.size ≤ 7) (ino : Int) (l : List Value) (hl : l = .int .u8 ino :: List.replicate 7 (.int .u8 0)) :
    List.take 1 l ++ Lib.byteCells s.data.toList ++ List.drop (1 + s.size) l = iv .u8 (entB (nums s) ino) := by
  subst hl
  have e1 : Lib.byteCells s.data.toList = iv .u8 (nums s) := by simp [Lib.byteCells, iv, nums]
  rw [e1, Nat.add_comm 1, List.drop_succ_cons, List.drop_replicate]
  simp [iv, entB]
theorem rd_list {w : World} {b : Nat} {l : List Value} {e : TypeId} {fr : Nat × Nat} {cs : List Value} (h : w.heap[b]? = some (.cells l.toArray e fr)) (hl : l = cs) (n : Nat) (hn : n ≤ 9223372036854775807) : Rd w (some ⟨b, 0, none⟩) n n cs := by
  subst hl
  exact rd_block h n n l 0 (Nat.le_refl _) hn fun j hj => by simp

set_option maxHeartbeats 400000 in
theorem Entry_ok (s : ByteArray) (ino : Int) (w : World) (h0 : 1 ≤ ino) (h1 : ino ≤ 15) (hn : nameOk (nums s) = true) :
    Calls Tryd.prog 17 #[.agg #[.string s, .int .i64 ino]] w fun e w' => (∃ A, e = .returned (.tuple #[.slice A 8 8, .int .i64 0]) ∧ Rd w' A 8 8 (iv .u8 (entB (nums s) ino))) ∧ Below w.heap.size w w' := by
  have hmk := mk8
  unfold z8 at hmk
  have hs : s.size ≤ 7 := by simp [nameOk] at hn; omega
  have HN := Lib.hid hn
  clear hn
  go_enter Tryd.func17, Tryd.ntmps17
  go_wp2_with (go_at_call 18; refine (Name_any s _ (by omega)).mono ?_; rintro e w1 ⟨rfl, hB⟩; rw [HN.out]; have b1 := blk_below (blk21 _ _ _) hB (by simp <;> omega); have b2 := blk_below (blk22 _ _ _) hB (by simp <;> omega); have c0 := blk_cell b1 0; have c1 := blk_cell b1 1; have d0 := blk_cell b2 0; have f0 := blk_free b2 0; have B1 := Lib.hid b1; have B2 := Lib.hid b2; have HB := Lib.hid hB; clear hB b1 b2; simp only [List.getElem?_toArray, List.getElem?_cons_zero, List.getElem?_cons_succ] at c0 c1 d0)
  have e1 := blk_far (p := ⟨w.heap.size + 1, 0, none⟩) B1.out (by simp) (.int .u8 ino)
  have e2 := blk_set B2.out 0 (.int .u8 ino)
  have HB2 : Hid (Below w.heap.size w (w1.setCell ⟨w.heap.size + 1, 0, none⟩ (.int .u8 ino))) := ((((Below.refl _ _).alloc (Nat.le_refl _) _).alloc (by simp) _).trans (HB.out.mono (by simp <;> omega))).setCell (by simp) _
  clear HB B1 B2 c0 c1 d0 f0
  generalize w1.setCell ⟨w.heap.size + 1, 0, none⟩ (.int .u8 ino) = w2 at *
  have g0 := blk_cell e1 0
  simp only [List.getElem?_toArray, List.getElem?_cons_zero] at g0
  have E1 := Lib.hid e1
  have E2 := Lib.hid e2
  clear e1 e2
  go_still_tail 4, (by kernel_rfl)
  refine wpList_copy_run (w := w2.drew) rfl _ _ _ _ rfl _ _ _ rfl rfl (Lib.run_copy_row_string w2.drew 22 9 _ 5 (w.heap.size + 1) 1 7 7 s _ 5 Tryd.underlying22 (by kernel_rfl) E2.out (by omega) (by simp; omega)) ?_
  go_wp2
  go_ret2
  exact ⟨⟨_, rfl, rd_list (blk_row (w := w2.drew) E2.out) (entB_cells s hs ino _ rfl) 8 (by omega)⟩, below_setRow HB2.out.drew (by omega) _⟩

set_option maxHeartbeats 400000 in
theorem Entry_zero (w : World) :
    Calls Tryd.prog 17 #[.agg #[.string ByteArray.empty, .int .i64 0]] w fun e w' => (∃ A, e = .returned (.tuple #[.slice A 8 8, .int .i64 0]) ∧ Rd w' A 8 8 (iv .u8 (entB [] 0))) ∧ Below w.heap.size w w' := by
  have hmk := mk8
  unfold z8 at hmk
  go_enter Tryd.func17, Tryd.ntmps17
  go_wp2
  go_ret2
  exact ⟨⟨_, rfl, rd_list (l := List.replicate 8 (.int .u8 0)) (blk22 _ _ _) rfl 8 (by omega)⟩, ((Below.refl _ _).alloc (Nat.le_refl _) _).alloc (by simp) _⟩

set_option maxHeartbeats 400000 in
theorem Entry_no (s : ByteArray) (ino : Int) (w : World) (hz : entOk (nums s) ino = false) (hs : s.size ≤ 9223372036854775807) (h0 : -9223372036854775808 ≤ ino) (h1 : ino ≤ 9223372036854775807) :
    Calls Tryd.prog 17 #[.agg #[.string s, .int .i64 ino]] w fun e w' => e = .returned (.tuple #[.slice none 0 0, .int .i64 3]) ∧ Below w.heap.size w w' := by
  have hmk := mk8
  unfold z8 at hmk
  have hz1 : ¬ (s.size = 0 ∧ ino = 0) := by intro h; simp [entOk, h.1, h.2] at hz
  have HZ := Lib.hid hz
  clear hz
  by_cases hr : 1 ≤ ino ∧ ino ≤ 15
  · have hn : nameOk (nums s) = false := by
      have := HZ.out
      simp [entOk, hr.1, hr.2] at this
      exact this.2
    obtain ⟨hr0, hr1⟩ := hr
    have HN := Lib.hid hn
    clear hn hz1
    go_enter Tryd.func17, Tryd.ntmps17
    go_wp2_with (go_at_call 18; refine (Name_any s _ (by omega)).mono ?_; rintro e w1 ⟨rfl, hB⟩; rw [HN.out]; have HB := Lib.hid hB; clear hB)
    go_ret2
    exact ⟨rfl, (((Below.refl _ _).alloc (Nat.le_refl _) _).alloc (by simp) _).trans (HB.out.mono (by simp <;> omega))⟩
  · clear HZ
    go_enter Tryd.func17, Tryd.ntmps17
    go_wp2
    all_goals first
      | (exfalso; simp only [toList_nil] at *; omega)
      | (go_ret2; exact ⟨rfl, ((Below.refl _ _).alloc (Nat.le_refl _) _).alloc (by simp) _⟩)

theorem empty_of_size {s : ByteArray} (h : s.size = 0) : s = ByteArray.empty := by
  cases s with
  | mk d =>
    have : d = #[] := Array.size_eq_zero_iff.1 h
    subst this
    rfl
theorem Entry_yes (s : ByteArray) (ino : Int) (w : World) (h : entOk (nums s) ino = true) :
    Calls Tryd.prog 17 #[.agg #[.string s, .int .i64 ino]] w fun e w' => (∃ A, e = .returned (.tuple #[.slice A 8 8, .int .i64 0]) ∧ Rd w' A 8 8 (iv .u8 (entB (nums s) ino))) ∧ Below w.heap.size w w' := by
  by_cases hz : s.size = 0 ∧ ino = 0
  · obtain ⟨h1, rfl⟩ := hz
    obtain rfl := empty_of_size h1
    exact Entry_zero w
  · simp only [entOk, nums_length, Bool.or_eq_true, Bool.and_eq_true, decide_eq_true_eq] at h
    rcases h with h | h
    · exact absurd h hz
    · exact Entry_ok s ino w h.1.1 h.1.2 h.2

/-- What the loop of the reference's Entry has written. -/
def entPart (s : ByteArray) (ino : Int) (k : Nat) : List Int := [ino] ++ (nums s).take k ++ List.replicate (7 - k) 0
theorem entPart_set (s : ByteArray) (ino : Int) (k : Nat) (hk : k < s.size) (h7 : s.size ≤ 7) : (iv .u8 (entPart s ino k)).set (1 + k) (.int .u8 (s[k]'hk).toNat) = iv .u8 (entPart s ino (k + 1)) := by
  have hl : k < (nums s).length := by simpa using hk
  have h1 : 7 - k = (7 - (k + 1)) + 1 := by omega
  simp only [iv, entPart, ← List.map_set]
  congr 1
  rw [List.take_succ_eq_append_getElem hl, h1, List.replicate_succ, nums_get s k hk]
  simp only [List.append_assoc, List.cons_append, List.nil_append]
  rw [Nat.add_comm 1 k, List.set_cons_succ, List.set_append_right _ _ (by simp; omega)]
  simp [Nat.min_eq_left (show k ≤ s.size by omega)]
theorem entPart_get (s : ByteArray) (ino : Int) (k : Nat) (hk : k < s.size) (h7 : s.size ≤ 7) : (iv .u8 (entPart s ino k))[1 + k]? = some (.int .u8 0) := by
  have hl : ([ino] ++ (nums s).take k).length = 1 + k := by simp; omega
  rw [iv, List.getElem?_map, entPart, List.getElem?_append_right (by omega), hl, Nat.sub_self, List.getElem?_replicate, if_pos (by omega)]
  rfl
theorem entPart_end (s : ByteArray) (ino : Int) : entPart s ino s.size = entB (nums s) ino := by
  simp [entPart, entB, List.take_of_length_le]

set_option maxHeartbeats 1000000 in
theorem rEntry_ok (s : ByteArray) (ino : Int) (w : World) (h0 : 1 ≤ ino) (h1 : ino ≤ 15) (hn : nameOk (nums s) = true) :
    Calls Tryd.prog 20 #[.agg #[.string s, .int .i64 ino]] w fun e w' => (∃ A, e = .returned (.tuple #[.slice A 8 8, .int .i64 0]) ∧ Rd w' A 8 8 (iv .u8 (entB (nums s) ino))) ∧ Below w.heap.size w w' := by
  have hmk := mk8
  unfold z8 at hmk
  have hs : s.size ≤ 7 := by simp [nameOk] at hn; omega
  have HN := Lib.hid hn
  clear hn
  have hne : s.toList.isEmpty = false := by
    have := HN.out
    simp only [nameOk, nums_length, Bool.and_eq_true, decide_eq_true_eq] at this
    rw [toList_empty]
    exact decide_eq_false (by omega)
  go_enter Tryd.func20, Tryd.ntmps20
  go_wp2_with (go_at_call 24; refine (rName_any s _ (by omega)).mono ?_; rintro e w1 ⟨rfl, rfl⟩; rw [HN.out])
  go_loopw [5] (fun v wr => ∃ k : Nat, k ≤ s.size ∧ v = .int .i64 k ∧ Hid (wr.heap[w.heap.size]? = some (.cells #[.string s, .int .i64 ino] 33 (0, 0))) ∧
    Hid (∃ cells, wr.heap[w.heap.size + 1]? = some (.cells cells 5 (0, 0)) ∧ cells.toList = iv .u8 (entPart s ino k)) ∧ Hid (Below w.heap.size w wr)) (fun v _ => s.size - (intOf v).toNat)
  case atStart => exact ⟨0, by omega, rfl, blk21 _ _ _, ⟨_, blk22 _ _ _, rfl⟩, ((Below.refl _ _).alloc (Nat.le_refl _) _).alloc (by simp) _⟩
  case round =>
    obtain ⟨k, hk, rfl, HB1, HB2, HB⟩ := hrel
    obtain ⟨cells, hb2, hcells⟩ := HB2.out
    have c0 := blk_cell HB1.out 0
    simp only [List.getElem?_toArray, List.getElem?_cons_zero] at c0
    by_cases hlt : k < s.size
    · have d0 : wr.cell? ⟨w.heap.size + 1, 1 + k, none⟩ = some (.int .u8 0) := by
        rw [blk_cell hb2, ← Array.getElem?_toList, hcells, entPart_get s ino k hlt hs]
      have f0 := blk_free hb2 (1 + k)
      have e1 := Lib.hid (blk_far (p := ⟨w.heap.size + 1, 1 + k, none⟩) HB1.out (by simp) (.int .u8 (s[k]'hlt).toNat))
      have e2 := Lib.hid (blk_set hb2 (1 + k) (.int .u8 (s[k]'hlt).toNat))
      have HC := Lib.hid hcells
      have e3 := Lib.hid (HB.out.setCell (p := ⟨w.heap.size + 1, 1 + k, none⟩) (by simp) (.int .u8 (s[k]'hlt).toNat))
      clear hb2 hcells HB HB1 HB2
      go_wp2
      refine ⟨⟨k + 1, by omega, by go_num, e1, ⟨_, e2.out, ?_⟩, e3⟩, by simp [intOf]; omega⟩
      rw [Array.toList_setIfInBounds, HC.out, entPart_set s ino k hlt hs]
    · obtain rfl : k = s.size := by omega
      have HC := Lib.hid hcells
      have HB3 := Lib.hid hb2
      clear hb2 hcells HB2
      go_wp2
      go_ret2
      refine ⟨⟨_, rfl, rd_block HB3.out 8 8 _ 0 (by omega) (by omega) fun j hj => ?_⟩, HB.out⟩
      rw [Nat.zero_add, ← Array.getElem?_toList, HC.out, entPart_end]
      simp

set_option maxHeartbeats 400000 in
theorem rEntry_zero (w : World) :
    Calls Tryd.prog 20 #[.agg #[.string ByteArray.empty, .int .i64 0]] w fun e w' => (∃ A, e = .returned (.tuple #[.slice A 8 8, .int .i64 0]) ∧ Rd w' A 8 8 (iv .u8 (entB [] 0))) ∧ Below w.heap.size w w' := by
  have hmk := mk8
  unfold z8 at hmk
  have hne : ByteArray.empty.toList.isEmpty = true := by rw [toList_empty]; rfl
  go_enter Tryd.func20, Tryd.ntmps20
  go_wp2
  go_ret2
  exact ⟨⟨_, rfl, rd_list (l := List.replicate 8 (.int .u8 0)) (blk22 _ _ _) rfl 8 (by omega)⟩, ((Below.refl _ _).alloc (Nat.le_refl _) _).alloc (by simp) _⟩

set_option maxHeartbeats 400000 in
theorem rEntry_no (s : ByteArray) (ino : Int) (w : World) (hz : entOk (nums s) ino = false) (hs : s.size ≤ 9223372036854775807) (h0 : -9223372036854775808 ≤ ino) (h1 : ino ≤ 9223372036854775807) :
    Calls Tryd.prog 20 #[.agg #[.string s, .int .i64 ino]] w fun e w' => e = .returned (.tuple #[.slice none 0 0, .int .i64 3]) ∧ Below w.heap.size w w' := by
  have hmk := mk8
  unfold z8 at hmk
  have hz1 : ¬ (s.size = 0 ∧ ino = 0) := by intro h; simp [entOk, h.1, h.2] at hz
  by_cases hn : nameOk (nums s) = true
  · have hr : ino < 1 ∨ 15 < ino := by
      simp [entOk, hn] at hz
      omega
    have hne : s.toList.isEmpty = false := by
      simp only [nameOk, nums_length, Bool.and_eq_true, decide_eq_true_eq] at hn
      rw [toList_empty]
      exact decide_eq_false (by omega)
    have HN := Lib.hid hn
    clear hn hz hz1
    rcases hr with hr | hr
    all_goals
      go_enter Tryd.func20, Tryd.ntmps20
      go_wp2_with (go_at_call 24; refine (rName_any s _ (by omega)).mono ?_; rintro e w1 ⟨rfl, rfl⟩; rw [HN.out])
      all_goals go_ret2
      all_goals exact ⟨rfl, ((Below.refl _ _).alloc (Nat.le_refl _) _).alloc (by simp) _⟩
  · have HN := Lib.hid (Bool.eq_false_iff.2 hn)
    clear hn hz
    by_cases hss : s.size = 0
    · have hne : s.toList.isEmpty = true := by rw [toList_empty]; exact decide_eq_true hss
      have hi : (ino == 0) = false := by simp; exact fun h => hz1 ⟨hss, h⟩
      clear hz1 hss
      go_enter Tryd.func20, Tryd.ntmps20
      go_wp2_with (go_at_call 24; refine (rName_any s _ (by omega)).mono ?_; rintro e w1 ⟨rfl, rfl⟩; rw [HN.out])
      all_goals go_ret2
      all_goals exact ⟨rfl, ((Below.refl _ _).alloc (Nat.le_refl _) _).alloc (by simp) _⟩
    · have hne : s.toList.isEmpty = false := by rw [toList_empty]; exact decide_eq_false hss
      clear hz1 hss
      go_enter Tryd.func20, Tryd.ntmps20
      go_wp2_with (go_at_call 24; refine (rName_any s _ (by omega)).mono ?_; rintro e w1 ⟨rfl, rfl⟩; rw [HN.out])
      all_goals go_ret2
      all_goals exact ⟨rfl, ((Below.refl _ _).alloc (Nat.le_refl _) _).alloc (by simp) _⟩
theorem rEntry_yes (s : ByteArray) (ino : Int) (w : World) (h : entOk (nums s) ino = true) :
    Calls Tryd.prog 20 #[.agg #[.string s, .int .i64 ino]] w fun e w' => (∃ A, e = .returned (.tuple #[.slice A 8 8, .int .i64 0]) ∧ Rd w' A 8 8 (iv .u8 (entB (nums s) ino))) ∧ Below w.heap.size w w' := by
  by_cases hz : s.size = 0 ∧ ino = 0
  · obtain ⟨h1, rfl⟩ := hz
    obtain rfl := empty_of_size h1
    exact rEntry_zero w
  · simp only [entOk, nums_length, Bool.or_eq_true, Bool.and_eq_true, decide_eq_true_eq] at h
    rcases h with h | h
    · exact absurd h hz
    · exact rEntry_ok s ino w h.1.1 h.1.2 h.2
end Go.Proofs.YtkmonkemkhigfaaDoor
