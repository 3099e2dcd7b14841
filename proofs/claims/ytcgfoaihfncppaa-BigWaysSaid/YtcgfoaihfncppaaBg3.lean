/- Walks of big: top, file, IndexFunc and ContainsFunc over blocks. -/
import Derived.Test.YtcgfoaihfncppaaBg2
import Derived.StillTailTactics
set_option linter.unusedSimpArgs false
set_option linter.unusedVariables false
namespace Go.Proofs.Ytcgfoaihfncppaa
open Go.RowKit Go.Sel Go.Sel.Gra Go.Sel.Bg Go.Sel.Mer Go.Shelf

theorem len8 {t : List Int} (h : t.length = 8) : ∃ a b c d e f g i, t = [a, b, c, d, e, f, g, i] := by
  match t, h with
  | [a, b, c, d, e, f, g, i], _ => exact ⟨a, b, c, d, e, f, g, i, rfl⟩
theorem setCell_at {w : World} {b j : Nat} {cs : Array Value} {v : Value} {T : TypeId} (h : w.heap[b]? = some (.cells cs T (0, 0))) (hv : cs[j]? = some v) : w.setCell ⟨b, j, none⟩ v = w := by
  have e : (w.setCell ⟨b, j, none⟩ v).heap = w.heap := by
    refine Array.ext_getElem? fun i => ?_
    by_cases hi : i = b
    · subst hi
      rw [blk_set h j v, h]
      congr 2
      refine Array.ext_getElem? fun k => ?_
      obtain ⟨hj, hg⟩ := Array.getElem?_eq_some_iff.1 hv
      by_cases e : j = k
      · subst e; simp [hj, hg]
      · rw [Array.getElem?_setIfInBounds_ne e]
    · exact Below.heap_setCell _ _ _ _ hi
  cases w
  simp_all [World.setCell]
def bigV (t : List Int) : Value := .agg (iv .i64 t).toArray

set_option maxRecDepth 100000 in
set_option maxHeartbeats 2000000 in
theorem top_any (t : List Int) (ht : t.length = 8) (w : World) : Calls Try.prog 39 #[bigV t] w fun e w' => e = .returned (bigV t) ∧ Below w.heap.size w w' := by
  obtain ⟨a0, a1, a2, a3, a4, a5, a6, a7, rfl⟩ := len8 ht
  simp only [bigV, iv, List.map_cons, List.map_nil]
  have hg1 : ((w.alloc (.cells #[.int .i64 a0, .int .i64 a1, .int .i64 a2, .int .i64 a3, .int .i64 a4, .int .i64 a5, .int .i64 a6, .int .i64 a7] 36)).alloc (.cells #[.int .i64 0, .int .i64 0, .int .i64 0, .int .i64 0, .int .i64 0, .int .i64 0, .int .i64 0, .int .i64 0] 66)).heap[w.heap.size]? = some (.cells #[.int .i64 a0, .int .i64 a1, .int .i64 a2, .int .i64 a3, .int .i64 a4, .int .i64 a5, .int .i64 a6, .int .i64 a7] 36 (0, 0)) := blk21 _ _ _
  have hg2 : ((w.alloc (.cells #[.int .i64 a0, .int .i64 a1, .int .i64 a2, .int .i64 a3, .int .i64 a4, .int .i64 a5, .int .i64 a6, .int .i64 a7] 36)).alloc (.cells #[.int .i64 0, .int .i64 0, .int .i64 0, .int .i64 0, .int .i64 0, .int .i64 0, .int .i64 0, .int .i64 0] 66)).heap[w.heap.size + 1]? = some (.cells #[.int .i64 0, .int .i64 0, .int .i64 0, .int .i64 0, .int .i64 0, .int .i64 0, .int .i64 0, .int .i64 0] 66 (0, 0)) := by
    have := blk11 (w.alloc (.cells #[.int .i64 a0, .int .i64 a1, .int .i64 a2, .int .i64 a3, .int .i64 a4, .int .i64 a5, .int .i64 a6, .int .i64 a7] 36)) (.cells #[.int .i64 0, .int .i64 0, .int .i64 0, .int .i64 0, .int .i64 0, .int .i64 0, .int .i64 0, .int .i64 0] 66)
    simpa using this
  have HG1 := Lib.hid hg1
  have HG2 := Lib.hid hg2
  have hB : Hid (Below w.heap.size w ((w.alloc (.cells #[.int .i64 a0, .int .i64 a1, .int .i64 a2, .int .i64 a3, .int .i64 a4, .int .i64 a5, .int .i64 a6, .int .i64 a7] 36)).alloc (.cells #[.int .i64 0, .int .i64 0, .int .i64 0, .int .i64 0, .int .i64 0, .int .i64 0, .int .i64 0, .int .i64 0] 66))) := Lib.hid ((below_al w _).alloc (by simp) _)
  clear hg1 hg2
  go_enter Try.func39, Try.ntmps39
  go_wp2
  generalize (w.alloc (.cells #[.int .i64 a0, .int .i64 a1, .int .i64 a2, .int .i64 a3, .int .i64 a4, .int .i64 a5, .int .i64 a6, .int .i64 a7] 36)).alloc (.cells #[.int .i64 0, .int .i64 0, .int .i64 0, .int .i64 0, .int .i64 0, .int .i64 0, .int .i64 0, .int .i64 0] 66) = W at *
  go_still_tail 3, (by kernel_rfl)
  refine wpList_copy_run (w := W.drew) rfl _ _ _ _ rfl (.slice (some ⟨w.heap.size + 1, 0, none⟩) 8 8) (.slice (some ⟨w.heap.size, 0, none⟩) 6 6) _ (by rfl) (by rfl) (run_copy_row (P := Try.prog) W.drew 23 23 _ 3 (w.heap.size + 1) 0 8 8 ⟨w.heap.size, 0, none⟩ 6 6 _ 66 (iv .i64 [a0, a1, a2, a3, a4, a5]) Try.underlying23 (by kernel_rfl) HG2.out rfl (fun j v hj => ?_) (by simp) (one_iv _ _)) ?_
  · rw [Addr.add_lit, Nat.zero_add, blk_cell (w := W.drew) HG1.out]
    have hj' := (List.getElem?_eq_some_iff.1 hj).1
    simp only [iv, List.map_cons, List.map_nil, List.length_cons, List.length_nil] at hj hj'
    rw [← hj]
    rcases (show j = 0 ∨ j = 1 ∨ j = 2 ∨ j = 3 ∨ j = 4 ∨ j = 5 by omega) with rfl | rfl | rfl | rfl | rfl | rfl <;> rfl
  have HG3 := Lib.hid (blk_row (w := W.drew) (cs' := (List.take 0 #[Value.int .i64 0, .int .i64 0, .int .i64 0, .int .i64 0, .int .i64 0, .int .i64 0, .int .i64 0, .int .i64 0].toList ++ iv .i64 [a0, a1, a2, a3, a4, a5] ++ List.drop (0 + (iv .i64 [a0, a1, a2, a3, a4, a5]).length) #[Value.int .i64 0, .int .i64 0, .int .i64 0, .int .i64 0, .int .i64 0, .int .i64 0, .int .i64 0, .int .i64 0].toList).toArray) HG2.out)
  have HB2 : Hid (Below w.heap.size w (W.drew.setRow (w.heap.size + 1) (List.take 0 #[Value.int .i64 0, .int .i64 0, .int .i64 0, .int .i64 0, .int .i64 0, .int .i64 0, .int .i64 0, .int .i64 0].toList ++ iv .i64 [a0, a1, a2, a3, a4, a5] ++ List.drop (0 + (iv .i64 [a0, a1, a2, a3, a4, a5]).length) #[Value.int .i64 0, .int .i64 0, .int .i64 0, .int .i64 0, .int .i64 0, .int .i64 0, .int .i64 0, .int .i64 0].toList).toArray)) := Lib.hid (below_setRow hB.out.drew (by omega) _)
  have HG4 : Hid ((W.drew.setRow (w.heap.size + 1) (List.take 0 #[Value.int .i64 0, .int .i64 0, .int .i64 0, .int .i64 0, .int .i64 0, .int .i64 0, .int .i64 0, .int .i64 0].toList ++ iv .i64 [a0, a1, a2, a3, a4, a5] ++ List.drop (0 + (iv .i64 [a0, a1, a2, a3, a4, a5]).length) #[Value.int .i64 0, .int .i64 0, .int .i64 0, .int .i64 0, .int .i64 0, .int .i64 0, .int .i64 0, .int .i64 0].toList).toArray).heap[w.heap.size]? = some (.cells #[.int .i64 a0, .int .i64 a1, .int .i64 a2, .int .i64 a3, .int .i64 a4, .int .i64 a5, .int .i64 a6, .int .i64 a7] 36 (0, 0))) := Lib.hid ((setRow_other _ _ _ _ (by omega)).trans HG1.out)
  generalize W.drew.setRow (w.heap.size + 1) _ = W2 at *
  have c6 := blk_cell HG4.out 6
  have c7 := blk_cell HG4.out 7
  have d := blk_cell HG3.out
  have d0 := d 0
  have d1 := d 1
  have d2 := d 2
  have d3 := d 3
  have d4 := d 4
  have d5 := d 5
  have d6 := d 6
  have d7 := d 7
  simp only [iv, List.map_cons, List.map_nil, List.take_zero, List.nil_append, List.length_cons, List.length_nil, Nat.reduceAdd, List.drop_succ_cons, List.drop_zero, List.cons_append, List.getElem?_toArray, List.getElem?_cons_zero, List.getElem?_cons_succ] at c6 c7 d0 d1 d2 d3 d4 d5 d6 d7
  have z := blk_free HG3.out
  clear d
  go_wp2
  have HG5 := blk_set (blk_set HG3.out 6 (.int .i64 a6)) 7 (.int .i64 a7)
  simp only [iv, List.map_cons, List.map_nil, List.take_zero, List.nil_append, List.length_cons, List.length_nil, Nat.reduceAdd, List.drop_succ_cons, List.drop_zero, List.cons_append, List.setIfInBounds_toArray, List.set_cons_succ, List.set_cons_zero] at HG5
  have HB5 : Below w.heap.size w ((W2.setCell ⟨w.heap.size + 1, 6, none⟩ (.int .i64 a6)).setCell ⟨w.heap.size + 1, 7, none⟩ (.int .i64 a7)) := (HB2.out.setCell (by simp) _).setCell (by simp) _
  clear HG1 HG2 HG3 HG4 c6 c7 d0 d1 d2 d3 d4 d5 d6 d7 z HB2
  generalize (W2.setCell ⟨w.heap.size + 1, 6, none⟩ (.int .i64 a6)).setCell ⟨w.heap.size + 1, 7, none⟩ (.int .i64 a7) = W3 at *
  have hs := fun j v (h : _) => setCell_at (j := j) (v := v) HG5 h
  rw [hs 0 (.int .i64 a0) rfl, hs 1 (.int .i64 a1) rfl, hs 2 (.int .i64 a2) rfl, hs 3 (.int .i64 a3) rfl, hs 4 (.int .i64 a4) rfl, hs 5 (.int .i64 a5) rfl, hs 6 (.int .i64 a6) rfl, hs 7 (.int .i64 a7) rfl]
  refine bodyPost_ret (v := .agg #[.int .i64 a0, .int .i64 a1, .int .i64 a2, .int .i64 a3, .int .i64 a4, .int .i64 a5, .int .i64 a6, .int .i64 a7]) ?_ rfl ?_
  · have d := blk_cell HG5
    have d0 := d 0
    have d1 := d 1
    have d2 := d 2
    have d3 := d 3
    have d4 := d 4
    have d5 := d 5
    have d6 := d 6
    have d7 := d 7
    simp only [List.getElem?_toArray, List.getElem?_cons_zero, List.getElem?_cons_succ] at d0 d1 d2 d3 d4 d5 d6 d7
    simp [results, Try.results39, go_sem, d0, d1, d2, d3, d4, d5, d6, d7]
  · exact ⟨rfl, HB5⟩

set_option maxRecDepth 100000 in
set_option maxHeartbeats 2000000 in
theorem file_any (t : List Int) (ht : t.length = 8) (w : World) : Calls Try.prog 33 #[bigV t] w fun e w' => e = .returned (bigV t) ∧ Below w.heap.size w w' := by
  obtain ⟨a0, a1, a2, a3, a4, a5, a6, a7, rfl⟩ := len8 ht
  simp only [bigV, iv, List.map_cons, List.map_nil]
  have hg1 : ((w.alloc (.cells #[.int .i64 a0, .int .i64 a1, .int .i64 a2, .int .i64 a3, .int .i64 a4, .int .i64 a5, .int .i64 a6, .int .i64 a7] 66)).alloc (.cells #[.int .i64 0, .int .i64 0, .int .i64 0, .int .i64 0, .int .i64 0, .int .i64 0, .int .i64 0, .int .i64 0] 36)).heap[w.heap.size]? = some (.cells #[.int .i64 a0, .int .i64 a1, .int .i64 a2, .int .i64 a3, .int .i64 a4, .int .i64 a5, .int .i64 a6, .int .i64 a7] 66 (0, 0)) := blk21 _ _ _
  have hg2 : ((w.alloc (.cells #[.int .i64 a0, .int .i64 a1, .int .i64 a2, .int .i64 a3, .int .i64 a4, .int .i64 a5, .int .i64 a6, .int .i64 a7] 66)).alloc (.cells #[.int .i64 0, .int .i64 0, .int .i64 0, .int .i64 0, .int .i64 0, .int .i64 0, .int .i64 0, .int .i64 0] 36)).heap[w.heap.size + 1]? = some (.cells #[.int .i64 0, .int .i64 0, .int .i64 0, .int .i64 0, .int .i64 0, .int .i64 0, .int .i64 0, .int .i64 0] 36 (0, 0)) := by
    have := blk11 (w.alloc (.cells #[.int .i64 a0, .int .i64 a1, .int .i64 a2, .int .i64 a3, .int .i64 a4, .int .i64 a5, .int .i64 a6, .int .i64 a7] 66)) (.cells #[.int .i64 0, .int .i64 0, .int .i64 0, .int .i64 0, .int .i64 0, .int .i64 0, .int .i64 0, .int .i64 0] 36)
    simpa using this
  have HG1 := Lib.hid hg1
  have HG2 := Lib.hid hg2
  have hB : Hid (Below w.heap.size w ((w.alloc (.cells #[.int .i64 a0, .int .i64 a1, .int .i64 a2, .int .i64 a3, .int .i64 a4, .int .i64 a5, .int .i64 a6, .int .i64 a7] 66)).alloc (.cells #[.int .i64 0, .int .i64 0, .int .i64 0, .int .i64 0, .int .i64 0, .int .i64 0, .int .i64 0, .int .i64 0] 36))) := Lib.hid ((below_al w _).alloc (by simp) _)
  clear hg1 hg2
  go_enter Try.func33, Try.ntmps33
  go_wp2
  generalize (w.alloc (.cells #[.int .i64 a0, .int .i64 a1, .int .i64 a2, .int .i64 a3, .int .i64 a4, .int .i64 a5, .int .i64 a6, .int .i64 a7] 66)).alloc (.cells #[.int .i64 0, .int .i64 0, .int .i64 0, .int .i64 0, .int .i64 0, .int .i64 0, .int .i64 0, .int .i64 0] 36) = W at *
  go_still_tail 3, (by kernel_rfl)
  refine wpList_copy_run (w := W.drew) rfl _ _ _ _ rfl (.slice (some ⟨w.heap.size + 1, 0, none⟩) 6 6) (.slice (some ⟨w.heap.size, 0, none⟩) 8 8) _ (by rfl) (by rfl) (run_copy_row (P := Try.prog) W.drew 23 23 _ 3 (w.heap.size + 1) 0 6 6 ⟨w.heap.size, 0, none⟩ 8 8 _ 36 (iv .i64 [a0, a1, a2, a3, a4, a5]) Try.underlying23 (by kernel_rfl) HG2.out rfl (fun j v hj => ?_) (by simp) (one_iv _ _)) ?_
  · rw [Addr.add_lit, Nat.zero_add, blk_cell (w := W.drew) HG1.out]
    have hj' := (List.getElem?_eq_some_iff.1 hj).1
    simp only [iv, List.map_cons, List.map_nil, List.length_cons, List.length_nil] at hj hj'
    rw [← hj]
    rcases (show j = 0 ∨ j = 1 ∨ j = 2 ∨ j = 3 ∨ j = 4 ∨ j = 5 by omega) with rfl | rfl | rfl | rfl | rfl | rfl <;> rfl
  have HG3 := Lib.hid (blk_row (w := W.drew) (cs' := (List.take 0 #[Value.int .i64 0, .int .i64 0, .int .i64 0, .int .i64 0, .int .i64 0, .int .i64 0, .int .i64 0, .int .i64 0].toList ++ iv .i64 [a0, a1, a2, a3, a4, a5] ++ List.drop (0 + (iv .i64 [a0, a1, a2, a3, a4, a5]).length) #[Value.int .i64 0, .int .i64 0, .int .i64 0, .int .i64 0, .int .i64 0, .int .i64 0, .int .i64 0, .int .i64 0].toList).toArray) HG2.out)
  have HB2 : Hid (Below w.heap.size w (W.drew.setRow (w.heap.size + 1) (List.take 0 #[Value.int .i64 0, .int .i64 0, .int .i64 0, .int .i64 0, .int .i64 0, .int .i64 0, .int .i64 0, .int .i64 0].toList ++ iv .i64 [a0, a1, a2, a3, a4, a5] ++ List.drop (0 + (iv .i64 [a0, a1, a2, a3, a4, a5]).length) #[Value.int .i64 0, .int .i64 0, .int .i64 0, .int .i64 0, .int .i64 0, .int .i64 0, .int .i64 0, .int .i64 0].toList).toArray)) := Lib.hid (below_setRow hB.out.drew (by omega) _)
  have HG4 : Hid ((W.drew.setRow (w.heap.size + 1) (List.take 0 #[Value.int .i64 0, .int .i64 0, .int .i64 0, .int .i64 0, .int .i64 0, .int .i64 0, .int .i64 0, .int .i64 0].toList ++ iv .i64 [a0, a1, a2, a3, a4, a5] ++ List.drop (0 + (iv .i64 [a0, a1, a2, a3, a4, a5]).length) #[Value.int .i64 0, .int .i64 0, .int .i64 0, .int .i64 0, .int .i64 0, .int .i64 0, .int .i64 0, .int .i64 0].toList).toArray).heap[w.heap.size]? = some (.cells #[.int .i64 a0, .int .i64 a1, .int .i64 a2, .int .i64 a3, .int .i64 a4, .int .i64 a5, .int .i64 a6, .int .i64 a7] 66 (0, 0))) := Lib.hid ((setRow_other _ _ _ _ (by omega)).trans HG1.out)
  generalize W.drew.setRow (w.heap.size + 1) _ = W2 at *
  have c6 := blk_cell HG4.out 6
  have c7 := blk_cell HG4.out 7
  have d := blk_cell HG3.out
  have d0 := d 0
  have d1 := d 1
  have d2 := d 2
  have d3 := d 3
  have d4 := d 4
  have d5 := d 5
  have d6 := d 6
  have d7 := d 7
  simp only [iv, List.map_cons, List.map_nil, List.take_zero, List.nil_append, List.length_cons, List.length_nil, Nat.reduceAdd, List.drop_succ_cons, List.drop_zero, List.cons_append, List.getElem?_toArray, List.getElem?_cons_zero, List.getElem?_cons_succ] at c6 c7 d0 d1 d2 d3 d4 d5 d6 d7
  have z := blk_free HG3.out
  clear d
  go_wp2
  have HG5 := blk_set (blk_set HG3.out 6 (.int .i64 a6)) 7 (.int .i64 a7)
  simp only [iv, List.map_cons, List.map_nil, List.take_zero, List.nil_append, List.length_cons, List.length_nil, Nat.reduceAdd, List.drop_succ_cons, List.drop_zero, List.cons_append, List.setIfInBounds_toArray, List.set_cons_succ, List.set_cons_zero] at HG5
  have HB5 : Below w.heap.size w ((W2.setCell ⟨w.heap.size + 1, 6, none⟩ (.int .i64 a6)).setCell ⟨w.heap.size + 1, 7, none⟩ (.int .i64 a7)) := (HB2.out.setCell (by simp) _).setCell (by simp) _
  clear HG1 HG2 HG3 HG4 c6 c7 d0 d1 d2 d3 d4 d5 d6 d7 z HB2
  generalize (W2.setCell ⟨w.heap.size + 1, 6, none⟩ (.int .i64 a6)).setCell ⟨w.heap.size + 1, 7, none⟩ (.int .i64 a7) = W3 at *
  have hs := fun j v (h : _) => setCell_at (j := j) (v := v) HG5 h
  rw [hs 0 (.int .i64 a0) rfl, hs 1 (.int .i64 a1) rfl, hs 2 (.int .i64 a2) rfl, hs 3 (.int .i64 a3) rfl, hs 4 (.int .i64 a4) rfl, hs 5 (.int .i64 a5) rfl, hs 6 (.int .i64 a6) rfl, hs 7 (.int .i64 a7) rfl]
  refine bodyPost_ret (v := .agg #[.int .i64 a0, .int .i64 a1, .int .i64 a2, .int .i64 a3, .int .i64 a4, .int .i64 a5, .int .i64 a6, .int .i64 a7]) ?_ rfl ?_
  · have d := blk_cell HG5
    have d0 := d 0
    have d1 := d 1
    have d2 := d 2
    have d3 := d 3
    have d4 := d 4
    have d5 := d 5
    have d6 := d 6
    have d7 := d 7
    simp only [List.getElem?_toArray, List.getElem?_cons_zero, List.getElem?_cons_succ] at d0 d1 d2 d3 d4 d5 d6 d7
    simp [results, Try.results33, go_sem, d0, d1, d2, d3, d4, d5, d6, d7]
  · exact ⟨rfl, HB5⟩

end Go.Proofs.Ytcgfoaihfncppaa
