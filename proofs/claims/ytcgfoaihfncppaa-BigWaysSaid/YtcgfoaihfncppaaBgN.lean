/- Walks of big's reference: numbers. -/
import Derived.Test.YtcgfoaihfncppaaBg8
set_option linter.unusedSimpArgs false
set_option linter.unusedVariables false
namespace Go.Proofs.Ytcgfoaihfncppaa
open Go.RowKit Go.Sel Go.Sel.Gra Go.Sel.Bg Go.Sel.Mer Go.Shelf

theorem iv_take1 (l : List Int) (k : Nat) (h : k < l.length) : iv .i64 (l.take (k + 1)) = iv .i64 (l.take k) ++ [.int .i64 (l[k]'h)] := by
  rw [List.take_succ_eq_append_getElem h]
  simp only [iv, List.map_append, List.map_cons, List.map_nil]
theorem infoInt8 : (Try.prog.info? 3).map (fun i => (i.zero, i.size, i.bytes)) = some (some (.int .i64 0), 1, 8) := by kernel_rfl
set_option maxRecDepth 100000 in
set_option maxHeartbeats 2000000 in
theorem numbers_any (t : List Int) (ht : t.length = 8) (w : World) : Calls Try.prog 40 #[bigV t] w fun e w' => (∃ A c, e = .returned (.slice A 8 c) ∧ Rd w' A 8 c (iv .i64 t)) ∧ Below w.heap.size w w' := by
  have HB0 : Hid (Below w.heap.size w (w.alloc (.cells (iv .i64 t).toArray 36)) ∧ boxB (w.alloc (.cells (iv .i64 t).toArray 36)) w.heap.size t) := Lib.hid ⟨below_al w _, blk11 w _⟩
  have HT : Hid (∀ i, i < 8 → ∃ h : i < t.length, True) := Lib.hid fun i hi => ⟨by omega, trivial⟩
  obtain ⟨a0, a1, a2, a3, a4, a5, a6, a7, rfl⟩ := len8 ht
  clear ht
  simp only [bigV, iv, List.map_cons, List.map_nil] at HB0 ⊢
  go_enter Try.func40, Try.ntmps40
  go_wp2
  go_loopw [3, 4] (fun v i wr => ∃ (k c : Nat) (A : Option Addr), k ≤ 6 ∧ i = .int .i64 k ∧ v = .slice A k c ∧ Hid (wr.ownsRow (w.heap.size + 1) 3 1 (.slice A k c) k (iv .i64 ([a0, a1, a2, a3, a4, a5, a6, a7].take k))) ∧ Hid (boxB wr w.heap.size [a0, a1, a2, a3, a4, a5, a6, a7]) ∧ Hid (Below w.heap.size w wr)) (fun _ i _ => 6 - (Go.RowKit.intOf i).toNat)
  case atStart => exact ⟨0, 0, none, by omega, rfl, rfl, World.ownsRow_nil _ _ _ _, HB0.out.2, HB0.out.1⟩
  case round =>
    clear HB0
    obtain ⟨k, c, A, hk, rfl, rfl, HO, HX, HB⟩ := hrel
    have hl1 := (Array.getElem?_eq_some_iff.1 HX.out).1
    have hs := HB.out.size
    by_cases hlt : k < 6
    · have hkl : k < [a0, a1, a2, a3, a4, a5, a6, a7].length := by simp; omega
      have hc : wr.cell? ⟨w.heap.size, k, none⟩ = some (.int .i64 ([a0, a1, a2, a3, a4, a5, a6, a7][k]'hkl)) := by rw [blk_cell HX.out, List.getElem?_toArray, List.getElem?_eq_getElem (by simpa using hkl), iv_at]
      have HTK : Hid (iv .i64 ([a0, a1, a2, a3, a4, a5, a6, a7].take (k + 1)) = iv .i64 ([a0, a1, a2, a3, a4, a5, a6, a7].take k) ++ [.int .i64 ([a0, a1, a2, a3, a4, a5, a6, a7][k]'hkl)]) := Lib.hid (iv_take1 _ k hkl)
      generalize [a0, a1, a2, a3, a4, a5, a6, a7][k]'hkl = x at *
      go_wp2_with (at_builtin; refine wpList_push wr rfl _ _ 23 3 rfl (w.heap.size + 1) (.int .i64 0) 8 Try.underlying23 infoInt8 rfl (by omega) (.slice A k c) k _ (.int .i64 x) rfl rfl rfl HO.out (by omega) (by omega) rfl ?_; intro g cap w1 ho hg hat hlt1)
      have hbx : boxB w1 w.heap.size [a0, a1, a2, a3, a4, a5, a6, a7] := (hg.block _ hl1 (fun e => by have := own_row HO.out _ e.symm; omega)).trans HX.out
      refine ⟨⟨k + 1, cap, some ⟨g, 0, none⟩, by omega, by go_num, rfl, ?_, hbx, below_grown HB.out hg hs (fun j hj => by have := own_row HO.out j hj; omega)⟩, by simp [Go.RowKit.intOf]; omega⟩
      rw [HTK.out]
      exact ho
    · obtain rfl : k = 6 := by omega
      have d := blk_cell HX.out
      have d6 := d 6
      have d7 := d 7
      simp only [iv, List.map_cons, List.map_nil, List.getElem?_toArray, List.getElem?_cons_zero, List.getElem?_cons_succ] at d6 d7
      obtain ⟨v', w1, hrun, hown, hg, hat⟩ := run_extend (P := Try.prog) (w := wr.alloc (.cells #[.int .i64 a6, .int .i64 a7] 3)) (w.heap.size + 1) 23 23 3 (.int .i64 0) 8 Try.underlying23 infoInt8 rfl (.slice A 6 c) 6 _ (HO.out.alloc _) (some ⟨wr.heap.size, 0, none⟩) 2 2 (iv .i64 [a6, a7]) (rd_block (blk11 wr _) 2 2 _ 0 (Nat.le_refl _) (by omega) (fun j hj => by simp [iv])) rfl (one_iv _ _) (by simp [maxLen]) (by omega) (by simp; omega)
      have HB1 : Hid (Below w.heap.size w w1) := Lib.hid (below_grown (HB.out.alloc hs _) hg (by simp; omega) (fun j hj => by have := own_row HO.out j hj; omega))
      obtain ⟨A2, c2, rfl, _, hr⟩ := rd_ownN (by omega) hown
      have HR := Lib.hid hr
      have HRUN := Lib.hid hrun
      clear d hown hg hat hr hrun
      go_wp2_with (at_builtin; refine wpList_append_run rfl _ _ _ _ rfl _ _ _ rfl rfl HRUN.out ?_)
      go_ret
      exact ⟨⟨A2, c2, rfl, by simpa [iv] using HR.out⟩, HB1.out⟩
end Go.Proofs.Ytcgfoaihfncppaa
