/- Walks of big's laws: blank. -/
import Derived.Test.YtcgfoaihfncppaaBg8
import Derived.Test.YtcgfoaihfncppaaBgU
set_option linter.unusedSimpArgs false
set_option linter.unusedVariables false
namespace Go.Proofs.Ytcgfoaihfncppaa
open Go.RowKit Go.Sel Go.Sel.Gra Go.Sel.Bg Go.Sel.Mer Go.Shelf

theorem infoByt : (Try.prog.info? 45).map (fun i => (i.zero, i.size, i.bytes)) = some (some (.slice none 0 0), 1, 24) := by kernel_rfl
theorem z32_zrow : z32 = (iv .u8 zrow).toArray := by simp [z32, zrow, iv]
def blk2 (bs : List Nat) : List Value := bs.map fun b => .slice (some ⟨b, 0, none⟩) 32 32

set_option maxRecDepth 100000 in
set_option maxHeartbeats 2000000 in
theorem blank_any (n : Nat) (hn : n ≤ 96) (w : World) : Calls Try.prog 27 #[.int .i64 (n : Int)] w fun e w' => (∃ A c, e = .returned (.slice A n c) ∧ Bp w' A n c (List.replicate n zrow)) ∧ Below w.heap.size w w' := by
  have hmk := mk32
  go_enter Try.func27, Try.ntmps27
  go_wp2
  go_loopw [3] (fun v wr => ∃ (k c : Nat) (A : Option Addr) (bs : List Nat), k ≤ n ∧ v = .slice A k c ∧ Hid (wr.ownsRow w.heap.size 45 1 (.slice A k c) k (blk2 bs)) ∧ Hid (bs.length = k) ∧ Hid (∀ b ∈ bs, wr.heap[b]? = some (.cells z32 5 (0, 0))) ∧ Hid (Below w.heap.size w wr)) (fun v _ => match v with | .slice _ k _ => n - k | _ => 0)
  case atStart => exact ⟨0, 0, none, [], by omega, rfl, World.ownsRow_nil _ _ _ _, rfl, fun b hb => by simp at hb, Below.refl _ _⟩
  case round =>
    obtain ⟨k, c, A, bs, hk, rfl, HO, HL, HS, HB⟩ := hrel
    by_cases hlt : k < n
    · have hs := HB.out.size
      go_wp2_with (at_builtin; refine wpList_push (wr.alloc (.cells z32 5)) rfl _ _ 33 45 rfl w.heap.size (.slice none 0 0) 24 Try.underlying33 infoByt rfl (by omega) (.slice A k c) k _ (.slice (some ⟨wr.heap.size, 0, none⟩) 32 32) rfl (by simp [Act.eval]) rfl (HO.out.alloc _) (by simp; omega) (by omega) rfl ?_; intro g cap w1 ho hg hat hlt1)
      have hne : ∀ b : Nat, (wr.alloc (Obj.cells z32 5)).heap[b]? = some (Obj.cells z32 5 (0, 0)) → w1.heap[b]? = some (Obj.cells z32 5 (0, 0)) := fun b hb => (hg.block b (Array.getElem?_eq_some_iff.1 hb).1 (fun e => by
        obtain ⟨cur, hc⟩ := own_block (HO.out.alloc (.cells z32 5)) b e.symm
        rw [hb] at hc; cases hc)).trans hb
      refine ⟨⟨k + 1, cap, some ⟨g, 0, none⟩, bs ++ [wr.heap.size], by omega, rfl, ?_, ?_, fun b hb => ?_, below_grown (HB.out.alloc hs _) hg (by simp; omega) (own_row HO.out)⟩, by simp; omega⟩
      · show World.ownsRow _ _ _ _ _ _ _
        simpa [blk2] using ho
      · show _ = _
        rw [List.length_append, HL.out]; rfl
      · rcases List.mem_append.1 hb with h | h
        · have h1 := HS.out b h
          exact hne b (blk_below h1 (below_al wr _) (Array.getElem?_eq_some_iff.1 h1).1)
        · obtain rfl : b = wr.heap.size := by simpa using h
          exact hne _ (blk11 wr _)
    · obtain rfl : k = n := by omega
      go_wp2
      go_ret
      refine ⟨⟨A, c, rfl, bs.map (fun b => (some ⟨b, 0, none⟩, 32, 32)), by simp, by rw [List.length_map]; exact HL.out, ?_, fun j hj => ?_⟩, HB.out⟩
      · obtain ⟨A2, c2, e, _, hr⟩ := rd_ownN (by omega) HO.out
        cases e
        have e2 : (bs.map (fun b => ((some ⟨b, 0, none⟩ : Option Addr), 32, 32))).map sv = blk2 bs := by simp [blk2, sv]
        rw [e2]
        exact hr
      · have hj' : j < bs.length := by simpa using hj
        have h1 := HS.out bs[j] (List.getElem_mem hj')
        have e1 : nth (List.replicate k zrow) j = zrow := by
          have : j < k := by have := HL.out; omega
          simp [nth, this]
        rw [e1, List.getElem_map]
        refine ⟨by simp [zrow], rd_block (by rw [h1, z32_zrow]) 32 32 _ 0 (Nat.le_refl _) (by omega) (fun i hi => by simp), fun x hx => ?_⟩
        have := List.eq_of_mem_replicate hx
        omega
end Go.Proofs.Ytcgfoaihfncppaa
