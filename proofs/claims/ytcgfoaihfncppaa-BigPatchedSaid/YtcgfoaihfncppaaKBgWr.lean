/- Images of the call's own, whose rows may be stored into. No program in sight. -/
import Derived.Test.YtcgfoaihfncppaaKBgO
import Derived.Test.YtcgfoaihfncppaaKSel7
import Derived.Test.YtcgfoaihfncppaaKBgS
import Derived.Test.YtcgfoaihfncppaaKBg6
import Derived.Test.YtcgfoaihfncppaaKBgA
import Derived.Test.YtcgfoaihfncppaaKBgAl
import Derived.Test.YtcgfoaihfncppaaKBhE
import Derived.Test.YtcgfoaihfncppaaKBgF
set_option linter.unusedSimpArgs false
set_option linter.unusedVariables false
namespace Go.Sel.Bg
open Go.RowKit Go.Sel Go.Sel.Gra

/-- Block gc.1 (whose slice may grow to gc.2) holds a row of 32 bytes. -/
def RowB (B : Nat) (w : World) (gc : Nat × Nat) (row : List Int) : Prop :=
  ∃ cur T, w.heap[gc.1]? = some (.cells cur T (0, 0)) ∧ B ≤ gc.1 ∧ 32 ≤ gc.2 ∧ gc.2 ≤ 9223372036854775807 ∧ (∀ i, i < 32 → cur[i]? = some (.int .u8 (row.getD i 0))) ∧ row.length = 32 ∧ AllByte row
theorem RowB.lt {B : Nat} {w : World} {gc : Nat × Nat} {row : List Int} (h : RowB B w gc row) : gc.1 < w.heap.size := by
  obtain ⟨cur, T, h1, _⟩ := h
  exact (Array.getElem?_eq_some_iff.1 h1).1
theorem RowB.same {B : Nat} {w w' : World} {gc : Nat × Nat} {row : List Int} (h : RowB B w gc row) (e : w'.heap[gc.1]? = w.heap[gc.1]?) : RowB B w' gc row := by
  obtain ⟨cur, T, h1, h2⟩ := h
  exact ⟨cur, T, e.trans h1, h2⟩
theorem RowB.mono {B B' : Nat} {w : World} {gc : Nat × Nat} {row : List Int} (h : RowB B w gc row) (hb : B' ≤ B) : RowB B' w gc row := by
  obtain ⟨cur, T, h1, h2, h3⟩ := h
  exact ⟨cur, T, h1, Nat.le_trans hb h2, h3⟩
theorem RowB.cell {B : Nat} {w : World} {gc : Nat × Nat} {row : List Int} (h : RowB B w gc row) {i : Nat} (hi : i < 32) : w.cell? ⟨gc.1, i, none⟩ = some (.int .u8 (row.getD i 0)) ∧ w.frozen? ⟨gc.1, i, none⟩ = false := by
  obtain ⟨cur, T, h1, h2, h3, h4, h5, _⟩ := h
  exact ⟨by rw [blk_cell h1]; exact h5 i hi, blk_free h1 i⟩
theorem RowB.rd {B : Nat} {w : World} {gc : Nat × Nat} {row : List Int} (h : RowB B w gc row) : Rd w (some ⟨gc.1, 0, none⟩) 32 gc.2 (iv .u8 row) := by
  obtain ⟨cur, T, h1, h2, h3, h4, h5, h6, h7⟩ := h
  refine rd_block h1 32 gc.2 _ 0 h3 h4 fun j hj => ?_
  have hj' : j < row.length := by simpa using hj
  rw [Nat.zero_add, h5 j (by omega), iv_at, List.getD_eq_getElem?_getD, List.getElem?_eq_getElem hj']
  rfl
theorem RowB.set {B : Nat} {w : World} {gc : Nat × Nat} {row : List Int} (h : RowB B w gc row) {i : Nat} (hi : i < 32) {x : Int} (hx : 0 ≤ x ∧ x ≤ 255) : RowB B (w.setCell ⟨gc.1, i, none⟩ (.int .u8 x)) gc (row.set i x) := by
  obtain ⟨cur, T, h1, h2, h3, h4, h5, h6, h7⟩ := h
  refine ⟨_, T, blk_set h1 i _, h2, h3, h4, fun j hj => ?_, by simpa using h6, fun y hy => ?_⟩
  · have hsz : i < cur.size := (Array.getElem?_eq_some_iff.1 (h5 i hi)).1
    rw [List.getD_eq_getElem?_getD, List.getElem?_set]
    by_cases e : i = j
    · subst e
      rw [if_pos rfl, if_pos (by omega)]
      simp [hsz]
    · rw [if_neg e, Array.getElem?_setIfInBounds_ne e, h5 j hj, List.getD_eq_getElem?_getD]
  · rcases List.mem_or_eq_of_mem_set hy with h | rfl
    · exact h7 y h
    · exact hx
/-- '.slice (some g) n c' is an image of the call's own: rows D, in the blocks gs. -/
structure Wr (B : Nat) (w : World) (g n c : Nat) (D : List (List Int)) (gs : List (Nat × Nat)) : Prop where
  len : D.length = n
  glen : gs.length = n
  le : n ≤ c
  cap : c ≤ 9223372036854775807
  low : B ≤ g
  arr : ∃ cur T, w.heap[g]? = some (.cells cur T (0, 0)) ∧ cur.size = c ∧ ∀ j (h : j < gs.length), cur[j]? = some (.slice (some ⟨(gs[j]'h).1, 0, none⟩) 32 (gs[j]'h).2)
  row : ∀ j (h : j < gs.length), RowB B w (gs[j]'h) (nth D j)
  nd : (gs.map (·.1)).Nodup
  ne : g ∉ gs.map (·.1)
section
variable {B : Nat} {w w' : World} {g n c : Nat} {D : List (List Int)} {gs : List (Nat × Nat)}
theorem Wr.lt (h : Wr B w g n c D gs) : g < w.heap.size := by
  obtain ⟨cur, T, h1, _⟩ := h.arr
  exact (Array.getElem?_eq_some_iff.1 h1).1
theorem Wr.same (h : Wr B w g n c D gs) (hg : w'.heap[g]? = w.heap[g]?) (hr : ∀ b, b ∈ gs.map (·.1) → w'.heap[b]? = w.heap[b]?) : Wr B w' g n c D gs := by
  obtain ⟨cur, T, h1, h2⟩ := h.arr
  exact ⟨h.len, h.glen, h.le, h.cap, h.low, ⟨cur, T, hg.trans h1, h2⟩, fun j hj => (h.row j hj).same (hr _ (List.mem_map.2 ⟨_, List.getElem_mem hj, rfl⟩)), h.nd, h.ne⟩
theorem Wr.mem_lt (h : Wr B w g n c D gs) {b : Nat} (hb : b ∈ gs.map (·.1)) : b < w.heap.size ∧ B ≤ b := by
  obtain ⟨x, hx, rfl⟩ := List.mem_map.1 hb
  obtain ⟨j, hj, rfl⟩ := List.mem_iff_getElem.1 hx
  have h1 := h.row j hj
  have h2 := h1.lt
  obtain ⟨cur, T, _, h3, _⟩ := h1
  exact ⟨h2, h3⟩
theorem Wr.below (h : Wr B w g n c D gs) (hb : Below w.heap.size w w') : Wr B w' g n c D gs :=
  h.same (hb.block g h.lt) fun b hb' => hb.block b (h.mem_lt hb').1
theorem Wr.fr {S : Nat → Prop} (h : Wr B w g n c D gs) (hf : Fr S w w') (hS : ∀ b, S b → b < B) : Wr B w' g n c D gs :=
  h.same (hf.block g h.lt fun hs => by have := hS g hs; have := h.low; omega) fun b hb' => hf.block b (h.mem_lt hb').1 fun hs => by have := hS b hs; have := (h.mem_lt hb').2; omega
theorem Wr.mono {B' : Nat} (h : Wr B w g n c D gs) (hb : B' ≤ B) : Wr B' w g n c D gs :=
  ⟨h.len, h.glen, h.le, h.cap, Nat.le_trans hb h.low, h.arr, fun j hj => (h.row j hj).mono hb, h.nd, h.ne⟩
/-- Its cells. -/
theorem Wr.cell (h : Wr B w g n c D gs) {j : Nat} (hj : j < gs.length) : w.cell? ⟨g, j, none⟩ = some (.slice (some ⟨(gs[j]'hj).1, 0, none⟩) 32 (gs[j]'hj).2) ∧ w.frozen? ⟨g, j, none⟩ = false := by
  obtain ⟨cur, T, h1, h2, h3⟩ := h.arr
  exact ⟨by rw [blk_cell h1]; exact h3 j hj, blk_free h1 j⟩
theorem Wr.bp (h : Wr B w g n c D gs) : Bp w (some ⟨g, 0, none⟩) n c D := by
  obtain ⟨cur, T, h1, h2, h3⟩ := h.arr
  refine ⟨gs.map fun x => (some ⟨x.1, 0, none⟩, 32, x.2), h.len, by simpa using h.glen, rd_block h1 n c _ 0 h.le h.cap fun j hj => ?_, fun j hj => ?_⟩
  · have hj' : j < gs.length := by simpa using hj
    rw [Nat.zero_add, h3 j hj']
    simp [sv]
  · have hj' : j < gs.length := by simpa using hj
    have h4 := h.row j hj'
    have h5 := h4.rd
    obtain ⟨_, _, _, _, _, _, _, h6, h7⟩ := h4
    simp only [List.getElem_map]
    exact ⟨h6, h5, h7⟩
/-- A byte is stored. -/
theorem Wr.store (h : Wr B w g n c D gs) {j i : Nat} (hj : j < gs.length) (hi : i < 32) {x : Int} (hx : 0 ≤ x ∧ x ≤ 255) : Wr B (w.setCell ⟨(gs[j]'hj).1, i, none⟩ (.int .u8 x)) g n c (D.set j ((nth D j).set i x)) gs := by
  have hm : (gs[j]'hj).1 ∈ gs.map (·.1) := List.mem_map.2 ⟨_, List.getElem_mem hj, rfl⟩
  have hgj : g ≠ (gs[j]'hj).1 := fun e => h.ne (e ▸ hm)
  have hDj : j < D.length := by have := h.len; have := h.glen; omega
  obtain ⟨cur, T, h1, h2, h3⟩ := h.arr
  refine ⟨by simpa using h.len, h.glen, h.le, h.cap, h.low, ⟨cur, T, (Below.heap_setCell _ _ _ _ hgj).trans h1, h2, h3⟩, fun q hq => ?_, h.nd, h.ne⟩
  by_cases e : j = q
  · subst e
    have e1 : nth (D.set j ((nth D j).set i x)) j = (nth D j).set i x := by simp [nth, List.getD_eq_getElem?_getD, hDj]
    rw [e1]
    exact (h.row j hj).set hi hx
  · have e1 : nth (D.set j ((nth D j).set i x)) q = nth D q := by simp [nth, List.getD_eq_getElem?_getD, List.getElem?_set_ne e]
    rw [e1]
    refine (h.row q hq).same (Below.heap_setCell _ _ _ _ fun e2 => e ?_)
    have hn := h.nd
    rw [List.nodup_iff_pairwise_ne, List.pairwise_map, List.pairwise_iff_getElem] at hn
    rcases Nat.lt_trichotomy j q with hlt | rfl | hgt
    · exact absurd e2.symm (hn j q hj hq hlt)
    · rfl
    · exact absurd e2 (hn q j hq hj hgt)
/-- A row is put in the place of another one. -/
theorem Wr.replace (h : Wr B w g n c D gs) {j : Nat} (hj : j < gs.length) {gc : Nat × Nat} {row : List Int} (hr : RowB B w gc row) (hg : gc.1 ≠ g) (hn : gc.1 ∉ gs.map (·.1)) :
    Wr B (w.setCell ⟨g, j, none⟩ (.slice (some ⟨gc.1, 0, none⟩) 32 gc.2)) g n c (D.set j row) (gs.set j gc) := by
  have hDj : j < D.length := by have := h.len; have := h.glen; omega
  obtain ⟨cur, T, h1, h2, h3⟩ := h.arr
  have hjc : j < cur.size := (Array.getElem?_eq_some_iff.1 (h3 j hj)).1
  refine ⟨by simpa using h.len, by simpa using h.glen, h.le, h.cap, h.low, ⟨_, T, blk_set h1 j _, by simpa using h2, fun q hq => ?_⟩, fun q hq => ?_, ?_, ?_⟩
  · have hq' : q < gs.length := by simpa using hq
    by_cases e : j = q
    · subst e
      simp [hjc]
    · rw [Array.getElem?_setIfInBounds_ne e, h3 q hq']
      simp only [List.getElem_set_ne e]
  · have hq' : q < gs.length := by simpa using hq
    by_cases e : j = q
    · subst e
      have e1 : nth (D.set j row) j = row := by simp [nth, List.getD_eq_getElem?_getD, hDj]
      rw [e1]
      simp only [List.getElem_set_self]
      exact hr.same (Below.heap_setCell _ _ _ _ hg)
    · have e1 : nth (D.set j row) q = nth D q := by simp [nth, List.getD_eq_getElem?_getD, List.getElem?_set_ne e]
      rw [e1]
      simp only [List.getElem_set_ne e]
      refine (h.row q hq').same (Below.heap_setCell _ _ _ _ fun e2 => h.ne ?_)
      have e3 : (gs[q]'hq').1 = g := e2
      rw [← e3]
      exact List.mem_map.2 ⟨_, List.getElem_mem hq', rfl⟩
  · rw [List.map_set]
    have hnd := h.nd
    have hlen : j < (gs.map (·.1)).length := by simpa using hj
    rw [List.nodup_iff_pairwise_ne, List.pairwise_iff_getElem] at hnd ⊢
    intro a b ha hb hab
    have ha' : a < (gs.map (·.1)).length := by simpa using ha
    have hb' : b < (gs.map (·.1)).length := by simpa using hb
    rw [List.getElem_set, List.getElem_set]
    split
    · split
      · omega
      · exact fun e => hn (e ▸ List.getElem_mem hb')
    · split
      · exact fun e => hn (e ▸ List.getElem_mem ha')
      · exact hnd a b ha' hb' hab
  · rw [List.map_set]
    intro hm
    rcases List.mem_or_eq_of_mem_set hm with h5 | h5
    · exact h.ne h5
    · exact hg h5.symm
/-- One more row, where there is room for it. -/
theorem Wr.push (h : Wr B w g n c D gs) (hc : n < c) {gc : Nat × Nat} {row : List Int} (hr : RowB B w gc row) (hg : gc.1 ≠ g) (hn : gc.1 ∉ gs.map (·.1)) :
    Wr B (w.setCell ⟨g, n, none⟩ (.slice (some ⟨gc.1, 0, none⟩) 32 gc.2)) g (n + 1) c (D ++ [row]) (gs ++ [gc]) := by
  obtain ⟨cur, T, h1, h2, h3⟩ := h.arr
  have hl := h.len
  have hgl := h.glen
  refine ⟨by simp [hl], by simp [hgl], hc, h.cap, h.low, ⟨_, T, blk_set h1 n _, by simpa using h2, fun q hq => ?_⟩, fun q hq => ?_, ?_, ?_⟩
  · have hq' : q < n + 1 := by simpa [hgl] using hq
    by_cases e : n = q
    · subst e
      have e2 : (gs ++ [gc])[n]'hq = gc := by
        rw [List.getElem_append_right (by omega)]; simp [hgl]
      rw [e2]
      simp [h2, hc]
    · have hqg : q < gs.length := by omega
      rw [Array.getElem?_setIfInBounds_ne e, h3 q hqg]
      rw [List.getElem_append_left hqg]
  · have hq' : q < n + 1 := by simpa [hgl] using hq
    by_cases e : n = q
    · subst e
      have e2 : (gs ++ [gc])[n]'hq = gc := by
        rw [List.getElem_append_right (by omega)]; simp [hgl]
      have e1 : nth (D ++ [row]) n = row := by simp [nth, List.getD_eq_getElem?_getD, ← hl]
      rw [e1, e2]
      exact hr.same (Below.heap_setCell _ _ _ _ hg)
    · have hqg : q < gs.length := by omega
      have e1 : nth (D ++ [row]) q = nth D q := by simp [nth, List.getD_eq_getElem?_getD, List.getElem?_append_left (show q < D.length by omega)]
      rw [e1, List.getElem_append_left hqg]
      refine (h.row q hqg).same (Below.heap_setCell _ _ _ _ fun e2 => h.ne ?_)
      have e3 : (gs[q]'hqg).1 = g := e2
      rw [← e3]
      exact List.mem_map.2 ⟨_, List.getElem_mem hqg, rfl⟩
  · rw [List.map_append, List.nodup_append]
    refine ⟨h.nd, by simp, fun a ha b hb => ?_⟩
    simp only [List.map_cons, List.map_nil, List.mem_singleton] at hb
    subst hb
    exact fun e => hn (e ▸ ha)
  · rw [List.map_append]
    intro hm
    rcases List.mem_append.1 hm with h5 | h5
    · exact h.ne h5
    · simp only [List.map_cons, List.map_nil, List.mem_singleton] at h5
      exact hg h5.symm
/-- A row of the call's own. -/
theorem row_own {base cap : Nat} {A : Option Addr} {T : TypeId} {row : List Int} (h : w.ownsRow base T 1 (.slice A 32 cap) 32 (iv .u8 row)) (hx : AllByte row) : ∃ g, A = some ⟨g, 0, none⟩ ∧ RowB base w (g, cap) row := by
  rcases h.2 with ⟨h1, _⟩ | ⟨g, cap', cur, e, hb, hh, hn, hc, hs, ht⟩
  · cases h1
  · cases e
    refine ⟨g, rfl, cur, T, hh, hb, hn, by simpa [maxLen] using hc, fun i hi => ?_, by have := h.1; simpa using this, hx⟩
    have hrl : row.length = 32 := by have := h.1; simpa using this
    have h3 : (cur.toList.take (32 * 1))[i]? = (iv .u8 row)[i]? := by rw [ht]
    rw [Nat.mul_one, List.getElem?_take_of_lt hi] at h3
    rw [← Array.getElem?_toList, h3, List.getElem?_eq_getElem (by simp; omega), iv_at, List.getD_eq_getElem?_getD, List.getElem?_eq_getElem (by omega)]
    rfl
end
end Go.Sel.Bg
/- Walks of big's laws: blank. -/
set_option linter.unusedSimpArgs false
set_option linter.unusedVariables false
namespace Go.Proofs.Ytcgfoaihfncppaa
open Go.RowKit Go.Sel Go.Sel.Gra Go.Sel.Bg Go.Sel.Mer Go.Shelf

theorem infoByt : (Try.prog.info? 45).map (fun i => (i.zero, i.size, i.bytes)) = some (some (.slice none 0 0), 1, 24) := by kernel_rfl
theorem z32_zrow : z32 = (iv .u8 zrow).toArray := by simp [z32, zrow, iv]
def blk2 (bs : List Nat) : List Value := bs.map fun b => .slice (some ⟨b, 0, none⟩) 32 32

set_option maxRecDepth 100000 in
set_option maxHeartbeats 2000000 in
theorem blank_any (n : Nat) (hn : n ≤ 96) (w : World) : Calls Try.prog 27 #[.int .i64 (n : Int)] w fun e w' => (∃ A c, e = .returned (.slice A n c) ∧ Bp w' A n c (List.replicate n zrow)) ∧ Below w.heap.size w w' := by
  have hmk := mk32
  go_enter Try.func27, Try.ntmps27
  go_wp2
  go_loopw [3] (fun v wr => ∃ (k c : Nat) (A : Option Addr) (bs : List Nat), k ≤ n ∧ v = .slice A k c ∧ Hid (wr.ownsRow w.heap.size 45 1 (.slice A k c) k (blk2 bs)) ∧ Hid (bs.length = k) ∧ Hid (∀ b ∈ bs, wr.heap[b]? = some (.cells z32 5 (0, 0))) ∧ Hid (Below w.heap.size w wr)) (fun v _ => match v with | .slice _ k _ => n - k | _ => 0)
  case atStart => exact ⟨0, 0, none, [], by omega, rfl, World.ownsRow_nil _ _ _ _, rfl, fun b hb => by simp at hb, Below.refl _ _⟩
  case round =>
    obtain ⟨k, c, A, bs, hk, rfl, HO, HL, HS, HB⟩ := hrel
    by_cases hlt : k < n
    · have hs := HB.out.size
      go_wp2_with (at_builtin; refine wpList_push (wr.alloc (.cells z32 5)) rfl _ _ 33 45 rfl w.heap.size (.slice none 0 0) 24 Try.underlying33 infoByt rfl (by omega) (.slice A k c) k _ (.slice (some ⟨wr.heap.size, 0, none⟩) 32 32) rfl (by simp [Act.eval]) rfl (HO.out.alloc _) (by simp; omega) (by omega) rfl ?_; intro g cap w1 ho hg hat hlt1)
      have hne : ∀ b : Nat, (wr.alloc (Obj.cells z32 5)).heap[b]? = some (Obj.cells z32 5 (0, 0)) → w1.heap[b]? = some (Obj.cells z32 5 (0, 0)) := fun b hb => (hg.block b (Array.getElem?_eq_some_iff.1 hb).1 (fun e => by
        obtain ⟨cur, hc⟩ := own_block (HO.out.alloc (.cells z32 5)) b e.symm
        rw [hb] at hc; cases hc)).trans hb
      refine ⟨⟨k + 1, cap, some ⟨g, 0, none⟩, bs ++ [wr.heap.size], by omega, rfl, ?_, ?_, fun b hb => ?_, below_grown (HB.out.alloc hs _) hg (by simp; omega) (own_row HO.out)⟩, by simp; omega⟩
      · show World.ownsRow _ _ _ _ _ _ _
        simpa [blk2] using ho
      · show _ = _
        rw [List.length_append, HL.out]; rfl
      · rcases List.mem_append.1 hb with h | h
        · have h1 := HS.out b h
          exact hne b (blk_below h1 (below_al wr _) (Array.getElem?_eq_some_iff.1 h1).1)
        · obtain rfl : b = wr.heap.size := by simpa using h
          exact hne _ (blk11 wr _)
    · obtain rfl : k = n := by omega
      go_wp2
      go_ret
      refine ⟨⟨A, c, rfl, bs.map (fun b => (some ⟨b, 0, none⟩, 32, 32)), by simp, by rw [List.length_map]; exact HL.out, ?_, fun j hj => ?_⟩, HB.out⟩
      · obtain ⟨A2, c2, e, _, hr⟩ := rd_ownN (by omega) HO.out
        cases e
        have e2 : (bs.map (fun b => ((some ⟨b, 0, none⟩ : Option Addr), 32, 32))).map sv = blk2 bs := by simp [blk2, sv]
        rw [e2]
        exact hr
      · have hj' : j < bs.length := by simpa using hj
        have h1 := HS.out bs[j] (List.getElem_mem hj')
        have e1 : nth (List.replicate k zrow) j = zrow := by
          have : j < k := by have := HL.out; omega
          simp [nth, this]
        rw [e1, List.getElem_map]
        refine ⟨by simp [zrow], rd_block (by rw [h1, z32_zrow]) 32 32 _ 0 (Nat.le_refl _) (by omega) (fun i hi => by simp), fun x hx => ?_⟩
        have := List.eq_of_mem_replicate hx
        omega
end Go.Proofs.Ytcgfoaihfncppaa
/- Walks of big's reference: Copy of an image (rows that may be stored into). -/
set_option linter.unusedSimpArgs false
set_option linter.unusedVariables false
namespace Go.Proofs.Ytcgfoaihfncppaa
open Go.RowKit Go.Sel Go.Sel.Gra Go.Sel.Bg Go.Sel.Mer Go.Shelf

def gsv (gs : List (Nat × Nat)) : List Value := gs.map fun x => .slice (some ⟨x.1, 0, none⟩) 32 x.2
theorem own_wr {B : Nat} {w : World} {A : Option Addr} {n c : Nat} {D : List (List Int)} {gs : List (Nat × Nat)} (h : w.ownsRow B 45 1 (.slice A n c) n (gsv gs)) (hn : 0 < n) (hl : D.length = n) (hg : gs.length = n)
    (hr : ∀ j (h : j < gs.length), RowB B w (gs[j]'h) (nth D j)) (nd : (gs.map (·.1)).Nodup) (ne : ∀ g, (Value.slice A n c).ownBlock = some g → g ∉ gs.map (·.1)) : ∃ g, A = some ⟨g, 0, none⟩ ∧ Wr B w g n c D gs := by
  rcases h.2 with ⟨h1, h2, _⟩ | ⟨g, cap', cur, e, hb, hh, hnn, hc, hs, ht⟩
  · omega
  · cases e
    refine ⟨g, rfl, hl, hg, by simpa using hnn, by simpa [maxLen] using hc, hb, ⟨cur, _, hh, by simpa using hs, fun j hj => ?_⟩, hr, nd, ne g (by simp [Value.ownBlock])⟩
    have h3 : (cur.toList.take (n * 1))[j]? = (gsv gs)[j]? := by rw [ht]
    rw [Nat.mul_one, List.getElem?_take_of_lt (by omega)] at h3
    rw [← Array.getElem?_toList, h3]
    simp [gsv, hj]
set_option maxRecDepth 100000 in
set_option maxHeartbeats 2000000 in
theorem rCopy_wr (A : Option Addr) (n c : Nat) (D : List (List Int)) (w : World) (hD : Bp w A n c D) (hW : whole D) (hn0 : 0 < n) :
    Calls Try.prog 44 #[.slice A n c] w fun e w' => (∃ g c' gs, e = .returned (.slice (some ⟨g, 0, none⟩) n c') ∧ Wr w.heap.size w' g n c' D gs) ∧ Below w.heap.size w w' := by
  have HD := Lib.hid hD
  have HN := Lib.hid hD.len
  have hn : n ≤ 96 := by rw [← hD.len]; exact hW.1
  have HW := Lib.hid hW
  have l1 := hD.le
  have l2 := hD.cap
  clear hD hW
  go_enter Try.func44, Try.ntmps44
  go_wp2
  go_loopw [3, 4] (fun v3 v4 wr => ∃ (k c3 : Nat) (A3 : Option Addr) (gs : List (Nat × Nat)), k ≤ n ∧ v4 = .int .i64 k ∧ v3 = .slice A3 k c3 ∧ Hid (gs.length = k) ∧ Hid (wr.ownsRow w.heap.size 45 1 (.slice A3 k c3) k (gsv gs)) ∧ Hid (∀ j (h : j < gs.length), RowB w.heap.size wr (gs[j]'h) (nth D j)) ∧ Hid ((gs.map (·.1)).Nodup) ∧ Hid (∀ g, (Value.slice A3 k c3).ownBlock = some g → g ∉ gs.map (·.1)) ∧ Hid (Below w.heap.size w wr)) (fun _ v _ => n - (Go.RowKit.intOf v).toNat)
  case atStart => exact ⟨0, 0, none, [], by omega, rfl, rfl, rfl, World.ownsRow_nil _ _ _ _, fun j h => by simp at h, List.nodup_nil, fun g h => by simp [Value.ownBlock] at h, Below.refl _ _⟩
  case round =>
    obtain ⟨k, c3, A3, gs, hk, rfl, rfl, HL, HO, HRW, HND, HNE, HB⟩ := hrel
    by_cases hlt : k < n
    · obtain ⟨b, off, A', n', c', rfl, hb, hc, hl, hr, hx⟩ := (HD.out.below HB.out).at_ hlt
      have hkD : k < D.length := by rw [HN.out]; exact hlt
      have h32 : n' = 32 := by rw [← hl, nth_get hkD]; exact HW.out.2 _ (List.getElem_mem hkD)
      subst h32
      have hs := HB.out.size
      obtain ⟨v5, w5, hr5, ho5, hg5, ha5⟩ := run_extend (P := Try.prog) (w := wr.alloc (.cells #[] 5)) wr.heap.size 45 45 5 (.int .u8 0) 1 Try.underlying45 infoU8 rfl _ 0 [] (own_empty wr 5 wr.heap.size (Nat.le_refl _)) A' 32 c' (iv .u8 (nth D k)) (hr.alloc _) (by rw [iv_length, hl]) (one_iv _ _) (by simp only [maxLen]; omega) (by omega) (by simp)
      have HB5 : Hid (Below wr.heap.size wr w5) := Lib.hid (below_grown (below_al wr _) hg5 (by simp) (fun j hj => by simp [Value.ownBlock] at hj; omega))
      have hs5 := HB5.out.size
      obtain ⟨A5, c5, rfl, _, hrd⟩ := rd_ownN (by omega) ho5
      simp only [Nat.zero_add, List.nil_append] at ho5 hr5
      obtain ⟨g5, rfl, hrow⟩ := row_own ho5 hx
      have HROW := Lib.hid hrow
      have hg5l := hrow.lt
      have hg5b : wr.heap.size ≤ g5 := by obtain ⟨_, _, _, h2, _⟩ := hrow; exact h2
      have HR5 := Lib.hid hr5
      have HO5 := Lib.hid (own_below HO.out HB5.out (Nat.le_refl _))
      have HB6 := Lib.hid (below_then HB.out HB5.out)
      have HGS := Lib.hid (fun g (h : g ∈ gs.map (·.1)) => show g < wr.heap.size by
        obtain ⟨x, hx, rfl⟩ := List.mem_map.1 h
        obtain ⟨j, hj, rfl⟩ := List.mem_iff_getElem.1 hx
        exact (HRW.out j hj).lt)
      clear hl hr hx ho5 hg5 ha5 hr5 hrd hrow
      simp only at hg5l hg5b
      go_wp2_with (first
        | (at_builtin; refine wpList_append_run rfl _ _ _ _ rfl _ _ _ rfl rfl HR5.out ?_)
        | (at_builtin; refine wpList_push w5 rfl _ _ 33 45 rfl w.heap.size (.slice none 0 0) 24 Try.underlying33 infoByt rfl (by omega) (.slice A3 k c3) k _ (.slice (some ⟨g5, 0, none⟩) 32 c5) rfl (by simp [Act.eval]) rfl HO5.out (by omega) (by omega) rfl ?_; intro g cap w6 ho hg hat hlt1; have HO6 := Lib.hid ho; have HG := Lib.hid hg; have HAT := Lib.hid hat; clear ho hg hat))
      have hob : ∀ j, (Value.slice A3 k c3).ownBlock = some j → w.heap.size ≤ j ∧ j < wr.heap.size := fun j hj => HO.out.lt j hj
      refine ⟨⟨k + 1, cap, some ⟨g, 0, none⟩, gs ++ [(g5, c5)], by omega, by go_num, rfl, ?_, ?_, fun j h => ?_, ?_, fun g' h => ?_, below_grown HB6.out HG.out (by omega) (fun j hj => (hob j hj).1)⟩, by simp [Go.RowKit.intOf] <;> omega⟩
      · show _ = _
        rw [List.length_append, HL.out]; rfl
      · show World.ownsRow _ _ _ _ _ _ _
        have := HO6.out
        rw [gsv, List.map_append]
        exact this
      · have hj' : j < gs.length + 1 := by simpa using h
        by_cases e : j < gs.length
        · rw [List.getElem_append_left e]
          have h1 := HRW.out j e
          have hm : (gs[j]).1 ∈ gs.map (·.1) := List.mem_map.2 ⟨_, List.getElem_mem e, rfl⟩
          exact (h1.same (HB5.out.block _ h1.lt)).same (HG.out.block _ (by have := h1.lt; omega) (fun e2 => HNE.out _ e2.symm hm))
        · obtain rfl : j = gs.length := by omega
          rw [List.getElem_append_right (by omega)]
          have ek : gs.length = k := HL.out
          simp only [Nat.sub_self, List.getElem_cons_zero, ek]
          exact (HROW.out.mono hs).same (HG.out.block g5 hg5l (fun e2 => by have := (hob g5 e2.symm).2; omega))
      · show List.Nodup _
        rw [List.map_append, List.nodup_append]
        refine ⟨HND.out, by simp, fun a ha b hb => ?_⟩
        simp only [List.map_cons, List.map_nil, List.mem_singleton] at hb
        subst hb
        have := HGS.out a ha
        omega
      · have e : g = g' := by simpa [Value.ownBlock] using h
        subst e
        rw [List.map_append]
        intro hm
        rcases HAT.out with h3 | h3
        · have := (hob g h3).2
          rcases List.mem_append.1 hm with h5 | h5
          · exact HNE.out g h3 h5
          · simp only [List.map_cons, List.map_nil, List.mem_singleton] at h5
            omega
        · rcases List.mem_append.1 hm with h5 | h5
          · have := HGS.out g h5
            omega
          · simp only [List.map_cons, List.map_nil, List.mem_singleton] at h5
            omega
    · obtain rfl : k = n := by omega
      go_wp2
      go_ret
      obtain ⟨g, rfl, hwr⟩ := own_wr HO.out hn0 HN.out HL.out HRW.out HND.out HNE.out
      exact ⟨⟨g, c3, gs, rfl, hwr⟩, HB.out⟩
end Go.Proofs.Ytcgfoaihfncppaa
/- Walks of big's reference: Put (printed by gen_bhp.py). -/
set_option linter.unusedSimpArgs false
set_option linter.unusedVariables false
namespace Go.Proofs.Ytcgfoaihfncppaa
open Go.RowKit Go.Sel Go.Sel.Gra Go.Sel.Bg Go.Sel.Mer Go.Shelf

/-- A number of a file in a box is stored anew. -/
theorem box_set {w : World} {b : Nat} {t : List Int} (h : boxB w b t) (j : Nat) (x : Int) : boxB (w.setCell ⟨b, j, none⟩ (.int .i64 x)) b (t.set j x) := by
  have := blk_set h j (.int .i64 x)
  unfold boxB
  rw [this]
  congr 2
  simp [iv, List.map_set]
/-- What Put leaves behind. -/
def PutPost (w : World) (n : Nat) (D' : List (List Int)) (t' : List Int) (u : Nat) (e : Ending) (w' : World) : Prop :=
  (∃ Ao co, e = .returned (.tuple #[.slice Ao n co, bigV t', .int .i64 (u : Int), .int .i64 0]) ∧ Bp w' Ao n co D') ∧ Below w.heap.size w w'
theorem PutPost.of {w : World} {n : Nat} {D' : List (List Int)} {t' : List Int} {u : Nat} {e : Ending} {w' : World} (z0 z1 z2 z3 z4 z5 z6 z7 : Int) (ht : t' = [z0, z1, z2, z3, z4, z5, z6, z7]) (Ao : Option Addr) (co : Nat)
    (he : e = .returned (.tuple #[.slice Ao n co, .agg #[.int .i64 z0, .int .i64 z1, .int .i64 z2, .int .i64 z3, .int .i64 z4, .int .i64 z5, .int .i64 z6, .int .i64 z7], .int .i64 (u : Int), .int .i64 0])) (hb : Bp w' Ao n co D') (hB : Below w.heap.size w w') : PutPost w n D' t' u e w' := by
  subst ht
  exact ⟨⟨Ao, co, he, hb⟩, hB⟩
set_option maxRecDepth 100000 in
set_option maxHeartbeats 2000000 in
theorem rPut_no (A : Option Addr) (n c : Nat) (D : List (List Int)) (t : List Int) (k : Nat) (b : Int) (Af : Option Addr) (nf cf : Nat) (F : List Int) (ht : t.length = 8) (w : World) (hD : Bp w A n c D) (hR : Rt D t) (hF : Rd w Af nf cf (iv .i64 F)) (hlF : F.length = nf) (hO : RgPut n k b F) (hE : errL D t k b F ≠ 0) :
    Calls Try.prog 28 #[.slice A n c, bigV t, .int .i64 (k : Int), .int .i64 b, .slice Af nf cf] w fun e w' => e = .returned (.tuple #[.slice none 0 0, bigV zB, .int .i64 0, .int .i64 (errL D t k b F)]) ∧ Below w.heap.size w w' := by
  have HD := Lib.hid hD
  have HF := Lib.hid hF
  have HLF := Lib.hid hlF
  have HR := Lib.hid hR
  have HO := Lib.hid hO
  have hdn := hD.len
  have hn : n ≤ 96 := by rw [← hdn]; exact hR.1.1
  have hn0 : 0 < n := by have := hO.b0; have := hO.b1; omega
  have hl1 := hD.le
  have hl2 := hD.cap
  have hf1 := hF.le
  have hf2 := hF.cap
  have HMAY := Lib.hid (fun W (h : Bp W A n c D) (h2 : Rd W Af nf cf (iv .i64 F)) => rmay_any A n c D t k b Af nf cf F ht W h hR h2 hlF hO)
  have hbe : (errL D t k b F != 0) = true := by simpa using hE
  generalize errL D t k b F = er at *
  obtain ⟨a0, a1, a2, a3, a4, a5, a6, a7, ht8⟩ := len8 ht
  have HT8 := Lib.hid ht8
  have hbv : bigV t = .agg #[.int .i64 a0, .int .i64 a1, .int .i64 a2, .int .i64 a3, .int .i64 a4, .int .i64 a5, .int .i64 a6, .int .i64 a7] := by rw [ht8]; rfl
  have hiv : (iv .i64 t).toArray = #[.int .i64 a0, .int .i64 a1, .int .i64 a2, .int .i64 a3, .int .i64 a4, .int .i64 a5, .int .i64 a6, .int .i64 a7] := by rw [ht8]; rfl
  rw [hbv] at HMAY ⊢
  have HX0 : Hid (boxB ((w.alloc (.cells #[.int .i64 a0, .int .i64 a1, .int .i64 a2, .int .i64 a3, .int .i64 a4, .int .i64 a5, .int .i64 a6, .int .i64 a7] 36)).alloc (.cells #[.int .i64 0, .int .i64 0, .int .i64 0, .int .i64 0, .int .i64 0, .int .i64 0, .int .i64 0, .int .i64 0] 36)) w.heap.size t) := Lib.hid (by show _ = _; rw [hiv]; exact blk_below (blk11 w _) (below_al _ _) (by simp))
  have HX1 : Hid (boxB ((w.alloc (.cells #[.int .i64 a0, .int .i64 a1, .int .i64 a2, .int .i64 a3, .int .i64 a4, .int .i64 a5, .int .i64 a6, .int .i64 a7] 36)).alloc (.cells #[.int .i64 0, .int .i64 0, .int .i64 0, .int .i64 0, .int .i64 0, .int .i64 0, .int .i64 0, .int .i64 0] 36)) (w.heap.size + 1) [0, 0, 0, 0, 0, 0, 0, 0]) := Lib.hid (by have := blk11 (w.alloc (.cells #[.int .i64 a0, .int .i64 a1, .int .i64 a2, .int .i64 a3, .int .i64 a4, .int .i64 a5, .int .i64 a6, .int .i64 a7] 36)) (.cells #[.int .i64 0, .int .i64 0, .int .i64 0, .int .i64 0, .int .i64 0, .int .i64 0, .int .i64 0, .int .i64 0] 36); simpa [boxB, iv] using this)
  have HB0 : Hid (Below w.heap.size w ((w.alloc (.cells #[.int .i64 a0, .int .i64 a1, .int .i64 a2, .int .i64 a3, .int .i64 a4, .int .i64 a5, .int .i64 a6, .int .i64 a7] 36)).alloc (.cells #[.int .i64 0, .int .i64 0, .int .i64 0, .int .i64 0, .int .i64 0, .int .i64 0, .int .i64 0, .int .i64 0] 36))) := Lib.hid ((below_al w _).alloc (by simp) _)
  clear hD hR ht ht8 hbv hF hlF hO hiv
  go_enter Try.func28, Try.ntmps28
  go_upto_region 1 with (fail)
  generalize (w.alloc (.cells #[.int .i64 a0, .int .i64 a1, .int .i64 a2, .int .i64 a3, .int .i64 a4, .int .i64 a5, .int .i64 a6, .int .i64 a7] 36)).alloc (.cells #[.int .i64 0, .int .i64 0, .int .i64 0, .int .i64 0, .int .i64 0, .int .i64 0, .int .i64 0, .int .i64 0] 36) = W1 at *
  obtain ⟨gb, HGB⟩ : ∃ gb, Hid (w.heap.size = gb) := ⟨_, rfl⟩
  rw [HGB.out] at HX0 HX1 ⊢
  have hx0 := HX0.out
  have HTL := Lib.hid HT8.out
  rw [HT8.out] at hx0
  obtain ⟨d0, d1, d2, d3, d4, d5, d6, d7⟩ := big8 hx0
  have hg0 := (Array.getElem?_eq_some_iff.1 HX0.out).1
  have hg1 := (Array.getElem?_eq_some_iff.1 HX1.out).1
  go_upto_region 2 with (go_at_call 52; refine (HMAY.out _ (HD.out.below HB0.out) (HF.out.below HB0.out)).mono ?_; rintro e w2 ⟨rfl, hB⟩; have HX02 := Lib.hid (blk_below HX0.out hB hg0); have HX12 := Lib.hid (blk_below HX1.out hB hg1); have HB2 := Lib.hid (below_then HB0.out hB); clear hB)
  clear d0 d1 d2 d3 d4 d5 d6 d7 HX0 HX1 HB0 hx0 hg0 hg1 HMAY
  have hx1 : w2.heap[gb + 1]? = some (.cells #[.int .i64 0, .int .i64 0, .int .i64 0, .int .i64 0, .int .i64 0, .int .i64 0, .int .i64 0, .int .i64 0] 36 (0, 0)) := HX12.out
  have f1 := blk_free hx1
  obtain ⟨e0, e1, e2, e3, e4, e5, e6, e7⟩ := big8 hx1
  have HBn := Lib.hid (HB2.out.trans ((set8_fr w2 (gb + 1) (.int .i64 0) (.int .i64 0) (.int .i64 0) (.int .i64 0) (.int .i64 0) (.int .i64 0) (.int .i64 0) (.int .i64 0)).below (B := w.heap.size) HB2.out.size (fun q hq => by have := HGB.out; omega)))
  have HXn := Lib.hid (set8 hx1 (.int .i64 0) (.int .i64 0) (.int .i64 0) (.int .i64 0) (.int .i64 0) (.int .i64 0) (.int .i64 0) (.int .i64 0))
  clear hx1
  go_wp2
  generalize ((((((((w2.setCell ⟨gb + 1, 0, none⟩ (.int .i64 0)).setCell ⟨gb + 1, 1, none⟩ (.int .i64 0)).setCell ⟨gb + 1, 2, none⟩ (.int .i64 0)).setCell ⟨gb + 1, 3, none⟩ (.int .i64 0)).setCell ⟨gb + 1, 4, none⟩ (.int .i64 0)).setCell ⟨gb + 1, 5, none⟩ (.int .i64 0)).setCell ⟨gb + 1, 6, none⟩ (.int .i64 0)).setCell ⟨gb + 1, 7, none⟩ (.int .i64 0)) = W5 at *
  obtain ⟨s0, s1, s2, s3, s4, s5, s6, s7⟩ := big8 HXn.out
  refine bodyPost_ret (v := .tuple #[.slice none 0 0, .agg #[.int .i64 0, .int .i64 0, .int .i64 0, .int .i64 0, .int .i64 0, .int .i64 0, .int .i64 0, .int .i64 0], .int .i64 0, .int .i64 er]) ?_ rfl ?_
  · simp [results, Try.results28, go_sem, s0, s1, s2, s3, s4, s5, s6, s7]
  · exact ⟨rfl, HBn.out⟩
set_option maxRecDepth 100000 in
set_option maxHeartbeats 4000000 in
theorem rPut_k6 (A : Option Addr) (n c : Nat) (D : List (List Int)) (t : List Int) (k : Nat) (b : Int) (Af : Option Addr) (nf cf : Nat) (F : List Int) (ht : t.length = 8) (w : World) (hD : Bp w A n c D) (hR : Rt D t) (hF : Rd w Af nf cf (iv .i64 F)) (hlF : F.length = nf) (hO : RgPut n k b F) (hE : errL D t k b F = 0) (h6 : k < 6) :
    Calls Try.prog 28 #[.slice A n c, bigV t, .int .i64 (k : Int), .int .i64 b, .slice Af nf cf] w fun e w' => PutPost w n D (t.set k b) 0 e w' := by
  have hwn := (wayN k).1 h6
  have HD := Lib.hid hD
  have HF := Lib.hid hF
  have HLF := Lib.hid hlF
  have HR := Lib.hid hR
  have HO := Lib.hid hO
  have hdn := hD.len
  have hn : n ≤ 96 := by rw [← hdn]; exact hR.1.1
  have hn0 : 0 < n := by have := hO.b0; have := hO.b1; omega
  have hl1 := hD.le
  have hl2 := hD.cap
  have hf1 := hF.le
  have hf2 := hF.cap
  have HMAY := Lib.hid (fun W (h : Bp W A n c D) (h2 : Rd W Af nf cf (iv .i64 F)) => rmay_any A n c D t k b Af nf cf F ht W h hR h2 hlF hO)
  have HCP := Lib.hid (fun W (h : Bp W A n c D) => rCopy_wr A n c D W h hR.1 hn0)
  have HWY := Lib.hid (fun W => rWay_ok (k : Int) (show big (k : Int) by unfold big; have := hO.hk; omega) W)
  rw [hwn] at HWY
  obtain ⟨a0, a1, a2, a3, a4, a5, a6, a7, ht8⟩ := len8 ht
  have HT8 := Lib.hid ht8
  have hbv : bigV t = .agg #[.int .i64 a0, .int .i64 a1, .int .i64 a2, .int .i64 a3, .int .i64 a4, .int .i64 a5, .int .i64 a6, .int .i64 a7] := by rw [ht8]; rfl
  have hiv : (iv .i64 t).toArray = #[.int .i64 a0, .int .i64 a1, .int .i64 a2, .int .i64 a3, .int .i64 a4, .int .i64 a5, .int .i64 a6, .int .i64 a7] := by rw [ht8]; rfl
  rw [hbv] at HMAY ⊢
  have HX0 : Hid (boxB ((w.alloc (.cells #[.int .i64 a0, .int .i64 a1, .int .i64 a2, .int .i64 a3, .int .i64 a4, .int .i64 a5, .int .i64 a6, .int .i64 a7] 36)).alloc (.cells #[.int .i64 0, .int .i64 0, .int .i64 0, .int .i64 0, .int .i64 0, .int .i64 0, .int .i64 0, .int .i64 0] 36)) w.heap.size t) := Lib.hid (by show _ = _; rw [hiv]; exact blk_below (blk11 w _) (below_al _ _) (by simp))
  have HX1 : Hid (boxB ((w.alloc (.cells #[.int .i64 a0, .int .i64 a1, .int .i64 a2, .int .i64 a3, .int .i64 a4, .int .i64 a5, .int .i64 a6, .int .i64 a7] 36)).alloc (.cells #[.int .i64 0, .int .i64 0, .int .i64 0, .int .i64 0, .int .i64 0, .int .i64 0, .int .i64 0, .int .i64 0] 36)) (w.heap.size + 1) [0, 0, 0, 0, 0, 0, 0, 0]) := Lib.hid (by have := blk11 (w.alloc (.cells #[.int .i64 a0, .int .i64 a1, .int .i64 a2, .int .i64 a3, .int .i64 a4, .int .i64 a5, .int .i64 a6, .int .i64 a7] 36)) (.cells #[.int .i64 0, .int .i64 0, .int .i64 0, .int .i64 0, .int .i64 0, .int .i64 0, .int .i64 0, .int .i64 0] 36); simpa [boxB, iv] using this)
  have HB0 : Hid (Below w.heap.size w ((w.alloc (.cells #[.int .i64 a0, .int .i64 a1, .int .i64 a2, .int .i64 a3, .int .i64 a4, .int .i64 a5, .int .i64 a6, .int .i64 a7] 36)).alloc (.cells #[.int .i64 0, .int .i64 0, .int .i64 0, .int .i64 0, .int .i64 0, .int .i64 0, .int .i64 0, .int .i64 0] 36))) := Lib.hid ((below_al w _).alloc (by simp) _)
  clear hD hR ht ht8 hbv hF hlF hO hiv
  go_enter Try.func28, Try.ntmps28
  go_upto_region 1 with (fail)
  generalize (w.alloc (.cells #[.int .i64 a0, .int .i64 a1, .int .i64 a2, .int .i64 a3, .int .i64 a4, .int .i64 a5, .int .i64 a6, .int .i64 a7] 36)).alloc (.cells #[.int .i64 0, .int .i64 0, .int .i64 0, .int .i64 0, .int .i64 0, .int .i64 0, .int .i64 0, .int .i64 0] 36) = W1 at *
  obtain ⟨gb, HGB⟩ : ∃ gb, Hid (w.heap.size = gb) := ⟨_, rfl⟩
  rw [HGB.out] at HX0 HX1 ⊢
  have hx0 := HX0.out
  have HTL := Lib.hid HT8.out
  rw [HT8.out] at hx0
  obtain ⟨d0, d1, d2, d3, d4, d5, d6, d7⟩ := big8 hx0
  have hg0 := (Array.getElem?_eq_some_iff.1 HX0.out).1
  have hg1 := (Array.getElem?_eq_some_iff.1 HX1.out).1
  go_upto_region 2 with (go_at_call 52; refine (HMAY.out _ (HD.out.below HB0.out) (HF.out.below HB0.out)).mono ?_; rintro e w2 ⟨rfl, hB⟩; have HX02 := Lib.hid (blk_below HX0.out hB hg0); have HX12 := Lib.hid (blk_below HX1.out hB hg1); have HB2 := Lib.hid (below_then HB0.out hB); clear hB)
  clear d0 d1 d2 d3 d4 d5 d6 d7 HX0 HX1 HB0 hx0 hg0 hg1 HMAY
  rw [hE] at *
  go_upto_region 5 with (go_at_call 44; refine (HCP.out _ (HD.out.below HB2.out)).mono ?_; rintro e w3 ⟨⟨g, c', gs, rfl, hwr⟩, hB⟩; have HW3 := Lib.hid (hwr.mono (B' := gb + 2) (by have := (Array.getElem?_eq_some_iff.1 HX12.out).1; omega)); have HX03 := Lib.hid (blk_below HX02.out hB (Array.getElem?_eq_some_iff.1 HX02.out).1); have HX13 := Lib.hid (blk_below HX12.out hB (Array.getElem?_eq_some_iff.1 HX12.out).1); have HB3 := Lib.hid (below_then HB2.out hB); clear hwr hB)
  clear HX02 HX12 HB2 HCP
  go_upto_region 6 with (go_at_call 16; refine (HWY.out _).mono ?_; rintro e w4 ⟨⟨Aw, cw, rfl, hwy⟩, hB⟩; have HWW := Lib.hid hwy; have HW4 := Lib.hid (HW3.out.below hB); have HX04 := Lib.hid (blk_below HX03.out hB (Array.getElem?_eq_some_iff.1 HX03.out).1); have HX14 := Lib.hid (blk_below HX13.out hB (Array.getElem?_eq_some_iff.1 HX13.out).1); have HB4 := Lib.hid (below_then HB3.out hB); clear hwy hB)
  clear HX03 HX13 HB3 HW3 HWY
  have hlw := HWW.out.le
  have hlc := HWW.out.cap
  have HXf : Hid (boxB (w4.setCell ⟨gb, k, none⟩ (.int .i64 b)) gb (t.set k b)) := Lib.hid (box_set HX04.out k b)
  have HTL2 : Hid ((t.set k b).length = 8) := Lib.hid (by rw [List.length_set, HT8.out]; rfl)
  obtain ⟨t', ht'⟩ : ∃ t', t' = t.set k b := ⟨_, rfl⟩
  have HFk : Hid (Fr (· = gb) w4 (w4.setCell ⟨gb, k, none⟩ (.int .i64 b))) := Lib.hid (Fr.setCell (S := (· = gb)) (Fr.refl _ _) (p := ⟨gb, k, none⟩) (.inl rfl) _)
  have HXg : Hid (boxB (w4.setCell ⟨gb, k, none⟩ (.int .i64 b)) (gb + 1) [0, 0, 0, 0, 0, 0, 0, 0]) := Lib.hid ((HFk.out.block (gb + 1) (Array.getElem?_eq_some_iff.1 HX14.out).1 (by omega)).trans HX14.out)
  have HWf := Lib.hid (HW4.out.fr HFk.out (fun q hq => by omega))
  have HBf := Lib.hid (HB4.out.trans (HFk.out.below (B := w.heap.size) HB4.out.size (fun q hq => by have := HGB.out; omega)))
  have fk := blk_free HX04.out k
  have ck : ∃ x, w4.cell? ⟨gb, k, none⟩ = some (.int .i64 x) := by
    have hkl : k < t.length := by rw [HT8.out]; simp; omega
    exact ⟨t[k], by rw [blk_cell HX04.out]; simp [iv, hkl]⟩
  obtain ⟨xk, ck⟩ := ck
  rw [← ht'] at HXf HTL2
  have HTP := Lib.hid ht'
  clear ht'
  go_upto_region 8 with (fail)
  generalize w4.setCell ⟨gb, k, none⟩ (.int .i64 b) = W5 at *
  clear fk ck HX04 HX14 HW4 HB4 HFk
  obtain ⟨z0, z1, z2, z3, z4, z5, z6, z7, hz⟩ := len8 (t := t') HTL2.out
  have HZ := Lib.hid hz
  have hxz : W5.drew.heap[gb]? = some (.cells #[.int .i64 z0, .int .i64 z1, .int .i64 z2, .int .i64 z3, .int .i64 z4, .int .i64 z5, .int .i64 z6, .int .i64 z7] 36 (0, 0)) := by have := HXf.out; rw [hz] at this; exact this
  have hx1 : W5.drew.heap[gb + 1]? = some (.cells #[.int .i64 0, .int .i64 0, .int .i64 0, .int .i64 0, .int .i64 0, .int .i64 0, .int .i64 0, .int .i64 0] 36 (0, 0)) := HXg.out
  have f1 := blk_free hx1
  obtain ⟨e0, e1, e2, e3, e4, e5, e6, e7⟩ := big8 hx1
  have HFn := Lib.hid (set8_fr W5.drew (gb + 1) (.int .i64 z0) (.int .i64 z1) (.int .i64 z2) (.int .i64 z3) (.int .i64 z4) (.int .i64 z5) (.int .i64 z6) (.int .i64 z7))
  have HBn := Lib.hid (HBf.out.drew.trans (HFn.out.below (B := w.heap.size) HBf.out.drew.size (fun q hq => by have := HGB.out; omega)))
  have HXn := Lib.hid (set8 hx1 (.int .i64 z0) (.int .i64 z1) (.int .i64 z2) (.int .i64 z3) (.int .i64 z4) (.int .i64 z5) (.int .i64 z6) (.int .i64 z7))
  have HWn := Lib.hid ((HWf.out.below (Sel.below_drewN W5 1)).fr HFn.out (fun q hq => by omega)).bp
  have hzc := big8 hxz
  have HS : At (fun w' : World => w'.cell? ⟨gb, 0, none⟩ = some (.int .i64 z0) ∧ w'.cell? ⟨gb, 1, none⟩ = some (.int .i64 z1) ∧ w'.cell? ⟨gb, 2, none⟩ = some (.int .i64 z2) ∧ w'.cell? ⟨gb, 3, none⟩ = some (.int .i64 z3) ∧ w'.cell? ⟨gb, 4, none⟩ = some (.int .i64 z4) ∧ w'.cell? ⟨gb, 5, none⟩ = some (.int .i64 z5) ∧ w'.cell? ⟨gb, 6, none⟩ = some (.int .i64 z6) ∧ w'.cell? ⟨gb, 7, none⟩ = some (.int .i64 z7)) W5.drew := hzc
  have HSn : Hid (At (fun w' : World => w'.cell? ⟨gb, 0, none⟩ = some (.int .i64 z0) ∧ w'.cell? ⟨gb, 1, none⟩ = some (.int .i64 z1) ∧ w'.cell? ⟨gb, 2, none⟩ = some (.int .i64 z2) ∧ w'.cell? ⟨gb, 3, none⟩ = some (.int .i64 z3) ∧ w'.cell? ⟨gb, 4, none⟩ = some (.int .i64 z4) ∧ w'.cell? ⟨gb, 5, none⟩ = some (.int .i64 z5) ∧ w'.cell? ⟨gb, 6, none⟩ = some (.int .i64 z6) ∧ w'.cell? ⟨gb, 7, none⟩ = some (.int .i64 z7)) ((((((((W5.drew.setCell ⟨gb + 1, 0, none⟩ (.int .i64 z0)).setCell ⟨gb + 1, 1, none⟩ (.int .i64 z1)).setCell ⟨gb + 1, 2, none⟩ (.int .i64 z2)).setCell ⟨gb + 1, 3, none⟩ (.int .i64 z3)).setCell ⟨gb + 1, 4, none⟩ (.int .i64 z4)).setCell ⟨gb + 1, 5, none⟩ (.int .i64 z5)).setCell ⟨gb + 1, 6, none⟩ (.int .i64 z6)).setCell ⟨gb + 1, 7, none⟩ (.int .i64 z7))) := Lib.hid (big8 ((HFn.out.block gb (Array.getElem?_eq_some_iff.1 hxz).1 (by omega)).trans hxz))
  clear hx1 hxz hzc hz HXf HXg HBf HWf
  refine wp_region_lexD HS [0, 1, 2, 4, 5] (by kernel_rfl) (by kernel_rfl) (fun _ _ d _ _ h => by cases d <;> exact h) ?_
  generalize W5.drew = Wd at *
  refine lexD_take (by kernel_rfl) (by kernel_rfl) HS (fun w9 h9 => by obtain ⟨s0, s1, s2, s3, s4, s5, s6, s7⟩ := h9; go_simp; first | done | rfl) (fun K hK => ?_); go_simp; refine hK _ ?_; clear hK K
  refine lexD_take (by kernel_rfl) (by kernel_rfl) HS (fun w9 h9 => by obtain ⟨s0, s1, s2, s3, s4, s5, s6, s7⟩ := h9; go_simp; first | done | rfl) (fun K hK => ?_); go_simp; refine hK _ ?_; clear hK K
  refine lexD_take (by kernel_rfl) (by kernel_rfl) HS (fun w9 h9 => by obtain ⟨s0, s1, s2, s3, s4, s5, s6, s7⟩ := h9; go_simp; first | done | rfl) (fun K hK => ?_); go_simp; refine hK _ ?_; clear hK K
  refine lexD_do (by kernel_rfl) (by kernel_rfl) (fun K hK => ?_)
  go_simp
  generalize ((((((((Wd.setCell ⟨gb + 1, 0, none⟩ (.int .i64 z0)).setCell ⟨gb + 1, 1, none⟩ (.int .i64 z1)).setCell ⟨gb + 1, 2, none⟩ (.int .i64 z2)).setCell ⟨gb + 1, 3, none⟩ (.int .i64 z3)).setCell ⟨gb + 1, 4, none⟩ (.int .i64 z4)).setCell ⟨gb + 1, 5, none⟩ (.int .i64 z5)).setCell ⟨gb + 1, 6, none⟩ (.int .i64 z6)).setCell ⟨gb + 1, 7, none⟩ (.int .i64 z7)) = W9 at *
  have HS := HSn.out
  refine hK _ _ (fun _ => HS) ?_
  clear hK K e0 e1 e2 e3 e4 e5 e6 e7 f1
  refine lexD_take (by kernel_rfl) (by kernel_rfl) HS (fun w9 h9 => by obtain ⟨s0, s1, s2, s3, s4, s5, s6, s7⟩ := h9; go_simp; first | done | rfl) (fun K hK => ?_); go_simp; refine hK _ ?_; clear hK K
  refine lexD_take (by kernel_rfl) (by kernel_rfl) HS (fun w9 h9 => by obtain ⟨s0, s1, s2, s3, s4, s5, s6, s7⟩ := h9; go_simp; first | done | rfl) (fun K hK => ?_); go_simp; refine hK _ ?_; clear hK K
  refine lexD_nil ?_
  go_wp2
  obtain ⟨s0, s1, s2, s3, s4, s5, s6, s7⟩ := big8 HXn.out
  refine bodyPost_ret (v := .tuple #[.slice (some ⟨g, 0, none⟩) n c', .agg #[.int .i64 z0, .int .i64 z1, .int .i64 z2, .int .i64 z3, .int .i64 z4, .int .i64 z5, .int .i64 z6, .int .i64 z7], .int .i64 (0 : Int), .int .i64 0]) ?_ rfl ?_
  · simp [results, Try.results28, go_sem, s0, s1, s2, s3, s4, s5, s6, s7]
  · exact PutPost.of z0 z1 z2 z3 z4 z5 z6 z7 (HTP.out.symm.trans HZ.out) _ _ rfl HWn.out HBn.out
end Go.Proofs.Ytcgfoaihfncppaa
