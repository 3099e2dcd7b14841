/- Images of the call's own: a row that is stored into, a row that is made anew. No program in sight. -/
import Derived.Test.YtcgfoaihfncppaaKBgWr
set_option linter.unusedSimpArgs false
set_option linter.unusedVariables false
namespace Go.Sel.Bg
open Go.RowKit Go.Sel Go.Sel.Gra
section
variable {B : Nat} {w w' : World} {g n c q : Nat} {D : List (List Int)} {gs : List (Nat × Nat)}
theorem Wr.pick (h : Wr B w g n c D gs) (hq : q < n) : ∃ rq cq, w.cell? ⟨g, q, none⟩ = some (.slice (some ⟨rq, 0, none⟩) 32 cq) ∧ w.frozen? ⟨g, q, none⟩ = false ∧ rq ∈ gs.map (·.1) ∧ 32 ≤ cq ∧ cq ≤ 9223372036854775807 ∧ B ≤ rq ∧ rq < w.heap.size ∧ (∀ i, i < 32 → w.cell? ⟨rq, i, none⟩ = some (.int .u8 ((nth D q).getD i 0)) ∧ w.frozen? ⟨rq, i, none⟩ = false) ∧
    ∀ i x, i < 32 → 0 ≤ x → x ≤ 255 → Wr B (w.setCell ⟨rq, i, none⟩ (.int .u8 x)) g n c (D.set q ((nth D q).set i x)) gs := by
  have hg : q < gs.length := by rw [h.glen]; exact hq
  have hm : (gs[q]'hg).1 ∈ gs.map (·.1) := List.mem_map.2 ⟨_, List.getElem_mem hg, rfl⟩
  have h1 := h.cell hg
  have h2 := h.row q hg
  obtain ⟨cur, T, h3, h4, h5, h6, _⟩ := h.row q hg
  exact ⟨(gs[q]'hg).1, (gs[q]'hg).2, h1.1, h1.2, hm, h5, h6, h4, h2.lt, fun i hi => h2.cell hi, fun i x hi hx0 hx1 => h.store hg hi ⟨hx0, hx1⟩⟩
theorem Wr.fresh (h : Wr B w g n c D gs) (hq : q < n) (hB : B ≤ w.heap.size) (T : TypeId) : ∃ gs', Wr B ((w.alloc (.cells (iv .u8 zrow).toArray T)).setCell ⟨g, q, none⟩ (.slice (some ⟨w.heap.size, 0, none⟩) 32 32)) g n c (D.set q zrow) gs' ∧ ∀ x, x ∈ gs'.map (·.1) → x ∈ gs.map (·.1) ∨ x = w.heap.size := by
  have hg : q < gs.length := by rw [h.glen]; exact hq
  have hgl := h.lt
  have h1 := h.below (below_al w (.cells (iv .u8 zrow).toArray T))
  have hr : RowB B (w.alloc (.cells (iv .u8 zrow).toArray T)) (w.heap.size, 32) zrow := ⟨_, T, blk11 w _, hB, Nat.le_refl _, by omega, fun i hi => by
    have hz : i < zrow.length := by simpa [zrow] using hi
    rw [List.getElem?_toArray, List.getElem?_eq_getElem (by rw [iv_length]; exact hz), iv_at, List.getD_eq_getElem?_getD, List.getElem?_eq_getElem hz]
    rfl, by simp [zrow], fun x hx => by have := List.eq_of_mem_replicate hx; omega⟩
  refine ⟨gs.set q (w.heap.size, 32), h1.replace (gc := (w.heap.size, 32)) hg hr (by simp only; omega) (fun hm => by have := (h.mem_lt hm).1; simp only at this; omega), fun x hx => ?_⟩
  rw [List.map_set] at hx
  rcases List.mem_or_eq_of_mem_set hx with h5 | h5
  · exact .inl h5
  · exact .inr h5
end
end Go.Sel.Bg
namespace Go.Proofs.Ytcgfoaihfncppaa
open Go.RowKit Go.Sel Go.Sel.Gra Go.Sel.Bg Go.Sel.Mer Go.Shelf
/-- Way makes a new row. -/
theorem rWay_at (k : Int) (hk : big k) (w : World) : Calls Try.prog 16 #[.int .i64 k] w fun e w' => e = .returned (.tuple #[.slice (some ⟨w.heap.size, 0, none⟩) (wayL k).length (wayL k).length, .int .i64 0]) ∧ w' = w.alloc (.cells (iv .i64 (wayL k)).toArray 3) := by
  unfold big at hk
  by_cases h6 : k < 6
  · have hw : Hid (wayL k = [k]) := Lib.hid (by simp [wayL, h6])
    go_enter Try.func16, Try.ntmps16
    go_wp2
    go_ret2
    rw [hw.out]
    exact ⟨rfl, rfl⟩
  · by_cases h38 : k < 38
    · have hw : Hid (wayL k = [6, k - 6]) := Lib.hid (by simp [wayL, h6, h38])
      have e1 : IntKind.i64.wrap (k - 6) = k - 6 := IntWalk.i64_in _ (by omega)
      go_enter Try.func16, Try.ntmps16
      go_wp2
      go_ret2
      rw [hw.out]
      exact ⟨rfl, rfl⟩
    · have hw : Hid (wayL k = [7, (k - 38) / 32, (k - 38) % 32]) := Lib.hid (by simp [wayL, h6, h38])
      go_enter Try.func16, Try.ntmps16
      go_wp2
      go_ret2
      rw [hw.out]
      exact ⟨rfl, rfl⟩
/-- How far a Put is: the image of its own, the file's box, the result's box, the way. -/
structure PSt (w W : World) (gb ab g n c' : Nat) (D : List (List Int)) (t : List Int) (wy : Array Value) (gs : List (Nat × Nat)) : Prop where
  wr : Wr (gb + 2) W g n c' D gs
  x0 : boxB W gb t
  x1 : boxB W (gb + 1) [0, 0, 0, 0, 0, 0, 0, 0]
  y : W.heap[ab]? = some (.cells wy 3 (0, 0))
  bl : Below w.heap.size w W
  na : g ≠ ab ∧ ∀ x ∈ gs.map (·.1), x ≠ ab
  gab : gb + 1 < ab
  le : w.heap.size = gb
section
variable {w W W' : World} {gb ab g n c' : Nat} {D : List (List Int)} {t : List Int} {wy : Array Value} {gs : List (Nat × Nat)}
theorem box_at {b : Nat} (h : boxB W b t) {j : Nat} (hj : j < t.length) : W.cell? ⟨b, j, none⟩ = some (.int .i64 (tp t j)) ∧ W.frozen? ⟨b, j, none⟩ = false := by
  refine ⟨?_, blk_free h j⟩
  rw [blk_cell h, List.getElem?_toArray, List.getElem?_eq_getElem (by rw [iv_length]; exact hj), iv_at, tp, List.getD_eq_getElem?_getD, List.getElem?_eq_getElem hj]
  rfl
theorem PSt.below (h : PSt w W gb ab g n c' D t wy gs) (hB : Below W.heap.size W W') : PSt w W' gb ab g n c' D t wy gs :=
  ⟨h.wr.below hB, blk_below h.x0 hB (Array.getElem?_eq_some_iff.1 h.x0).1, blk_below h.x1 hB (Array.getElem?_eq_some_iff.1 h.x1).1, blk_below h.y hB (Array.getElem?_eq_some_iff.1 h.y).1, below_then h.bl hB, h.na, h.gab, h.le⟩
theorem PSt.drew (h : PSt w W gb ab g n c' D t wy gs) : PSt w W.drew gb ab g n c' D t wy gs := h.below (Sel.below_drewN W 1)
theorem PSt.way (h : PSt w W gb ab g n c' D t wy gs) {j : Nat} {v : Value} (hv : wy[j]? = some v) : W.cell? ⟨ab, j, none⟩ = some v := by rw [blk_cell h.y]; exact hv
theorem PSt.far (h : PSt w W gb ab g n c' D t wy gs) {b j : Nat} {v : Value} {D' : List (List Int)} (hb : gb + 2 ≤ b) (hab : b ≠ ab) (hW : Wr (gb + 2) (W.setCell ⟨b, j, none⟩ v) g n c' D' gs) : PSt w (W.setCell ⟨b, j, none⟩ v) gb ab g n c' D' t wy gs :=
  ⟨hW, (Below.heap_setCell _ _ _ _ (by simp only; omega)).trans h.x0, (Below.heap_setCell _ _ _ _ (by simp only; omega)).trans h.x1, (Below.heap_setCell _ _ _ _ (by simp only; omega)).trans h.y, h.bl.setCell (by have := h.le; simp only; omega) _, h.na, h.gab, h.le⟩
/-- A byte is stored into a row. -/
theorem PSt.pick (h : PSt w W gb ab g n c' D t wy gs) {q : Nat} (hq : q < n) : ∃ rq cq, W.cell? ⟨g, q, none⟩ = some (.slice (some ⟨rq, 0, none⟩) 32 cq) ∧ W.frozen? ⟨g, q, none⟩ = false ∧ 32 ≤ cq ∧ cq ≤ 9223372036854775807 ∧ (∀ i, i < 32 → W.cell? ⟨rq, i, none⟩ = some (.int .u8 ((nth D q).getD i 0)) ∧ W.frozen? ⟨rq, i, none⟩ = false) ∧
    ∀ i x, i < 32 → 0 ≤ x → x ≤ 255 → PSt w (W.setCell ⟨rq, i, none⟩ (.int .u8 x)) gb ab g n c' (D.set q ((nth D q).set i x)) t wy gs := by
  obtain ⟨rq, cq, h1, h2, h3, h4, h5, h6, h7, h8, h9⟩ := h.wr.pick hq
  exact ⟨rq, cq, h1, h2, h4, h5, h8, fun i x hi hx0 hx1 => h.far h6 (h.na.2 _ h3) (h9 i x hi hx0 hx1)⟩
/-- A row is made anew. -/
theorem PSt.fresh (h : PSt w W gb ab g n c' D t wy gs) {q : Nat} (hq : q < n) (T : TypeId) : ∃ gs', PSt w ((W.alloc (.cells (iv .u8 zrow).toArray T)).setCell ⟨g, q, none⟩ (.slice (some ⟨W.heap.size, 0, none⟩) 32 32)) gb ab g n c' (D.set q zrow) t wy gs' := by
  have hy := (Array.getElem?_eq_some_iff.1 h.y).1
  obtain ⟨gs', h1, h2⟩ := h.wr.fresh hq (by have := h.gab; omega) T
  have h3 := h.below (below_al W (.cells (iv .u8 zrow).toArray T))
  have hlow := h.wr.low
  refine ⟨gs', h1, (Below.heap_setCell _ _ _ _ (by simp only; omega)).trans h3.x0, (Below.heap_setCell _ _ _ _ (by simp only; omega)).trans h3.x1, (Below.heap_setCell _ _ _ _ (by simp only; exact fun e => h.na.1 e.symm)).trans h3.y, h3.bl.setCell (by have := h.le; simp only; omega) _, ⟨h.na.1, fun x hx => ?_⟩, h.gab, h.le⟩
  rcases h2 x hx with h5 | h5
  · exact h.na.2 x h5
  · omega
/-- A number of the file is stored. -/
theorem PSt.num (h : PSt w W gb ab g n c' D t wy gs) (j : Nat) (x : Int) : PSt w (W.setCell ⟨gb, j, none⟩ (.int .i64 x)) gb ab g n c' D (t.set j x) wy gs := by
  have hf : Fr (· = gb) W (W.setCell ⟨gb, j, none⟩ (.int .i64 x)) := Fr.setCell (S := (· = gb)) (Fr.refl _ _) (p := ⟨gb, j, none⟩) (.inl rfl) _
  exact ⟨h.wr.fr hf (fun b hb => by omega), box_set h.x0 j x, (Below.heap_setCell _ _ _ _ (by simp only; omega)).trans h.x1, (Below.heap_setCell _ _ _ _ (by have := h.gab; simp only; omega)).trans h.y, h.bl.setCell (by have := h.le; simp only; omega) _, h.na, h.gab, h.le⟩
end
end Go.Proofs.Ytcgfoaihfncppaa
