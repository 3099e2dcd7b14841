/- Walks of big: copied, Right, Get. -/
import Derived.Test.YtcgfoaihfncppaaBg6
set_option linter.unusedSimpArgs false
set_option linter.unusedVariables false
namespace Go.Proofs.Ytcgfoaihfncppaa
open Go.RowKit Go.Sel Go.Sel.Gra Go.Sel.Bg Go.Sel.Mer Go.Shelf

theorem ip_nil (w : World) : Ip w none 0 0 [] := ⟨[], rfl, rfl, Rd.nil (c := 0) (by omega), fun j hj => by simp at hj⟩
theorem copied_big (A : Option Addr) (n c : Nat) (D : List (List Int)) (w : World) (hD : Bp w A n c D) (hn : n ≤ 96) (hW : whole D) :
    Calls Try.prog 32 #[.slice A n c] w fun e w' => (∃ A' c', e = .returned (.slice A' n c') ∧ Wb w.heap.size w' A' n c' D) ∧ Below w.heap.size w w' := by
  have HB := Lib.hid (Blocks_any none 0 0 [] none 0 0 [] A n c D w (ip_nil w) (Rd.nil (c := 0) (by omega)) rfl hD (by omega) (fun i hi => by
    have hbl : i < D.length := by rw [hD.len]; exact hi
    have : nth D i = D[i] := by simp [nth, hbl]
    rw [this, hW.2 _ (List.getElem_mem hbl)]; omega))
  clear hD hW
  have e : blocksL [] [] D = D := by simp [blocksL, blocksK]
  rw [e] at HB
  clear e
  go_enter Try.func32, Try.ntmps32
  go_wp2_with (go_at_call 58; (with_reducible refine HB.out.mono ?_); rintro e w2 ⟨⟨A', c', rfl, hw⟩, hB⟩; have HW := Lib.hid hw; have HB2 := Lib.hid hB; clear hw hB)
  go_ret
  exact ⟨⟨_, _, rfl, HW.out⟩, HB2.out⟩

/-- A file in a box of its own. -/
theorem big8 {w : World} {b : Nat} {a0 a1 a2 a3 a4 a5 a6 a7 : Int} {T : TypeId} (h : w.heap[b]? = some (.cells #[.int .i64 a0, .int .i64 a1, .int .i64 a2, .int .i64 a3, .int .i64 a4, .int .i64 a5, .int .i64 a6, .int .i64 a7] T (0, 0))) :
    w.cell? ⟨b, 0, none⟩ = some (.int .i64 a0) ∧ w.cell? ⟨b, 1, none⟩ = some (.int .i64 a1) ∧ w.cell? ⟨b, 2, none⟩ = some (.int .i64 a2) ∧ w.cell? ⟨b, 3, none⟩ = some (.int .i64 a3) ∧ w.cell? ⟨b, 4, none⟩ = some (.int .i64 a4) ∧ w.cell? ⟨b, 5, none⟩ = some (.int .i64 a5) ∧ w.cell? ⟨b, 6, none⟩ = some (.int .i64 a6) ∧ w.cell? ⟨b, 7, none⟩ = some (.int .i64 a7) := by
  have d := blk_cell h
  exact ⟨d 0, d 1, d 2, d 3, d 4, d 5, d 6, d 7⟩
def boxB (w : World) (b : Nat) (t : List Int) : Prop := w.heap[b]? = some (.cells (iv .i64 t).toArray 36 (0, 0))

set_option maxRecDepth 100000 in
set_option maxHeartbeats 2000000 in
theorem Right1_ok (A : Option Addr) (n c : Nat) (D : List (List Int)) (t : List Int) (ht : t.length = 8) (w : World) (b1 b2 : Nat) (h1 : w.cell? ⟨b1, 0, none⟩ = some (.slice A n c)) (h2 : boxB w b2 t) (hD : Bp w A n c D) (hR : Rt D t) :
    Calls Try.prog 38 #[.pointer (some ⟨b1, 0, none⟩), .pointer (some ⟨b2, 0, none⟩)] w fun e w' => e = .returned (.tuple #[]) ∧ Below w.heap.size w w' := by
  have HL := Lib.hid (look_ok A n c D t ht w hD hR)
  obtain ⟨a0, a1, a2, a3, a4, a5, a6, a7, rfl⟩ := len8 ht
  obtain ⟨d0, d1, d2, d3, d4, d5, d6, d7⟩ := big8 h2
  simp only [bigV, iv, List.map_cons, List.map_nil] at HL
  clear hD hR ht h2
  go_enter Try.func38, Try.ntmps38
  go_wp2_with (go_at_call 36; (with_reducible refine HL.out.mono ?_); rintro e w2 ⟨vb, mp, mt, vi, rfl, hV⟩; have HB := Lib.hid hV.hB; clear hV)
  go_end0
  exact ⟨rfl, HB.out⟩

set_option maxRecDepth 100000 in
set_option maxHeartbeats 2000000 in
theorem Right_ok (A : Option Addr) (n c : Nat) (D : List (List Int)) (t : List Int) (ht : t.length = 8) (w : World) (hD : Bp w A n c D) (hR : Rt D t) :
    Calls Try.prog 15 #[.slice A n c, bigV t] w fun e w' => e = .returned (.bool true) ∧ Below w.heap.size w w' := by
  have HX : Hid (∀ W, Below w.heap.size w W → W.cell? ⟨w.heap.size, 0, none⟩ = some (.slice A n c) → boxB W (w.heap.size + 1) t → Calls Try.prog 29 #[.func (.func 38) #[] #[.pointer (some ⟨w.heap.size, 0, none⟩), .pointer (some ⟨w.heap.size + 1, 0, none⟩)]] W fun e w' => e = .returned (.int .i64 0) ∧ Below W.heap.size W w') := by
    intro W hB h1 h2
    have hs : ∀ {o : Obj} {b : Nat}, b < W.heap.size → (W.alloc o).heap[b]? = W.heap[b]? := fun hb => (below_al W _).block _ hb
    have hl2 : w.heap.size + 1 < W.heap.size := (Array.getElem?_eq_some_iff.1 h2).1
    have h3 := Right1_ok A n c D t ht (W.alloc (.cells #[.int .i64 0] 24)) w.heap.size (w.heap.size + 1) (keep_cell h1 (below_al _ _)) ((hs hl2).trans h2) ((hD.below hB).below (below_al _ _)) hR
    refine (attempt_ok 38 #[.pointer (some ⟨w.heap.size, 0, none⟩), .pointer (some ⟨w.heap.size + 1, 0, none⟩)] (fun _ _ => by simp [go_sem]) W (fun _ => False) (fun _ => True) (fun _ h => h.elim) (h3.mono ?_)).mono ?_
    · rintro e w' ⟨rfl, hB⟩
      exact ⟨rfl, fr_of_below hB _, trivial⟩
    · rintro e w' ⟨rfl, hF, _⟩
      exact ⟨rfl, hF.below (Nat.le_refl _) (fun _ h => h.elim)⟩
  have hmf : ∀ (fn : Fn) (first cap : Array Value) (w : World), (Instr.makeFunc fn first cap).run Try.prog w = .ok (.func fn first cap) w := fun _ _ _ _ => rfl
  have HW : Hid (∀ o p : Obj, Below w.heap.size w ((w.alloc o).alloc p)) := Lib.hid fun o p => (below_al w _).alloc (by simp) _
  have h1 : ∀ p : Obj, ((w.alloc (.cells #[.slice A n c] 33)).alloc p).cell? ⟨w.heap.size, 0, none⟩ = some (.slice A n c) := fun p => keep_cell (by rw [blk_cell (blk11 w _)]; rfl) (below_al _ _)
  have h2 : ∀ o : Obj, boxB ((w.alloc o).alloc (.cells (iv .i64 t).toArray 36)) (w.heap.size + 1) t := fun o => by have := blk11 (w.alloc o) (.cells (iv .i64 t).toArray 36); simpa [boxB] using this
  have H1 := Lib.hid h1
  have H2 := Lib.hid h2
  clear h1 h2 hD hR
  obtain ⟨a0, a1, a2, a3, a4, a5, a6, a7, rfl⟩ := len8 ht
  simp only [bigV, iv, List.map_cons, List.map_nil] at H2 ⊢
  clear ht
  go_enter Try.func15, Try.ntmps15
  go_wp2_with (go_at_call 29; refine (HX.out _ (HW.out _ _) (H1.out _) (H2.out _)).mono ?_; rintro e w2 ⟨rfl, hB⟩; have HB := Lib.hid (below_then (HW.out _ _) hB); clear hB)
  go_ret
  exact ⟨rfl, HB.out⟩
end Go.Proofs.Ytcgfoaihfncppaa
