/- Walks of big: Get. -/
import Derived.Test.YtcgfoaihfncppaaBg7
set_option linter.unusedSimpArgs false
set_option linter.unusedVariables false
namespace Go.Proofs.Ytcgfoaihfncppaa
open Go.RowKit Go.Sel Go.Sel.Gra Go.Sel.Bg Go.Sel.Mer Go.Shelf

/-- An int in a box of its own. -/
def boxI (w : World) (b : Nat) (x : Int) : Prop := w.heap[b]? = some (.cells #[.int .i64 x] 3 (0, 0))
theorem boxI.cell {w : World} {b : Nat} {x : Int} (h : boxI w b x) : w.cell? ⟨b, 0, none⟩ = some (.int .i64 x) := by rw [blk_cell h]; rfl

set_option maxRecDepth 100000 in
set_option maxHeartbeats 2000000 in
theorem Get1_ok (A : Option Addr) (n c : Nat) (D : List (List Int)) (t : List Int) (k : Nat) (hk : k < 1062) (ht : t.length = 8) (w : World) (b1 b2 b3 b4 : Nat) (h1 : w.cell? ⟨b1, 0, none⟩ = some (.slice A n c)) (h2 : boxB w b2 t) (h3 : boxI w b3 (k : Int)) (x : Int) (h4 : boxI w b4 x) (hD : Bp w A n c D) (hR : Rt D t) :
    Calls Try.prog 35 #[.pointer (some ⟨b1, 0, none⟩), .pointer (some ⟨b2, 0, none⟩), .pointer (some ⟨b3, 0, none⟩), .pointer (some ⟨b4, 0, none⟩)] w fun e w' => e = .returned (.tuple #[]) ∧ Fr (· = b4) w w' ∧ boxI w' b4 (atK D t k) := by
  have HL := Lib.hid (look_ok A n c D t ht w hD hR)
  have H8 := Lib.hid ht
  have hl4 : b4 < w.heap.size := (Array.getElem?_eq_some_iff.1 h4).1
  have HB4 := Lib.hid h4
  have HB3 := Lib.hid h3
  have c3 := h3.cell
  obtain ⟨a0, a1, a2, a3, a4, a5, a6, a7, rfl⟩ := len8 ht
  obtain ⟨d0, d1, d2, d3, d4, d5, d6, d7⟩ := big8 h2
  simp only [bigV, iv, List.map_cons, List.map_nil] at HL
  have hk0 : (0 : Int) ≤ (k : Int) := by omega
  have hk1 : (k : Int) < 1062 := by omega
  clear hD hR ht h2 h3 h4
  go_enter Try.func35, Try.ntmps35
  go_wp2_with (first
    | (go_at_call 36; (with_reducible refine HL.out.mono ?_); rintro e w2 ⟨vb, mp, mt, vi, rfl, hV⟩; have HV := Lib.hid hV; have hB := hV.hB; have c3 := keep_cell c3 hB; have HB := Lib.hid hB; clear hV hB)
    | (go_at_call 37; (with_reducible refine (must_ok 2 _).mono ?_); rintro e w3 ⟨rfl, rfl⟩))
  obtain ⟨c0, c9, c10, c11, ct, cz⟩ := HV.out.cell rfl
  obtain ⟨l, hl, hp⟩ := HV.out.pl
  have hlk := (imap_at (w' := w3.drew) hl rfl).lookup (P := Try.prog) Try.underlying80 Try.underlying3 (zeroI w3.drew) (k : Int)
  rw [hp.at_ hk] at hlk
  clear ct cz c0 c10 c11 hl hp d0 d1 d2 d3 d4 d5 d6 d7
  go_still_tail 6, (by kernel_rfl)
  have h4 : w3.drew.heap[b4]? = some (.cells #[.int .i64 x] 3 (0, 0)) := blk_below HB4.out HB.out.drew hl4
  have e4 := blk_cell h4 0
  simp only [List.getElem?_toArray, List.getElem?_cons_zero] at e4
  have z4 := blk_free h4 0
  have HS := Lib.hid (blk_set h4 0 (.int .i64 (atK D [a0, a1, a2, a3, a4, a5, a6, a7] k)))
  have HF : Hid (Fr (· = b4) w (w3.drew.setCell ⟨b4, 0, none⟩ (.int .i64 (atK D [a0, a1, a2, a3, a4, a5, a6, a7] k)))) := Lib.hid (Fr.setCell (S := (· = b4)) (fr_of_below HB.out.drew _) (p := ⟨b4, 0, none⟩) (.inl rfl) _)
  clear h4 hlk c9
  go_wp2
  go_end0
  exact ⟨rfl, HF.out, HS.out⟩

set_option maxRecDepth 100000 in
set_option maxHeartbeats 2000000 in
theorem Get_ok (A : Option Addr) (n c : Nat) (D : List (List Int)) (t : List Int) (k : Nat) (hk : k < 1062) (ht : t.length = 8) (w : World) (hD : Bp w A n c D) (hR : Rt D t) :
    Calls Try.prog 14 #[.slice A n c, bigV t, .int .i64 (k : Int)] w fun e w' => e = .returned (.tuple #[.int .i64 (atK D t k), .int .i64 0]) ∧ Below w.heap.size w w' := by
  have HX : Hid (∀ W, Below w.heap.size w W → W.cell? ⟨w.heap.size, 0, none⟩ = some (.slice A n c) → boxB W (w.heap.size + 1) t → boxI W (w.heap.size + 2) (k : Int) → boxI W (w.heap.size + 3) 0 →
      Calls Try.prog 29 #[.func (.func 35) #[] #[.pointer (some ⟨w.heap.size, 0, none⟩), .pointer (some ⟨w.heap.size + 1, 0, none⟩), .pointer (some ⟨w.heap.size + 2, 0, none⟩), .pointer (some ⟨w.heap.size + 3, 0, none⟩)]] W fun e w' => e = .returned (.int .i64 0) ∧ Below w.heap.size w w' ∧ boxI w' (w.heap.size + 3) (atK D t k)) := by
    intro W hB h1 h2 h3 h4
    have hs : ∀ {o : Obj} {b : Nat}, b < W.heap.size → (W.alloc o).heap[b]? = W.heap[b]? := fun hb => (below_al W _).block _ hb
    have hl4 : w.heap.size + 3 < W.heap.size := (Array.getElem?_eq_some_iff.1 h4).1
    have h5 := Get1_ok A n c D t k hk ht (W.alloc (.cells #[.int .i64 0] 24)) w.heap.size (w.heap.size + 1) (w.heap.size + 2) (w.heap.size + 3) (keep_cell h1 (below_al _ _)) ((hs (by omega)).trans h2) ((hs (by omega)).trans h3) 0 ((hs (by omega)).trans h4) ((hD.below hB).below (below_al _ _)) hR
    refine (attempt_ok 35 #[.pointer (some ⟨w.heap.size, 0, none⟩), .pointer (some ⟨w.heap.size + 1, 0, none⟩), .pointer (some ⟨w.heap.size + 2, 0, none⟩), .pointer (some ⟨w.heap.size + 3, 0, none⟩)] (fun _ _ => by simp [go_sem]) W (· = w.heap.size + 3) (fun w' => boxI w' (w.heap.size + 3) (atK D t k)) (fun _ h => by omega) (h5.mono ?_)).mono ?_
    · rintro e w' ⟨rfl, hF, hb⟩
      exact ⟨rfl, hF, hb⟩
    · rintro e w' ⟨rfl, hF, hb⟩
      exact ⟨rfl, hB.trans (hF.below (B := w.heap.size) hB.size (fun _ h => by omega)), hb⟩
  have hmf : ∀ (fn : Fn) (first cap : Array Value) (w : World), (Instr.makeFunc fn first cap).run Try.prog w = .ok (.func fn first cap) w := fun _ _ _ _ => rfl
  have HW : Hid (∀ o p q r : Obj, Below w.heap.size w ((((w.alloc o).alloc p).alloc q).alloc r)) := Lib.hid fun o p q r => (((below_al w _).alloc (by simp) _).alloc (by simp <;> omega) _).alloc (by simp <;> omega) _
  have H1 : Hid (∀ p q r : Obj, ((((w.alloc (.cells #[.slice A n c] 33)).alloc p).alloc q).alloc r).cell? ⟨w.heap.size, 0, none⟩ = some (.slice A n c)) := Lib.hid fun p q r => keep_cell (keep_cell (keep_cell (by rw [blk_cell (blk11 w _)]; rfl) (below_al _ _)) (below_al _ _)) (below_al _ _)
  have H2 : Hid (∀ o q r : Obj, boxB ((((w.alloc o).alloc (.cells (iv .i64 t).toArray 36)).alloc q).alloc r) (w.heap.size + 1) t) := Lib.hid fun o q r => by
    have h := blk11 (w.alloc o) (.cells (iv .i64 t).toArray 36)
    have h' := blk_below (blk_below h (below_al _ q) (by simp)) (below_al _ r) (by simp <;> omega)
    simpa [boxB] using h'
  have H3 : Hid (∀ o p r : Obj, boxI ((((w.alloc o).alloc p).alloc (.cells #[.int .i64 (k : Int)] 3)).alloc r) (w.heap.size + 2) (k : Int)) := Lib.hid fun o p r => by
    have h := blk11 ((w.alloc o).alloc p) (.cells #[.int .i64 (k : Int)] 3)
    have h' := blk_below h (below_al _ r) (by simp)
    simpa [boxI] using h'
  have H4 : Hid (∀ o p q : Obj, boxI ((((w.alloc o).alloc p).alloc q).alloc (.cells #[.int .i64 0] 3)) (w.heap.size + 3) 0) := Lib.hid fun o p q => by
    have h := blk11 (((w.alloc o).alloc p).alloc q) (.cells #[.int .i64 0] 3)
    simpa [boxI] using h
  clear hD hR hk
  obtain ⟨a0, a1, a2, a3, a4, a5, a6, a7, rfl⟩ := len8 ht
  simp only [bigV, iv, List.map_cons, List.map_nil] at H2 ⊢
  clear ht
  go_enter Try.func14, Try.ntmps14
  go_wp2_with (go_at_call 29; refine (HX.out _ (HW.out _ _ _ _) (H1.out _ _ _) (H2.out _ _ _) (H3.out _ _ _) (H4.out _ _ _)).mono ?_; rintro e w2 ⟨rfl, hB, hb⟩; have HB := Lib.hid hB; have HBX := Lib.hid hb; have e4 := hb.cell; have z4 := blk_free hb 0; clear hB hb)
  rw [setCell_same HBX.out]
  refine bodyPost_ret (v := .tuple #[.int .i64 (atK D [a0, a1, a2, a3, a4, a5, a6, a7] k), .int .i64 0]) ?_ rfl ?_
  · simp [results, Try.results14, go_sem, e4]
  · exact ⟨rfl, HB.out⟩
end Go.Proofs.Ytcgfoaihfncppaa
