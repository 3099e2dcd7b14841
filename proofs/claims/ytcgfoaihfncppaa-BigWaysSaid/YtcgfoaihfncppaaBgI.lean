/- Walks of big: Patches; Put, answered in all cases. -/
import Derived.Test.YtcgfoaihfncppaaBgH
set_option linter.unusedSimpArgs false
set_option linter.unusedVariables false
namespace Go.Proofs.Ytcgfoaihfncppaa
open Go.RowKit Go.Sel Go.Sel.Gra Go.Sel.Bg Go.Sel.Mer Go.Shelf

def patBoxes (A : Option Addr) (n c : Nat) (t : List Int) (k b : Int) (Af : Option Addr) (nf cf : Nat) : List Obj :=
  [.cells #[.slice A n c] 33, .cells (iv .i64 t).toArray 36, .cells #[.int .i64 k] 3, .cells #[.int .i64 b] 3, .cells #[.slice Af nf cf] 23, .cells #[.slice none 0 0] 51]
def patCap (s : Nat) : Array Value := #[.pointer (some ⟨s, 0, none⟩), .pointer (some ⟨s + 1, 0, none⟩), .pointer (some ⟨s + 1 + 1, 0, none⟩), .pointer (some ⟨s + 1 + 1 + 1, 0, none⟩), .pointer (some ⟨s + 1 + 1 + 1 + 1, 0, none⟩), .pointer (some ⟨s + 1 + 1 + 1 + 1 + 1, 0, none⟩)]
theorem Pat_att (A : Option Addr) (n c : Nat) (t : List Int) (k b : Int) (Af : Option Addr) (nf cf : Nat) (t' : List Int) (L : List It) (m : Nat) (u : Int) (ht : t.length = 8) (ht' : t'.length = 8) (w : World)
    (hP : ∀ W, Below w.heap.size w W → Calls Try.prog 31 #[.slice A n c, bigV t, .int .i64 k, .int .i64 b, .slice Af nf cf] W fun e w' => ∃ Ai ci, e = .returned (.agg (putC t' (.slice Ai m ci) u)) ∧ PI W.heap.size w' (.slice Ai m ci) m L ∧ Below W.heap.size W w')
    (W : World) (hW0 : W = allocs w (patBoxes A n c t k b Af nf cf)) :
    Calls Try.prog 29 #[.func (.func 41) #[] (patCap w.heap.size)] W fun e w' => e = .returned (.int .i64 0) ∧ Below w.heap.size w w' ∧
      ∃ Ai ci, w'.heap[w.heap.size + 1 + 1 + 1 + 1 + 1]? = some (.cells #[.slice Ai m ci] 51 (0, 0)) ∧ ∃ B, w.heap.size ≤ B ∧ PI B w' (.slice Ai m ci) m L := by
  have hsz : W.heap.size = w.heap.size + 6 := by rw [hW0, allocs_size]; rfl
  have hBW : Below w.heap.size w W := hW0 ▸ allocs_below _ w
  have hat : ∀ i (h : i < (patBoxes A n c t k b Af nf cf).length), (W.alloc (.cells #[.int .i64 0] 24)).heap[w.heap.size + i]? = some (patBoxes A n c t k b Af nf cf)[i] := fun i h => by
    have h1 := allocs_at (patBoxes A n c t k b Af nf cf) w i h
    rw [← hW0] at h1
    exact blk_below h1 (below_al W _) (by rw [hsz]; simp [patBoxes] at h; omega)
  have hBV : Below w.heap.size w (W.alloc (.cells #[.int .i64 0] 24)) := hBW.alloc (by omega) _
  have g0 : (W.alloc (.cells #[.int .i64 0] 24)).heap[w.heap.size]? = _ := hat 0 (by simp [patBoxes])
  have g1 := hat 1 (by simp [patBoxes])
  have g2 := hat 2 (by simp [patBoxes])
  have g3 := hat 3 (by simp [patBoxes])
  have g4 := hat 4 (by simp [patBoxes])
  have g5 := hat 5 (by simp [patBoxes])
  have h5 := Patches1_ok A n c t k b Af nf cf t' L m u ht ht' (W.alloc (.cells #[.int .i64 0] 24)) w.heap.size (w.heap.size + 1) (w.heap.size + 2) (w.heap.size + 3) (w.heap.size + 4) (w.heap.size + 5)
    (by rw [blk_cell g0]; rfl) g1 g2 g3 (by rw [blk_cell g4]; rfl) g5 (hP _ hBV)
  refine (attempt_ok 41 (patCap w.heap.size) (fun _ _ => by simp [go_sem]) W (· = w.heap.size + 5) (fun w' => ∃ Ai ci, w'.heap[w.heap.size + 5]? = some (.cells #[.slice Ai m ci] 51 (0, 0)) ∧ ∃ B, w.heap.size ≤ B ∧ PI B w' (.slice Ai m ci) m L) (fun _ h => by omega) (h5.mono ?_)).mono ?_
  · rintro e w' ⟨rfl, hF, Ai, ci, h8, h9⟩
    exact ⟨rfl, hF, Ai, ci, h8, _, hBV.size, h9⟩
  · rintro e w' ⟨rfl, hF, hb⟩
    exact ⟨rfl, hBW.trans (hF.below (B := w.heap.size) hBW.size (fun _ h => by omega)), hb⟩
theorem Pat_attno (A : Option Addr) (n c : Nat) (t : List Int) (k b : Int) (Af : Option Addr) (nf cf : Nat) (why : Int) (ht : t.length = 8) (w : World)
    (hP : ∀ W, Below w.heap.size w W → Calls Try.prog 31 #[.slice A n c, bigV t, .int .i64 k, .int .i64 b, .slice Af nf cf] W fun e w' => e = .panicked (gives why) ∧ Below W.heap.size W w')
    (W : World) (hW0 : W = allocs w (patBoxes A n c t k b Af nf cf)) :
    Calls Try.prog 29 #[.func (.func 41) #[] (patCap w.heap.size)] W fun e w' => e = .returned (.int .i64 why) ∧ Below w.heap.size w w' ∧ w'.heap[w.heap.size + 1 + 1 + 1 + 1 + 1]? = some (.cells #[.slice none 0 0] 51 (0, 0)) := by
  have hsz : W.heap.size = w.heap.size + 6 := by rw [hW0, allocs_size]; rfl
  have hBW : Below w.heap.size w W := hW0 ▸ allocs_below _ w
  have hat : ∀ i (h : i < (patBoxes A n c t k b Af nf cf).length), (W.alloc (.cells #[.int .i64 0] 24)).heap[w.heap.size + i]? = some (patBoxes A n c t k b Af nf cf)[i] := fun i h => by
    have h1 := allocs_at (patBoxes A n c t k b Af nf cf) w i h
    rw [← hW0] at h1
    exact blk_below h1 (below_al W _) (by rw [hsz]; simp [patBoxes] at h; omega)
  have hBV : Below w.heap.size w (W.alloc (.cells #[.int .i64 0] 24)) := hBW.alloc (by omega) _
  have g0 : (W.alloc (.cells #[.int .i64 0] 24)).heap[w.heap.size]? = _ := hat 0 (by simp [patBoxes])
  have g1 := hat 1 (by simp [patBoxes])
  have g2 := hat 2 (by simp [patBoxes])
  have g3 := hat 3 (by simp [patBoxes])
  have g4 := hat 4 (by simp [patBoxes])
  have h5 := Patches1_no A n c t k b Af nf cf why ht (W.alloc (.cells #[.int .i64 0] 24)) w.heap.size (w.heap.size + 1) (w.heap.size + 2) (w.heap.size + 3) (w.heap.size + 4) (.pointer (some ⟨w.heap.size + 5, 0, none⟩))
    (by rw [blk_cell g0]; rfl) g1 g2 g3 (by rw [blk_cell g4]; rfl) (hP _ hBV)
  have q5 := allocs_at (patBoxes A n c t k b Af nf cf) w 5 (by simp [patBoxes])
  rw [← hW0] at q5
  refine (attempt_no 41 (patCap w.heap.size) (fun _ _ => by simp [go_sem]) why W (fun _ => False) (fun _ h => h.elim) (h5.mono ?_)).mono ?_
  · rintro e w' ⟨rfl, hF⟩
    exact ⟨rfl, fr_of_below hF _⟩
  · rintro e w' ⟨rfl, hF⟩
    exact ⟨rfl, hBW.trans (hF.below (B := w.heap.size) hBW.size (fun _ h => h.elim)), (hF.block _ (Array.getElem?_eq_some_iff.1 q5).1 (fun h => h)).trans q5⟩
set_option maxRecDepth 100000 in
set_option maxHeartbeats 2000000 in
theorem Patches_ok (A : Option Addr) (n c : Nat) (t : List Int) (k b : Int) (Af : Option Addr) (nf cf : Nat) (t' : List Int) (L : List It) (m : Nat) (u : Int) (ht : t.length = 8) (ht' : t'.length = 8) (w : World)
    (hP : ∀ W, Below w.heap.size w W → Calls Try.prog 31 #[.slice A n c, bigV t, .int .i64 k, .int .i64 b, .slice Af nf cf] W fun e w' => ∃ Ai ci, e = .returned (.agg (putC t' (.slice Ai m ci) u)) ∧ PI W.heap.size w' (.slice Ai m ci) m L ∧ Below W.heap.size W w') :
    Calls Try.prog 21 #[.slice A n c, bigV t, .int .i64 k, .int .i64 b, .slice Af nf cf] w fun e w' => (∃ Ai ci, e = .returned (.tuple #[.slice Ai m ci, .int .i64 0]) ∧ ∃ B, w.heap.size ≤ B ∧ PI B w' (.slice Ai m ci) m L) ∧ Below w.heap.size w w' := by
  have HX := Lib.hid (Pat_att A n c t k b Af nf cf t' L m u ht ht' w hP)
  have hmf : ∀ (fn : Fn) (first cap : Array Value) (w : World), (Instr.makeFunc fn first cap).run Try.prog w = .ok (.func fn first cap) w := fun _ _ _ _ => rfl
  clear hP ht'
  obtain ⟨a0, a1, a2, a3, a4, a5, a6, a7, rfl⟩ := len8 ht
  simp only [bigV, patCap, patBoxes, allocs, iv, List.map_cons, List.map_nil] at HX ⊢
  clear ht
  go_enter Try.func21, Try.ntmps21
  go_wp2_with (go_at_call 29; refine (HX.out _ rfl).mono ?_; rintro e w2 ⟨rfl, hB, Ai, ci, hb5, B, hBB, hpi⟩; have HB := Lib.hid hB; have H5 := Lib.hid hb5; have HPI := Lib.hid hpi; have e5 := blk_cell hb5 0; have z5 := blk_free hb5 0; simp only [List.getElem?_toArray, List.getElem?_cons_zero] at e5; clear hB hb5 hpi)
  rw [setCell_same H5.out]
  refine bodyPost_ret (v := .tuple #[.slice Ai m ci, .int .i64 0]) ?_ rfl ?_
  · simp [results, Try.results21, go_sem, e5]
  · exact ⟨⟨Ai, ci, rfl, B, hBB, HPI.out⟩, HB.out⟩
set_option maxRecDepth 100000 in
set_option maxHeartbeats 2000000 in
theorem Patches_no (A : Option Addr) (n c : Nat) (t : List Int) (k b : Int) (Af : Option Addr) (nf cf : Nat) (why : Int) (ht : t.length = 8) (w : World)
    (hP : ∀ W, Below w.heap.size w W → Calls Try.prog 31 #[.slice A n c, bigV t, .int .i64 k, .int .i64 b, .slice Af nf cf] W fun e w' => e = .panicked (gives why) ∧ Below W.heap.size W w') :
    Calls Try.prog 21 #[.slice A n c, bigV t, .int .i64 k, .int .i64 b, .slice Af nf cf] w fun e w' => e = .returned (.tuple #[.slice none 0 0, .int .i64 why]) ∧ Below w.heap.size w w' := by
  have HX := Lib.hid (Pat_attno A n c t k b Af nf cf why ht w hP)
  have hmf : ∀ (fn : Fn) (first cap : Array Value) (w : World), (Instr.makeFunc fn first cap).run Try.prog w = .ok (.func fn first cap) w := fun _ _ _ _ => rfl
  clear hP
  obtain ⟨a0, a1, a2, a3, a4, a5, a6, a7, rfl⟩ := len8 ht
  simp only [bigV, patCap, patBoxes, allocs, iv, List.map_cons, List.map_nil] at HX ⊢
  clear ht
  go_enter Try.func21, Try.ntmps21
  go_wp2_with (go_at_call 29; refine (HX.out _ rfl).mono ?_; rintro e w2 ⟨rfl, hB, hb5⟩; have HB := Lib.hid hB; have H5 := Lib.hid hb5; have e5 := blk_cell hb5 0; have z5 := blk_free hb5 0; simp only [List.getElem?_toArray, List.getElem?_cons_zero] at e5; clear hB hb5)
  rw [setCell_same H5.out]
  refine bodyPost_ret (v := .tuple #[.slice none 0 0, .int .i64 why]) ?_ rfl ?_
  · simp [results, Try.results21, go_sem, e5]
  · exact ⟨rfl, HB.out⟩
/-- Put, where it is refused. -/
theorem Put_fail (A : Option Addr) (n c : Nat) (D : List (List Int)) (t : List Int) (k : Nat) (b : Int) (Af : Option Addr) (nf cf : Nat) (F : List Int) (ht : t.length = 8) (w : World) (hD : Bp w A n c D) (hR : Rt D t) (hF : Rd w Af nf cf (iv .i64 F)) (hlF : F.length = nf) (hO : RgPut n k b F) (hE : errL D t k b F ≠ 0) :
    Calls Try.prog 13 #[.slice A n c, bigV t, .int .i64 (k : Int), .int .i64 b, .slice Af nf cf] w fun e w' => e = .returned (.tuple #[.slice none 0 0, bigV zB, .int .i64 0, .int .i64 (errL D t k b F)]) ∧ Below w.heap.size w w' :=
  Put_bad A n c D t k b Af nf cf (errL D t k b F) ht w fun W hB => plan_no A n c D t k b Af nf cf F ht W (hD.below hB) hR (hF.below hB) hlF hO hE
theorem Patches_fail (A : Option Addr) (n c : Nat) (D : List (List Int)) (t : List Int) (k : Nat) (b : Int) (Af : Option Addr) (nf cf : Nat) (F : List Int) (ht : t.length = 8) (w : World) (hD : Bp w A n c D) (hR : Rt D t) (hF : Rd w Af nf cf (iv .i64 F)) (hlF : F.length = nf) (hO : RgPut n k b F) (hE : errL D t k b F ≠ 0) :
    Calls Try.prog 21 #[.slice A n c, bigV t, .int .i64 (k : Int), .int .i64 b, .slice Af nf cf] w fun e w' => e = .returned (.tuple #[.slice none 0 0, .int .i64 (errL D t k b F)]) ∧ Below w.heap.size w w' :=
  Patches_no A n c t k b Af nf cf (errL D t k b F) ht w fun W hB => plan_no A n c D t k b Af nf cf F ht W (hD.below hB) hR (hF.below hB) hlF hO hE
/-- Patches, where it is asked rightly. -/
theorem Patches_any (A : Option Addr) (n c : Nat) (D : List (List Int)) (t : List Int) (k : Nat) (b : Int) (Af : Option Addr) (nf cf : Nat) (F : List Int) (hF2 : 2 ≤ F.length) (ht : t.length = 8) (w : World) (hD : Bp w A n c D) (hR : Rt D t) (hF : Rd w Af nf cf (iv .i64 F)) (hlF : F.length = nf) (hO : OkPut D t n k b F) :
    Calls Try.prog 21 #[.slice A n c, bigV t, .int .i64 (k : Int), .int .i64 b, .slice Af nf cf] w fun e w' => (∃ Ai ci, e = .returned (.tuple #[.slice Ai (planL D t k b F).length ci, .int .i64 0]) ∧ Ip w' Ai (planL D t k b F).length ci (planL D t k b F)) ∧ Below w.heap.size w w' := by
  refine (Patches_ok A n c t k b Af nf cf (putL D t k b F).2.1 (planL D t k b F) (planL D t k b F).length ((putL D t k b F).2.2 : Nat) ht ((putL_len D t k b F).2.1.trans ht) w
    (fun W hB => plan_any A n c D t k b Af nf cf F hF2 ht W (hD.below hB) hR (hF.below hB) hlF hO)).mono ?_
  rintro e w' ⟨⟨Ai, ci, rfl, B, hBB, ss, h1, h2, h3, h4⟩, hB⟩
  obtain ⟨A2, c2, e2, _, hr⟩ := rd_ownN (by omega) h1
  cases e2
  exact ⟨⟨_, _, rfl, ss, rfl, h3, hr, h4⟩, hB⟩
end Go.Proofs.Ytcgfoaihfncppaa
