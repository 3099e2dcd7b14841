/- Walks of big: Put where it is refused; Patches. -/
import Derived.Test.YtcgfoaihfncppaaBgG
set_option linter.unusedSimpArgs false
set_option linter.unusedVariables false
namespace Go.Proofs.Ytcgfoaihfncppaa
open Go.RowKit Go.Sel Go.Sel.Gra Go.Sel.Bg Go.Sel.Mer Go.Shelf

theorem Put1_no (A : Option Addr) (n c : Nat) (t : List Int) (k b : Int) (Af : Option Addr) (nf cf : Nat) (why : Int) (ht : t.length = 8) (w : World) (b0 b1 b2 b3 b4 : Nat) (p5 p6 p7 : Value)
    (h0 : w.cell? ⟨b0, 0, none⟩ = some (.slice A n c)) (h1 : boxB w b1 t) (h2 : boxI w b2 k) (h3 : boxI w b3 b) (h4 : w.cell? ⟨b4, 0, none⟩ = some (.slice Af nf cf))
    (hP : Calls Try.prog 31 #[.slice A n c, bigV t, .int .i64 k, .int .i64 b, .slice Af nf cf] w fun e w' => e = .panicked (gives why) ∧ Below w.heap.size w w') :
    Calls Try.prog 30 #[.pointer (some ⟨b0, 0, none⟩), .pointer (some ⟨b1, 0, none⟩), .pointer (some ⟨b2, 0, none⟩), .pointer (some ⟨b3, 0, none⟩), .pointer (some ⟨b4, 0, none⟩), p5, p6, p7] w fun e w' => e = .panicked (gives why) ∧ Below w.heap.size w w' := by
  have HP := Lib.hid hP
  have c2 := h2.cell
  have c3 := h3.cell
  obtain ⟨a0, a1, a2, a3, a4, a5, a6, a7, rfl⟩ := len8 ht
  obtain ⟨d0, d1, d2, d3, d4, d5, d6, d7⟩ := big8 h1
  simp only [bigV, iv, List.map_cons, List.map_nil] at HP
  clear hP ht h1 h2 h3
  go_enter Try.func30, Try.ntmps30
  go_wp2_with (go_at_call 31; refine HP.out.mono ?_; rintro e W1 ⟨rfl, hB⟩; have HB := Lib.hid hB; clear hB)
  simp [bodyPost, gives]
  exact HB.out
theorem Patches1_no (A : Option Addr) (n c : Nat) (t : List Int) (k b : Int) (Af : Option Addr) (nf cf : Nat) (why : Int) (ht : t.length = 8) (w : World) (b0 b1 b2 b3 b4 : Nat) (p5 : Value)
    (h0 : w.cell? ⟨b0, 0, none⟩ = some (.slice A n c)) (h1 : boxB w b1 t) (h2 : boxI w b2 k) (h3 : boxI w b3 b) (h4 : w.cell? ⟨b4, 0, none⟩ = some (.slice Af nf cf))
    (hP : Calls Try.prog 31 #[.slice A n c, bigV t, .int .i64 k, .int .i64 b, .slice Af nf cf] w fun e w' => e = .panicked (gives why) ∧ Below w.heap.size w w') :
    Calls Try.prog 41 #[.pointer (some ⟨b0, 0, none⟩), .pointer (some ⟨b1, 0, none⟩), .pointer (some ⟨b2, 0, none⟩), .pointer (some ⟨b3, 0, none⟩), .pointer (some ⟨b4, 0, none⟩), p5] w fun e w' => e = .panicked (gives why) ∧ Below w.heap.size w w' := by
  have HP := Lib.hid hP
  have c2 := h2.cell
  have c3 := h3.cell
  obtain ⟨a0, a1, a2, a3, a4, a5, a6, a7, rfl⟩ := len8 ht
  obtain ⟨d0, d1, d2, d3, d4, d5, d6, d7⟩ := big8 h1
  simp only [bigV, iv, List.map_cons, List.map_nil] at HP
  clear hP ht h1 h2 h3
  go_enter Try.func41, Try.ntmps41
  go_wp2_with (go_at_call 31; refine HP.out.mono ?_; rintro e W1 ⟨rfl, hB⟩; have HB := Lib.hid hB; clear hB)
  simp [bodyPost, gives]
  exact HB.out
set_option maxRecDepth 100000 in
set_option maxHeartbeats 1000000 in
theorem Patches1_ok (A : Option Addr) (n c : Nat) (t : List Int) (k b : Int) (Af : Option Addr) (nf cf : Nat) (t' : List Int) (L : List It) (m : Nat) (u : Int) (ht : t.length = 8) (ht' : t'.length = 8) (w : World) (b0 b1 b2 b3 b4 b5 : Nat)
    (h0 : w.cell? ⟨b0, 0, none⟩ = some (.slice A n c)) (h1 : boxB w b1 t) (h2 : boxI w b2 k) (h3 : boxI w b3 b) (h4 : w.cell? ⟨b4, 0, none⟩ = some (.slice Af nf cf)) (h5 : w.heap[b5]? = some (.cells #[.slice none 0 0] 51 (0, 0)))
    (hP : Calls Try.prog 31 #[.slice A n c, bigV t, .int .i64 k, .int .i64 b, .slice Af nf cf] w fun e w' => ∃ Ai ci, e = .returned (.agg (putC t' (.slice Ai m ci) u)) ∧ PI w.heap.size w' (.slice Ai m ci) m L ∧ Below w.heap.size w w') :
    Calls Try.prog 41 #[.pointer (some ⟨b0, 0, none⟩), .pointer (some ⟨b1, 0, none⟩), .pointer (some ⟨b2, 0, none⟩), .pointer (some ⟨b3, 0, none⟩), .pointer (some ⟨b4, 0, none⟩), .pointer (some ⟨b5, 0, none⟩)] w fun e w' => e = .returned (.tuple #[]) ∧ Fr (· = b5) w w' ∧ ∃ Ai ci, w'.heap[b5]? = some (.cells #[.slice Ai m ci] 51 (0, 0)) ∧ PI w.heap.size w' (.slice Ai m ci) m L := by
  have HP := Lib.hid hP
  have c2 := h2.cell
  have c3 := h3.cell
  have H5 := Lib.hid h5
  have l5 := (Array.getElem?_eq_some_iff.1 h5).1
  obtain ⟨a0, a1, a2, a3, a4, a5, a6, a7, rfl⟩ := len8 ht
  obtain ⟨z0, z1, z2, z3, z4, z5, z6, z7, rfl⟩ := len8 ht'
  obtain ⟨d0, d1, d2, d3, d4, d5, d6, d7⟩ := big8 h1
  simp only [bigV, putC, iv, List.map_cons, List.map_nil, List.cons_append, List.nil_append] at HP
  clear hP ht ht' h1 h2 h3 h5
  have hfd : ∀ (A : Option Addr) (m c : Nat) (W : World), (Instr.field 68 (.agg #[.int .i64 z0, .int .i64 z1, .int .i64 z2, .int .i64 z3, .int .i64 z4, .int .i64 z5, .int .i64 z6, .int .i64 z7, .slice A m c, .int .i64 u]) 1).run Try.prog W = .ok (.slice A m c) W := fun A m c W => by kernel_rfl
  go_enter Try.func41, Try.ntmps41
  go_wp2_with (go_at_call 31; refine HP.out.mono ?_; rintro e W1 ⟨Ai, ci, rfl, hI, hB⟩; have HI := Lib.hid hI; have HB := Lib.hid hB; have e5 := blk_below H5.out hB l5; have r5 := blk_cell e5 0; have z5' := blk_free e5 0; simp only [List.getElem?_toArray, List.getElem?_cons_zero] at r5; have E5 := Lib.hid e5; clear hI hB e5)
  go_end0
  refine ⟨rfl, Fr.setCell (S := (· = b5)) (fr_of_below HB.out _) (p := ⟨b5, 0, none⟩) (.inl rfl) _, Ai, ci, (blk_set E5.out 0 _).trans (by simp), ?_⟩
  obtain ⟨ss, i1, i2, i3, i4⟩ := HI.out
  refine ⟨ss, own_same i1 (fun j hj => Below.heap_setCell _ _ _ _ (fun e => by have := (i1.lt j hj).1; simp only at e; omega)), i2, i3, fun j hj => ⟨(i4 j hj).1, ?_⟩⟩
  refine ⟨(i4 j hj).2.le, (i4 j hj).2.cap, (i4 j hj).2.at_.imp id fun ⟨q, off, e, hc⟩ => ⟨q, off, e, fun i hi => ?_⟩⟩
  have h1 := hc i hi
  rw [iv_at] at h1 ⊢
  by_cases hq : q = b5
  · subst hq
    rw [blk_cell E5.out] at h1
    cases hoi : (off + i) with
    | zero => rw [hoi] at h1; simp at h1
    | succ m => rw [hoi] at h1; simp at h1
  · rw [World.cell?_of_block (a := ⟨q, off + i, none⟩) (Below.heap_setCell _ _ _ _ (fun e => hq e))]
    exact h1
/-- The attempt that Put makes in vain. -/
theorem Put_attno (A : Option Addr) (n c : Nat) (t : List Int) (k b : Int) (Af : Option Addr) (nf cf : Nat) (why : Int) (ht : t.length = 8) (w : World)
    (hP : ∀ W, Below w.heap.size w W → Calls Try.prog 31 #[.slice A n c, bigV t, .int .i64 k, .int .i64 b, .slice Af nf cf] W fun e w' => e = .panicked (gives why) ∧ Below W.heap.size W w')
    (W : World) (hW0 : W = allocs w (putBoxes A n c t k b Af nf cf)) :
    Calls Try.prog 29 #[.func (.func 30) #[] (putCap w.heap.size)] W fun e w' => e = .returned (.int .i64 why) ∧ Below w.heap.size w w' ∧ boxB w' (w.heap.size + 1 + 1 + 1 + 1 + 1 + 1) zB ∧ boxI w' (w.heap.size + 1 + 1 + 1 + 1 + 1 + 1 + 1) 0 ∧
      w'.heap[w.heap.size + 1 + 1 + 1 + 1 + 1]? = some (.cells #[.slice none 0 0] 33 (0, 0)) := by
  have hsz : W.heap.size = w.heap.size + 8 := by rw [hW0, allocs_size]; rfl
  have hBW : Below w.heap.size w W := hW0 ▸ allocs_below _ w
  have hat : ∀ i (h : i < (putBoxes A n c t k b Af nf cf).length), (W.alloc (.cells #[.int .i64 0] 24)).heap[w.heap.size + i]? = some (putBoxes A n c t k b Af nf cf)[i] := fun i h => by
    have h1 := allocs_at (putBoxes A n c t k b Af nf cf) w i h
    rw [← hW0] at h1
    exact blk_below h1 (below_al W _) (by rw [hsz]; simp [putBoxes] at h; omega)
  have hBV : Below w.heap.size w (W.alloc (.cells #[.int .i64 0] 24)) := hBW.alloc (by omega) _
  have g0 : (W.alloc (.cells #[.int .i64 0] 24)).heap[w.heap.size]? = _ := hat 0 (by simp [putBoxes])
  have g1 := hat 1 (by simp [putBoxes])
  have g2 := hat 2 (by simp [putBoxes])
  have g3 := hat 3 (by simp [putBoxes])
  have g4 := hat 4 (by simp [putBoxes])
  have g5 := hat 5 (by simp [putBoxes])
  have g6 := hat 6 (by simp [putBoxes])
  have g7 := hat 7 (by simp [putBoxes])
  have h5 := Put1_no A n c t k b Af nf cf why ht (W.alloc (.cells #[.int .i64 0] 24)) w.heap.size (w.heap.size + 1) (w.heap.size + 2) (w.heap.size + 3) (w.heap.size + 4) (.pointer (some ⟨w.heap.size + 5, 0, none⟩)) (.pointer (some ⟨w.heap.size + 6, 0, none⟩)) (.pointer (some ⟨w.heap.size + 7, 0, none⟩))
    (by rw [blk_cell g0]; rfl) g1 g2 g3 (by rw [blk_cell g4]; rfl) (hP _ hBV)
  have hatW : ∀ i (h : i < (putBoxes A n c t k b Af nf cf).length), W.heap[w.heap.size + i]? = some (putBoxes A n c t k b Af nf cf)[i] := fun i h => by
    have h1 := allocs_at (putBoxes A n c t k b Af nf cf) w i h
    rwa [← hW0] at h1
  have q5 := hatW 5 (by simp [putBoxes])
  have q6 := hatW 6 (by simp [putBoxes])
  have q7 := hatW 7 (by simp [putBoxes])
  refine (attempt_no 30 (putCap w.heap.size) (fun _ _ => by simp [go_sem]) why W (fun _ => False) (fun _ h => h.elim) (h5.mono ?_)).mono ?_
  · rintro e w' ⟨rfl, hF⟩
    exact ⟨rfl, fr_of_below hF _⟩
  · rintro e w' ⟨rfl, hF⟩
    have hk : ∀ {i : Nat} {o : Obj}, W.heap[i]? = some o → w'.heap[i]? = some o := fun h => (hF.block _ (Array.getElem?_eq_some_iff.1 h).1 (fun h => h)).trans h
    exact ⟨rfl, hBW.trans (hF.below (B := w.heap.size) hBW.size (fun _ h => h.elim)), hk q6, hk q7, hk q5⟩
set_option maxRecDepth 100000 in
set_option maxHeartbeats 2000000 in
theorem Put_bad (A : Option Addr) (n c : Nat) (D : List (List Int)) (t : List Int) (k b : Int) (Af : Option Addr) (nf cf : Nat) (why : Int) (ht : t.length = 8) (w : World)
    (hP : ∀ W, Below w.heap.size w W → Calls Try.prog 31 #[.slice A n c, bigV t, .int .i64 k, .int .i64 b, .slice Af nf cf] W fun e w' => e = .panicked (gives why) ∧ Below W.heap.size W w') :
    Calls Try.prog 13 #[.slice A n c, bigV t, .int .i64 k, .int .i64 b, .slice Af nf cf] w fun e w' => e = .returned (.tuple #[.slice none 0 0, bigV zB, .int .i64 0, .int .i64 why]) ∧ Below w.heap.size w w' := by
  have HX := Lib.hid (Put_attno A n c t k b Af nf cf why ht w hP)
  have hmf : ∀ (fn : Fn) (first cap : Array Value) (w : World), (Instr.makeFunc fn first cap).run Try.prog w = .ok (.func fn first cap) w := fun _ _ _ _ => rfl
  clear hP
  obtain ⟨a0, a1, a2, a3, a4, a5, a6, a7, rfl⟩ := len8 ht
  simp only [bigV, putCap, putBoxes, zB, allocs, iv, List.map_cons, List.map_nil] at HX ⊢
  clear ht
  go_enter Try.func13, Try.ntmps13
  go_upto_region 2 with (go_at_call 29; refine (HX.out _ rfl).mono ?_; rintro e w2 ⟨rfl, hB, hb6, hb7, hb5⟩; have HB := Lib.hid hB; have H5 := Lib.hid hb5; have H6 := Lib.hid hb6; have H7 := Lib.hid hb7; clear hB hb5 hb6 hb7)
  clear HX
  have HB2 : Hid (Below w.heap.size w w2.drew) := Lib.hid HB.out.drew
  have H5' : Hid (w2.drew.heap[w.heap.size + 1 + 1 + 1 + 1 + 1]? = some (.cells #[.slice none 0 0] 33 (0, 0))) := H5
  have H6' : Hid (w2.drew.heap[w.heap.size + 1 + 1 + 1 + 1 + 1 + 1]? = some (.cells #[.int .i64 0, .int .i64 0, .int .i64 0, .int .i64 0, .int .i64 0, .int .i64 0, .int .i64 0, .int .i64 0] 36 (0, 0))) := H6
  have H7' : Hid (w2.drew.heap[w.heap.size + 1 + 1 + 1 + 1 + 1 + 1 + 1]? = some (.cells #[.int .i64 0] 3 (0, 0))) := H7
  clear HB H5 H6 H7
  have f5 := blk_free H5'.out 0
  have f6 := blk_free H6'.out
  have f7 := blk_free H7'.out 0
  have s0 := blk_cell H5'.out 0
  have s9 := blk_cell H7'.out 0
  simp only [List.getElem?_toArray, List.getElem?_cons_zero] at s0 s9
  obtain ⟨s1, s2, s3, s4, s5, s6, s7, s8⟩ := big8 H6'.out
  have HS : At (fun w' : World => w'.cell? ⟨w.heap.size + 1 + 1 + 1 + 1 + 1, 0, none⟩ = some (.slice none 0 0) ∧ w'.cell? ⟨w.heap.size + 1 + 1 + 1 + 1 + 1 + 1, 0, none⟩ = some (.int .i64 0) ∧ w'.cell? ⟨w.heap.size + 1 + 1 + 1 + 1 + 1 + 1, 1, none⟩ = some (.int .i64 0) ∧ w'.cell? ⟨w.heap.size + 1 + 1 + 1 + 1 + 1 + 1, 2, none⟩ = some (.int .i64 0) ∧ w'.cell? ⟨w.heap.size + 1 + 1 + 1 + 1 + 1 + 1, 3, none⟩ = some (.int .i64 0) ∧ w'.cell? ⟨w.heap.size + 1 + 1 + 1 + 1 + 1 + 1, 4, none⟩ = some (.int .i64 0) ∧ w'.cell? ⟨w.heap.size + 1 + 1 + 1 + 1 + 1 + 1, 5, none⟩ = some (.int .i64 0) ∧ w'.cell? ⟨w.heap.size + 1 + 1 + 1 + 1 + 1 + 1, 6, none⟩ = some (.int .i64 0) ∧ w'.cell? ⟨w.heap.size + 1 + 1 + 1 + 1 + 1 + 1, 7, none⟩ = some (.int .i64 0) ∧ w'.cell? ⟨w.heap.size + 1 + 1 + 1 + 1 + 1 + 1 + 1, 0, none⟩ = some (.int .i64 0)) w2.drew := ⟨s0, s1, s2, s3, s4, s5, s6, s7, s8, s9⟩
  have E5 := Lib.hid (setCell_same H5'.out)
  have E7 := Lib.hid (setCell_same H7'.out)
  have E60 := Lib.hid (setCell_at H6'.out (j := 0) (v := .int .i64 0) rfl)
  have E61 := Lib.hid (setCell_at H6'.out (j := 1) (v := .int .i64 0) rfl)
  have E62 := Lib.hid (setCell_at H6'.out (j := 2) (v := .int .i64 0) rfl)
  have E63 := Lib.hid (setCell_at H6'.out (j := 3) (v := .int .i64 0) rfl)
  have E64 := Lib.hid (setCell_at H6'.out (j := 4) (v := .int .i64 0) rfl)
  have E65 := Lib.hid (setCell_at H6'.out (j := 5) (v := .int .i64 0) rfl)
  have E66 := Lib.hid (setCell_at H6'.out (j := 6) (v := .int .i64 0) rfl)
  have E67 := Lib.hid (setCell_at H6'.out (j := 7) (v := .int .i64 0) rfl)
  refine wp_region_lexD HS [0, 1, 2, 3, 7] (by kernel_rfl) (by kernel_rfl) (fun _ _ d _ _ h => by cases d <;> exact h) ?_
  generalize w2.drew = W3 at *
  refine lexD_take (by kernel_rfl) (by kernel_rfl) HS (fun w9 h9 => by obtain ⟨s0, s1, s2, s3, s4, s5, s6, s7, s8, s9⟩ := h9; go_simp; first | done | rfl) (fun K hK => ?_); go_simp; refine hK _ ?_; clear hK K
  refine lexD_take (by kernel_rfl) (by kernel_rfl) HS (fun w9 h9 => by obtain ⟨s0, s1, s2, s3, s4, s5, s6, s7, s8, s9⟩ := h9; go_simp; first | done | rfl) (fun K hK => ?_); go_simp; refine hK _ ?_; clear hK K
  refine lexD_take (by kernel_rfl) (by kernel_rfl) HS (fun w9 h9 => by obtain ⟨s0, s1, s2, s3, s4, s5, s6, s7, s8, s9⟩ := h9; go_simp; first | done | rfl) (fun K hK => ?_); go_simp; refine hK _ ?_; clear hK K
  refine lexD_take (by kernel_rfl) (by kernel_rfl) HS (fun w9 h9 => by obtain ⟨s0, s1, s2, s3, s4, s5, s6, s7, s8, s9⟩ := h9; go_simp; first | done | rfl) (fun K hK => ?_); go_simp; refine hK _ ?_; clear hK K

  refine lexD_do (by kernel_rfl) (by kernel_rfl) (fun K hK => ?_)
  go_simp
  rw [E5.out]
  refine hK _ _ (fun _ => HS) ?_
  clear hK K
  refine lexD_do (by kernel_rfl) (by kernel_rfl) (fun K hK => ?_)
  go_simp
  rw [E60.out, E61.out, E62.out, E63.out, E64.out, E65.out, E66.out, E67.out]
  refine hK _ _ (fun _ => HS) ?_
  clear hK K
  refine lexD_do (by kernel_rfl) (by kernel_rfl) (fun K hK => ?_)
  go_simp
  rw [E7.out]
  refine hK _ _ (fun _ => HS) ?_
  clear hK K
  refine lexD_take (by kernel_rfl) (by kernel_rfl) HS (fun w9 h9 => by obtain ⟨s0, s1, s2, s3, s4, s5, s6, s7, s8, s9⟩ := h9; go_simp; first | done | rfl) (fun K hK => ?_); go_simp; refine hK _ ?_; clear hK K

  refine lexD_nil ?_
  go_wp2
  refine bodyPost_ret (v := .tuple #[.slice none 0 0, .agg #[.int .i64 0, .int .i64 0, .int .i64 0, .int .i64 0, .int .i64 0, .int .i64 0, .int .i64 0, .int .i64 0], .int .i64 0, .int .i64 why]) ?_ rfl ?_
  · simp [results, Try.results13, go_sem, s0, s1, s2, s3, s4, s5, s6, s7, s8, s9]
  · exact ⟨rfl, HB2.out⟩
end Go.Proofs.Ytcgfoaihfncppaa
