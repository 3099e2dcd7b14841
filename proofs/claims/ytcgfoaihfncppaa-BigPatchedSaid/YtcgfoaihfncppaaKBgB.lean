/- Walks of big: Put, given what plan answers. -/
import Derived.Test.YtcgfoaihfncppaaKBgA
import Derived.Test.YtcgfoaihfncppaaKBgO
set_option linter.unusedSimpArgs false
set_option linter.unusedVariables false
namespace Go.Proofs.Ytcgfoaihfncppaa
open Go.RowKit Go.Sel Go.Sel.Gra Go.Sel.Bg Go.Sel.Mer Go.Shelf

/-- Blocks laid one behind another. -/
def allocs (w : World) : List Obj → World
  | [] => w
  | o :: os => allocs (w.alloc o) os
theorem allocs_size (os : List Obj) : ∀ w : World, (allocs w os).heap.size = w.heap.size + os.length := by
  induction os with
  | nil => intro w; rfl
  | cons o os ih => intro w; rw [allocs, ih]; simp; omega
theorem allocs_below (os : List Obj) : ∀ w : World, Below w.heap.size w (allocs w os) := by
  induction os with
  | nil => intro w; exact Below.refl _ _
  | cons o os ih => intro w; exact below_then (below_al w o) (ih _)
theorem allocs_at (os : List Obj) : ∀ (w : World) (i : Nat) (h : i < os.length), (allocs w os).heap[w.heap.size + i]? = some os[i] := by
  induction os with
  | nil => intro w i h; simp at h
  | cons o os ih =>
    intro w i h
    cases i with
    | zero => exact blk_below (blk11 w o) (allocs_below os (w.alloc o)) (by simp)
    | succ i =>
      have := ih (w.alloc o) i (by simpa using h)
      rw [allocs]
      simpa [Nat.add_comm, Nat.add_left_comm, Nat.add_assoc] using this
def zB : List Int := [0, 0, 0, 0, 0, 0, 0, 0]
def putBoxes (A : Option Addr) (n c : Nat) (t : List Int) (k b : Int) (Af : Option Addr) (nf cf : Nat) : List Obj :=
  [.cells #[.slice A n c] 33, .cells (iv .i64 t).toArray 36, .cells #[.int .i64 k] 3, .cells #[.int .i64 b] 3, .cells #[.slice Af nf cf] 23, .cells #[.slice none 0 0] 33, .cells (iv .i64 zB).toArray 36, .cells #[.int .i64 0] 3]
def putCap (s : Nat) : Array Value := #[.pointer (some ⟨s, 0, none⟩), .pointer (some ⟨s + 1, 0, none⟩), .pointer (some ⟨s + 1 + 1, 0, none⟩), .pointer (some ⟨s + 1 + 1 + 1, 0, none⟩), .pointer (some ⟨s + 1 + 1 + 1 + 1, 0, none⟩), .pointer (some ⟨s + 1 + 1 + 1 + 1 + 1, 0, none⟩), .pointer (some ⟨s + 1 + 1 + 1 + 1 + 1 + 1, 0, none⟩), .pointer (some ⟨s + 1 + 1 + 1 + 1 + 1 + 1 + 1, 0, none⟩)]
/-- The attempt that Put makes. -/
theorem Put_att (A : Option Addr) (n c : Nat) (D : List (List Int)) (t : List Int) (k b : Int) (Af : Option Addr) (nf cf : Nat) (t' : List Int) (L : List It) (m : Nat) (u : Int) (ht : t.length = 8) (ht' : t'.length = 8) (w : World)
    (hD : Bp w A n c D) (hn : n ≤ 96) (hW : whole D) (hL : ∀ x ∈ L, prightB x = true ∧ x.b < n)
    (hP : ∀ W, Below w.heap.size w W → Calls Try.prog 31 #[.slice A n c, bigV t, .int .i64 k, .int .i64 b, .slice Af nf cf] W fun e w' => ∃ Ai ci, e = .returned (.agg (putC t' (.slice Ai m ci) u)) ∧ PI W.heap.size w' (.slice Ai m ci) m L ∧ Below W.heap.size W w')
    (W : World) (hW0 : W = allocs w (putBoxes A n c t k b Af nf cf)) :
    Calls Try.prog 29 #[.func (.func 30) #[] (putCap w.heap.size)] W fun e w' => e = .returned (.int .i64 0) ∧ Below w.heap.size w w' ∧ boxB w' (w.heap.size + 1 + 1 + 1 + 1 + 1 + 1) t' ∧ boxI w' (w.heap.size + 1 + 1 + 1 + 1 + 1 + 1 + 1) u ∧
      ∃ Ao co, w'.heap[w.heap.size + 1 + 1 + 1 + 1 + 1]? = some (.cells #[.slice Ao n co] 33 (0, 0)) ∧ Wb w.heap.size w' Ao n co (applyL D L L.length) := by
  have hsz : W.heap.size = w.heap.size + 8 := by rw [hW0, allocs_size]; rfl
  have hBW : Below w.heap.size w W := hW0 ▸ allocs_below _ w
  have hat : ∀ i (h : i < (putBoxes A n c t k b Af nf cf).length), (W.alloc (.cells #[.int .i64 0] 24)).heap[w.heap.size + i]? = some (putBoxes A n c t k b Af nf cf)[i] := fun i h => by
    have h1 := allocs_at (putBoxes A n c t k b Af nf cf) w i h
    rw [← hW0] at h1
    exact blk_below h1 (below_al W _) (by rw [hsz]; simp [putBoxes] at h; omega)
  have hBV : Below w.heap.size w (W.alloc (.cells #[.int .i64 0] 24)) := hBW.alloc (by omega) _
  have g0 : (W.alloc (.cells #[.int .i64 0] 24)).heap[w.heap.size]? = _ := hat 0 (by simp [putBoxes])
  have g1 := hat 1 (by simp [putBoxes])
  have g2 := hat 2 (by simp [putBoxes])
  have g3 := hat 3 (by simp [putBoxes])
  have g4 := hat 4 (by simp [putBoxes])
  have g5 := hat 5 (by simp [putBoxes])
  have g6 := hat 6 (by simp [putBoxes])
  have g7 := hat 7 (by simp [putBoxes])
  have h5 := Put1_ok A n c D t k b Af nf cf t' L m u ht ht' (W.alloc (.cells #[.int .i64 0] 24)) w.heap.size (w.heap.size + 1) (w.heap.size + 2) (w.heap.size + 3) (w.heap.size + 4) (w.heap.size + 5) (w.heap.size + 6) (w.heap.size + 7)
    (by rw [blk_cell g0]; rfl) g1 g2 g3 (by rw [blk_cell g4]; rfl) g5 g6 g7 (by omega) (by omega) (by omega) (by omega) (by omega) (by omega) (hD.below hBV) hn hW hL (hP _ hBV)
  refine (attempt_ok 30 (putCap w.heap.size) (fun _ _ => by simp [go_sem]) W (fun x => x = w.heap.size + 5 ∨ x = w.heap.size + 6 ∨ x = w.heap.size + 7) (fun w' => boxB w' (w.heap.size + 6) t' ∧ boxI w' (w.heap.size + 7) u ∧
      ∃ Ao co, w'.heap[w.heap.size + 5]? = some (.cells #[.slice Ao n co] 33 (0, 0)) ∧ Wb w.heap.size w' Ao n co (applyL D L L.length)) (fun _ h => by omega) (h5.mono ?_)).mono ?_
  · rintro e w' ⟨rfl, hF, h6, h7, Ao, co, h8, h9⟩
    exact ⟨rfl, hF, h6, h7, Ao, co, h8, h9.mono hBV.size⟩
  · rintro e w' ⟨rfl, hF, hb⟩
    exact ⟨rfl, hBW.trans (hF.below (B := w.heap.size) hBW.size (fun _ h => by omega)), hb⟩
set_option maxRecDepth 100000 in
set_option maxHeartbeats 2000000 in
theorem Put_ok (A : Option Addr) (n c : Nat) (D : List (List Int)) (t : List Int) (k b : Int) (Af : Option Addr) (nf cf : Nat) (t' : List Int) (L : List It) (m : Nat) (u : Int) (ht : t.length = 8) (ht' : t'.length = 8) (w : World)
    (hD : Bp w A n c D) (hn : n ≤ 96) (hW : whole D) (hL : ∀ x ∈ L, prightB x = true ∧ x.b < n)
    (hP : ∀ W, Below w.heap.size w W → Calls Try.prog 31 #[.slice A n c, bigV t, .int .i64 k, .int .i64 b, .slice Af nf cf] W fun e w' => ∃ Ai ci, e = .returned (.agg (putC t' (.slice Ai m ci) u)) ∧ PI W.heap.size w' (.slice Ai m ci) m L ∧ Below W.heap.size W w') :
    Calls Try.prog 13 #[.slice A n c, bigV t, .int .i64 k, .int .i64 b, .slice Af nf cf] w fun e w' => (∃ Ao co, e = .returned (.tuple #[.slice Ao n co, bigV t', .int .i64 u, .int .i64 0]) ∧ Wb w.heap.size w' Ao n co (applyL D L L.length)) ∧ Below w.heap.size w w' := by
  have HX := Lib.hid (Put_att A n c D t k b Af nf cf t' L m u ht ht' w hD hn hW hL hP)
  have hmf : ∀ (fn : Fn) (first cap : Array Value) (w : World), (Instr.makeFunc fn first cap).run Try.prog w = .ok (.func fn first cap) w := fun _ _ _ _ => rfl
  clear hD hW hL hP
  obtain ⟨a0, a1, a2, a3, a4, a5, a6, a7, rfl⟩ := len8 ht
  obtain ⟨z0, z1, z2, z3, z4, z5, z6, z7, rfl⟩ := len8 ht'
  simp only [bigV, putCap, putBoxes, zB, allocs, iv, List.map_cons, List.map_nil] at HX ⊢
  clear ht ht'
  go_enter Try.func13, Try.ntmps13
  go_upto_region 2 with (go_at_call 29; refine (HX.out _ rfl).mono ?_; rintro e w2 ⟨rfl, hB, hb6, hb7, Ao, co, hb5, hwb⟩; have HB := Lib.hid hB; have H5 := Lib.hid hb5; have H6 := Lib.hid hb6; have H7 := Lib.hid hb7; have HWB := Lib.hid hwb; clear hB hb5 hb6 hb7 hwb)
  clear HX
  have HB2 : Hid (Below w.heap.size w w2.drew) := Lib.hid HB.out.drew
  have HWB2 : Hid (Wb w.heap.size w2.drew Ao n co (applyL D L L.length)) := Lib.hid (HWB.out.below (Sel.below_drewN w2 1))
  have H5' : Hid (w2.drew.heap[w.heap.size + 1 + 1 + 1 + 1 + 1]? = some (.cells #[.slice Ao n co] 33 (0, 0))) := H5
  have H6' : Hid (w2.drew.heap[w.heap.size + 1 + 1 + 1 + 1 + 1 + 1]? = some (.cells #[.int .i64 z0, .int .i64 z1, .int .i64 z2, .int .i64 z3, .int .i64 z4, .int .i64 z5, .int .i64 z6, .int .i64 z7] 36 (0, 0))) := H6
  have H7' : Hid (w2.drew.heap[w.heap.size + 1 + 1 + 1 + 1 + 1 + 1 + 1]? = some (.cells #[.int .i64 u] 3 (0, 0))) := H7
  clear HB HWB H5 H6 H7
  have f5 := blk_free H5'.out 0
  have f6 := blk_free H6'.out
  have f7 := blk_free H7'.out 0
  have s0 := blk_cell H5'.out 0
  have s9 := blk_cell H7'.out 0
  simp only [List.getElem?_toArray, List.getElem?_cons_zero] at s0 s9
  obtain ⟨s1, s2, s3, s4, s5, s6, s7, s8⟩ := big8 H6'.out
  have HS : At (fun w' : World => w'.cell? ⟨w.heap.size + 1 + 1 + 1 + 1 + 1, 0, none⟩ = some (.slice Ao n co) ∧ w'.cell? ⟨w.heap.size + 1 + 1 + 1 + 1 + 1 + 1, 0, none⟩ = some (.int .i64 z0) ∧ w'.cell? ⟨w.heap.size + 1 + 1 + 1 + 1 + 1 + 1, 1, none⟩ = some (.int .i64 z1) ∧ w'.cell? ⟨w.heap.size + 1 + 1 + 1 + 1 + 1 + 1, 2, none⟩ = some (.int .i64 z2) ∧ w'.cell? ⟨w.heap.size + 1 + 1 + 1 + 1 + 1 + 1, 3, none⟩ = some (.int .i64 z3) ∧ w'.cell? ⟨w.heap.size + 1 + 1 + 1 + 1 + 1 + 1, 4, none⟩ = some (.int .i64 z4) ∧ w'.cell? ⟨w.heap.size + 1 + 1 + 1 + 1 + 1 + 1, 5, none⟩ = some (.int .i64 z5) ∧ w'.cell? ⟨w.heap.size + 1 + 1 + 1 + 1 + 1 + 1, 6, none⟩ = some (.int .i64 z6) ∧ w'.cell? ⟨w.heap.size + 1 + 1 + 1 + 1 + 1 + 1, 7, none⟩ = some (.int .i64 z7) ∧ w'.cell? ⟨w.heap.size + 1 + 1 + 1 + 1 + 1 + 1 + 1, 0, none⟩ = some (.int .i64 u)) w2.drew := ⟨s0, s1, s2, s3, s4, s5, s6, s7, s8, s9⟩
  have E5 := Lib.hid (setCell_same H5'.out)
  have E7 := Lib.hid (setCell_same H7'.out)
  have E60 := Lib.hid (setCell_at H6'.out (j := 0) (v := .int .i64 z0) rfl)
  have E61 := Lib.hid (setCell_at H6'.out (j := 1) (v := .int .i64 z1) rfl)
  have E62 := Lib.hid (setCell_at H6'.out (j := 2) (v := .int .i64 z2) rfl)
  have E63 := Lib.hid (setCell_at H6'.out (j := 3) (v := .int .i64 z3) rfl)
  have E64 := Lib.hid (setCell_at H6'.out (j := 4) (v := .int .i64 z4) rfl)
  have E65 := Lib.hid (setCell_at H6'.out (j := 5) (v := .int .i64 z5) rfl)
  have E66 := Lib.hid (setCell_at H6'.out (j := 6) (v := .int .i64 z6) rfl)
  have E67 := Lib.hid (setCell_at H6'.out (j := 7) (v := .int .i64 z7) rfl)
  refine wp_region_lexD HS [0, 1, 2, 3, 7] (by kernel_rfl) (by kernel_rfl) (fun _ _ d _ _ h => by cases d <;> exact h) ?_
  generalize w2.drew = W3 at *
  refine lexD_take (by kernel_rfl) (by kernel_rfl) HS (fun w9 h9 => by obtain ⟨s0, s1, s2, s3, s4, s5, s6, s7, s8, s9⟩ := h9; go_simp; first | done | rfl) (fun K hK => ?_); go_simp; refine hK _ ?_; clear hK K
  refine lexD_take (by kernel_rfl) (by kernel_rfl) HS (fun w9 h9 => by obtain ⟨s0, s1, s2, s3, s4, s5, s6, s7, s8, s9⟩ := h9; go_simp; first | done | rfl) (fun K hK => ?_); go_simp; refine hK _ ?_; clear hK K
  refine lexD_take (by kernel_rfl) (by kernel_rfl) HS (fun w9 h9 => by obtain ⟨s0, s1, s2, s3, s4, s5, s6, s7, s8, s9⟩ := h9; go_simp; first | done | rfl) (fun K hK => ?_); go_simp; refine hK _ ?_; clear hK K
  refine lexD_take (by kernel_rfl) (by kernel_rfl) HS (fun w9 h9 => by obtain ⟨s0, s1, s2, s3, s4, s5, s6, s7, s8, s9⟩ := h9; go_simp; first | done | rfl) (fun K hK => ?_); go_simp; refine hK _ ?_; clear hK K

  refine lexD_do (by kernel_rfl) (by kernel_rfl) (fun K hK => ?_)
  go_simp
  rw [E5.out]
  refine hK _ _ (fun _ => HS) ?_
  clear hK K
  refine lexD_do (by kernel_rfl) (by kernel_rfl) (fun K hK => ?_)
  go_simp
  rw [E60.out, E61.out, E62.out, E63.out, E64.out, E65.out, E66.out, E67.out]
  refine hK _ _ (fun _ => HS) ?_
  clear hK K
  refine lexD_do (by kernel_rfl) (by kernel_rfl) (fun K hK => ?_)
  go_simp
  rw [E7.out]
  refine hK _ _ (fun _ => HS) ?_
  clear hK K
  refine lexD_take (by kernel_rfl) (by kernel_rfl) HS (fun w9 h9 => by obtain ⟨s0, s1, s2, s3, s4, s5, s6, s7, s8, s9⟩ := h9; go_simp; first | done | rfl) (fun K hK => ?_); go_simp; refine hK _ ?_; clear hK K

  refine lexD_nil ?_
  go_wp2
  refine bodyPost_ret (v := .tuple #[.slice Ao n co, .agg #[.int .i64 z0, .int .i64 z1, .int .i64 z2, .int .i64 z3, .int .i64 z4, .int .i64 z5, .int .i64 z6, .int .i64 z7], .int .i64 u, .int .i64 0]) ?_ rfl ?_
  · simp [results, Try.results13, go_sem, s0, s1, s2, s3, s4, s5, s6, s7, s8, s9]
  · exact ⟨⟨Ao, co, rfl, HWB2.out⟩, HB2.out⟩
end Go.Proofs.Ytcgfoaihfncppaa
