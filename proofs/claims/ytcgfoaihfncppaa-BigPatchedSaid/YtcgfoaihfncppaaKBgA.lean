/- Walks of big: Put. -/
import Derived.Test.YtcgfoaihfncppaaKBgS
import Derived.Test.YtcgfoaihfncppaaKBgO
set_option linter.unusedSimpArgs false
set_option linter.unusedVariables false
namespace Go.Proofs.Ytcgfoaihfncppaa
open Go.RowKit Go.Sel Go.Sel.Gra Go.Sel.Bg Go.Sel.Mer Go.Shelf

theorem set8 {w : World} {B : Nat} {T : TypeId} {o0 o1 o2 o3 o4 o5 o6 o7 : Value} (h : w.heap[B]? = some (.cells #[o0, o1, o2, o3, o4, o5, o6, o7] T (0, 0))) (v0 v1 v2 v3 v4 v5 v6 v7 : Value) :
    ((((((((w.setCell ⟨B, 0, none⟩ v0).setCell ⟨B, 1, none⟩ v1).setCell ⟨B, 2, none⟩ v2).setCell ⟨B, 3, none⟩ v3).setCell ⟨B, 4, none⟩ v4).setCell ⟨B, 5, none⟩ v5).setCell ⟨B, 6, none⟩ v6).setCell ⟨B, 7, none⟩ v7).heap[B]? = some (.cells #[v0, v1, v2, v3, v4, v5, v6, v7] T (0, 0)) := by
  have := (blk_set (blk_set (blk_set (blk_set (blk_set (blk_set (blk_set (blk_set h 0 v0) 1 v1) 2 v2) 3 v3) 4 v4) 5 v5) 6 v6) 7 v7)
  simpa using this
theorem PI.keep {B : Nat} {w w' : World} {v : Value} {m : Nat} {L : List It} (h : PI B w v m L) (hb : Below w.heap.size w w') : PI B w' v m L := by
  obtain ⟨ss, h1, h2, h3, h4⟩ := h
  exact ⟨ss, own_below h1 hb (Nat.le_refl _), h2, h3, fun j hj => ⟨(h4 j hj).1, (h4 j hj).2.below hb⟩⟩
def applyL (D : List (List Int)) (L : List It) (k : Nat) : List (List Int) := (L.take k).foldl (fun D x => D.set x.b.toNat (spl (nth D x.b.toNat) x.o.toNat (nums x.s))) D
theorem applyL_succ (D : List (List Int)) (L : List It) (j : Nat) (h : j < L.length) : applyL D L (j + 1) = (applyL D L j).set (nthI L j).b.toNat (spl (nth (applyL D L j) (nthI L j).b.toNat) (nthI L j).o.toNat (nums (nthI L j).s)) := by
  unfold applyL
  rw [List.take_succ_eq_append_getElem h, List.foldl_append, nthI_get h]
  rfl
theorem nth_get {D : List (List Int)} {i : Nat} (h : i < D.length) : nth D i = D[i] := by simp [nth, h]
theorem applyL_whole {D : List (List Int)} (h : whole D) (L : List It) (hL : ∀ x ∈ L, prightB x = true) : ∀ j, (applyL D L j).length = D.length ∧ whole (applyL D L j) := by
  intro j
  induction j with
  | zero => exact ⟨rfl, h⟩
  | succ j ih =>
    by_cases hj : j < L.length
    · rw [applyL_succ D L j hj]
      refine ⟨by rw [List.length_set]; exact ih.1, whole_set ih.2 fun hf => ?_⟩
      have hp := pright_iff.1 (hL (nthI L j) (by rw [nthI_get hj]; exact List.getElem_mem hj))
      rw [spl_length]
      · rw [nth_get hf]; exact ih.2.2 _ (List.getElem_mem hf)
      · rw [nth_get hf, ih.2.2 _ (List.getElem_mem hf), nums_length]; omega
    · have e : applyL D L (j + 1) = applyL D L j := by unfold applyL; rw [List.take_of_length_le (by omega), List.take_of_length_le (by omega)]
      rw [e]; exact ih
theorem applyL_row {D : List (List Int)} (h : whole D) {i : Nat} (hi : i < D.length) (L : List It) (hL : ∀ x ∈ L, prightB x = true) (j : Nat) : (nth (applyL D L j) i).length = 32 := by
  obtain ⟨h1, h2⟩ := applyL_whole h L hL j
  rw [nth_get (by omega)]
  exact h2.2 _ (List.getElem_mem _)
theorem it_cells {w : World} {A : Option Addr} {n c : Nat} {L : List It} {ss : List (Option Addr × Nat × Nat)} (h1 : L.length = n) (h2 : ss.length = n) (h3 : Rd w A n c (itvs L ss)) {i : Nat} (hi : i < n) :
    ∃ b off, A = some ⟨b, off, none⟩ ∧ b < w.heap.size ∧ w.cell? ⟨b, off + i * 4, none⟩ = some (.int .i64 (nthI L i).b) ∧ w.cell? ⟨b, off + i * 4 + 1, none⟩ = some (.int .i64 (nthI L i).o) ∧
      w.cell? ⟨b, off + i * 4 + 2, none⟩ = some (.string (nthI L i).s) ∧ w.cell? ⟨b, off + i * 4 + 3, none⟩ = some (sv (ss[i]'(by rw [h2]; exact hi))) := by
  have hl := itvs_length (L := L) (ss := ss) (by omega)
  obtain ⟨b, off, rfl, hb, hc⟩ := h3.form (by omega)
  have hi1 : i < L.length := by omega
  have hs : i < ss.length := by omega
  have hat : ∀ t (ht : t < 4), w.cell? ⟨b, off + i * 4 + t, none⟩ = some ((itv L[i] ss[i])[t]) := fun t ht => by
    have h5 := hc (i * 4 + t) (by omega)
    have h6 := itvs_at (L := L) (ss := ss) (by omega) hi1 ht
    rw [List.getElem?_eq_getElem (by omega), List.getElem?_eq_getElem (by simpa using ht)] at h6
    rw [Nat.add_assoc, h5]; exact h6
  rw [nthI_get hi1]
  exact ⟨b, off, rfl, hb, hat 0 (by omega), hat 1 (by omega), hat 2 (by omega), hat 3 (by omega)⟩
theorem own_not {w : World} {base B m n co ci g ib io : Nat} {T : TypeId} {L : List It} {ss : List (Option Addr × Nat × Nat)} {D : List (List Int)} (hI : w.ownsRow base T 4 (.slice (some ⟨ib, io, none⟩) m ci) m (itvs L ss)) (hW : Wb B w (some ⟨g, 0, none⟩) n co D) (h1 : L.length = m) (h2 : ss.length = m) (hm : 0 < m) (hn : 0 < n) : ib ≠ g := by
  intro e
  subst e
  obtain ⟨A, c, e, _, hr⟩ := rd_ownN (by omega) hI
  cases e
  obtain ⟨b, off, e, _, q0, _⟩ := it_cells h1 h2 hr hm
  cases e
  obtain ⟨g', A', n', c', e, _, _, q1, _⟩ := hW.at_ hn
  cases e
  rcases hI.2 with ⟨h, _⟩ | ⟨g', cap, cur, e, _⟩
  · cases h
  · cases e
    simp only [Nat.zero_mul, Nat.add_zero] at q0
    rw [q0] at q1
    cases q1
theorem cells_at {w : World} {b : Nat} {l : List Value} {T : TypeId} (h : w.heap[b]? = some (.cells l.toArray T (0, 0))) (j : Nat) : w.cell? ⟨b, j, none⟩ = l[j]? := by rw [blk_cell h]; simp

set_option maxRecDepth 100000 in
set_option maxHeartbeats 8000000 in
theorem Put1_ok (A : Option Addr) (n c : Nat) (D : List (List Int)) (t : List Int) (k b : Int) (Af : Option Addr) (nf cf : Nat) (t' : List Int) (L : List It) (m : Nat) (u : Int) (ht : t.length = 8) (ht' : t'.length = 8) (w : World) (b0 b1 b2 b3 b4 b5 b6 b7 : Nat)
    (h0 : w.cell? ⟨b0, 0, none⟩ = some (.slice A n c)) (h1 : boxB w b1 t) (h2 : boxI w b2 k) (h3 : boxI w b3 b) (h4 : w.cell? ⟨b4, 0, none⟩ = some (.slice Af nf cf))
    (h5 : w.heap[b5]? = some (.cells #[.slice none 0 0] 33 (0, 0))) (h6 : boxB w b6 [0, 0, 0, 0, 0, 0, 0, 0]) (h7 : boxI w b7 0) (h56 : b5 ≠ b6) (h57 : b5 ≠ b7) (h67 : b6 ≠ b7) (h05 : b0 ≠ b5) (h06 : b0 ≠ b6) (h07 : b0 ≠ b7)
    (hD : Bp w A n c D) (hn : n ≤ 96) (hW : whole D) (hL : ∀ x ∈ L, prightB x = true ∧ x.b < n)
    (hP : Calls Try.prog 31 #[.slice A n c, bigV t, .int .i64 k, .int .i64 b, .slice Af nf cf] w fun e w' => ∃ Ai ci, e = .returned (.agg (putC t' (.slice Ai m ci) u)) ∧ PI w.heap.size w' (.slice Ai m ci) m L ∧ Below w.heap.size w w') :
    Calls Try.prog 30 #[.pointer (some ⟨b0, 0, none⟩), .pointer (some ⟨b1, 0, none⟩), .pointer (some ⟨b2, 0, none⟩), .pointer (some ⟨b3, 0, none⟩), .pointer (some ⟨b4, 0, none⟩), .pointer (some ⟨b5, 0, none⟩), .pointer (some ⟨b6, 0, none⟩), .pointer (some ⟨b7, 0, none⟩)] w fun e w' => e = .returned (.tuple #[]) ∧
      Fr (fun x => x = b5 ∨ x = b6 ∨ x = b7) w w' ∧ boxB w' b6 t' ∧ boxI w' b7 u ∧ ∃ Ao co, w'.heap[b5]? = some (.cells #[.slice Ao n co] 33 (0, 0)) ∧ Wb w.heap.size w' Ao n co (applyL D L L.length) := by
  have HP := Lib.hid hP
  have HD := Lib.hid hD
  have HW := Lib.hid hW
  have HL := Lib.hid hL
  have c2 := h2.cell
  have c3 := h3.cell
  have H5 := Lib.hid h5
  have H6 := Lib.hid h6
  have H7 := Lib.hid h7
  have l0 := World.block_lt_of_cell? w _ h0
  simp only at l0
  have l5 := (Array.getElem?_eq_some_iff.1 h5).1
  have l6 := (Array.getElem?_eq_some_iff.1 h6).1
  have l7 := (Array.getElem?_eq_some_iff.1 h7).1
  obtain ⟨a0, a1, a2, a3, a4, a5, a6, a7, rfl⟩ := len8 ht
  obtain ⟨z0, z1, z2, z3, z4, z5, z6, z7, rfl⟩ := len8 ht'
  obtain ⟨d0, d1, d2, d3, d4, d5, d6, d7⟩ := big8 h1
  have HFL := Lib.hid (fun W => file_any [z0, z1, z2, z3, z4, z5, z6, z7] rfl W)
  simp only [bigV, putC, iv, List.map_cons, List.map_nil, List.cons_append, List.nil_append] at HP HFL
  clear hP hD hW hL ht ht' h1 h2 h3 h5 h6 h7
  go_enter Try.func30, Try.ntmps30
  go_upto_region 1 with (go_at_call 31; refine HP.out.mono ?_; rintro e W1 ⟨Ai, ci, rfl, hI, hB⟩; have HI := Lib.hid hI; have HB := Lib.hid hB; clear hI hB)
  have hs1 := HB.out.size
  have hk : ∀ j v, #[Value.int .i64 z0, .int .i64 z1, .int .i64 z2, .int .i64 z3, .int .i64 z4, .int .i64 z5, .int .i64 z6, .int .i64 z7, .slice Ai m ci, .int .i64 u][j]? = some v → (W1.alloc (.cells #[.int .i64 z0, .int .i64 z1, .int .i64 z2, .int .i64 z3, .int .i64 z4, .int .i64 z5, .int .i64 z6, .int .i64 z7, .slice Ai m ci, .int .i64 u] 68)).cell? ⟨W1.heap.size, j, none⟩ = some v := fun j v h => new_cell W1 _ _ j v h
  have k0 := hk 0 _ rfl
  have k1 := hk 1 _ rfl
  have k2 := hk 2 _ rfl
  have k3 := hk 3 _ rfl
  have k4 := hk 4 _ rfl
  have k5 := hk 5 _ rfl
  have k6 := hk 6 _ rfl
  have k7 := hk 7 _ rfl
  have k8 := hk 8 _ rfl
  have k9 := hk 9 _ rfl
  have HI2 := Lib.hid (HI.out.keep (below_al W1 (.cells #[.int .i64 z0, .int .i64 z1, .int .i64 z2, .int .i64 z3, .int .i64 z4, .int .i64 z5, .int .i64 z6, .int .i64 z7, .slice Ai m ci, .int .i64 u] 68)))
  have HB2 : Hid (Below w.heap.size w (W1.alloc (.cells #[.int .i64 z0, .int .i64 z1, .int .i64 z2, .int .i64 z3, .int .i64 z4, .int .i64 z5, .int .i64 z6, .int .i64 z7, .slice Ai m ci, .int .i64 u] 68))) := Lib.hid (HB.out.alloc (by omega) _)
  have HLO : Hid (w.heap.size ≤ W1.heap.size) := Lib.hid hs1
  clear hk HB HI d0 d1 d2 d3 d4 d5 d6 d7 c2 c3
  generalize hpb : W1.heap.size = pb at *
  generalize W1.alloc (.cells #[.int .i64 z0, .int .i64 z1, .int .i64 z2, .int .i64 z3, .int .i64 z4, .int .i64 z5, .int .i64 z6, .int .i64 z7, .slice Ai m ci, .int .i64 u] 68) = W2 at *
  have HB3 : Hid (Below w.heap.size w W2.drew) := Lib.hid HB2.out.drew
  have m0 := keep_cell h0 HB2.out
  have HS : At (fun w' : World => w'.cell? ⟨b0, 0, none⟩ = some (.slice A n c) ∧ w'.cell? ⟨pb, 0, none⟩ = some (.int .i64 z0) ∧ w'.cell? ⟨pb, 1, none⟩ = some (.int .i64 z1) ∧ w'.cell? ⟨pb, 2, none⟩ = some (.int .i64 z2) ∧ w'.cell? ⟨pb, 3, none⟩ = some (.int .i64 z3) ∧ w'.cell? ⟨pb, 4, none⟩ = some (.int .i64 z4) ∧ w'.cell? ⟨pb, 5, none⟩ = some (.int .i64 z5) ∧ w'.cell? ⟨pb, 6, none⟩ = some (.int .i64 z6) ∧ w'.cell? ⟨pb, 7, none⟩ = some (.int .i64 z7) ∧ w'.cell? ⟨pb, 9, none⟩ = some (.int .i64 u) ∧ w'.cell? ⟨pb, 8, none⟩ = some (.slice Ai m ci)) W2.drew := ⟨m0, k0, k1, k2, k3, k4, k5, k6, k7, k9, k8⟩
  clear m0 k0 k1 k2 k3 k4 k5 k6 k7 k8 k9
  refine any_start HS [0, 2, 3, 5, 6] (by kernel_rfl) ?_
  refine any_take 2 rfl (by kernel_rfl) (fun _ _ d _ _ h => by cases d <;> exact h) (by kernel_rfl) HS (fun w9 h9 => by obtain ⟨s0, s1, s2, s3, s4, s5, s6, s7, s8, s9, s10⟩ := h9; go_simp; first | done | rfl) (fun K hK => ?_); go_simp; refine hK _ ?_; clear hK K
  refine any_take 3 rfl (by kernel_rfl) (fun _ _ d _ _ h => by cases d <;> exact h) (by kernel_rfl) HS (fun w9 h9 => by obtain ⟨s0, s1, s2, s3, s4, s5, s6, s7, s8, s9, s10⟩ := h9; go_simp; first | done | rfl) (fun K hK => ?_); go_simp; refine hK _ ?_; clear hK K
  refine any_take 5 rfl (by kernel_rfl) (fun _ _ d _ _ h => by cases d <;> exact h) (by kernel_rfl) HS (fun w9 h9 => by obtain ⟨s0, s1, s2, s3, s4, s5, s6, s7, s8, s9, s10⟩ := h9; go_simp; first | done | rfl) (fun K hK => ?_); go_simp; refine hK _ ?_; clear hK K
  refine any_take 6 rfl (by kernel_rfl) (fun _ _ d _ _ h => by cases d <;> exact h) (by kernel_rfl) HS (fun w9 h9 => by obtain ⟨s0, s1, s2, s3, s4, s5, s6, s7, s8, s9, s10⟩ := h9; go_simp; first | done | rfl) (fun K hK => ?_); go_simp; refine hK _ ?_; clear hK K
  refine any_take 0 rfl (by kernel_rfl) (fun _ _ d _ _ h => by cases d <;> exact h) (by kernel_rfl) HS (fun w9 h9 => by obtain ⟨s0, s1, s2, s3, s4, s5, s6, s7, s8, s9, s10⟩ := h9; go_simp; first | done | rfl) (fun K hK => ?_); go_simp; refine hK _ ?_; clear hK K
  refine any_one 1 rfl (by kernel_rfl) (by kernel_rfl) (fun K hK => ?_)
  go_simp
  refine (copied_big A n c D _ (HD.out.below HB3.out) hn HW.out).mono ?_
  rintro e W5 ⟨⟨Ao, co, rfl, hWb⟩, hB⟩
  have hkS : ∀ X Y : World, Below X.heap.size X Y → At (fun w' : World => w'.cell? ⟨b0, 0, none⟩ = some (.slice A n c) ∧ w'.cell? ⟨pb, 0, none⟩ = some (.int .i64 z0) ∧ w'.cell? ⟨pb, 1, none⟩ = some (.int .i64 z1) ∧ w'.cell? ⟨pb, 2, none⟩ = some (.int .i64 z2) ∧ w'.cell? ⟨pb, 3, none⟩ = some (.int .i64 z3) ∧ w'.cell? ⟨pb, 4, none⟩ = some (.int .i64 z4) ∧ w'.cell? ⟨pb, 5, none⟩ = some (.int .i64 z5) ∧ w'.cell? ⟨pb, 6, none⟩ = some (.int .i64 z6) ∧ w'.cell? ⟨pb, 7, none⟩ = some (.int .i64 z7) ∧ w'.cell? ⟨pb, 9, none⟩ = some (.int .i64 u) ∧ w'.cell? ⟨pb, 8, none⟩ = some (.slice Ai m ci)) X → At (fun w' : World => w'.cell? ⟨b0, 0, none⟩ = some (.slice A n c) ∧ w'.cell? ⟨pb, 0, none⟩ = some (.int .i64 z0) ∧ w'.cell? ⟨pb, 1, none⟩ = some (.int .i64 z1) ∧ w'.cell? ⟨pb, 2, none⟩ = some (.int .i64 z2) ∧ w'.cell? ⟨pb, 3, none⟩ = some (.int .i64 z3) ∧ w'.cell? ⟨pb, 4, none⟩ = some (.int .i64 z4) ∧ w'.cell? ⟨pb, 5, none⟩ = some (.int .i64 z5) ∧ w'.cell? ⟨pb, 6, none⟩ = some (.int .i64 z6) ∧ w'.cell? ⟨pb, 7, none⟩ = some (.int .i64 z7) ∧ w'.cell? ⟨pb, 9, none⟩ = some (.int .i64 u) ∧ w'.cell? ⟨pb, 8, none⟩ = some (.slice Ai m ci)) Y := fun X Y hB h => by
    obtain ⟨s0, s1, s2, s3, s4, s5, s6, s7, s8, s9, s10⟩ := h
    exact ⟨keep_cell s0 hB, keep_cell s1 hB, keep_cell s2 hB, keep_cell s3 hB, keep_cell s4 hB, keep_cell s5 hB, keep_cell s6 hB, keep_cell s7 hB, keep_cell s8 hB, keep_cell s9 hB, keep_cell s10 hB⟩
  have HK := Lib.hid hkS
  have HS5 : At (fun w' : World => w'.cell? ⟨b0, 0, none⟩ = some (.slice A n c) ∧ w'.cell? ⟨pb, 0, none⟩ = some (.int .i64 z0) ∧ w'.cell? ⟨pb, 1, none⟩ = some (.int .i64 z1) ∧ w'.cell? ⟨pb, 2, none⟩ = some (.int .i64 z2) ∧ w'.cell? ⟨pb, 3, none⟩ = some (.int .i64 z3) ∧ w'.cell? ⟨pb, 4, none⟩ = some (.int .i64 z4) ∧ w'.cell? ⟨pb, 5, none⟩ = some (.int .i64 z5) ∧ w'.cell? ⟨pb, 6, none⟩ = some (.int .i64 z6) ∧ w'.cell? ⟨pb, 7, none⟩ = some (.int .i64 z7) ∧ w'.cell? ⟨pb, 9, none⟩ = some (.int .i64 u) ∧ w'.cell? ⟨pb, 8, none⟩ = some (.slice Ai m ci)) W5 := hkS _ _ hB HS
  have HB5 := Lib.hid (below_then HB3.out hB)
  have HWB5 := Lib.hid (hWb.mono HB3.out.size)
  have HI5 : Hid (PI w.heap.size W5 (.slice Ai m ci) m L) := Lib.hid (HI2.out.keep (w' := W5) (below_then (Sel.below_drewN W2 1) hB))
  refine hK _ _ (fun _ => HS5) ?_
  clear hK K HS hB hkS
  refine any_one 4 rfl (by kernel_rfl) (by kernel_rfl) (fun K hK => ?_)
  go_simp
  refine (HFL.out _).mono ?_
  rintro e W6 ⟨rfl, hB⟩
  have HS6 : At (fun w' : World => w'.cell? ⟨b0, 0, none⟩ = some (.slice A n c) ∧ w'.cell? ⟨pb, 0, none⟩ = some (.int .i64 z0) ∧ w'.cell? ⟨pb, 1, none⟩ = some (.int .i64 z1) ∧ w'.cell? ⟨pb, 2, none⟩ = some (.int .i64 z2) ∧ w'.cell? ⟨pb, 3, none⟩ = some (.int .i64 z3) ∧ w'.cell? ⟨pb, 4, none⟩ = some (.int .i64 z4) ∧ w'.cell? ⟨pb, 5, none⟩ = some (.int .i64 z5) ∧ w'.cell? ⟨pb, 6, none⟩ = some (.int .i64 z6) ∧ w'.cell? ⟨pb, 7, none⟩ = some (.int .i64 z7) ∧ w'.cell? ⟨pb, 9, none⟩ = some (.int .i64 u) ∧ w'.cell? ⟨pb, 8, none⟩ = some (.slice Ai m ci)) W6 := HK.out _ _ hB HS5
  have HB6 := Lib.hid (below_then HB5.out hB)
  have HWB6 := Lib.hid (HWB5.out.below hB)
  have HI6 : Hid (PI w.heap.size W6 (.slice Ai m ci) m L) := Lib.hid (HI5.out.keep hB)
  refine hK _ _ (fun _ => HS6) ?_
  clear hK K HS5 hB HB5 HWB5 HI5
  have e5 := blk_below H5.out HB6.out l5
  have e6 := blk_below H6.out HB6.out l6
  have e7 := blk_below H7.out HB6.out l7
  have E5 := Lib.hid e5
  have E6 := Lib.hid e6
  have E7 := Lib.hid e7
  have r5 := blk_cell e5 0
  simp only [List.getElem?_toArray, List.getElem?_cons_zero] at r5
  have t5 := blk_free e5 0
  clear e5 e6 e7
  refine any_one 7 rfl (by kernel_rfl) (by kernel_rfl) (fun K hK => ?_)
  go_simp
  have hlo : w.heap.size ≤ pb := HLO.out
  have hpb5 : pb ≠ b5 := by omega
  have hpb6 : pb ≠ b6 := by omega
  have hpb7 : pb ≠ b7 := by omega
  have hfar : ∀ j, j ≠ b5 → (W6.setCell ⟨b5, 0, none⟩ (.slice Ao n co)).heap[j]? = W6.heap[j]? := fun j hj => Below.heap_setCell _ _ _ _ hj
  have HS7 : At (fun w' : World => w'.cell? ⟨b0, 0, none⟩ = some (.slice A n c) ∧ w'.cell? ⟨pb, 0, none⟩ = some (.int .i64 z0) ∧ w'.cell? ⟨pb, 1, none⟩ = some (.int .i64 z1) ∧ w'.cell? ⟨pb, 2, none⟩ = some (.int .i64 z2) ∧ w'.cell? ⟨pb, 3, none⟩ = some (.int .i64 z3) ∧ w'.cell? ⟨pb, 4, none⟩ = some (.int .i64 z4) ∧ w'.cell? ⟨pb, 5, none⟩ = some (.int .i64 z5) ∧ w'.cell? ⟨pb, 6, none⟩ = some (.int .i64 z6) ∧ w'.cell? ⟨pb, 7, none⟩ = some (.int .i64 z7) ∧ w'.cell? ⟨pb, 9, none⟩ = some (.int .i64 u) ∧ w'.cell? ⟨pb, 8, none⟩ = some (.slice Ai m ci)) (W6.setCell ⟨b5, 0, none⟩ (.slice Ao n co)) := by
    obtain ⟨s0, s1, s2, s3, s4, s5, s6, s7, s8, s9, s10⟩ := HS6
    exact ⟨(World.cell?_of_block (a := ⟨b0, 0, none⟩) (hfar _ h05)).trans s0, (World.cell?_of_block (a := ⟨pb, 0, none⟩) (hfar _ hpb5)).trans s1, (World.cell?_of_block (a := ⟨pb, 1, none⟩) (hfar _ hpb5)).trans s2, (World.cell?_of_block (a := ⟨pb, 2, none⟩) (hfar _ hpb5)).trans s3, (World.cell?_of_block (a := ⟨pb, 3, none⟩) (hfar _ hpb5)).trans s4, (World.cell?_of_block (a := ⟨pb, 4, none⟩) (hfar _ hpb5)).trans s5, (World.cell?_of_block (a := ⟨pb, 5, none⟩) (hfar _ hpb5)).trans s6, (World.cell?_of_block (a := ⟨pb, 6, none⟩) (hfar _ hpb5)).trans s7, (World.cell?_of_block (a := ⟨pb, 7, none⟩) (hfar _ hpb5)).trans s8, (World.cell?_of_block (a := ⟨pb, 9, none⟩) (hfar _ hpb5)).trans s9, (World.cell?_of_block (a := ⟨pb, 8, none⟩) (hfar _ hpb5)).trans s10⟩
  have q5 := blk_set E5.out 0 (.slice Ao n co)
  have q6 := (hfar b6 (Ne.symm h56)).trans E6.out
  have q7 := (hfar b7 (Ne.symm h57)).trans E7.out
  have HF7 : Hid (Fr (fun x => x = b5 ∨ x = b6 ∨ x = b7) W6 (W6.setCell ⟨b5, 0, none⟩ (.slice Ao n co))) := Lib.hid (Fr.setCell (S := fun x => x = b5 ∨ x = b6 ∨ x = b7) (Fr.refl _ W6) (p := ⟨b5, 0, none⟩) (.inl (.inl rfl)) _)
  refine hK _ _ (fun _ => HS7) ?_
  clear hK K HS6 r5 t5 hfar
  generalize W6.setCell ⟨b5, 0, none⟩ (.slice Ao n co) = W7 at *
  simp only [boxB, iv, List.map_cons, List.map_nil] at q6
  obtain ⟨u0, u1, u2, u3, u4, u5, u6, u7⟩ := big8 q6
  have v6 := blk_free q6
  have Q5 := Lib.hid q5
  have Q6 := Lib.hid q6
  have Q7 := Lib.hid q7
  clear q5 q6 q7
  refine any_one 8 rfl (by kernel_rfl) (by kernel_rfl) (fun K hK => ?_)
  go_simp
  have q6' := set8 Q6.out (.int .i64 z0) (.int .i64 z1) (.int .i64 z2) (.int .i64 z3) (.int .i64 z4) (.int .i64 z5) (.int .i64 z6) (.int .i64 z7)
  have hF8 : Fr (fun x => x = b6) W7 ((((((((W7.setCell ⟨b6, 0, none⟩ (.int .i64 z0)).setCell ⟨b6, 1, none⟩ (.int .i64 z1)).setCell ⟨b6, 2, none⟩ (.int .i64 z2)).setCell ⟨b6, 3, none⟩ (.int .i64 z3)).setCell ⟨b6, 4, none⟩ (.int .i64 z4)).setCell ⟨b6, 5, none⟩ (.int .i64 z5)).setCell ⟨b6, 6, none⟩ (.int .i64 z6)).setCell ⟨b6, 7, none⟩ (.int .i64 z7)) := Fr.setCell (S := fun x => x = b6) (Fr.setCell (S := fun x => x = b6) (Fr.setCell (S := fun x => x = b6) (Fr.setCell (S := fun x => x = b6) (Fr.setCell (S := fun x => x = b6) (Fr.setCell (S := fun x => x = b6) (Fr.setCell (S := fun x => x = b6) (Fr.setCell (S := fun x => x = b6) (Fr.refl _ W7) (p := ⟨b6, 0, none⟩) (.inl rfl) _) (p := ⟨b6, 1, none⟩) (.inl rfl) _) (p := ⟨b6, 2, none⟩) (.inl rfl) _) (p := ⟨b6, 3, none⟩) (.inl rfl) _) (p := ⟨b6, 4, none⟩) (.inl rfl) _) (p := ⟨b6, 5, none⟩) (.inl rfl) _) (p := ⟨b6, 6, none⟩) (.inl rfl) _) (p := ⟨b6, 7, none⟩) (.inl rfl) _
  have HF8 : Hid (Fr (fun x => x = b5 ∨ x = b6 ∨ x = b7) W6 ((((((((W7.setCell ⟨b6, 0, none⟩ (.int .i64 z0)).setCell ⟨b6, 1, none⟩ (.int .i64 z1)).setCell ⟨b6, 2, none⟩ (.int .i64 z2)).setCell ⟨b6, 3, none⟩ (.int .i64 z3)).setCell ⟨b6, 4, none⟩ (.int .i64 z4)).setCell ⟨b6, 5, none⟩ (.int .i64 z5)).setCell ⟨b6, 6, none⟩ (.int .i64 z6)).setCell ⟨b6, 7, none⟩ (.int .i64 z7))) := Lib.hid (HF7.out.trans (hF8.mono fun k _ h => .inr (.inl h)))
  have HS8 : At (fun w' : World => w'.cell? ⟨b0, 0, none⟩ = some (.slice A n c) ∧ w'.cell? ⟨pb, 0, none⟩ = some (.int .i64 z0) ∧ w'.cell? ⟨pb, 1, none⟩ = some (.int .i64 z1) ∧ w'.cell? ⟨pb, 2, none⟩ = some (.int .i64 z2) ∧ w'.cell? ⟨pb, 3, none⟩ = some (.int .i64 z3) ∧ w'.cell? ⟨pb, 4, none⟩ = some (.int .i64 z4) ∧ w'.cell? ⟨pb, 5, none⟩ = some (.int .i64 z5) ∧ w'.cell? ⟨pb, 6, none⟩ = some (.int .i64 z6) ∧ w'.cell? ⟨pb, 7, none⟩ = some (.int .i64 z7) ∧ w'.cell? ⟨pb, 9, none⟩ = some (.int .i64 u) ∧ w'.cell? ⟨pb, 8, none⟩ = some (.slice Ai m ci)) ((((((((W7.setCell ⟨b6, 0, none⟩ (.int .i64 z0)).setCell ⟨b6, 1, none⟩ (.int .i64 z1)).setCell ⟨b6, 2, none⟩ (.int .i64 z2)).setCell ⟨b6, 3, none⟩ (.int .i64 z3)).setCell ⟨b6, 4, none⟩ (.int .i64 z4)).setCell ⟨b6, 5, none⟩ (.int .i64 z5)).setCell ⟨b6, 6, none⟩ (.int .i64 z6)).setCell ⟨b6, 7, none⟩ (.int .i64 z7)) := by
    obtain ⟨s0, s1, s2, s3, s4, s5, s6, s7, s8, s9, s10⟩ := HS7
    exact ⟨(hF8.cell (p := ⟨b0, 0, none⟩) h06 s0).trans s0, (hF8.cell (p := ⟨pb, 0, none⟩) hpb6 s1).trans s1, (hF8.cell (p := ⟨pb, 1, none⟩) hpb6 s2).trans s2, (hF8.cell (p := ⟨pb, 2, none⟩) hpb6 s3).trans s3, (hF8.cell (p := ⟨pb, 3, none⟩) hpb6 s4).trans s4, (hF8.cell (p := ⟨pb, 4, none⟩) hpb6 s5).trans s5, (hF8.cell (p := ⟨pb, 5, none⟩) hpb6 s6).trans s6, (hF8.cell (p := ⟨pb, 6, none⟩) hpb6 s7).trans s7, (hF8.cell (p := ⟨pb, 7, none⟩) hpb6 s8).trans s8, (hF8.cell (p := ⟨pb, 9, none⟩) hpb6 s9).trans s9, (hF8.cell (p := ⟨pb, 8, none⟩) hpb6 s10).trans s10⟩
  have q5 := (hF8.block b5 (Array.getElem?_eq_some_iff.1 Q5.out).1 h56).trans Q5.out
  have q7 := (hF8.block b7 (Array.getElem?_eq_some_iff.1 Q7.out).1 (Ne.symm h67)).trans Q7.out
  refine hK _ _ (fun _ => HS8) ?_
  clear hK K HS7 HF7 hF8 u0 u1 u2 u3 u4 u5 u6 u7 v6 Q5 Q6 Q7
  generalize ((((((((W7.setCell ⟨b6, 0, none⟩ (.int .i64 z0)).setCell ⟨b6, 1, none⟩ (.int .i64 z1)).setCell ⟨b6, 2, none⟩ (.int .i64 z2)).setCell ⟨b6, 3, none⟩ (.int .i64 z3)).setCell ⟨b6, 4, none⟩ (.int .i64 z4)).setCell ⟨b6, 5, none⟩ (.int .i64 z5)).setCell ⟨b6, 6, none⟩ (.int .i64 z6)).setCell ⟨b6, 7, none⟩ (.int .i64 z7)) = W8 at *
  have r7 := blk_cell q7 0
  simp only [List.getElem?_toArray, List.getElem?_cons_zero] at r7
  have v7 := blk_free q7 0
  have Q5 := Lib.hid q5
  have Q6 := Lib.hid q6'
  have Q7 := Lib.hid q7
  clear q5 q6' q7
  refine any_one 9 rfl (by kernel_rfl) (by kernel_rfl) (fun K hK => ?_)
  go_simp
  have hF9 : Fr (fun x => x = b7) W8 (W8.setCell ⟨b7, 0, none⟩ (.int .i64 u)) := Fr.setCell (S := fun x => x = b7) (Fr.refl _ W8) (p := ⟨b7, 0, none⟩) (.inl rfl) _
  have HF9 : Hid (Fr (fun x => x = b5 ∨ x = b6 ∨ x = b7) W6 (W8.setCell ⟨b7, 0, none⟩ (.int .i64 u))) := Lib.hid (HF8.out.trans (hF9.mono fun k _ h => .inr (.inr h)))
  have HS9 : At (fun w' : World => w'.cell? ⟨b0, 0, none⟩ = some (.slice A n c) ∧ w'.cell? ⟨pb, 0, none⟩ = some (.int .i64 z0) ∧ w'.cell? ⟨pb, 1, none⟩ = some (.int .i64 z1) ∧ w'.cell? ⟨pb, 2, none⟩ = some (.int .i64 z2) ∧ w'.cell? ⟨pb, 3, none⟩ = some (.int .i64 z3) ∧ w'.cell? ⟨pb, 4, none⟩ = some (.int .i64 z4) ∧ w'.cell? ⟨pb, 5, none⟩ = some (.int .i64 z5) ∧ w'.cell? ⟨pb, 6, none⟩ = some (.int .i64 z6) ∧ w'.cell? ⟨pb, 7, none⟩ = some (.int .i64 z7) ∧ w'.cell? ⟨pb, 9, none⟩ = some (.int .i64 u) ∧ w'.cell? ⟨pb, 8, none⟩ = some (.slice Ai m ci)) (W8.setCell ⟨b7, 0, none⟩ (.int .i64 u)) := by
    obtain ⟨s0, s1, s2, s3, s4, s5, s6, s7, s8, s9, s10⟩ := HS8
    exact ⟨(hF9.cell (p := ⟨b0, 0, none⟩) h07 s0).trans s0, (hF9.cell (p := ⟨pb, 0, none⟩) hpb7 s1).trans s1, (hF9.cell (p := ⟨pb, 1, none⟩) hpb7 s2).trans s2, (hF9.cell (p := ⟨pb, 2, none⟩) hpb7 s3).trans s3, (hF9.cell (p := ⟨pb, 3, none⟩) hpb7 s4).trans s4, (hF9.cell (p := ⟨pb, 4, none⟩) hpb7 s5).trans s5, (hF9.cell (p := ⟨pb, 5, none⟩) hpb7 s6).trans s6, (hF9.cell (p := ⟨pb, 6, none⟩) hpb7 s7).trans s7, (hF9.cell (p := ⟨pb, 7, none⟩) hpb7 s8).trans s8, (hF9.cell (p := ⟨pb, 9, none⟩) hpb7 s9).trans s9, (hF9.cell (p := ⟨pb, 8, none⟩) hpb7 s10).trans s10⟩
  have q5 := (hF9.block b5 (Array.getElem?_eq_some_iff.1 Q5.out).1 h57).trans Q5.out
  have q6 := (hF9.block b6 (Array.getElem?_eq_some_iff.1 Q6.out).1 h67).trans Q6.out
  have q7 := blk_set Q7.out 0 (.int .i64 u)
  refine hK _ _ (fun _ => HS9) ?_
  clear hK K HS8 HF8 hF9 r7 v7 Q5 Q6 Q7
  generalize W8.setCell ⟨b7, 0, none⟩ (.int .i64 u) = W9 at *
  refine any_end (by kernel_rfl) ?_
  have Q5 := Lib.hid q5
  have Q6 := Lib.hid q6
  have Q7 := Lib.hid q7
  clear q5 q6 q7
  have HWB9 : Hid (Wb w.heap.size W9 Ao n co D) := Lib.hid (HWB6.out.fr HF9.out (fun b hb => by
    have hj : ∀ {cs : Array Value} {T : TypeId}, W6.heap[b]? = some (.cells cs T (0, 0)) → (∀ v ∈ cs.toList, ∀ x, v ≠ .int .u8 x) → ∀ j x, W6.cell? ⟨b, j, none⟩ ≠ some (.int .u8 x) := fun h hv j x hc => by
      rw [blk_cell h] at hc
      exact hv _ (Array.mem_toList_iff.2 (Array.mem_of_getElem? hc)) x rfl
    rcases hb with rfl | rfl | rfl
    · exact ⟨l5, hj E5.out (by simp)⟩
    · exact ⟨l6, hj E6.out (by simp [iv])⟩
    · exact ⟨l7, hj E7.out (by simp)⟩))
  have HI9 : Hid (∃ ss : List (Option Addr × Nat × Nat), W9.ownsRow w.heap.size 75 4 (.slice Ai m ci) m (itvs L ss) ∧ L.length = m ∧ ss.length = m) := Lib.hid (by
    obtain ⟨ss, r1, r2, r3, _⟩ := HI6.out
    refine ⟨ss, own_same r1 (fun j hj => HF9.out.block j (r1.lt j hj).2 (fun hs => ?_)), r2, r3⟩
    have := (r1.lt j hj).1
    rcases hs with h | h | h <;> omega)
  clear HWB6 HI6 E5 E6 E7
  obtain ⟨s0, s1, s2, s3, s4, s5, s6, s7, s8, s9, s10⟩ := HS9
  clear s0 s1 s2 s3 s4 s5 s6 s7 s8 s9
  have HI9' := HI9.out
  obtain ⟨ss, i1, i2, i3⟩ := HI9'
  have HI1 := Lib.hid i1
  have HJ2 := Lib.hid i2
  have HJ3 := Lib.hid i3
  have HFR : Hid (Fr (fun x => x = b5 ∨ x = b6 ∨ x = b7) w W9) := Lib.hid ((fr_of_below HB6.out _).trans (HF9.out.mono (fun k _ h => h)))
  have hm0 : (0 : Int) ≤ (m : Int) := by omega
  clear HI9 i1 i2 i3 HF9 HB6
  go_wp2
  go_loopw [10, 11, 12, 29] (fun _ _ _ v wr => ∃ j : Nat, j ≤ m ∧ v = .int .i64 j ∧ Hid (Wb w.heap.size wr Ao n co (applyL D L j)) ∧ Hid (wr.ownsRow w.heap.size 75 4 (.slice Ai m ci) m (itvs L ss)) ∧ Hid (wr.heap[b5]? = some (.cells #[.slice Ao n co] 33 (0, 0))) ∧ Hid (wr.heap[b6]? = W9.heap[b6]?) ∧ Hid (wr.heap[b7]? = W9.heap[b7]?) ∧ Hid (Fr (fun x => x = b5 ∨ x = b6 ∨ x = b7) w wr)) (fun _ _ _ v _ => m - (Go.RowKit.intOf v).toNat)
  case atStart => exact ⟨0, by omega, rfl, HWB9, HI1, Q5, rfl, rfl, HFR⟩
  case round =>
    clear HWB9 HI1 Q5 HFR
    obtain ⟨j, hj, rfl, HWB, HI, Q5, HE6, HE7, HFR⟩ := hrel
    by_cases hlt : j < m
    · obtain ⟨A', c', e, hlI, hrI⟩ := rd_ownN (by omega) HI.out
      cases e
      have hmi := hrI.le
      have hmc := hrI.cap
      obtain ⟨ib, io, rfl, hib, q0, q1, q2, q3⟩ := it_cells HJ2.out HJ3.out hrI hlt
      have hjl : j < L.length := by have := HJ2.out; omega
      generalize ss[j]'(by rw [HJ3.out]; exact hlt) = sj at q3
      obtain ⟨A3, n3, c3⟩ := sj
      simp only [sv] at q3
      have HLJ := Lib.hid (HL.out (nthI L j) (by rw [nthI_get hjl]; exact List.getElem_mem hjl))
      have hp := pright_iff.1 HLJ.out.1
      have hbn := HLJ.out.2
      have HST : Hid (applyL D L (j + 1) = (applyL D L j).set (nthI L j).b.toNat (spl (nth (applyL D L j) (nthI L j).b.toNat) (nthI L j).o.toNat (nums (nthI L j).s))) := Lib.hid (applyL_succ D L j hjl)
      have HRL : Hid (∀ i, i < n → (nth (applyL D L j) i).length = 32) := Lib.hid (fun i hi => applyL_row HW.out (by rw [HD.out.len]; exact hi) L (fun x hx => (HL.out x hx).1) j)
      generalize nthI L j = x at *
      obtain ⟨xb, xo, xs, xd⟩ := x
      simp only at hp hbn q0 q1 q2 HST
      obtain ⟨bn, hbe⟩ : ∃ bn : Nat, xb = (bn : Int) := ⟨xb.toNat, by omega⟩
      subst hbe
      simp only [Int.toNat_natCast] at HST
      have hbl : bn < n := by omega
      obtain ⟨g, A4, n4, c4, rfl, hgb, hgl, hgc, hgf, hgn, hgr, hgx⟩ := HWB.out.at_ hbl
      have hn4 : n4 = 32 := by rw [← hgn]; exact HRL.out bn hbl
      subst hn4
      generalize applyL D L j = Dj at *
      have hg4 := hgr.cap
      have hg5 := hgr.le
      have HGN := Lib.hid hgn
      have HGX := Lib.hid hgx
      have r5 : wr.cell? ⟨b5, 0, none⟩ = some (.slice (some ⟨g, 0, none⟩) n co) := by rw [blk_cell Q5.out]; rfl
      go_upto_region 5 with (fail)
      have kk : ∀ i v, #[Value.int .i64 (bn : Int), .int .i64 xo, .string xs, (.slice A3 n3 c3)][i]? = some v → (wr.alloc (.cells #[.int .i64 (bn : Int), .int .i64 xo, .string xs, (.slice A3 n3 c3)] 75)).cell? ⟨wr.heap.size, i, none⟩ = some v := fun i v h => new_cell wr _ _ i v h
      have k1 := kk 0 _ rfl
      have k2 := kk 1 _ rfl
      have k3 := kk 2 _ rfl
      have k0 := keep_cell hgc (below_al wr (.cells #[.int .i64 (bn : Int), .int .i64 xo, .string xs, (.slice A3 n3 c3)] 75))
      have k5 := keep_cell r5 (below_al wr (.cells #[.int .i64 (bn : Int), .int .i64 xo, .string xs, (.slice A3 n3 c3)] 75))
      have HBX := Lib.hid (below_al wr (.cells #[.int .i64 (bn : Int), .int .i64 xo, .string xs, (.slice A3 n3 c3)] 75))
      have HGR := Lib.hid hgr
      clear kk hgc hgf r5 q0 q1 q2 q3 hgr hgn hgx
      generalize wr.alloc (.cells #[.int .i64 (bn : Int), .int .i64 xo, .string xs, (.slice A3 n3 c3)] 75) = wb at *
      have HBX1 : Hid (Below wr.heap.size wr wb.drew) := HBX.out.drew
      have HRS : Hid (wr.heap.size < wb.heap.size) := Lib.hid (World.block_lt_of_cell? wb _ k1)
      have HS9 : At (fun w' : World => w'.cell? ⟨b5, 0, none⟩ = some (.slice (some ⟨g, 0, none⟩) n co) ∧ w'.cell? ⟨g, bn, none⟩ = some (.slice A4 32 c4) ∧ w'.cell? ⟨wr.heap.size, 0, none⟩ = some (.int .i64 (bn : Int)) ∧ w'.cell? ⟨wr.heap.size, 1, none⟩ = some (.int .i64 xo) ∧ w'.cell? ⟨wr.heap.size, 2, none⟩ = some (.string xs)) wb.drew := ⟨k5, k0, k1, k2, k3⟩
      clear k0 k1 k2 k3 k5
      have a1 : (0 : Int) ≤ (bn : Int) := by omega
      have a2 : (bn : Int) < (n : Int) := by omega
      have hco := HWB.out.le
      have hco2 := HWB.out.cap
      refine wp_region_lexD HS9 [0, 1, 2, 3, 4, 5, 6, 7, 9, 10, 11, 12, 13] (by kernel_rfl) (by kernel_rfl) (fun _ _ d _ _ h => by cases d <;> exact h) ?_
      repeat (refine lexD_take (by kernel_rfl) (by kernel_rfl) HS9 (fun w9 h9 => by obtain ⟨s5, s0, s1, s2, s3⟩ := h9; go_simp; first | done | rfl) (fun K hK => ?_); go_simp; refine hK _ ?_; clear hK K)
      refine lexD_do (by kernel_rfl) (by kernel_rfl) (fun K hK => ?_)
      go_simp
      refine (Apply_ok ⟨bn, xo, xs, xd⟩ A4 c4 (nth Dj bn) _ (HGR.out.below HBX1.out) HGN.out HLJ.out.1).mono ?_
      rintro e w5 ⟨⟨A5, rfl, hr5⟩, hB⟩
      have HS5 : At (fun w' : World => w'.cell? ⟨b5, 0, none⟩ = some (.slice (some ⟨g, 0, none⟩) n co) ∧ w'.cell? ⟨g, bn, none⟩ = some (.slice A4 32 c4) ∧ w'.cell? ⟨wr.heap.size, 0, none⟩ = some (.int .i64 (bn : Int)) ∧ w'.cell? ⟨wr.heap.size, 1, none⟩ = some (.int .i64 xo) ∧ w'.cell? ⟨wr.heap.size, 2, none⟩ = some (.string xs)) w5 := by
        obtain ⟨s5, s0, s1, s2, s3⟩ := HS9
        exact ⟨keep_cell s5 hB, keep_cell s0 hB, keep_cell s1 hB, keep_cell s2 hB, keep_cell s3 hB⟩
      have HB5 : Hid (Below wr.heap.size wr w5) := Lib.hid (below_then HBX1.out hB)
      have HR5 := Lib.hid hr5
      refine hK _ _ (fun _ => HS5) ?_
      clear hK K HS9 hB hr5
      repeat (refine lexD_take (by kernel_rfl) (by kernel_rfl) HS5 (fun w9 h9 => by obtain ⟨s5, s0, s1, s2, s3⟩ := h9; go_simp; first | done | rfl) (fun K hK => ?_); go_simp; refine hK _ ?_; clear hK K)
      refine lexD_nil ?_
      have HW5 := Lib.hid (HWB.out.below HB5.out)
      obtain ⟨g', A6, n6, c6, e, hg1, hg2, hc6, hf6, _⟩ := HW5.out.at_ hbl
      injection e with e; injection e with e; subst e
      obtain ⟨s5, s0, s1, s2, s3⟩ := HS5
      clear s0
      have hbyte : AllByte (nums xs) := nums_byte xs
      have hps : xo.toNat + (nums xs).length ≤ (nth Dj bn).length := by rw [HGN.out, nums_length]; omega
      have HW6 : Hid (Wb w.heap.size (w5.setCell ⟨g, bn, none⟩ (.slice A5 32 32)) (some ⟨g, 0, none⟩) n co (Dj.set bn (spl (nth Dj bn) xo.toNat (nums xs)))) := Lib.hid (HW5.out.set hbl HR5.out (by rw [spl_length hps, HGN.out]) (spl_byte HGX.out hbyte) rfl)
      have hge : w.heap.size ≤ g := hg1
      have hgne : ∀ i, i < w.heap.size → (w5.setCell ⟨g, bn, none⟩ (.slice A5 32 32)).heap[i]? = wr.heap[i]? := fun i hi => (Below.heap_setCell _ _ _ _ (by simp only; omega)).trans (HB5.out.block i (Nat.lt_of_lt_of_le hi HFR.out.size))
      have H5' : Hid ((w5.setCell ⟨g, bn, none⟩ (.slice A5 32 32)).heap[b5]? = some (.cells #[.slice (some ⟨g, 0, none⟩) n co] 33 (0, 0))) := Lib.hid ((hgne b5 l5).trans Q5.out)
      have H6' : Hid ((w5.setCell ⟨g, bn, none⟩ (.slice A5 32 32)).heap[b6]? = W9.heap[b6]?) := Lib.hid ((hgne b6 l6).trans HE6.out)
      have H7' : Hid ((w5.setCell ⟨g, bn, none⟩ (.slice A5 32 32)).heap[b7]? = W9.heap[b7]?) := Lib.hid ((hgne b7 l7).trans HE7.out)
      have HFR' : Hid (Fr (fun x => x = b5 ∨ x = b6 ∨ x = b7) w (w5.setCell ⟨g, bn, none⟩ (.slice A5 32 32))) := Lib.hid (Fr.setCell (S := fun x => x = b5 ∨ x = b6 ∨ x = b7) (HFR.out.trans (fr_of_below HB5.out _)) (p := ⟨g, bn, none⟩) (.inr hge) _)
      have HI' : Hid ((w5.setCell ⟨g, bn, none⟩ (.slice A5 32 32)).ownsRow w.heap.size 75 4 (.slice (some ⟨ib, io, none⟩) m ci) m (itvs L ss)) := Lib.hid (by
        have h5 := own_below HI.out HB5.out (Nat.le_refl _)
        have hi0 : ib ≠ g := own_not HI.out HWB.out HJ2.out HJ3.out (Nat.lt_of_le_of_lt (Nat.zero_le _) hlt) (Nat.lt_of_le_of_lt (Nat.zero_le _) hbl)
        refine own_same h5 (fun i hi => Below.heap_setCell _ _ _ _ (fun e => ?_))
        have hi' : i = ib := by simpa [Value.ownBlock] using hi.symm
        simp only at e
        omega)
      go_wp2
      go_roundw
      case rel => exact ⟨j + 1, by omega, by go_num, by rw [HST.out]; exact HW6, HI', H5', H6', H7', HFR'⟩
      case measure => simp [Go.RowKit.intOf] <;> omega
    · obtain rfl : j = m := by omega
      go_wp2
      go_end0
      refine ⟨rfl, HFR.out, HE6.out.trans (by rw [Q6.out]; rfl), HE7.out.trans Q7.out, Ao, co, Q5.out, ?_⟩
      rw [HJ2.out]
      exact HWB.out
end Go.Proofs.Ytcgfoaihfncppaa
/- Walks of big's reference: has, whole, mark. -/
set_option linter.unusedSimpArgs false
set_option linter.unusedVariables false
namespace Go.Sel.Bg
open Go.RowKit Go.Sel Go.Sel.Gra
/-- Which blocks the first m pointers point to. -/
def seenP (D : List (List Int)) (t : List Int) (m j : Nat) : Bool := decide (j ≠ 0) && (List.range m).any fun p => decide (val D t p = (j : Int))
def seenA (n : Nat) (D : List (List Int)) (t : List Int) (m : Nat) : Array Value := ((List.range n).map fun j => Value.bool (seenP D t m j)).toArray
theorem seenP_iff {D : List (List Int)} {t : List Int} {m j : Nat} : seenP D t m j = true ↔ j ≠ 0 ∧ ∃ p, p < m ∧ val D t p = (j : Int) := by
  simp [seenP, List.any_eq_true]
theorem seenA_at {n : Nat} {D : List (List Int)} {t : List Int} {m j : Nat} (hj : j < n) : (seenA n D t m)[j]? = some (.bool (seenP D t m j)) := by
  simp [seenA, hj]
theorem seenP_zero {D : List (List Int)} {t : List Int} {m j : Nat} (h : val D t m = 0) : seenP D t (m + 1) j = seenP D t m j := by
  rw [Bool.eq_iff_iff, seenP_iff, seenP_iff]
  constructor
  · rintro ⟨h0, p, hp, e⟩
    refine ⟨h0, p, ?_, e⟩
    by_cases e2 : p = m
    · subst e2; omega
    · omega
  · rintro ⟨h0, p, hp, e⟩
    exact ⟨h0, p, by omega, e⟩
theorem seenA_zero {n : Nat} {D : List (List Int)} {t : List Int} {m : Nat} (h : val D t m = 0) : seenA n D t (m + 1) = seenA n D t m := by
  unfold seenA
  congr 1
  refine List.map_congr_left fun j _ => ?_
  rw [seenP_zero h]
theorem seenA_zeros {n : Nat} {D : List (List Int)} {t : List Int} {m : Nat} : ∀ k, (∀ i, i < k → val D t (m + i) = 0) → seenA n D t (m + k) = seenA n D t m
  | 0, _ => rfl
  | k + 1, h => by rw [← Nat.add_assoc, seenA_zero (h k (by omega)), seenA_zeros k fun i hi => h i (by omega)]
theorem seenA_step {n : Nat} {D : List (List Int)} {t : List Int} {m j : Nat} (h : val D t m = (j : Int)) (hj : j ≠ 0) (hn : j < n) : (seenA n D t m).setIfInBounds j (.bool true) = seenA n D t (m + 1) := by
  refine Array.ext_getElem? fun i => ?_
  by_cases hi : i < n
  · by_cases e : j = i
    · subst e
      rw [seenA_at hi, seenP_iff.2 ⟨hj, m, by omega, h⟩]
      have : j < (seenA n D t m).size := by simpa [seenA] using hn
      simp [this]
    · rw [Array.getElem?_setIfInBounds_ne e, seenA_at hi, seenA_at hi]
      congr 2
      rw [Bool.eq_iff_iff, seenP_iff, seenP_iff]
      constructor
      · rintro ⟨h0, p, hp, e2⟩; exact ⟨h0, p, by omega, e2⟩
      · rintro ⟨h0, p, hp, e2⟩
        refine ⟨h0, p, ?_, e2⟩
        by_cases e3 : p = m
        · subst e3; omega
        · omega
  · have h1 : (seenA n D t m).size ≤ i := by simp [seenA]; omega
    have h2 : (seenA n D t (m + 1)).size ≤ i := by simp [seenA]; omega
    rw [Array.getElem?_eq_none (by simpa using h1), Array.getElem?_eq_none h2]
theorem seenP_not {D : List (List Int)} {t : List Int} {m j : Nat} (hR : Rt D t) (hm : m < 1096) (h : val D t m = (j : Int)) (hj : j ≠ 0) : seenP D t m j = false := by
  rw [Bool.eq_false_iff, Ne, seenP_iff]
  rintro ⟨_, p, hp, e⟩
  have := hR.2.2 p m (by omega) hm (by rw [e, h]) (by omega)
  omega
/-- A row of marks. -/
def SeenB (w : World) (sb n : Nat) (D : List (List Int)) (t : List Int) (m : Nat) : Prop := ∃ T, w.heap[sb]? = some (.cells (seenA n D t m) T (0, 0))
end Go.Sel.Bg
namespace Go.Proofs.Ytcgfoaihfncppaa
open Go.RowKit Go.Sel Go.Sel.Gra Go.Sel.Bg Go.Sel.Mer Go.Shelf

set_option maxHeartbeats 1000000 in
theorem rhas_any (A : Option Addr) (n c : Nat) (xs : List Int) (x : Int) (w : World) (ha : Rd w A n c (iv .i64 xs)) (hn : xs.length = n) :
    Calls Try.prog 73 #[.slice A n c, .int .i64 x] w fun e w' => e = .returned (.bool (decide (x ∈ xs))) ∧ w' = w := by
  have HA := Lib.hid ha
  have HN := Lib.hid hn
  have l1 := ha.le
  have l2 := ha.cap
  clear ha hn
  go_enter Try.func73, Try.ntmps73
  go_wp2
  go_loop [5] (fun v => ∃ k : Nat, k ≤ n ∧ v = .int .i64 k ∧ Hid (∀ j (h : j < xs.length), j < k → xs[j] ≠ x)) (fun v => n - (Go.RowKit.intOf v).toNat)
  case atStart => exact ⟨0, by omega, rfl, Lib.hid (fun j h hj => by omega)⟩
  case round =>
    obtain ⟨k, hk, rfl, hz⟩ := hrel
    by_cases hlt : k < n
    · have hxl : k < xs.length := by have := HN.out; omega
      obtain ⟨b, off, rfl, _, hc⟩ := HA.out.form (by simp; omega)
      have hck := hc k (by simpa using hxl)
      rw [iv_at] at hck
      clear hc
      by_cases hx : xs[k] = x
      · have he : (xs[k] == x) = true := by simpa using hx
        have HX := Lib.hid hx
        clear hx
        go_wp2
        go_ret
        exact ⟨ret_bool (by symm; rw [decide_eq_true_eq, ← HX.out]; exact List.getElem_mem hxl), rfl⟩
      · have he : (xs[k] == x) = false := by simpa using hx
        have HX := Lib.hid hx
        clear hx
        go_wp2
        refine ⟨⟨k + 1, by omega, by go_num, fun j h hj => ?_⟩, by simp [Go.RowKit.intOf] <;> omega⟩
        by_cases hjk : j = k
        · subst hjk; exact HX.out
        · exact hz.out j h (by omega)
    · go_wp2
      go_ret
      refine ⟨ret_bool ?_, rfl⟩
      symm
      rw [decide_eq_false_iff_not]
      intro hx
      obtain ⟨j, hj, he⟩ := List.mem_iff_getElem.1 hx
      exact hz.out j hj (by have := HN.out; omega) he

set_option maxHeartbeats 1000000 in
theorem rwhole_ok (A : Option Addr) (n c : Nat) (D : List (List Int)) (w : World) (hD : Bp w A n c D) (hW : whole D) :
    Calls Try.prog 83 #[.slice A n c] w fun e w' => e = .returned (.bool true) ∧ w' = w := by
  have HD := Lib.hid hD
  have HN := Lib.hid hD.len
  have hn : n ≤ 96 := by rw [← hD.len]; exact hW.1
  have HW := Lib.hid hW
  have l1 := hD.le
  have l2 := hD.cap
  clear hD hW
  go_enter Try.func83, Try.ntmps83
  go_wp2
  go_loop [3] (fun v => ∃ k : Nat, k ≤ n ∧ v = .int .i64 k) (fun v => n - (Go.RowKit.intOf v).toNat)
  case atStart => exact ⟨0, by omega, rfl⟩
  case round =>
    obtain ⟨k, hk, rfl⟩ := hrel
    by_cases hlt : k < n
    · obtain ⟨b, off, A', n', c', rfl, hb, hc, hl, hr, hx⟩ := HD.out.at_ hlt
      have hkD : k < D.length := by rw [HN.out]; exact hlt
      have h32 : n' = 32 := by rw [← hl, nth_get hkD]; exact HW.out.2 _ (List.getElem_mem hkD)
      subst h32
      clear hl hr hx
      go_wp2
      exact ⟨⟨k + 1, by omega, by go_num⟩, by simp [Go.RowKit.intOf] <;> omega⟩
    · go_wp2
      go_ret
      exact ⟨ret_bool (by simp; omega), rfl⟩

set_option maxHeartbeats 1000000 in
theorem rmark_zero (A : Option Addr) (n c : Nat) (w : World) : Calls Try.prog 84 #[.slice A n c, .int .i64 0] w fun e w' => e = .returned (.bool true) ∧ w' = w := by
  go_enter Try.func84, Try.ntmps84
  go_wp2
  go_ret
  exact ⟨rfl, rfl⟩
set_option maxHeartbeats 1000000 in
theorem rmark_one (sb n j : Nat) (w : World) (hj0 : j ≠ 0) (hj : j < n) (hn : n ≤ 1000) (hc : w.cell? ⟨sb, j, none⟩ = some (.bool false)) (hf : w.frozen? ⟨sb, j, none⟩ = false) :
    Calls Try.prog 84 #[.slice (some ⟨sb, 0, none⟩) n n, .int .i64 (j : Int)] w fun e w' => e = .returned (.bool true) ∧ w' = w.setCell ⟨sb, j, none⟩ (.bool true) := by
  have h0 : ((j : Int) == 0) = false := by simpa using hj0
  have hc' : w.cell? ⟨sb, 0 + j, none⟩ = some (.bool false) := by simpa using hc
  go_enter Try.func84, Try.ntmps84
  go_wp2
  go_ret
  exact ⟨rfl, by simp⟩
theorem rmark_val (sb n : Nat) (D : List (List Int)) (t : List Int) (m : Nat) (w : World) (hR : Rt D t) (hn : D.length = n) (hm : m < 1096) (hS : SeenB w sb n D t m) :
    Calls Try.prog 84 #[.slice (some ⟨sb, 0, none⟩) n n, .int .i64 (val D t m)] w fun e w' => e = .returned (.bool true) ∧ SeenB w' sb n D t (m + 1) ∧ Fr (· = sb) w w' := by
  have h96 := hR.1.1
  obtain ⟨h0, h1⟩ := hR.2.1 m hm
  obtain ⟨T, hT⟩ := hS
  by_cases e : val D t m = 0
  · rw [e]
    refine (rmark_zero (some ⟨sb, 0, none⟩) n n w).mono ?_
    rintro e1 w' ⟨rfl, rfl⟩
    exact ⟨rfl, ⟨T, by rw [seenA_zero e]; exact hT⟩, Fr.refl _ _⟩
  · obtain ⟨j, hj⟩ : ∃ j : Nat, val D t m = (j : Int) := ⟨(val D t m).toNat, by omega⟩
    have hj0 : j ≠ 0 := by omega
    have hjn : j < n := by omega
    rw [hj]
    refine (rmark_one sb n j w hj0 hjn (by omega) (by rw [blk_cell hT, seenA_at hjn, seenP_not hR hm hj hj0]) (blk_free hT j)).mono ?_
    rintro e1 w' ⟨rfl, rfl⟩
    refine ⟨rfl, ⟨T, ?_⟩, Fr.setCell (S := (· = sb)) (Fr.refl _ _) (p := ⟨sb, j, none⟩) (.inl rfl) _⟩
    have := blk_set hT j (.bool true)
    rwa [seenA_step hj hj0 hjn] at this
end Go.Proofs.Ytcgfoaihfncppaa
