/- Walks of big: Cut. -/
import Derived.Test.YtcgfoaihfncppaaKBgCd
import Derived.Test.YtcgfoaihfncppaaKBhT
import Derived.Test.YtcgfoaihfncppaaKBgO
import Derived.Test.YtcgfoaihfncppaaKBgS
set_option linter.unusedSimpArgs false
set_option linter.unusedVariables false
namespace Go.Proofs.Ytcgfoaihfncppaa
open Go.RowKit Go.Sel Go.Sel.Gra Go.Sel.Bg Go.Sel.Mer Go.Shelf

def cutBoxes (A : Option Addr) (n c : Nat) (t : List Int) (k : Int) : List Obj :=
  [.cells #[.slice A n c] 33, .cells (iv .i64 t).toArray 36, .cells #[.int .i64 k] 3, .cells #[.slice none 0 0] 33, .cells (iv .i64 zB).toArray 36, .cells #[.slice none 0 0] 23]
def cutCap (s : Nat) : Array Value := #[.pointer (some ⟨s, 0, none⟩), .pointer (some ⟨s + 1, 0, none⟩), .pointer (some ⟨s + 1 + 1, 0, none⟩), .pointer (some ⟨s + 1 + 1 + 1, 0, none⟩), .pointer (some ⟨s + 1 + 1 + 1 + 1 + 1, 0, none⟩), .pointer (some ⟨s + 1 + 1 + 1 + 1, 0, none⟩)]
theorem Cut_att (A : Option Addr) (n c : Nat) (D : List (List Int)) (t : List Int) (k : Nat) (hk : k ≤ 1062) (ht : t.length = 8) (w : World) (hD : Bp w A n c D) (hR : Rt D t) (W : World) (hW0 : W = allocs w (cutBoxes A n c t (k : Int))) :
    Calls Try.prog 29 #[.func (.func 49) #[] (cutCap w.heap.size)] W fun e w' => e = .returned (.int .i64 0) ∧ Below w.heap.size w w' ∧
      ∃ g c' gs A4 c4, w'.heap[w.heap.size + 1 + 1 + 1]? = some (.cells #[.slice (some ⟨g, 0, none⟩) n c'] 33 (0, 0)) ∧ Wr w.heap.size w' g n c' (cutL D t k).out gs ∧ boxB w' (w.heap.size + 1 + 1 + 1 + 1) (cutL D t k).l ∧ w'.heap[w.heap.size + 1 + 1 + 1 + 1 + 1]? = some (.cells #[.slice A4 (cutL D t k).free.length c4] 23 (0, 0)) ∧ Rd w' A4 (cutL D t k).free.length c4 (iv .i64 (cutL D t k).free) := by
  have hsz : W.heap.size = w.heap.size + 6 := by rw [hW0, allocs_size]; rfl
  have hBW : Below w.heap.size w W := hW0 ▸ allocs_below _ w
  have hat : ∀ i (h : i < (cutBoxes A n c t (k : Int)).length), (W.alloc (.cells #[.int .i64 0] 24)).heap[w.heap.size + i]? = some (cutBoxes A n c t (k : Int))[i] := fun i h => by
    have h1 := allocs_at (cutBoxes A n c t (k : Int)) w i h
    rw [← hW0] at h1
    exact blk_below h1 (below_al W _) (by rw [hsz]; simp [cutBoxes] at h; omega)
  have hBV : Below w.heap.size w (W.alloc (.cells #[.int .i64 0] 24)) := hBW.alloc (by omega) _
  have g0 : (W.alloc (.cells #[.int .i64 0] 24)).heap[w.heap.size]? = _ := hat 0 (by simp [cutBoxes])
  have g1 := hat 1 (by simp [cutBoxes])
  have g2 := hat 2 (by simp [cutBoxes])
  have g3 := hat 3 (by simp [cutBoxes])
  have g4 := hat 4 (by simp [cutBoxes])
  have g5 := hat 5 (by simp [cutBoxes])
  have h5 := Cut1_ok w (W.alloc (.cells #[.int .i64 0] 24)) A n c D t k hk ht w.heap.size (w.heap.size + 1) (w.heap.size + 2) (w.heap.size + 3) (w.heap.size + 5) (w.heap.size + 4) (by rw [blk_cell g0]; rfl) g1 g2 g3 g5 g4 (by omega) (by omega) (by omega) (by omega) (by omega) (by omega) (by omega) (by omega) (by omega) hBV (by omega) (by omega) (by omega) hD hR
  refine (attempt_ok 49 (cutCap w.heap.size) (fun _ _ => by simp [go_sem]) W (fun x => x = w.heap.size + 3 ∨ x = w.heap.size + 5 ∨ x = w.heap.size + 4) (fun w' => ∃ g c' gs A4 c4, w'.heap[w.heap.size + 3]? = some (.cells #[.slice (some ⟨g, 0, none⟩) n c'] 33 (0, 0)) ∧ Wr w.heap.size w' g n c' (cutL D t k).out gs ∧ boxB w' (w.heap.size + 4) (cutL D t k).l ∧ w'.heap[w.heap.size + 5]? = some (.cells #[.slice A4 (cutL D t k).free.length c4] 23 (0, 0)) ∧ Rd w' A4 (cutL D t k).free.length c4 (iv .i64 (cutL D t k).free)) (fun _ h => by omega) (h5.mono ?_)).mono ?_
  · rintro e w' ⟨rfl, hF, g, c', gs, A4, c4, k1, k2, k3, k4, k5⟩
    exact ⟨rfl, hF, g, c', gs, A4, c4, k1, k2.mono hBV.size, k3, k4, k5⟩
  · rintro e w' ⟨rfl, hF, hb⟩
    exact ⟨rfl, hBW.trans (hF.below (B := w.heap.size) hBW.size (fun _ h => by omega)), hb⟩
set_option maxRecDepth 100000 in
set_option maxHeartbeats 2000000 in
theorem Cut_ok (A : Option Addr) (n c : Nat) (D : List (List Int)) (t : List Int) (k : Nat) (hk : k ≤ 1062) (ht : t.length = 8) (hl : (cutL D t k).l.length = 8) (w : World) (hD : Bp w A n c D) (hR : Rt D t) :
    Calls Try.prog 26 #[.slice A n c, bigV t, .int .i64 (k : Int)] w fun e w' => (∃ g c' gs A4 c4, e = .returned (.tuple #[.slice (some ⟨g, 0, none⟩) n c', bigV (cutL D t k).l, .slice A4 (cutL D t k).free.length c4, .int .i64 0]) ∧ Wr w.heap.size w' g n c' (cutL D t k).out gs ∧ Rd w' A4 (cutL D t k).free.length c4 (iv .i64 (cutL D t k).free)) ∧ Below w.heap.size w w' := by
  have HX := Lib.hid (Cut_att A n c D t k hk ht w hD hR)
  have hmf : ∀ (fn : Fn) (first cap : Array Value) (w : World), (Instr.makeFunc fn first cap).run Try.prog w = .ok (.func fn first cap) w := fun _ _ _ _ => rfl
  clear hD hR
  generalize cutL D t k = cs at *
  obtain ⟨co, cl, cf⟩ := cs
  simp only at HX hl ⊢
  generalize hnf : cf.length = nf at *
  clear hnf
  obtain ⟨a0, a1, a2, a3, a4, a5, a6, a7, rfl⟩ := len8 ht
  obtain ⟨z0, z1, z2, z3, z4, z5, z6, z7, rfl⟩ := len8 hl
  simp only [bigV, boxB, cutCap, cutBoxes, zB, allocs, iv, List.map_cons, List.map_nil] at HX ⊢
  clear ht hl
  go_enter Try.func26, Try.ntmps26
  go_upto_region 2 with (go_at_call 29; refine (HX.out _ rfl).mono ?_; rintro e w2 ⟨rfl, hB, g, c', gs, A4, c4, hb5, hwb, hb6, hb7, hrd⟩; have HB := Lib.hid hB; have H5 := Lib.hid hb5; have H6 := Lib.hid hb6; have H7 := Lib.hid hb7; have HWB := Lib.hid hwb; have HRD := Lib.hid hrd; clear hB hb5 hb6 hb7 hwb hrd)
  clear HX
  have HB2 : Hid (Below w.heap.size w w2.drew) := Lib.hid HB.out.drew
  have HWB2 : Hid (Wr w.heap.size w2.drew g n c' co gs) := Lib.hid (HWB.out.below (Sel.below_drewN w2 1))
  have HRD2 : Hid (Rd w2.drew A4 nf c4 (cf.map (Value.int .i64))) := Lib.hid (HRD.out.below (Sel.below_drewN w2 1))
  have H5' : Hid (w2.drew.heap[w.heap.size + 1 + 1 + 1]? = some (.cells #[.slice (some ⟨g, 0, none⟩) n c'] 33 (0, 0))) := H5
  have H6' : Hid (w2.drew.heap[w.heap.size + 1 + 1 + 1 + 1]? = some (.cells #[.int .i64 z0, .int .i64 z1, .int .i64 z2, .int .i64 z3, .int .i64 z4, .int .i64 z5, .int .i64 z6, .int .i64 z7] 36 (0, 0))) := H6
  have H7' : Hid (w2.drew.heap[w.heap.size + 1 + 1 + 1 + 1 + 1]? = some (.cells #[.slice A4 nf c4] 23 (0, 0))) := H7
  clear HB HWB H5 H6 H7 HRD
  have f5 := blk_free H5'.out 0
  have f6 := blk_free H6'.out
  have f7 := blk_free H7'.out 0
  have s0 := blk_cell H5'.out 0
  have s9 := blk_cell H7'.out 0
  simp only [List.getElem?_toArray, List.getElem?_cons_zero] at s0 s9
  obtain ⟨s1, s2, s3, s4, s5, s6, s7, s8⟩ := big8 H6'.out
  have HS : At (fun w' : World => w'.cell? ⟨w.heap.size + 1 + 1 + 1, 0, none⟩ = some (.slice (some ⟨g, 0, none⟩) n c') ∧ w'.cell? ⟨w.heap.size + 1 + 1 + 1 + 1, 0, none⟩ = some (.int .i64 z0) ∧ w'.cell? ⟨w.heap.size + 1 + 1 + 1 + 1, 1, none⟩ = some (.int .i64 z1) ∧ w'.cell? ⟨w.heap.size + 1 + 1 + 1 + 1, 2, none⟩ = some (.int .i64 z2) ∧ w'.cell? ⟨w.heap.size + 1 + 1 + 1 + 1, 3, none⟩ = some (.int .i64 z3) ∧ w'.cell? ⟨w.heap.size + 1 + 1 + 1 + 1, 4, none⟩ = some (.int .i64 z4) ∧ w'.cell? ⟨w.heap.size + 1 + 1 + 1 + 1, 5, none⟩ = some (.int .i64 z5) ∧ w'.cell? ⟨w.heap.size + 1 + 1 + 1 + 1, 6, none⟩ = some (.int .i64 z6) ∧ w'.cell? ⟨w.heap.size + 1 + 1 + 1 + 1, 7, none⟩ = some (.int .i64 z7) ∧ w'.cell? ⟨w.heap.size + 1 + 1 + 1 + 1 + 1, 0, none⟩ = some (.slice A4 nf c4)) w2.drew := ⟨s0, s1, s2, s3, s4, s5, s6, s7, s8, s9⟩
  have E5 := Lib.hid (setCell_same H5'.out)
  have E7 := Lib.hid (setCell_same H7'.out)
  have E60 := Lib.hid (setCell_at H6'.out (j := 0) (v := .int .i64 z0) rfl)
  have E61 := Lib.hid (setCell_at H6'.out (j := 1) (v := .int .i64 z1) rfl)
  have E62 := Lib.hid (setCell_at H6'.out (j := 2) (v := .int .i64 z2) rfl)
  have E63 := Lib.hid (setCell_at H6'.out (j := 3) (v := .int .i64 z3) rfl)
  have E64 := Lib.hid (setCell_at H6'.out (j := 4) (v := .int .i64 z4) rfl)
  have E65 := Lib.hid (setCell_at H6'.out (j := 5) (v := .int .i64 z5) rfl)
  have E66 := Lib.hid (setCell_at H6'.out (j := 6) (v := .int .i64 z6) rfl)
  have E67 := Lib.hid (setCell_at H6'.out (j := 7) (v := .int .i64 z7) rfl)
  refine wp_region_lexD HS [0, 1, 2, 3, 7] (by kernel_rfl) (by kernel_rfl) (fun _ _ d _ _ h => by cases d <;> exact h) ?_
  generalize w2.drew = W3 at *
  refine lexD_take (by kernel_rfl) (by kernel_rfl) HS (fun w9 h9 => by obtain ⟨s0, s1, s2, s3, s4, s5, s6, s7, s8, s9⟩ := h9; go_simp; first | done | rfl) (fun K hK => ?_); go_simp; refine hK _ ?_; clear hK K
  refine lexD_take (by kernel_rfl) (by kernel_rfl) HS (fun w9 h9 => by obtain ⟨s0, s1, s2, s3, s4, s5, s6, s7, s8, s9⟩ := h9; go_simp; first | done | rfl) (fun K hK => ?_); go_simp; refine hK _ ?_; clear hK K
  refine lexD_take (by kernel_rfl) (by kernel_rfl) HS (fun w9 h9 => by obtain ⟨s0, s1, s2, s3, s4, s5, s6, s7, s8, s9⟩ := h9; go_simp; first | done | rfl) (fun K hK => ?_); go_simp; refine hK _ ?_; clear hK K
  refine lexD_take (by kernel_rfl) (by kernel_rfl) HS (fun w9 h9 => by obtain ⟨s0, s1, s2, s3, s4, s5, s6, s7, s8, s9⟩ := h9; go_simp; first | done | rfl) (fun K hK => ?_); go_simp; refine hK _ ?_; clear hK K

  refine lexD_do (by kernel_rfl) (by kernel_rfl) (fun K hK => ?_)
  go_simp
  rw [E5.out]
  refine hK _ _ (fun _ => HS) ?_
  clear hK K
  refine lexD_do (by kernel_rfl) (by kernel_rfl) (fun K hK => ?_)
  go_simp
  rw [E60.out, E61.out, E62.out, E63.out, E64.out, E65.out, E66.out, E67.out]
  refine hK _ _ (fun _ => HS) ?_
  clear hK K
  refine lexD_do (by kernel_rfl) (by kernel_rfl) (fun K hK => ?_)
  go_simp
  rw [E7.out]
  refine hK _ _ (fun _ => HS) ?_
  clear hK K
  refine lexD_take (by kernel_rfl) (by kernel_rfl) HS (fun w9 h9 => by obtain ⟨s0, s1, s2, s3, s4, s5, s6, s7, s8, s9⟩ := h9; go_simp; first | done | rfl) (fun K hK => ?_); go_simp; refine hK _ ?_; clear hK K

  refine lexD_nil ?_
  go_wp2
  refine bodyPost_ret (v := .tuple #[.slice (some ⟨g, 0, none⟩) n c', .agg #[.int .i64 z0, .int .i64 z1, .int .i64 z2, .int .i64 z3, .int .i64 z4, .int .i64 z5, .int .i64 z6, .int .i64 z7], .slice A4 nf c4, .int .i64 0]) ?_ rfl ?_
  · simp [results, Try.results26, go_sem, s0, s1, s2, s3, s4, s5, s6, s7, s8, s9]
  · exact ⟨⟨g, c', gs, A4, c4, rfl, HWB2.out, HRD2.out⟩, HB2.out⟩
end Go.Proofs.Ytcgfoaihfncppaa
/- Walks of big: bytes of a file, both of the program and of its reference. -/
set_option linter.unusedSimpArgs false
set_option linter.unusedVariables false
namespace Go.Proofs.Ytcgfoaihfncppaa
open Go.RowKit Go.Sel Go.Sel.Gra Go.Sel.Bg Go.Sel.Mer Go.Shelf

def isB (x : Int) : Bool := decide (0 ≤ x) && decide (x ≤ 255)
def encF (t : List Int) : List Int := if t.all isB then t else []
def encE (t : List Int) : Int := if t.all isB then 0 else 3
theorem encF_byte (t : List Int) : AllByte (encF t) := by
  unfold encF
  split
  · rename_i h
    intro x hx
    have := List.all_eq_true.1 h x hx
    simpa [isB] using this
  · intro x hx; simp at hx
def bz (t : List Int) (k : Nat) : List Value := iv .u8 (t.take k) ++ List.replicate (8 - k) (.int .u8 0)
theorem bz_len {t : List Int} (ht : t.length = 8) {k : Nat} (hk : k ≤ 8) : (bz t k).length = 8 := by simp [bz, iv]; omega
theorem bz_at {t : List Int} (ht : t.length = 8) {k : Nat} (hk : k < 8) : (bz t k)[k]? = some (.int .u8 0) := by
  unfold bz
  rw [List.getElem?_append_right (by simp [iv]; omega)]
  have e : (iv .u8 (t.take k)).length = k := by simp [iv]; omega
  rw [e, Nat.sub_self, List.getElem?_replicate, if_pos (by omega)]
theorem bz_set {t : List Int} (ht : t.length = 8) {k : Nat} (hk : k < 8) (hkt : k < t.length) : (bz t k).set k (.int .u8 t[k]) = bz t (k + 1) := by
  unfold bz
  rw [List.set_append_right _ _ (by simp [iv]; omega)]
  have e : (iv .u8 (t.take k)).length = k := by simp [iv]; omega
  rw [e, Nat.sub_self, List.take_succ_eq_append_getElem hkt]
  have e2 : 8 - k = (8 - (k + 1)) + 1 := by omega
  rw [e2, List.replicate_succ, List.set_cons_zero]
  simp only [iv, List.map_append, List.map_cons, List.map_nil, List.append_assoc, List.cons_append, List.nil_append]

set_option maxRecDepth 100000 in
set_option maxHeartbeats 2000000 in
theorem Encode_any (t : List Int) (ht : t.length = 8) (w : World) : Calls Try.prog 17 #[bigV t] w fun e w' => (∃ A c, e = .returned (.tuple #[.slice A (encF t).length c, .int .i64 (encE t)]) ∧ Rd w' A (encF t).length c (iv .u8 (encF t))) ∧ Below w.heap.size w w' := by
  have HX : Hid (∀ i : Nat, i < 8 → ∀ W, (Instr.index 66 (bigV t) (.int .i64 (i : Int))).run Try.prog W = .ok (.int .i64 (tp t i)) W) := Lib.hid fun i hi W => index8 t ht i hi W
  have HT : Hid (∀ W, Calls Try.prog 39 #[bigV t] W fun e w' => e = .returned (bigV t) ∧ Below W.heap.size W w') := Lib.hid fun W => top_any t ht W
  have HB0 : Hid (∀ o : Obj, Below w.heap.size w ((w.alloc o).alloc (.cells (bz t 0).toArray 85)) ∧ ((w.alloc o).alloc (.cells (bz t 0).toArray 85)).heap[w.heap.size + 1]? = some (.cells (bz t 0).toArray 85 (0, 0))) := Lib.hid fun o => ⟨(below_al w o).alloc (by simp) _, by have := blk11 (w.alloc o) (.cells (bz t 0).toArray 85); simpa using this⟩
  have hcv : ∀ W, boxB W w.heap.size t → True := fun _ _ => trivial
  have H8 := Lib.hid ht
  have HTP : Hid (∀ i (h : i < t.length), tp t i = t[i]) := Lib.hid fun i h => by simp [tp, h]
  obtain ⟨a0, a1, a2, a3, a4, a5, a6, a7, hte⟩ := len8 ht
  have hbv : bigV t = .agg #[.int .i64 a0, .int .i64 a1, .int .i64 a2, .int .i64 a3, .int .i64 a4, .int .i64 a5, .int .i64 a6, .int .i64 a7] := by rw [hte]; rfl
  have HBV := Lib.hid hbv
  have hbz : bz t 0 = [.int .u8 0, .int .u8 0, .int .u8 0, .int .u8 0, .int .u8 0, .int .u8 0, .int .u8 0, .int .u8 0] := rfl
  have HBZ := Lib.hid hbz
  rw [hbv] at HX HT ⊢
  simp only [hbz] at HB0
  clear hbv hte hbz hcv ht
  go_enter Try.func17, Try.ntmps17
  go_wp2_with (go_at_call 39; refine (HT.out _).mono ?_; rintro e w2 ⟨rfl, hB⟩; have HB := Lib.hid ((HB0.out _).1.trans (hB.mono (HB0.out _).1.size)); have HO := Lib.hid (blk_below (HB0.out _).2 hB (Array.getElem?_eq_some_iff.1 (HB0.out _).2).1); clear hB)
  clear HT HB0
  go_loopw [5, 6, 9] (fun _ _ v wr => ∃ k : Nat, k ≤ 8 ∧ v = .int .i64 k ∧ Hid (∀ j, j < k → isB (tp t j) = true) ∧ Hid (wr.heap[w.heap.size + 1]? = some (.cells (bz t k).toArray 85 (0, 0))) ∧ Hid (Below w.heap.size w wr)) (fun _ _ v _ => 8 - (Go.RowKit.intOf v).toNat)
  case atStart => exact ⟨0, by omega, rfl, fun j hj => by omega, by rw [HBZ.out]; exact HO.out, HB⟩
  case round =>
    clear HB HO
    obtain ⟨k, hk, rfl, HG, HO, HB⟩ := hrel
    by_cases hlt : k < 8
    · have hx := HX.out k hlt
      have hkt : k < t.length := by rw [H8.out]; exact hlt
      have hoc := cells_at HO.out k
      rw [bz_at H8.out hlt] at hoc
      have hof := blk_free HO.out k
      have HBS := Lib.hid (bz_set H8.out hlt hkt)
      have HTK := Lib.hid (HTP.out k hkt)
      have hw8 := HB.out.size
      by_cases hb : isB (tp t k) = true
      · have hb' := hb
        simp only [isB, Bool.and_eq_true, decide_eq_true_eq] at hb'
        have hwx : IntKind.u8.wrap (tp t k) = tp t k := IntWalk.u8_in _ hb'
        have HBK := Lib.hid hb
        clear hb HX
        have HS := Lib.hid (blk_set HO.out k (.int .u8 (tp t k)))
        have hnlt : ¬ (tp t k < 0) := by omega
        have hngt : ¬ (255 < tp t k) := by omega
        clear hb'
        go_wp2
        refine ⟨⟨k + 1, by omega, by go_num, fun j hj => (if h : j = k then h ▸ HBK.out else HG.out j (by omega)), ?_, HB.out.setCell (p := ⟨w.heap.size + 1, k, none⟩) (by simp only; omega) _⟩, by simp [Go.RowKit.intOf]; omega⟩
        refine HS.out.trans ?_
        rw [← HBS.out, HTK.out, List.setIfInBounds_toArray]
      · have hb' : ¬ (0 ≤ tp t k ∧ tp t k ≤ 255) := by simpa [isB] using hb
        have hbad : t.all isB = false := by
          rw [List.all_eq_false]
          exact ⟨t[k], List.getElem_mem hkt, by rw [← HTK.out]; exact hb⟩
        have HF : Hid (encF t = [] ∧ encE t = 3) := Lib.hid (by simp [encF, encE, hbad])
        clear hbad hb HX
        by_cases h0 : tp t k < 0
        · clear hb'
          go_wp2
          go_ret2
          rw [HF.out.1, HF.out.2]
          exact ⟨⟨none, 0, rfl, Rd.nil (c := 0) (by omega)⟩, HB.out⟩
        · have h255 : 255 < tp t k := by omega
          clear hb'
          go_wp2
          go_ret2
          rw [HF.out.1, HF.out.2]
          exact ⟨⟨none, 0, rfl, Rd.nil (c := 0) (by omega)⟩, HB.out⟩
    · obtain rfl : k = 8 := by omega
      have HF : Hid (encF t = t ∧ encE t = 0) := Lib.hid (by
        have : t.all isB = true := List.all_eq_true.2 fun x hx => by
          obtain ⟨j, hj, rfl⟩ := List.mem_iff_getElem.1 hx
          have := HG.out j (by have := H8.out; omega)
          rwa [HTP.out j hj] at this
        simp [encF, encE, this])
      have hb8 : bz t 8 = iv .u8 t := by have := H8.out; simp [bz, ← this]
      have HR : Hid (Rd wr (some ⟨w.heap.size + 1, 0, none⟩) 8 8 (iv .u8 t)) := Lib.hid (rd_block (by rw [HO.out, hb8]) 8 8 _ 0 (Nat.le_refl _) (by omega) (fun j hj => by simp))
      clear hb8 HX
      go_wp2
      go_ret2
      rw [HF.out.1, HF.out.2, H8.out]
      exact ⟨⟨_, _, rfl, HR.out⟩, HB.out⟩

set_option maxRecDepth 100000 in
set_option maxHeartbeats 2000000 in
theorem rEncode_any (t : List Int) (ht : t.length = 8) (w : World) : Calls Try.prog 18 #[bigV t] w fun e w' => (∃ A c, e = .returned (.tuple #[.slice A (encF t).length c, .int .i64 (encE t)]) ∧ Rd w' A (encF t).length c (iv .u8 (encF t))) ∧ Below w.heap.size w w' := by
  have HT : Hid (∀ W, Calls Try.prog 40 #[bigV t] W fun e w' => (∃ A c, e = .returned (.slice A 8 c) ∧ Rd w' A 8 c (iv .i64 t)) ∧ Below W.heap.size W w') := Lib.hid fun W => numbers_any t ht W
  have H8 := Lib.hid ht
  have HTP : Hid (∀ i (h : i < t.length), tp t i = t[i]) := Lib.hid fun i h => by simp [tp, h]
  obtain ⟨a0, a1, a2, a3, a4, a5, a6, a7, hte⟩ := len8 ht
  have hbv : bigV t = .agg #[.int .i64 a0, .int .i64 a1, .int .i64 a2, .int .i64 a3, .int .i64 a4, .int .i64 a5, .int .i64 a6, .int .i64 a7] := by rw [hte]; rfl
  rw [hbv] at HT ⊢
  clear hbv hte ht
  go_enter Try.func18, Try.ntmps18
  go_wp2_with (go_at_call 40; refine (HT.out _).mono ?_; rintro e w2 ⟨⟨A, c, rfl, hr⟩, hB⟩; have HB := Lib.hid (below_then (below_al w _) hB); have HR := Lib.hid hr; have hl1 := hr.le; have hl2 := hr.cap; clear hB hr)
  clear HT
  go_loopw [5, 6] (fun s v wr => ∃ (k c5 : Nat) (A5 : Option Addr), k ≤ 8 ∧ v = .int .i64 k ∧ s = .slice A5 k c5 ∧ Hid (∀ j, j < k → isB (tp t j) = true) ∧ Hid (wr.ownsRow w2.heap.size 5 1 (.slice A5 k c5) k (iv .u8 (t.take k))) ∧ Hid (Below w2.heap.size w2 wr)) (fun _ v _ => 8 - (Go.RowKit.intOf v).toNat)
  case atStart => exact ⟨0, 0, none, by omega, rfl, rfl, fun j hj => by omega, World.ownsRow_nil _ _ _ _, Below.refl _ _⟩
  case round =>
    obtain ⟨k, c5, A5, hk, rfl, rfl, HG, HO, HB2⟩ := hrel
    by_cases hlt : k < 8
    · have hkt : k < t.length := by rw [H8.out]; exact hlt
      obtain ⟨b, off, rfl, hb, hc⟩ := (HR.out.below HB2.out).form (by simp; omega)
      have hck := hc k (by simpa using hkt)
      rw [iv_at, ← HTP.out k hkt] at hck
      have HTK := Lib.hid (HTP.out k hkt)
      have hs2 := HB2.out.size
      clear hc
      by_cases hb : isB (tp t k) = true
      · have hb' := hb
        simp only [isB, Bool.and_eq_true, decide_eq_true_eq] at hb'
        have hwx : IntKind.u8.wrap (tp t k) = tp t k := IntWalk.u8_in _ hb'
        have HBK := Lib.hid hb
        clear hb
        have hnlt : ¬ (tp t k < 0) := by omega
        have hngt : ¬ (255 < tp t k) := by omega
        clear hb'
        have HE : Hid (iv .u8 (t.take (k + 1)) = iv .u8 (t.take k) ++ [.int .u8 (tp t k)]) := Lib.hid (by rw [HTK.out, List.take_succ_eq_append_getElem hkt]; simp only [iv, List.map_append, List.map_cons, List.map_nil])
        go_wp2_with (at_builtin; refine wpList_push wr rfl _ _ 45 5 rfl w2.heap.size (.int .u8 0) 1 Try.underlying45 infoU8 rfl (by omega) (.slice A5 k c5) k _ (.int .u8 (tp t k)) rfl rfl rfl HO.out (by omega) (by omega) rfl ?_; intro g cap w1 ho hg hat hlt1)
        refine ⟨⟨k + 1, cap, some ⟨g, 0, none⟩, by omega, by go_num, rfl, fun j hj => (if h : j = k then h ▸ HBK.out else HG.out j (by omega)), ?_, below_grown HB2.out hg hs2 (fun j hj => by have := own_row HO.out j hj; omega)⟩, by simp [Go.RowKit.intOf]; omega⟩
        show World.ownsRow _ _ _ _ _ _ _
        rw [HE.out]
        exact ho
      · have hb' : ¬ (0 ≤ tp t k ∧ tp t k ≤ 255) := by simpa [isB] using hb
        have hbad : t.all isB = false := by
          rw [List.all_eq_false]
          exact ⟨t[k], List.getElem_mem hkt, by rw [← HTK.out]; exact hb⟩
        have HF : Hid (encF t = [] ∧ encE t = 3) := Lib.hid (by simp [encF, encE, hbad])
        clear hbad hb
        by_cases h0 : tp t k < 0
        · clear hb'
          go_wp2
          go_ret2
          rw [HF.out.1, HF.out.2]
          exact ⟨⟨none, 0, rfl, Rd.nil (c := 0) (by omega)⟩, HB.out.trans (HB2.out.mono HB.out.size)⟩
        · have h255 : 255 < tp t k := by omega
          clear hb'
          go_wp2
          go_ret2
          rw [HF.out.1, HF.out.2]
          exact ⟨⟨none, 0, rfl, Rd.nil (c := 0) (by omega)⟩, HB.out.trans (HB2.out.mono HB.out.size)⟩
    · obtain rfl : k = 8 := by omega
      have HF : Hid (encF t = t ∧ encE t = 0) := Lib.hid (by
        have : t.all isB = true := List.all_eq_true.2 fun x hx => by
          obtain ⟨j, hj, rfl⟩ := List.mem_iff_getElem.1 hx
          have := HG.out j (by have := H8.out; omega)
          rwa [HTP.out j hj] at this
        simp [encF, encE, this])
      have e8 : t.take 8 = t := List.take_of_length_le (by have := H8.out; omega)
      obtain ⟨A2, c2, e2, _, hr2⟩ := rd_own HO.out
      cases e2
      rw [e8] at hr2
      have HR2 := Lib.hid hr2
      clear hr2 e8
      go_wp2
      go_ret2
      rw [HF.out.1, HF.out.2, H8.out]
      exact ⟨⟨_, _, rfl, HR2.out⟩, HB.out.trans (HB2.out.mono HB.out.size)⟩
end Go.Proofs.Ytcgfoaihfncppaa
/- Walks of big: the file that bytes say, both of the program and of its reference. -/
set_option linter.unusedSimpArgs false
set_option linter.unusedVariables false
namespace Go.Proofs.Ytcgfoaihfncppaa
open Go.RowKit Go.Sel Go.Sel.Gra Go.Sel.Bg Go.Sel.Mer Go.Shelf

def zT : List Int := [0, 0, 0, 0, 0, 0, 0, 0]
def decT (b : List Int) : List Int := if b.length = 8 then b else zT
def decE (b : List Int) : Int := if b.length = 8 then 0 else 3
theorem decT_len (b : List Int) : (decT b).length = 8 := by unfold decT; split <;> simp_all [zT]
def iz (b : List Int) (k : Nat) : List Value := iv .i64 (b.take k) ++ List.replicate (8 - k) (.int .i64 0)
theorem iz_at {b : List Int} (hb : b.length = 8) {k : Nat} (hk : k < 8) : (iz b k)[k]? = some (.int .i64 0) := by
  unfold iz
  rw [List.getElem?_append_right (by simp [iv]; omega)]
  have e : (iv .i64 (b.take k)).length = k := by simp [iv]; omega
  rw [e, Nat.sub_self, List.getElem?_replicate, if_pos (by omega)]
theorem iz_set {b : List Int} (hb : b.length = 8) {k : Nat} (hk : k < 8) (hkb : k < b.length) : (iz b k).set k (.int .i64 b[k]) = iz b (k + 1) := by
  unfold iz
  rw [List.set_append_right _ _ (by simp [iv]; omega)]
  have e : (iv .i64 (b.take k)).length = k := by simp [iv]; omega
  rw [e, Nat.sub_self, List.take_succ_eq_append_getElem hkb]
  have e2 : 8 - k = (8 - (k + 1)) + 1 := by omega
  rw [e2, List.replicate_succ, List.set_cons_zero]
  simp only [iv, List.map_append, List.map_cons, List.map_nil, List.append_assoc, List.cons_append, List.nil_append]
theorem fr8 (w : World) (B : Nat) (v0 v1 v2 v3 v4 v5 v6 v7 : Value) : Fr (· = B) w ((((((((w.setCell ⟨B, 0, none⟩ v0).setCell ⟨B, 1, none⟩ v1).setCell ⟨B, 2, none⟩ v2).setCell ⟨B, 3, none⟩ v3).setCell ⟨B, 4, none⟩ v4).setCell ⟨B, 5, none⟩ v5).setCell ⟨B, 6, none⟩ v6).setCell ⟨B, 7, none⟩ v7) := by
  exact (Fr.setCell (S := (· = B)) (Fr.setCell (S := (· = B)) (Fr.setCell (S := (· = B)) (Fr.setCell (S := (· = B)) (Fr.setCell (S := (· = B)) (Fr.setCell (S := (· = B)) (Fr.setCell (S := (· = B)) (Fr.setCell (S := (· = B)) (Fr.refl _ w) (p := ⟨B, 0, none⟩) (.inl rfl) v0) (p := ⟨B, 1, none⟩) (.inl rfl) v1) (p := ⟨B, 2, none⟩) (.inl rfl) v2) (p := ⟨B, 3, none⟩) (.inl rfl) v3) (p := ⟨B, 4, none⟩) (.inl rfl) v4) (p := ⟨B, 5, none⟩) (.inl rfl) v5) (p := ⟨B, 6, none⟩) (.inl rfl) v6) (p := ⟨B, 7, none⟩) (.inl rfl) v7)
def z8o (T : TypeId) : Obj := .cells #[.int .i64 0, .int .i64 0, .int .i64 0, .int .i64 0, .int .i64 0, .int .i64 0, .int .i64 0, .int .i64 0] T

set_option maxRecDepth 100000 in
set_option maxHeartbeats 4000000 in
theorem Decode_any (A : Option Addr) (n c : Nat) (b : List Int) (w : World) (hr : Rd w A n c (iv .u8 b)) (hl : b.length = n) (hb : AllByte b) : Calls Try.prog 19 #[.slice A n c] w fun e w' => e = .returned (.tuple #[bigV (decT b), .int .i64 (decE b)]) ∧ Below w.heap.size w w' := by
  have HR := Lib.hid hr
  have HL := Lib.hid hl
  have HB := Lib.hid hb
  have l1 := hr.le
  have l2 := hr.cap
  clear hr hl hb
  by_cases h8 : n = 8
  · subst h8
    have HF : Hid (∀ x0 x1 x2 x3 x4 x5 x6 x7 : Int, ∀ W, Calls Try.prog 33 #[.agg #[.int .i64 x0, .int .i64 x1, .int .i64 x2, .int .i64 x3, .int .i64 x4, .int .i64 x5, .int .i64 x6, .int .i64 x7]] W fun e w' => e = .returned (.agg #[.int .i64 x0, .int .i64 x1, .int .i64 x2, .int .i64 x3, .int .i64 x4, .int .i64 x5, .int .i64 x6, .int .i64 x7]) ∧ Below W.heap.size W w') := Lib.hid fun x0 x1 x2 x3 x4 x5 x6 x7 W => file_any [x0, x1, x2, x3, x4, x5, x6, x7] rfl W
    have hz0 : iz b 0 = [.int .i64 0, .int .i64 0, .int .i64 0, .int .i64 0, .int .i64 0, .int .i64 0, .int .i64 0, .int .i64 0] := rfl
    have HZ : Hid (((w.alloc (z8o 36)).alloc (.cells (iz b 0).toArray 66)).heap[w.heap.size + 1]? = some (.cells (iz b 0).toArray 66 (0, 0)) ∧ ((w.alloc (z8o 36)).alloc (.cells (iz b 0).toArray 66)).heap[w.heap.size]? = some (z8o 36) ∧ Below w.heap.size w ((w.alloc (z8o 36)).alloc (.cells (iz b 0).toArray 66))) :=
      Lib.hid ⟨by have := blk11 (w.alloc (z8o 36)) (.cells (iz b 0).toArray 66); simpa using this, blk21 _ _ _, (below_al w _).alloc (by simp) _⟩
    have HZ0 := Lib.hid hz0
    rw [hz0] at HZ
    simp only [z8o] at HZ
    clear hz0
    go_enter Try.func19, Try.ntmps19
    go_wp2
    go_loopw [5, 6, 13] (fun _ _ v wr => ∃ k : Nat, k ≤ 8 ∧ v = .int .i64 k ∧ Hid (wr.heap[w.heap.size + 1]? = some (.cells (iz b k).toArray 66 (0, 0))) ∧ Hid (wr.heap[w.heap.size]? = some (z8o 36)) ∧ Hid (Below w.heap.size w wr)) (fun _ _ v _ => 8 - (Go.RowKit.intOf v).toNat)
    case atStart => exact ⟨0, by omega, rfl, by rw [HZ0.out]; exact HZ.out.1, HZ.out.2.1, HZ.out.2.2⟩
    case round =>
      obtain ⟨k, hk, rfl, HO, HQ, HBL⟩ := hrel
      by_cases hlt : k < 8
      · have hkb : k < b.length := by rw [HL.out]; exact hlt
        obtain ⟨rb, off, rfl, hrb, hc⟩ := (HR.out.below HBL.out).form (by simp; omega)
        have hck := hc k (by simpa using hkb)
        rw [iv_at] at hck
        have hby := HB.out _ (List.getElem_mem hkb)
        have hoc := cells_at HO.out k
        rw [iz_at HL.out hlt] at hoc
        have hof := blk_free HO.out k
        have HBS := Lib.hid (iz_set HL.out hlt hkb)
        have HS := Lib.hid (blk_set HO.out k (.int .i64 b[k]))
        have hw8 := HBL.out.size
        clear hc
        generalize b[k] = x at *
        have hwx : IntKind.i64.wrap x = x := IntWalk.i64_in _ (by omega)
        go_wp2
        refine ⟨⟨k + 1, by omega, by go_num, HS.out.trans (by rw [← HBS.out, List.setIfInBounds_toArray]), ?_, HBL.out.setCell (p := ⟨w.heap.size + 1, k, none⟩) (by simp only; omega) _⟩, by simp [Go.RowKit.intOf]; omega⟩
        exact (Below.heap_setCell _ _ _ _ (by simp only; omega)).trans HQ.out
      · obtain rfl : k = 8 := by omega
        have HD : Hid (decT b = b ∧ decE b = 0) := Lib.hid (by simp [decT, decE, HL.out])
        obtain ⟨x0, x1, x2, x3, x4, x5, x6, x7, hbe⟩ := len8 HL.out
        have hiz : iz b 8 = iv .i64 b := by have := HL.out; simp [iz, ← this]
        have hO := HO.out
        rw [hiz, hbe] at hO
        obtain ⟨d0, d1, d2, d3, d4, d5, d6, d7⟩ := big8 hO
        have hQ := HQ.out
        simp only [z8o] at hQ
        obtain ⟨q0, q1, q2, q3, q4, q5, q6, q7⟩ := big8 hQ
        have HBE := Lib.hid hbe
        have hlq := (Array.getElem?_eq_some_iff.1 hQ).1
        have HQ' := Lib.hid hQ
        clear hiz hO hbe hQ
        go_wp2_with (go_at_call 33; refine (HF.out _ _ _ _ _ _ _ _ _).mono ?_; rintro e w2 ⟨rfl, hB⟩; have HB2 := Lib.hid (HBL.out.trans (hB.mono HBL.out.size)); have HQ2 := Lib.hid (blk_below HQ'.out hB hlq); have q0 := keep_cell q0 hB; have q1 := keep_cell q1 hB; have q2 := keep_cell q2 hB; have q3 := keep_cell q3 hB; have q4 := keep_cell q4 hB; have q5 := keep_cell q5 hB; have q6 := keep_cell q6 hB; have q7 := keep_cell q7 hB; have zz := blk_free HQ2.out; clear hB)
        have hZ8 := set8 HQ2.out (.int .i64 x0) (.int .i64 x1) (.int .i64 x2) (.int .i64 x3) (.int .i64 x4) (.int .i64 x5) (.int .i64 x6) (.int .i64 x7)
        have hFr := fr8 w2 w.heap.size (.int .i64 x0) (.int .i64 x1) (.int .i64 x2) (.int .i64 x3) (.int .i64 x4) (.int .i64 x5) (.int .i64 x6) (.int .i64 x7)
        generalize ((((((((w2.setCell ⟨w.heap.size, 0, none⟩ (.int .i64 x0)).setCell ⟨w.heap.size, 1, none⟩ (.int .i64 x1)).setCell ⟨w.heap.size, 2, none⟩ (.int .i64 x2)).setCell ⟨w.heap.size, 3, none⟩ (.int .i64 x3)).setCell ⟨w.heap.size, 4, none⟩ (.int .i64 x4)).setCell ⟨w.heap.size, 5, none⟩ (.int .i64 x5)).setCell ⟨w.heap.size, 6, none⟩ (.int .i64 x6)).setCell ⟨w.heap.size, 7, none⟩ (.int .i64 x7)) = Wf at *
        have hHB := HB2.out.trans (hFr.below (B := w.heap.size) HB2.out.size (fun k h => by omega))
        clear q0 q1 q2 q3 q4 q5 q6 q7 d0 d1 d2 d3 d4 d5 d6 d7 zz hFr
        refine bodyPost_ret (v := .tuple #[.agg #[.int .i64 x0, .int .i64 x1, .int .i64 x2, .int .i64 x3, .int .i64 x4, .int .i64 x5, .int .i64 x6, .int .i64 x7], .int .i64 0]) ?_ rfl ?_
        · obtain ⟨e0, e1, e2, e3, e4, e5, e6, e7⟩ := big8 hZ8
          simp [results, Try.results19, go_sem, e0, e1, e2, e3, e4, e5, e6, e7]
        · rw [HD.out.1, HD.out.2, HBE.out]
          exact ⟨rfl, hHB⟩
  · have HD : Hid (decT b = zT ∧ decE b = 3) := Lib.hid (by simp [decT, decE, HL.out, h8])
    have hne : ((n : Int) != 8) = true := by simp; omega
    go_enter Try.func19, Try.ntmps19
    go_wp2
    refine bodyPost_ret (v := .tuple #[.agg #[.int .i64 0, .int .i64 0, .int .i64 0, .int .i64 0, .int .i64 0, .int .i64 0, .int .i64 0, .int .i64 0], .int .i64 3]) ?_ rfl ?_
    · obtain ⟨e0, e1, e2, e3, e4, e5, e6, e7⟩ := big8 (blk11 w (.cells #[.int .i64 0, .int .i64 0, .int .i64 0, .int .i64 0, .int .i64 0, .int .i64 0, .int .i64 0, .int .i64 0] 36))
      simp [results, Try.results19, go_sem, e0, e1, e2, e3, e4, e5, e6, e7]
    · rw [HD.out.1, HD.out.2]
      exact ⟨rfl, below_al _ _⟩

set_option maxRecDepth 100000 in
set_option maxHeartbeats 4000000 in
theorem rDecode_any (A : Option Addr) (n c : Nat) (b : List Int) (w : World) (hr : Rd w A n c (iv .u8 b)) (hl : b.length = n) (hb : AllByte b) : Calls Try.prog 20 #[.slice A n c] w fun e w' => e = .returned (.tuple #[bigV (decT b), .int .i64 (decE b)]) ∧ Below w.heap.size w w' := by
  have HR := Lib.hid hr
  have HL := Lib.hid hl
  have HB := Lib.hid hb
  have l1 := hr.le
  have l2 := hr.cap
  clear hr hl hb
  by_cases h8 : n = 8
  · subst h8
    have hz0 : iz b 0 = [.int .i64 0, .int .i64 0, .int .i64 0, .int .i64 0, .int .i64 0, .int .i64 0, .int .i64 0, .int .i64 0] := rfl
    have HZ : Hid (((w.alloc (z8o 36)).alloc (.cells (iz b 0).toArray 36)).heap[w.heap.size + 1]? = some (.cells (iz b 0).toArray 36 (0, 0)) ∧ ((w.alloc (z8o 36)).alloc (.cells (iz b 0).toArray 36)).heap[w.heap.size]? = some (z8o 36) ∧ Below w.heap.size w ((w.alloc (z8o 36)).alloc (.cells (iz b 0).toArray 36))) :=
      Lib.hid ⟨by have := blk11 (w.alloc (z8o 36)) (.cells (iz b 0).toArray 36); simpa using this, blk21 _ _ _, (below_al w _).alloc (by simp) _⟩
    have HZ0 := Lib.hid hz0
    rw [hz0] at HZ
    simp only [z8o] at HZ
    clear hz0
    go_enter Try.func20, Try.ntmps20
    go_wp2
    go_loopw [5] (fun v wr => ∃ k : Nat, k ≤ 6 ∧ v = .int .i64 k ∧ Hid (wr.heap[w.heap.size + 1]? = some (.cells (iz b k).toArray 36 (0, 0))) ∧ Hid (wr.heap[w.heap.size]? = some (z8o 36)) ∧ Hid (Below w.heap.size w wr)) (fun v _ => 6 - (Go.RowKit.intOf v).toNat)
    case atStart => exact ⟨0, by omega, rfl, by rw [HZ0.out]; exact HZ.out.1, HZ.out.2.1, HZ.out.2.2⟩
    case round =>
      obtain ⟨k, hk, rfl, HO, HQ, HBL⟩ := hrel
      by_cases hlt : k < 6
      · have hkb : k < b.length := by rw [HL.out]; omega
        obtain ⟨rb, off, rfl, hrb, hc⟩ := (HR.out.below HBL.out).form (by simp; omega)
        have hck := hc k (by simpa using hkb)
        rw [iv_at] at hck
        have hby := HB.out _ (List.getElem_mem hkb)
        have hoc := cells_at HO.out k
        rw [iz_at HL.out (by omega)] at hoc
        have hof := blk_free HO.out k
        have HBS := Lib.hid (iz_set HL.out (by omega) hkb)
        have HS := Lib.hid (blk_set HO.out k (.int .i64 b[k]))
        have hw8 := HBL.out.size
        clear hc
        generalize b[k] = x at *
        have hwx : IntKind.i64.wrap x = x := IntWalk.i64_in _ (by omega)
        go_wp2
        refine ⟨⟨k + 1, by omega, by go_num, HS.out.trans (by rw [← HBS.out, List.setIfInBounds_toArray]), ?_, HBL.out.setCell (p := ⟨w.heap.size + 1, k, none⟩) (by simp only; omega) _⟩, by simp [Go.RowKit.intOf]; omega⟩
        exact (Below.heap_setCell _ _ _ _ (by simp only; omega)).trans HQ.out
      · obtain rfl : k = 6 := by omega
        have HD : Hid (decT b = b ∧ decE b = 0) := Lib.hid (by simp [decT, decE, HL.out])
        have hb6 : 6 < b.length := by rw [HL.out]; omega
        have hb7 : 7 < b.length := by rw [HL.out]; omega
        have HS6 := Lib.hid (iz_set HL.out (k := 6) (by omega) hb6)
        have HS7 := Lib.hid (iz_set HL.out (k := 7) (by omega) hb7)
        have HI8 : Hid (iz b 8 = iv .i64 b) := Lib.hid (by have := HL.out; simp [iz, ← this])
        obtain ⟨rb, off, rfl, hrb, hc⟩ := (HR.out.below HBL.out).form (by simp; omega)
        have s0 := hc 6 (by simpa using hb6)
        have s1 := hc 7 (by simpa using hb7)
        rw [iv_at] at s0 s1
        have y6 := HB.out _ (List.getElem_mem hb6)
        have y7 := HB.out _ (List.getElem_mem hb7)
        have hx6 : b[6] = b[6] := rfl
        generalize hg6 : b[6] = x6 at *
        generalize hg7 : b[7] = x7 at *
        have hw6 : IntKind.i64.wrap x6 = x6 := IntWalk.i64_in _ (by omega)
        have hw7 : IntKind.i64.wrap x7 = x7 := IntWalk.i64_in _ (by omega)
        clear hc hx6 y6 y7
        have hsz := HBL.out.size
        have HO1 : Hid (wr.drew.heap[w.heap.size + 1]? = some (.cells (iz b 6).toArray 36 (0, 0))) := HO
        have HQ1 : Hid (wr.drew.heap[w.heap.size]? = some (z8o 36)) := HQ
        have HB1 : Hid (Below w.heap.size w wr.drew) := Lib.hid HBL.out.drew
        have HS : At (fun w' : World => w'.cell? ⟨rb, off + 6, none⟩ = some (.int .u8 x6) ∧ w'.cell? ⟨rb, off + 7, none⟩ = some (.int .u8 x7)) wr.drew := ⟨s0, s1⟩
        have hrb1 : rb < w.heap.size := by
          obtain ⟨rb', off', e, h1, _⟩ := HR.out.form (by simp; omega)
          cases e
          exact h1
        clear HO HQ HBL s0 s1
        go_upto_region 8 with (fail)
        refine any_start HS [0, 1, 2, 3, 4, 5, 6, 7, 8, 10] (by kernel_rfl) ?_
        generalize wr.drew = Wd at *
        refine any_take 0 rfl (by kernel_rfl) (fun _ _ d _ _ h => by cases d <;> exact h) (by kernel_rfl) HS (fun w9 h9 => by obtain ⟨s0, s1⟩ := h9; go_simp; first | done | rfl) (fun K hK => ?_); go_simp; refine hK _ ?_; clear hK K
        refine any_take 1 rfl (by kernel_rfl) (fun _ _ d _ _ h => by cases d <;> exact h) (by kernel_rfl) HS (fun w9 h9 => by obtain ⟨s0, s1⟩ := h9; go_simp; first | done | rfl) (fun K hK => ?_); go_simp; refine hK _ ?_; clear hK K
        refine any_take 2 rfl (by kernel_rfl) (fun _ _ d _ _ h => by cases d <;> exact h) (by kernel_rfl) HS (fun w9 h9 => by obtain ⟨s0, s1⟩ := h9; go_simp; first | done | rfl) (fun K hK => ?_); go_simp; refine hK _ ?_; clear hK K
        refine any_take 3 rfl (by kernel_rfl) (fun _ _ d _ _ h => by cases d <;> exact h) (by kernel_rfl) HS (fun w9 h9 => by obtain ⟨s0, s1⟩ := h9; go_simp; first | done | rfl) (fun K hK => ?_); go_simp; refine hK _ ?_; clear hK K
        refine any_take 4 rfl (by kernel_rfl) (fun _ _ d _ _ h => by cases d <;> exact h) (by kernel_rfl) HS (fun w9 h9 => by obtain ⟨s0, s1⟩ := h9; go_simp; first | done | rfl) (fun K hK => ?_); go_simp; refine hK _ ?_; clear hK K
        refine any_take 5 rfl (by kernel_rfl) (fun _ _ d _ _ h => by cases d <;> exact h) (by kernel_rfl) HS (fun w9 h9 => by obtain ⟨s0, s1⟩ := h9; go_simp; first | done | rfl) (fun K hK => ?_); go_simp; refine hK _ ?_; clear hK K
        refine any_take 6 rfl (by kernel_rfl) (fun _ _ d _ _ h => by cases d <;> exact h) (by kernel_rfl) HS (fun w9 h9 => by obtain ⟨s0, s1⟩ := h9; go_simp; first | done | rfl) (fun K hK => ?_); go_simp; refine hK _ ?_; clear hK K
        refine any_take 7 rfl (by kernel_rfl) (fun _ _ d _ _ h => by cases d <;> exact h) (by kernel_rfl) HS (fun w9 h9 => by obtain ⟨s0, s1⟩ := h9; go_simp; first | done | rfl) (fun K hK => ?_); go_simp; refine hK _ ?_; clear hK K
        refine any_take 8 rfl (by kernel_rfl) (fun _ _ d _ _ h => by cases d <;> exact h) (by kernel_rfl) HS (fun w9 h9 => by obtain ⟨s0, s1⟩ := h9; go_simp; first | done | rfl) (fun K hK => ?_); go_simp; refine hK _ ?_; clear hK K
        have o6 := cells_at HO1.out 6
        rw [iz_at HL.out (by omega)] at o6
        have z6 := blk_free HO1.out 6
        refine any_one 9 rfl (by kernel_rfl) (by kernel_rfl) (fun K hK => ?_)
        go_simp
        have HO2 : Hid ((Wd.setCell ⟨w.heap.size + 1, 6, none⟩ (.int .i64 x6)).heap[w.heap.size + 1]? = some (.cells (iz b 7).toArray 36 (0, 0))) := Lib.hid ((blk_set HO1.out 6 (.int .i64 x6)).trans (by rw [← HS6.out, List.setIfInBounds_toArray]))
        have HQ2 : Hid ((Wd.setCell ⟨w.heap.size + 1, 6, none⟩ (.int .i64 x6)).heap[w.heap.size]? = some (z8o 36)) := Lib.hid ((Below.heap_setCell _ _ _ _ (by simp only; omega)).trans HQ1.out)
        have HB2 : Hid (Below w.heap.size w (Wd.setCell ⟨w.heap.size + 1, 6, none⟩ (.int .i64 x6))) := Lib.hid (HB1.out.setCell (p := ⟨w.heap.size + 1, 6, none⟩) (by simp only; omega) _)
        have HS2 : At (fun w' : World => w'.cell? ⟨rb, off + 6, none⟩ = some (.int .u8 x6) ∧ w'.cell? ⟨rb, off + 7, none⟩ = some (.int .u8 x7)) (Wd.setCell ⟨w.heap.size + 1, 6, none⟩ (.int .i64 x6)) := by
          obtain ⟨s0, s1⟩ := HS
          exact ⟨(World.cell?_of_block (a := ⟨rb, off + 6, none⟩) (Below.heap_setCell _ _ _ _ (by simp only; omega))).trans s0, (World.cell?_of_block (a := ⟨rb, off + 7, none⟩) (Below.heap_setCell _ _ _ _ (by simp only; omega))).trans s1⟩
        refine hK _ _ (fun _ => HS2) ?_
        clear hK K o6 z6 HS HO1 HQ1 HB1
        generalize Wd.setCell ⟨w.heap.size + 1, 6, none⟩ (.int .i64 x6) = We at *
        refine any_take 10 rfl (by kernel_rfl) (fun _ _ d _ _ h => by cases d <;> exact h) (by kernel_rfl) HS2 (fun w9 h9 => by obtain ⟨s0, s1⟩ := h9; go_simp; first | done | rfl) (fun K hK => ?_); go_simp; refine hK _ ?_; clear hK K
        have o7 := cells_at HO2.out 7
        rw [iz_at HL.out (by omega)] at o7
        have z7 := blk_free HO2.out 7
        refine any_one 11 rfl (by kernel_rfl) (by kernel_rfl) (fun K hK => ?_)
        go_simp
        have HO3 : Hid ((We.setCell ⟨w.heap.size + 1, 7, none⟩ (.int .i64 x7)).heap[w.heap.size + 1]? = some (.cells (iv .i64 b).toArray 36 (0, 0))) := Lib.hid ((blk_set HO2.out 7 (.int .i64 x7)).trans (by rw [← HI8.out, ← HS7.out, List.setIfInBounds_toArray]))
        have HQ3 : Hid ((We.setCell ⟨w.heap.size + 1, 7, none⟩ (.int .i64 x7)).heap[w.heap.size]? = some (z8o 36)) := Lib.hid ((Below.heap_setCell _ _ _ _ (by simp only; omega)).trans HQ2.out)
        have HB3 : Hid (Below w.heap.size w (We.setCell ⟨w.heap.size + 1, 7, none⟩ (.int .i64 x7))) := Lib.hid (HB2.out.setCell (p := ⟨w.heap.size + 1, 7, none⟩) (by simp only; omega) _)
        have HS3 : At (fun w' : World => w'.cell? ⟨rb, off + 6, none⟩ = some (.int .u8 x6) ∧ w'.cell? ⟨rb, off + 7, none⟩ = some (.int .u8 x7)) (We.setCell ⟨w.heap.size + 1, 7, none⟩ (.int .i64 x7)) := by
          obtain ⟨s0, s1⟩ := HS2
          exact ⟨(World.cell?_of_block (a := ⟨rb, off + 6, none⟩) (Below.heap_setCell _ _ _ _ (by simp only; omega))).trans s0, (World.cell?_of_block (a := ⟨rb, off + 7, none⟩) (Below.heap_setCell _ _ _ _ (by simp only; omega))).trans s1⟩
        refine hK _ _ (fun _ => HS3) ?_
        clear hK K o7 z7 HS2 HO2 HQ2 HB2
        generalize We.setCell ⟨w.heap.size + 1, 7, none⟩ (.int .i64 x7) = w2 at *
        refine any_end (by kernel_rfl) ?_
        obtain ⟨x0, x1, x2, x3, x4, x5, x6', x7', hbe⟩ := len8 HL.out
        have hO := HO3.out
        rw [hbe] at hO
        obtain ⟨d0, d1, d2, d3, d4, d5, d6, d7⟩ := big8 hO
        have hQ := HQ3.out
        simp only [z8o] at hQ
        obtain ⟨q0, q1, q2, q3, q4, q5, q6, q7⟩ := big8 hQ
        have zz := blk_free hQ
        have HBE := Lib.hid hbe
        have HQ2 := Lib.hid hQ
        clear hO hbe hQ
        go_wp2
        have hZ8 := set8 HQ2.out (.int .i64 x0) (.int .i64 x1) (.int .i64 x2) (.int .i64 x3) (.int .i64 x4) (.int .i64 x5) (.int .i64 x6') (.int .i64 x7')
        have hFr := fr8 w2 w.heap.size (.int .i64 x0) (.int .i64 x1) (.int .i64 x2) (.int .i64 x3) (.int .i64 x4) (.int .i64 x5) (.int .i64 x6') (.int .i64 x7')
        generalize ((((((((w2.setCell ⟨w.heap.size, 0, none⟩ (.int .i64 x0)).setCell ⟨w.heap.size, 1, none⟩ (.int .i64 x1)).setCell ⟨w.heap.size, 2, none⟩ (.int .i64 x2)).setCell ⟨w.heap.size, 3, none⟩ (.int .i64 x3)).setCell ⟨w.heap.size, 4, none⟩ (.int .i64 x4)).setCell ⟨w.heap.size, 5, none⟩ (.int .i64 x5)).setCell ⟨w.heap.size, 6, none⟩ (.int .i64 x6')).setCell ⟨w.heap.size, 7, none⟩ (.int .i64 x7')) = Wf at *
        have hHB := HB3.out.trans (hFr.below (B := w.heap.size) HB3.out.size (fun k h => by omega))
        clear q0 q1 q2 q3 q4 q5 q6 q7 d0 d1 d2 d3 d4 d5 d6 d7 zz hFr
        refine bodyPost_ret (v := .tuple #[.agg #[.int .i64 x0, .int .i64 x1, .int .i64 x2, .int .i64 x3, .int .i64 x4, .int .i64 x5, .int .i64 x6', .int .i64 x7'], .int .i64 0]) ?_ rfl ?_
        · obtain ⟨e0, e1, e2, e3, e4, e5, e6, e7⟩ := big8 hZ8
          simp [results, Try.results20, go_sem, e0, e1, e2, e3, e4, e5, e6, e7]
        · rw [HD.out.1, HD.out.2, HBE.out]
          exact ⟨rfl, hHB⟩
  · have HD : Hid (decT b = zT ∧ decE b = 3) := Lib.hid (by simp [decT, decE, HL.out, h8])
    have hne : ((n : Int) != 8) = true := by simp; omega
    go_enter Try.func20, Try.ntmps20
    go_wp2
    refine bodyPost_ret (v := .tuple #[.agg #[.int .i64 0, .int .i64 0, .int .i64 0, .int .i64 0, .int .i64 0, .int .i64 0, .int .i64 0, .int .i64 0], .int .i64 3]) ?_ rfl ?_
    · obtain ⟨e0, e1, e2, e3, e4, e5, e6, e7⟩ := big8 (blk11 w (.cells #[.int .i64 0, .int .i64 0, .int .i64 0, .int .i64 0, .int .i64 0, .int .i64 0, .int .i64 0, .int .i64 0] 36))
      simp [results, Try.results20, go_sem, e0, e1, e2, e3, e4, e5, e6, e7]
    · rw [HD.out.1, HD.out.2]
      exact ⟨rfl, below_al _ _⟩
end Go.Proofs.Ytcgfoaihfncppaa
