/- Patches with those that they overlap ahead of them, plainly; walks of patch.Overlap and of its reference. -/
import Derived.Test.YtpicagcapgjiaaaMerP
import Derived.Test.YtpicagcapgjiaaaSelA
import Derived.Test.YtpicagcapgjiaaaMer13
import Derived.IntWalk
set_option linter.unusedSimpArgs false
set_option linter.unusedVariables false
namespace Go.Sel.Mer
open Go.Sel Go.Sel.Gra

def ovB (a b : It) : Bool := prightB a && prightB b && decide (a.b = b.b) && decide (a.o < b.o + (b.s.size : Int)) && decide (b.o < a.o + (a.s.size : Int))
theorem ovB_comm (a b : It) : ovB a b = ovB b a := by
  rw [Bool.eq_iff_iff]
  simp only [ovB, Bool.and_eq_true, decide_eq_true_eq]
  constructor <;> (rintro ⟨⟨⟨⟨h1, h2⟩, h3⟩, h4⟩, h5⟩; exact ⟨⟨⟨⟨h2, h1⟩, h3.symm⟩, h5⟩, h4⟩)
/-- Does a patch write a byte? -/
def wrB (x : It) (i : Nat) : Bool := decide (x.o ≤ (i : Int)) && decide ((i : Int) < x.o + (x.s.size : Int))
theorem ovB_writes {a b : It} (ha : prightB a = true) (hb : prightB b = true) (he : a.b = b.b) : ovB a b = true ↔ ∃ i, i < 32 ∧ wrB a i = true ∧ wrB b i = true := by
  have h1 := pright_iff.1 ha
  have h2 := pright_iff.1 hb
  have e : ovB a b = true ↔ a.o < b.o + (b.s.size : Int) ∧ b.o < a.o + (a.s.size : Int) := by simp [ovB, ha, hb, he]
  rw [e]
  constructor
  · rintro ⟨h3, h4⟩
    refine ⟨(max a.o b.o).toNat, by omega, ?_, ?_⟩ <;> simp only [wrB, Bool.and_eq_true, decide_eq_true_eq] <;> omega
  · rintro ⟨i, h3, h4, h5⟩
    simp only [wrB, Bool.and_eq_true, decide_eq_true_eq] at h4 h5
    omega
def ovK (L : List It) (i k : Nat) : List Int := ((List.range k).filter fun j => ovB (nthI L i) (nthI L j)).map fun j : Nat => (j : Int)
theorem ovK_succ (L : List It) (i k : Nat) : ovK L i (k + 1) = if ovB (nthI L i) (nthI L k) = true then ovK L i k ++ [(k : Int)] else ovK L i k := by
  rw [ovK, List.range_succ, List.filter_append, List.map_append]
  by_cases h : ovB (nthI L i) (nthI L k) = true
  · simp [h, ovK]
  · simp [h, ovK]
theorem ovK_length (L : List It) (i k : Nat) : (ovK L i k).length ≤ k := by
  rw [ovK, List.length_map]
  exact Nat.le_trans (List.length_filter_le _ _) (by simp)
def ovI (L : List It) (i : Nat) : It := { nthI L i with ds := ovK L i i }
def ovL (L : List It) : List It := if L.length ≤ 64 ∧ L.all prightB = true then (List.range L.length).map (ovI L) else []
end Go.Sel.Mer
namespace Go.Proofs.Ytpicagcapgjiaaa
open Go.RowKit Go.Sel Go.Sel.Gra Go.Sel.Mer Go.Shelf

set_option maxHeartbeats 1000000 in
theorem end_any (b : Int) (o : Int) (s : ByteArray) (w : World) (h0 : 0 ≤ o) (h1 : o ≤ 1000) (h2 : s.size ≤ 1000) :
    Calls Try.prog 107 #[.agg #[.int .i64 b, .int .i64 o, .string s]] w fun e w' => e = .returned (.int .i64 (o + (s.size : Int))) ∧ Below w.heap.size w w' := by
  go_enter Try.func107, Try.ntmps107
  go_wp2
  go_ret
  exact ⟨rfl, below_al _ _⟩

theorem ovB_iff {a b : It} : ovB a b = true ↔ prightB a = true ∧ prightB b = true ∧ a.b = b.b ∧ a.o < b.o + (b.s.size : Int) ∧ b.o < a.o + (a.s.size : Int) := by simp [ovB, and_assoc]

set_option maxRecDepth 100000 in
set_option maxHeartbeats 16000000 in
theorem Overlap_any (x y : It) (w : World) :
    Calls Try.prog 79 #[.agg #[.int .i64 x.b, .int .i64 x.o, .string x.s], .agg #[.int .i64 y.b, .int .i64 y.o, .string y.s]] w fun e w' => e = .returned (.bool (ovB x y)) ∧ Below w.heap.size w w' := by
  have HPA := Lib.hid (fun wx => pRight_any x wx)
  have HPB := Lib.hid (fun wx => pRight_any y wx)
  have HPX := Lib.hid (pright_iff (x := x))
  have HPY := Lib.hid (pright_iff (x := y))
  have HE : Hid (∀ b : Bool, (ovB x y = true ↔ b = true) → ovB x y = b) := fun b h => Bool.eq_iff_iff.2 h
  have HI := Lib.hid (ovB_iff (a := x) (b := y))
  generalize ovB x y = r at *
  obtain ⟨ab, ao, asx, ad⟩ := x
  obtain ⟨bb, bo, bs, bd⟩ := y
  simp only at *
  have HS0 : Hid (At (fun w' : World => w'.cell? ⟨w.heap.size, 0, none⟩ = some (.int .i64 ab) ∧ w'.cell? ⟨w.heap.size, 1, none⟩ = some (.int .i64 ao) ∧ w'.cell? ⟨w.heap.size, 2, none⟩ = some (.string asx) ∧ w'.cell? ⟨w.heap.size + 1, 0, none⟩ = some (.int .i64 bb) ∧ w'.cell? ⟨w.heap.size + 1, 1, none⟩ = some (.int .i64 bo) ∧ w'.cell? ⟨w.heap.size + 1, 2, none⟩ = some (.string bs)) (((w.alloc (.cells #[.int .i64 ab, .int .i64 ao, .string asx] 42)).alloc (.cells #[.int .i64 bb, .int .i64 bo, .string bs] 42)).drew)) := by
    have e1 := blk21 w (.cells #[.int .i64 ab, .int .i64 ao, .string asx] 42) (.cells #[.int .i64 bb, .int .i64 bo, .string bs] 42)
    have e2 := blk22 w (.cells #[.int .i64 ab, .int .i64 ao, .string asx] 42) (.cells #[.int .i64 bb, .int .i64 bo, .string bs] 42)
    exact ⟨blk_cell e1 0, blk_cell e1 1, blk_cell e1 2, blk_cell e2 0, blk_cell e2 1, blk_cell e2 2⟩
  have HB0 : Hid (Below w.heap.size w (((w.alloc (.cells #[.int .i64 ab, .int .i64 ao, .string asx] 42)).alloc (.cells #[.int .i64 bb, .int .i64 bo, .string bs] 42)).drew)) := (((Below.refl _ _).alloc (Nat.le_refl _) _).alloc (by simp) _).drew
  cases ha : prightB ⟨ab, ao, asx, ad⟩ with
  | false =>
    have hr : r = false := HE.out _ (by rw [HI.out, ha]; simp)
    subst hr
    rw [ha] at HPA
    clear ha HE HI HPX HPY HPB
    go_enter Try.func79, Try.ntmps79
    go_upto_region 1 with (fail)
    have HS : At (fun w' : World => w'.cell? ⟨w.heap.size, 0, none⟩ = some (.int .i64 ab) ∧ w'.cell? ⟨w.heap.size, 1, none⟩ = some (.int .i64 ao) ∧ w'.cell? ⟨w.heap.size, 2, none⟩ = some (.string asx) ∧ w'.cell? ⟨w.heap.size + 1, 0, none⟩ = some (.int .i64 bb) ∧ w'.cell? ⟨w.heap.size + 1, 1, none⟩ = some (.int .i64 bo) ∧ w'.cell? ⟨w.heap.size + 1, 2, none⟩ = some (.string bs)) (((w.alloc (.cells #[.int .i64 ab, .int .i64 ao, .string asx] 42)).alloc (.cells #[.int .i64 bb, .int .i64 bo, .string bs] 42)).drew) := HS0.out
    have HB : Hid (Below w.heap.size w (((w.alloc (.cells #[.int .i64 ab, .int .i64 ao, .string asx] 42)).alloc (.cells #[.int .i64 bb, .int .i64 bo, .string bs] 42)).drew)) := HB0.out
    generalize hww : (w.alloc (.cells #[.int .i64 ab, .int .i64 ao, .string asx] 42)).alloc (.cells #[.int .i64 bb, .int .i64 bo, .string bs] 42) = wb at *
    clear hww HS0 HB0
    refine wp_region_lexD HS [0, 2, 3, 5, 6, 7, 8, 9, 10, 11, 12, 13, 14, 15, 16, 18, 19, 20, 21, 22, 23, 25, 26, 27] (by kernel_rfl) (by kernel_rfl) (fun _ _ d _ _ h => by cases d <;> exact h) ?_
    refine lexD_take (by kernel_rfl) (by kernel_rfl) HS (fun w9 h9 => by obtain ⟨s0, s1, s2, s3, s4, s5⟩ := h9; go_simp; first | done | rfl) (fun K hK => ?_); go_simp; refine hK _ ?_; clear hK K
    refine lexD_do (by kernel_rfl) (by kernel_rfl) (fun K hK => ?_); go_simp; refine (HPA.out _).mono ?_; rintro e w5 ⟨rfl, hB⟩; have HS : At (fun w' : World => w'.cell? ⟨w.heap.size, 0, none⟩ = some (.int .i64 ab) ∧ w'.cell? ⟨w.heap.size, 1, none⟩ = some (.int .i64 ao) ∧ w'.cell? ⟨w.heap.size, 2, none⟩ = some (.string asx) ∧ w'.cell? ⟨w.heap.size + 1, 0, none⟩ = some (.int .i64 bb) ∧ w'.cell? ⟨w.heap.size + 1, 1, none⟩ = some (.int .i64 bo) ∧ w'.cell? ⟨w.heap.size + 1, 2, none⟩ = some (.string bs)) w5 := (by obtain ⟨s0, s1, s2, s3, s4, s5⟩ := HS; exact ⟨keep_cell s0 hB, keep_cell s1 hB, keep_cell s2 hB, keep_cell s3 hB, keep_cell s4 hB, keep_cell s5 hB⟩); have HB := Lib.hid (below_then HB.out hB); refine hK _ _ (fun _ => HS) ?_; clear hK K hB
    refine lexD_take (by kernel_rfl) (by kernel_rfl) HS (fun w9 h9 => by obtain ⟨s0, s1, s2, s3, s4, s5⟩ := h9; go_simp; first | done | rfl) (fun K hK => ?_); go_simp; refine hK _ ?_; clear hK K
    refine lexD_skip (by kernel_rfl) (by kernel_rfl) HS (fun K hK => ?_); go_simp; refine hK _ ?_; clear hK K
    refine lexD_pass (by kernel_rfl) (by kernel_rfl) HS (fun K hK => ?_); go_simp; refine hK _ ?_; clear hK K
    refine lexD_take (by kernel_rfl) (by kernel_rfl) HS (fun w9 h9 => by obtain ⟨s0, s1, s2, s3, s4, s5⟩ := h9; go_simp; first | done | rfl) (fun K hK => ?_); go_simp; refine hK _ ?_; clear hK K
    refine lexD_take (by kernel_rfl) (by kernel_rfl) HS (fun w9 h9 => by obtain ⟨s0, s1, s2, s3, s4, s5⟩ := h9; go_simp; first | done | rfl) (fun K hK => ?_); go_simp; refine hK _ ?_; clear hK K
    refine lexD_skip (by kernel_rfl) (by kernel_rfl) HS (fun K hK => ?_); go_simp; refine hK _ ?_; clear hK K
    refine lexD_skip (by kernel_rfl) (by kernel_rfl) HS (fun K hK => ?_); go_simp; refine hK _ ?_; clear hK K
    refine lexD_skip (by kernel_rfl) (by kernel_rfl) HS (fun K hK => ?_); go_simp; refine hK _ ?_; clear hK K
    refine lexD_skip (by kernel_rfl) (by kernel_rfl) HS (fun K hK => ?_); go_simp; refine hK _ ?_; clear hK K
    refine lexD_skip (by kernel_rfl) (by kernel_rfl) HS (fun K hK => ?_); go_simp; refine hK _ ?_; clear hK K
    refine lexD_take (by kernel_rfl) (by kernel_rfl) HS (fun w9 h9 => by obtain ⟨s0, s1, s2, s3, s4, s5⟩ := h9; go_simp; first | done | rfl) (fun K hK => ?_); go_simp; refine hK _ ?_; clear hK K
    refine lexD_take (by kernel_rfl) (by kernel_rfl) HS (fun w9 h9 => by obtain ⟨s0, s1, s2, s3, s4, s5⟩ := h9; go_simp; first | done | rfl) (fun K hK => ?_); go_simp; refine hK _ ?_; clear hK K
    refine lexD_skip (by kernel_rfl) (by kernel_rfl) HS (fun K hK => ?_); go_simp; refine hK _ ?_; clear hK K
    refine lexD_skip (by kernel_rfl) (by kernel_rfl) HS (fun K hK => ?_); go_simp; refine hK _ ?_; clear hK K
    refine lexD_skip (by kernel_rfl) (by kernel_rfl) HS (fun K hK => ?_); go_simp; refine hK _ ?_; clear hK K
    refine lexD_pass (by kernel_rfl) (by kernel_rfl) HS (fun K hK => ?_); go_simp; refine hK _ ?_; clear hK K
    refine lexD_skip (by kernel_rfl) (by kernel_rfl) HS (fun K hK => ?_); go_simp; refine hK _ ?_; clear hK K
    refine lexD_take (by kernel_rfl) (by kernel_rfl) HS (fun w9 h9 => by obtain ⟨s0, s1, s2, s3, s4, s5⟩ := h9; go_simp; first | done | rfl) (fun K hK => ?_); go_simp; refine hK _ ?_; clear hK K
    refine lexD_take (by kernel_rfl) (by kernel_rfl) HS (fun w9 h9 => by obtain ⟨s0, s1, s2, s3, s4, s5⟩ := h9; go_simp; first | done | rfl) (fun K hK => ?_); go_simp; refine hK _ ?_; clear hK K
    refine lexD_skip (by kernel_rfl) (by kernel_rfl) HS (fun K hK => ?_); go_simp; refine hK _ ?_; clear hK K
    refine lexD_skip (by kernel_rfl) (by kernel_rfl) HS (fun K hK => ?_); go_simp; refine hK _ ?_; clear hK K
    refine lexD_skip (by kernel_rfl) (by kernel_rfl) HS (fun K hK => ?_); go_simp; refine hK _ ?_; clear hK K
    refine lexD_pass (by kernel_rfl) (by kernel_rfl) HS (fun K hK => ?_); go_simp; refine hK _ ?_; clear hK K
    refine lexD_skip (by kernel_rfl) (by kernel_rfl) HS (fun K hK => ?_); go_simp; refine hK _ ?_; clear hK K
    refine lexD_take (by kernel_rfl) (by kernel_rfl) HS (fun w9 h9 => by obtain ⟨s0, s1, s2, s3, s4, s5⟩ := h9; go_simp; first | done | rfl) (fun K hK => ?_); go_simp; refine hK _ ?_; clear hK K
    refine lexD_take (by kernel_rfl) (by kernel_rfl) HS (fun w9 h9 => by obtain ⟨s0, s1, s2, s3, s4, s5⟩ := h9; go_simp; first | done | rfl) (fun K hK => ?_); go_simp; refine hK _ ?_; clear hK K
    refine lexD_nil ?_
    go_wp2
    go_ret
    exact ⟨rfl, HB.out⟩
  | true =>
    have hx := HPX.out.1 ha
    cases hb : prightB ⟨bb, bo, bs, bd⟩ with
    | false =>
      have hr : r = false := HE.out _ (by rw [HI.out, hb]; simp)
      subst hr
      rw [ha] at HPA
      rw [hb] at HPB
      clear ha hb HE HI HPX HPY hx
      go_enter Try.func79, Try.ntmps79
      go_upto_region 1 with (fail)
      have HS : At (fun w' : World => w'.cell? ⟨w.heap.size, 0, none⟩ = some (.int .i64 ab) ∧ w'.cell? ⟨w.heap.size, 1, none⟩ = some (.int .i64 ao) ∧ w'.cell? ⟨w.heap.size, 2, none⟩ = some (.string asx) ∧ w'.cell? ⟨w.heap.size + 1, 0, none⟩ = some (.int .i64 bb) ∧ w'.cell? ⟨w.heap.size + 1, 1, none⟩ = some (.int .i64 bo) ∧ w'.cell? ⟨w.heap.size + 1, 2, none⟩ = some (.string bs)) (((w.alloc (.cells #[.int .i64 ab, .int .i64 ao, .string asx] 42)).alloc (.cells #[.int .i64 bb, .int .i64 bo, .string bs] 42)).drew) := HS0.out
      have HB : Hid (Below w.heap.size w (((w.alloc (.cells #[.int .i64 ab, .int .i64 ao, .string asx] 42)).alloc (.cells #[.int .i64 bb, .int .i64 bo, .string bs] 42)).drew)) := HB0.out
      generalize hww : (w.alloc (.cells #[.int .i64 ab, .int .i64 ao, .string asx] 42)).alloc (.cells #[.int .i64 bb, .int .i64 bo, .string bs] 42) = wb at *
      clear hww HS0 HB0
      refine wp_region_lexD HS [0, 2, 3, 5, 6, 7, 8, 9, 10, 11, 12, 13, 14, 15, 16, 18, 19, 20, 21, 22, 23, 25, 26, 27] (by kernel_rfl) (by kernel_rfl) (fun _ _ d _ _ h => by cases d <;> exact h) ?_
      refine lexD_take (by kernel_rfl) (by kernel_rfl) HS (fun w9 h9 => by obtain ⟨s0, s1, s2, s3, s4, s5⟩ := h9; go_simp; first | done | rfl) (fun K hK => ?_); go_simp; refine hK _ ?_; clear hK K
      refine lexD_do (by kernel_rfl) (by kernel_rfl) (fun K hK => ?_); go_simp; refine (HPA.out _).mono ?_; rintro e w5 ⟨rfl, hB⟩; have HS : At (fun w' : World => w'.cell? ⟨w.heap.size, 0, none⟩ = some (.int .i64 ab) ∧ w'.cell? ⟨w.heap.size, 1, none⟩ = some (.int .i64 ao) ∧ w'.cell? ⟨w.heap.size, 2, none⟩ = some (.string asx) ∧ w'.cell? ⟨w.heap.size + 1, 0, none⟩ = some (.int .i64 bb) ∧ w'.cell? ⟨w.heap.size + 1, 1, none⟩ = some (.int .i64 bo) ∧ w'.cell? ⟨w.heap.size + 1, 2, none⟩ = some (.string bs)) w5 := (by obtain ⟨s0, s1, s2, s3, s4, s5⟩ := HS; exact ⟨keep_cell s0 hB, keep_cell s1 hB, keep_cell s2 hB, keep_cell s3 hB, keep_cell s4 hB, keep_cell s5 hB⟩); have HB := Lib.hid (below_then HB.out hB); refine hK _ _ (fun _ => HS) ?_; clear hK K hB
      refine lexD_take (by kernel_rfl) (by kernel_rfl) HS (fun w9 h9 => by obtain ⟨s0, s1, s2, s3, s4, s5⟩ := h9; go_simp; first | done | rfl) (fun K hK => ?_); go_simp; refine hK _ ?_; clear hK K
      refine lexD_take (by kernel_rfl) (by kernel_rfl) HS (fun w9 h9 => by obtain ⟨s0, s1, s2, s3, s4, s5⟩ := h9; go_simp; first | done | rfl) (fun K hK => ?_); go_simp; refine hK _ ?_; clear hK K
      refine lexD_do (by kernel_rfl) (by kernel_rfl) (fun K hK => ?_); go_simp; refine (HPB.out _).mono ?_; rintro e w5 ⟨rfl, hB⟩; have HS : At (fun w' : World => w'.cell? ⟨w.heap.size, 0, none⟩ = some (.int .i64 ab) ∧ w'.cell? ⟨w.heap.size, 1, none⟩ = some (.int .i64 ao) ∧ w'.cell? ⟨w.heap.size, 2, none⟩ = some (.string asx) ∧ w'.cell? ⟨w.heap.size + 1, 0, none⟩ = some (.int .i64 bb) ∧ w'.cell? ⟨w.heap.size + 1, 1, none⟩ = some (.int .i64 bo) ∧ w'.cell? ⟨w.heap.size + 1, 2, none⟩ = some (.string bs)) w5 := (by obtain ⟨s0, s1, s2, s3, s4, s5⟩ := HS; exact ⟨keep_cell s0 hB, keep_cell s1 hB, keep_cell s2 hB, keep_cell s3 hB, keep_cell s4 hB, keep_cell s5 hB⟩); have HB := Lib.hid (below_then HB.out hB); refine hK _ _ (fun _ => HS) ?_; clear hK K hB
      refine lexD_take (by kernel_rfl) (by kernel_rfl) HS (fun w9 h9 => by obtain ⟨s0, s1, s2, s3, s4, s5⟩ := h9; go_simp; first | done | rfl) (fun K hK => ?_); go_simp; refine hK _ ?_; clear hK K
      refine lexD_take (by kernel_rfl) (by kernel_rfl) HS (fun w9 h9 => by obtain ⟨s0, s1, s2, s3, s4, s5⟩ := h9; go_simp; first | done | rfl) (fun K hK => ?_); go_simp; refine hK _ ?_; clear hK K
      refine lexD_skip (by kernel_rfl) (by kernel_rfl) HS (fun K hK => ?_); go_simp; refine hK _ ?_; clear hK K
      refine lexD_skip (by kernel_rfl) (by kernel_rfl) HS (fun K hK => ?_); go_simp; refine hK _ ?_; clear hK K
      refine lexD_skip (by kernel_rfl) (by kernel_rfl) HS (fun K hK => ?_); go_simp; refine hK _ ?_; clear hK K
      refine lexD_skip (by kernel_rfl) (by kernel_rfl) HS (fun K hK => ?_); go_simp; refine hK _ ?_; clear hK K
      refine lexD_skip (by kernel_rfl) (by kernel_rfl) HS (fun K hK => ?_); go_simp; refine hK _ ?_; clear hK K
      refine lexD_take (by kernel_rfl) (by kernel_rfl) HS (fun w9 h9 => by obtain ⟨s0, s1, s2, s3, s4, s5⟩ := h9; go_simp; first | done | rfl) (fun K hK => ?_); go_simp; refine hK _ ?_; clear hK K
      refine lexD_take (by kernel_rfl) (by kernel_rfl) HS (fun w9 h9 => by obtain ⟨s0, s1, s2, s3, s4, s5⟩ := h9; go_simp; first | done | rfl) (fun K hK => ?_); go_simp; refine hK _ ?_; clear hK K
      refine lexD_skip (by kernel_rfl) (by kernel_rfl) HS (fun K hK => ?_); go_simp; refine hK _ ?_; clear hK K
      refine lexD_skip (by kernel_rfl) (by kernel_rfl) HS (fun K hK => ?_); go_simp; refine hK _ ?_; clear hK K
      refine lexD_skip (by kernel_rfl) (by kernel_rfl) HS (fun K hK => ?_); go_simp; refine hK _ ?_; clear hK K
      refine lexD_pass (by kernel_rfl) (by kernel_rfl) HS (fun K hK => ?_); go_simp; refine hK _ ?_; clear hK K
      refine lexD_skip (by kernel_rfl) (by kernel_rfl) HS (fun K hK => ?_); go_simp; refine hK _ ?_; clear hK K
      refine lexD_take (by kernel_rfl) (by kernel_rfl) HS (fun w9 h9 => by obtain ⟨s0, s1, s2, s3, s4, s5⟩ := h9; go_simp; first | done | rfl) (fun K hK => ?_); go_simp; refine hK _ ?_; clear hK K
      refine lexD_take (by kernel_rfl) (by kernel_rfl) HS (fun w9 h9 => by obtain ⟨s0, s1, s2, s3, s4, s5⟩ := h9; go_simp; first | done | rfl) (fun K hK => ?_); go_simp; refine hK _ ?_; clear hK K
      refine lexD_skip (by kernel_rfl) (by kernel_rfl) HS (fun K hK => ?_); go_simp; refine hK _ ?_; clear hK K
      refine lexD_skip (by kernel_rfl) (by kernel_rfl) HS (fun K hK => ?_); go_simp; refine hK _ ?_; clear hK K
      refine lexD_skip (by kernel_rfl) (by kernel_rfl) HS (fun K hK => ?_); go_simp; refine hK _ ?_; clear hK K
      refine lexD_pass (by kernel_rfl) (by kernel_rfl) HS (fun K hK => ?_); go_simp; refine hK _ ?_; clear hK K
      refine lexD_skip (by kernel_rfl) (by kernel_rfl) HS (fun K hK => ?_); go_simp; refine hK _ ?_; clear hK K
      refine lexD_take (by kernel_rfl) (by kernel_rfl) HS (fun w9 h9 => by obtain ⟨s0, s1, s2, s3, s4, s5⟩ := h9; go_simp; first | done | rfl) (fun K hK => ?_); go_simp; refine hK _ ?_; clear hK K
      refine lexD_take (by kernel_rfl) (by kernel_rfl) HS (fun w9 h9 => by obtain ⟨s0, s1, s2, s3, s4, s5⟩ := h9; go_simp; first | done | rfl) (fun K hK => ?_); go_simp; refine hK _ ?_; clear hK K
      refine lexD_nil ?_
      go_wp2
      go_ret
      exact ⟨rfl, HB.out⟩
    | true =>
      have hy := HPY.out.1 hb
      rw [ha] at HPA
      rw [hb] at HPB
      have HAB := Lib.hid (And.intro ha hb)
      clear ha hb HPX HPY
      by_cases he : ab = bb
      · subst he
        have q1 : (ab == ab) = true := by simp
        by_cases h1 : ao < bo + (bs.size : Int)
        · by_cases h2 : bo < ao + (asx.size : Int)
          · have hr : r = true := HE.out _ (by rw [HI.out]; simp [HAB.out.1, HAB.out.2, h1, h2])
            subst hr
            have d1 : decide (ao < bo + (bs.size : Int)) = true := decide_eq_true h1
            have d2 : decide (bo < ao + (asx.size : Int)) = true := decide_eq_true h2
            clear HE HI
            go_enter Try.func79, Try.ntmps79
            go_upto_region 1 with (fail)
            have HS : At (fun w' : World => w'.cell? ⟨w.heap.size, 0, none⟩ = some (.int .i64 ab) ∧ w'.cell? ⟨w.heap.size, 1, none⟩ = some (.int .i64 ao) ∧ w'.cell? ⟨w.heap.size, 2, none⟩ = some (.string asx) ∧ w'.cell? ⟨w.heap.size + 1, 0, none⟩ = some (.int .i64 ab) ∧ w'.cell? ⟨w.heap.size + 1, 1, none⟩ = some (.int .i64 bo) ∧ w'.cell? ⟨w.heap.size + 1, 2, none⟩ = some (.string bs)) (((w.alloc (.cells #[.int .i64 ab, .int .i64 ao, .string asx] 42)).alloc (.cells #[.int .i64 ab, .int .i64 bo, .string bs] 42)).drew) := HS0.out
            have HB : Hid (Below w.heap.size w (((w.alloc (.cells #[.int .i64 ab, .int .i64 ao, .string asx] 42)).alloc (.cells #[.int .i64 ab, .int .i64 bo, .string bs] 42)).drew)) := HB0.out
            generalize hww : (w.alloc (.cells #[.int .i64 ab, .int .i64 ao, .string asx] 42)).alloc (.cells #[.int .i64 ab, .int .i64 bo, .string bs] 42) = wb at *
            clear hww HS0 HB0
            refine wp_region_lexD HS [0, 2, 3, 5, 6, 7, 8, 9, 10, 11, 12, 13, 14, 15, 16, 18, 19, 20, 21, 22, 23, 25, 26, 27] (by kernel_rfl) (by kernel_rfl) (fun _ _ d _ _ h => by cases d <;> exact h) ?_
            refine lexD_take (by kernel_rfl) (by kernel_rfl) HS (fun w9 h9 => by obtain ⟨s0, s1, s2, s3, s4, s5⟩ := h9; go_simp; first | done | rfl) (fun K hK => ?_); go_simp; refine hK _ ?_; clear hK K
            refine lexD_do (by kernel_rfl) (by kernel_rfl) (fun K hK => ?_); go_simp; refine (HPA.out _).mono ?_; rintro e w5 ⟨rfl, hB⟩; have HS : At (fun w' : World => w'.cell? ⟨w.heap.size, 0, none⟩ = some (.int .i64 ab) ∧ w'.cell? ⟨w.heap.size, 1, none⟩ = some (.int .i64 ao) ∧ w'.cell? ⟨w.heap.size, 2, none⟩ = some (.string asx) ∧ w'.cell? ⟨w.heap.size + 1, 0, none⟩ = some (.int .i64 ab) ∧ w'.cell? ⟨w.heap.size + 1, 1, none⟩ = some (.int .i64 bo) ∧ w'.cell? ⟨w.heap.size + 1, 2, none⟩ = some (.string bs)) w5 := (by obtain ⟨s0, s1, s2, s3, s4, s5⟩ := HS; exact ⟨keep_cell s0 hB, keep_cell s1 hB, keep_cell s2 hB, keep_cell s3 hB, keep_cell s4 hB, keep_cell s5 hB⟩); have HB := Lib.hid (below_then HB.out hB); refine hK _ _ (fun _ => HS) ?_; clear hK K hB
            refine lexD_take (by kernel_rfl) (by kernel_rfl) HS (fun w9 h9 => by obtain ⟨s0, s1, s2, s3, s4, s5⟩ := h9; go_simp; first | done | rfl) (fun K hK => ?_); go_simp; refine hK _ ?_; clear hK K
            refine lexD_take (by kernel_rfl) (by kernel_rfl) HS (fun w9 h9 => by obtain ⟨s0, s1, s2, s3, s4, s5⟩ := h9; go_simp; first | done | rfl) (fun K hK => ?_); go_simp; refine hK _ ?_; clear hK K
            refine lexD_do (by kernel_rfl) (by kernel_rfl) (fun K hK => ?_); go_simp; refine (HPB.out _).mono ?_; rintro e w5 ⟨rfl, hB⟩; have HS : At (fun w' : World => w'.cell? ⟨w.heap.size, 0, none⟩ = some (.int .i64 ab) ∧ w'.cell? ⟨w.heap.size, 1, none⟩ = some (.int .i64 ao) ∧ w'.cell? ⟨w.heap.size, 2, none⟩ = some (.string asx) ∧ w'.cell? ⟨w.heap.size + 1, 0, none⟩ = some (.int .i64 ab) ∧ w'.cell? ⟨w.heap.size + 1, 1, none⟩ = some (.int .i64 bo) ∧ w'.cell? ⟨w.heap.size + 1, 2, none⟩ = some (.string bs)) w5 := (by obtain ⟨s0, s1, s2, s3, s4, s5⟩ := HS; exact ⟨keep_cell s0 hB, keep_cell s1 hB, keep_cell s2 hB, keep_cell s3 hB, keep_cell s4 hB, keep_cell s5 hB⟩); have HB := Lib.hid (below_then HB.out hB); refine hK _ _ (fun _ => HS) ?_; clear hK K hB
            refine lexD_take (by kernel_rfl) (by kernel_rfl) HS (fun w9 h9 => by obtain ⟨s0, s1, s2, s3, s4, s5⟩ := h9; go_simp; first | done | rfl) (fun K hK => ?_); go_simp; refine hK _ ?_; clear hK K
            refine lexD_take (by kernel_rfl) (by kernel_rfl) HS (fun w9 h9 => by obtain ⟨s0, s1, s2, s3, s4, s5⟩ := h9; go_simp; first | done | rfl) (fun K hK => ?_); go_simp; refine hK _ ?_; clear hK K
            refine lexD_take (by kernel_rfl) (by kernel_rfl) HS (fun w9 h9 => by obtain ⟨s0, s1, s2, s3, s4, s5⟩ := h9; go_simp; first | done | rfl) (fun K hK => ?_); go_simp; refine hK _ ?_; clear hK K
            refine lexD_take (by kernel_rfl) (by kernel_rfl) HS (fun w9 h9 => by obtain ⟨s0, s1, s2, s3, s4, s5⟩ := h9; go_simp; first | done | rfl) (fun K hK => ?_); go_simp; refine hK _ ?_; clear hK K
            refine lexD_take (by kernel_rfl) (by kernel_rfl) HS (fun w9 h9 => by obtain ⟨s0, s1, s2, s3, s4, s5⟩ := h9; go_simp; first | done | rfl) (fun K hK => ?_); go_simp; refine hK _ ?_; clear hK K
            refine lexD_take (by kernel_rfl) (by kernel_rfl) HS (fun w9 h9 => by obtain ⟨s0, s1, s2, s3, s4, s5⟩ := h9; go_simp; first | done | rfl) (fun K hK => ?_); go_simp; refine hK _ ?_; clear hK K
            refine lexD_take (by kernel_rfl) (by kernel_rfl) HS (fun w9 h9 => by obtain ⟨s0, s1, s2, s3, s4, s5⟩ := h9; go_simp; first | done | rfl) (fun K hK => ?_); go_simp; refine hK _ ?_; clear hK K
            refine lexD_take (by kernel_rfl) (by kernel_rfl) HS (fun w9 h9 => by obtain ⟨s0, s1, s2, s3, s4, s5⟩ := h9; go_simp; first | done | rfl) (fun K hK => ?_); go_simp; refine hK _ ?_; clear hK K
            refine lexD_take (by kernel_rfl) (by kernel_rfl) HS (fun w9 h9 => by obtain ⟨s0, s1, s2, s3, s4, s5⟩ := h9; go_simp; first | done | rfl) (fun K hK => ?_); go_simp; refine hK _ ?_; clear hK K
            refine lexD_take (by kernel_rfl) (by kernel_rfl) HS (fun w9 h9 => by obtain ⟨s0, s1, s2, s3, s4, s5⟩ := h9; go_simp; first | done | rfl) (fun K hK => ?_); go_simp; refine hK _ ?_; clear hK K
            refine lexD_take (by kernel_rfl) (by kernel_rfl) HS (fun w9 h9 => by obtain ⟨s0, s1, s2, s3, s4, s5⟩ := h9; go_simp; first | done | rfl) (fun K hK => ?_); go_simp; refine hK _ ?_; clear hK K
            refine lexD_take (by kernel_rfl) (by kernel_rfl) HS (fun w9 h9 => by obtain ⟨s0, s1, s2, s3, s4, s5⟩ := h9; go_simp; first | done | rfl) (fun K hK => ?_); go_simp; refine hK _ ?_; clear hK K
            refine lexD_do (by kernel_rfl) (by kernel_rfl) (fun K hK => ?_); go_simp; refine (end_any ab bo bs _ (by omega) (by omega) (by omega)).mono ?_; rintro e w5 ⟨rfl, hB⟩; have HS : At (fun w' : World => w'.cell? ⟨w.heap.size, 0, none⟩ = some (.int .i64 ab) ∧ w'.cell? ⟨w.heap.size, 1, none⟩ = some (.int .i64 ao) ∧ w'.cell? ⟨w.heap.size, 2, none⟩ = some (.string asx) ∧ w'.cell? ⟨w.heap.size + 1, 0, none⟩ = some (.int .i64 ab) ∧ w'.cell? ⟨w.heap.size + 1, 1, none⟩ = some (.int .i64 bo) ∧ w'.cell? ⟨w.heap.size + 1, 2, none⟩ = some (.string bs)) w5 := (by obtain ⟨s0, s1, s2, s3, s4, s5⟩ := HS; exact ⟨keep_cell s0 hB, keep_cell s1 hB, keep_cell s2 hB, keep_cell s3 hB, keep_cell s4 hB, keep_cell s5 hB⟩); have HB := Lib.hid (below_then HB.out hB); refine hK _ _ (fun _ => HS) ?_; clear hK K hB
            refine lexD_take (by kernel_rfl) (by kernel_rfl) HS (fun w9 h9 => by obtain ⟨s0, s1, s2, s3, s4, s5⟩ := h9; go_simp; first | done | rfl) (fun K hK => ?_); go_simp; refine hK _ ?_; clear hK K
            refine lexD_take (by kernel_rfl) (by kernel_rfl) HS (fun w9 h9 => by obtain ⟨s0, s1, s2, s3, s4, s5⟩ := h9; go_simp; first | done | rfl) (fun K hK => ?_); go_simp; refine hK _ ?_; clear hK K
            refine lexD_take (by kernel_rfl) (by kernel_rfl) HS (fun w9 h9 => by obtain ⟨s0, s1, s2, s3, s4, s5⟩ := h9; go_simp; first | done | rfl) (fun K hK => ?_); go_simp; refine hK _ ?_; clear hK K
            refine lexD_take (by kernel_rfl) (by kernel_rfl) HS (fun w9 h9 => by obtain ⟨s0, s1, s2, s3, s4, s5⟩ := h9; go_simp; first | done | rfl) (fun K hK => ?_); go_simp; refine hK _ ?_; clear hK K
            refine lexD_take (by kernel_rfl) (by kernel_rfl) HS (fun w9 h9 => by obtain ⟨s0, s1, s2, s3, s4, s5⟩ := h9; go_simp; first | done | rfl) (fun K hK => ?_); go_simp; refine hK _ ?_; clear hK K
            refine lexD_take (by kernel_rfl) (by kernel_rfl) HS (fun w9 h9 => by obtain ⟨s0, s1, s2, s3, s4, s5⟩ := h9; go_simp; first | done | rfl) (fun K hK => ?_); go_simp; refine hK _ ?_; clear hK K
            refine lexD_do (by kernel_rfl) (by kernel_rfl) (fun K hK => ?_); go_simp; refine (end_any ab ao asx _ (by omega) (by omega) (by omega)).mono ?_; rintro e w5 ⟨rfl, hB⟩; have HS : At (fun w' : World => w'.cell? ⟨w.heap.size, 0, none⟩ = some (.int .i64 ab) ∧ w'.cell? ⟨w.heap.size, 1, none⟩ = some (.int .i64 ao) ∧ w'.cell? ⟨w.heap.size, 2, none⟩ = some (.string asx) ∧ w'.cell? ⟨w.heap.size + 1, 0, none⟩ = some (.int .i64 ab) ∧ w'.cell? ⟨w.heap.size + 1, 1, none⟩ = some (.int .i64 bo) ∧ w'.cell? ⟨w.heap.size + 1, 2, none⟩ = some (.string bs)) w5 := (by obtain ⟨s0, s1, s2, s3, s4, s5⟩ := HS; exact ⟨keep_cell s0 hB, keep_cell s1 hB, keep_cell s2 hB, keep_cell s3 hB, keep_cell s4 hB, keep_cell s5 hB⟩); have HB := Lib.hid (below_then HB.out hB); refine hK _ _ (fun _ => HS) ?_; clear hK K hB
            refine lexD_take (by kernel_rfl) (by kernel_rfl) HS (fun w9 h9 => by obtain ⟨s0, s1, s2, s3, s4, s5⟩ := h9; go_simp; first | done | rfl) (fun K hK => ?_); go_simp; refine hK _ ?_; clear hK K
            refine lexD_take (by kernel_rfl) (by kernel_rfl) HS (fun w9 h9 => by obtain ⟨s0, s1, s2, s3, s4, s5⟩ := h9; go_simp; first | done | rfl) (fun K hK => ?_); go_simp; refine hK _ ?_; clear hK K
            refine lexD_take (by kernel_rfl) (by kernel_rfl) HS (fun w9 h9 => by obtain ⟨s0, s1, s2, s3, s4, s5⟩ := h9; go_simp; first | done | rfl) (fun K hK => ?_); go_simp; refine hK _ ?_; clear hK K
            refine lexD_nil ?_
            go_wp2
            go_ret
            exact ⟨rfl, HB.out⟩
          · have hr : r = false := HE.out _ (by rw [HI.out]; simp; omega)
            subst hr
            have d1 : decide (ao < bo + (bs.size : Int)) = true := decide_eq_true h1
            have d2 : decide (bo < ao + (asx.size : Int)) = false := decide_eq_false h2
            clear HE HI
            go_enter Try.func79, Try.ntmps79
            go_upto_region 1 with (fail)
            have HS : At (fun w' : World => w'.cell? ⟨w.heap.size, 0, none⟩ = some (.int .i64 ab) ∧ w'.cell? ⟨w.heap.size, 1, none⟩ = some (.int .i64 ao) ∧ w'.cell? ⟨w.heap.size, 2, none⟩ = some (.string asx) ∧ w'.cell? ⟨w.heap.size + 1, 0, none⟩ = some (.int .i64 ab) ∧ w'.cell? ⟨w.heap.size + 1, 1, none⟩ = some (.int .i64 bo) ∧ w'.cell? ⟨w.heap.size + 1, 2, none⟩ = some (.string bs)) (((w.alloc (.cells #[.int .i64 ab, .int .i64 ao, .string asx] 42)).alloc (.cells #[.int .i64 ab, .int .i64 bo, .string bs] 42)).drew) := HS0.out
            have HB : Hid (Below w.heap.size w (((w.alloc (.cells #[.int .i64 ab, .int .i64 ao, .string asx] 42)).alloc (.cells #[.int .i64 ab, .int .i64 bo, .string bs] 42)).drew)) := HB0.out
            generalize hww : (w.alloc (.cells #[.int .i64 ab, .int .i64 ao, .string asx] 42)).alloc (.cells #[.int .i64 ab, .int .i64 bo, .string bs] 42) = wb at *
            clear hww HS0 HB0
            refine wp_region_lexD HS [0, 2, 3, 5, 6, 7, 8, 9, 10, 11, 12, 13, 14, 15, 16, 18, 19, 20, 21, 22, 23, 25, 26, 27] (by kernel_rfl) (by kernel_rfl) (fun _ _ d _ _ h => by cases d <;> exact h) ?_
            refine lexD_take (by kernel_rfl) (by kernel_rfl) HS (fun w9 h9 => by obtain ⟨s0, s1, s2, s3, s4, s5⟩ := h9; go_simp; first | done | rfl) (fun K hK => ?_); go_simp; refine hK _ ?_; clear hK K
            refine lexD_do (by kernel_rfl) (by kernel_rfl) (fun K hK => ?_); go_simp; refine (HPA.out _).mono ?_; rintro e w5 ⟨rfl, hB⟩; have HS : At (fun w' : World => w'.cell? ⟨w.heap.size, 0, none⟩ = some (.int .i64 ab) ∧ w'.cell? ⟨w.heap.size, 1, none⟩ = some (.int .i64 ao) ∧ w'.cell? ⟨w.heap.size, 2, none⟩ = some (.string asx) ∧ w'.cell? ⟨w.heap.size + 1, 0, none⟩ = some (.int .i64 ab) ∧ w'.cell? ⟨w.heap.size + 1, 1, none⟩ = some (.int .i64 bo) ∧ w'.cell? ⟨w.heap.size + 1, 2, none⟩ = some (.string bs)) w5 := (by obtain ⟨s0, s1, s2, s3, s4, s5⟩ := HS; exact ⟨keep_cell s0 hB, keep_cell s1 hB, keep_cell s2 hB, keep_cell s3 hB, keep_cell s4 hB, keep_cell s5 hB⟩); have HB := Lib.hid (below_then HB.out hB); refine hK _ _ (fun _ => HS) ?_; clear hK K hB
            refine lexD_take (by kernel_rfl) (by kernel_rfl) HS (fun w9 h9 => by obtain ⟨s0, s1, s2, s3, s4, s5⟩ := h9; go_simp; first | done | rfl) (fun K hK => ?_); go_simp; refine hK _ ?_; clear hK K
            refine lexD_take (by kernel_rfl) (by kernel_rfl) HS (fun w9 h9 => by obtain ⟨s0, s1, s2, s3, s4, s5⟩ := h9; go_simp; first | done | rfl) (fun K hK => ?_); go_simp; refine hK _ ?_; clear hK K
            refine lexD_do (by kernel_rfl) (by kernel_rfl) (fun K hK => ?_); go_simp; refine (HPB.out _).mono ?_; rintro e w5 ⟨rfl, hB⟩; have HS : At (fun w' : World => w'.cell? ⟨w.heap.size, 0, none⟩ = some (.int .i64 ab) ∧ w'.cell? ⟨w.heap.size, 1, none⟩ = some (.int .i64 ao) ∧ w'.cell? ⟨w.heap.size, 2, none⟩ = some (.string asx) ∧ w'.cell? ⟨w.heap.size + 1, 0, none⟩ = some (.int .i64 ab) ∧ w'.cell? ⟨w.heap.size + 1, 1, none⟩ = some (.int .i64 bo) ∧ w'.cell? ⟨w.heap.size + 1, 2, none⟩ = some (.string bs)) w5 := (by obtain ⟨s0, s1, s2, s3, s4, s5⟩ := HS; exact ⟨keep_cell s0 hB, keep_cell s1 hB, keep_cell s2 hB, keep_cell s3 hB, keep_cell s4 hB, keep_cell s5 hB⟩); have HB := Lib.hid (below_then HB.out hB); refine hK _ _ (fun _ => HS) ?_; clear hK K hB
            refine lexD_take (by kernel_rfl) (by kernel_rfl) HS (fun w9 h9 => by obtain ⟨s0, s1, s2, s3, s4, s5⟩ := h9; go_simp; first | done | rfl) (fun K hK => ?_); go_simp; refine hK _ ?_; clear hK K
            refine lexD_take (by kernel_rfl) (by kernel_rfl) HS (fun w9 h9 => by obtain ⟨s0, s1, s2, s3, s4, s5⟩ := h9; go_simp; first | done | rfl) (fun K hK => ?_); go_simp; refine hK _ ?_; clear hK K
            refine lexD_take (by kernel_rfl) (by kernel_rfl) HS (fun w9 h9 => by obtain ⟨s0, s1, s2, s3, s4, s5⟩ := h9; go_simp; first | done | rfl) (fun K hK => ?_); go_simp; refine hK _ ?_; clear hK K
            refine lexD_take (by kernel_rfl) (by kernel_rfl) HS (fun w9 h9 => by obtain ⟨s0, s1, s2, s3, s4, s5⟩ := h9; go_simp; first | done | rfl) (fun K hK => ?_); go_simp; refine hK _ ?_; clear hK K
            refine lexD_take (by kernel_rfl) (by kernel_rfl) HS (fun w9 h9 => by obtain ⟨s0, s1, s2, s3, s4, s5⟩ := h9; go_simp; first | done | rfl) (fun K hK => ?_); go_simp; refine hK _ ?_; clear hK K
            refine lexD_take (by kernel_rfl) (by kernel_rfl) HS (fun w9 h9 => by obtain ⟨s0, s1, s2, s3, s4, s5⟩ := h9; go_simp; first | done | rfl) (fun K hK => ?_); go_simp; refine hK _ ?_; clear hK K
            refine lexD_take (by kernel_rfl) (by kernel_rfl) HS (fun w9 h9 => by obtain ⟨s0, s1, s2, s3, s4, s5⟩ := h9; go_simp; first | done | rfl) (fun K hK => ?_); go_simp; refine hK _ ?_; clear hK K
            refine lexD_take (by kernel_rfl) (by kernel_rfl) HS (fun w9 h9 => by obtain ⟨s0, s1, s2, s3, s4, s5⟩ := h9; go_simp; first | done | rfl) (fun K hK => ?_); go_simp; refine hK _ ?_; clear hK K
            refine lexD_take (by kernel_rfl) (by kernel_rfl) HS (fun w9 h9 => by obtain ⟨s0, s1, s2, s3, s4, s5⟩ := h9; go_simp; first | done | rfl) (fun K hK => ?_); go_simp; refine hK _ ?_; clear hK K
            refine lexD_take (by kernel_rfl) (by kernel_rfl) HS (fun w9 h9 => by obtain ⟨s0, s1, s2, s3, s4, s5⟩ := h9; go_simp; first | done | rfl) (fun K hK => ?_); go_simp; refine hK _ ?_; clear hK K
            refine lexD_take (by kernel_rfl) (by kernel_rfl) HS (fun w9 h9 => by obtain ⟨s0, s1, s2, s3, s4, s5⟩ := h9; go_simp; first | done | rfl) (fun K hK => ?_); go_simp; refine hK _ ?_; clear hK K
            refine lexD_take (by kernel_rfl) (by kernel_rfl) HS (fun w9 h9 => by obtain ⟨s0, s1, s2, s3, s4, s5⟩ := h9; go_simp; first | done | rfl) (fun K hK => ?_); go_simp; refine hK _ ?_; clear hK K
            refine lexD_do (by kernel_rfl) (by kernel_rfl) (fun K hK => ?_); go_simp; refine (end_any ab bo bs _ (by omega) (by omega) (by omega)).mono ?_; rintro e w5 ⟨rfl, hB⟩; have HS : At (fun w' : World => w'.cell? ⟨w.heap.size, 0, none⟩ = some (.int .i64 ab) ∧ w'.cell? ⟨w.heap.size, 1, none⟩ = some (.int .i64 ao) ∧ w'.cell? ⟨w.heap.size, 2, none⟩ = some (.string asx) ∧ w'.cell? ⟨w.heap.size + 1, 0, none⟩ = some (.int .i64 ab) ∧ w'.cell? ⟨w.heap.size + 1, 1, none⟩ = some (.int .i64 bo) ∧ w'.cell? ⟨w.heap.size + 1, 2, none⟩ = some (.string bs)) w5 := (by obtain ⟨s0, s1, s2, s3, s4, s5⟩ := HS; exact ⟨keep_cell s0 hB, keep_cell s1 hB, keep_cell s2 hB, keep_cell s3 hB, keep_cell s4 hB, keep_cell s5 hB⟩); have HB := Lib.hid (below_then HB.out hB); refine hK _ _ (fun _ => HS) ?_; clear hK K hB
            refine lexD_take (by kernel_rfl) (by kernel_rfl) HS (fun w9 h9 => by obtain ⟨s0, s1, s2, s3, s4, s5⟩ := h9; go_simp; first | done | rfl) (fun K hK => ?_); go_simp; refine hK _ ?_; clear hK K
            refine lexD_take (by kernel_rfl) (by kernel_rfl) HS (fun w9 h9 => by obtain ⟨s0, s1, s2, s3, s4, s5⟩ := h9; go_simp; first | done | rfl) (fun K hK => ?_); go_simp; refine hK _ ?_; clear hK K
            refine lexD_take (by kernel_rfl) (by kernel_rfl) HS (fun w9 h9 => by obtain ⟨s0, s1, s2, s3, s4, s5⟩ := h9; go_simp; first | done | rfl) (fun K hK => ?_); go_simp; refine hK _ ?_; clear hK K
            refine lexD_take (by kernel_rfl) (by kernel_rfl) HS (fun w9 h9 => by obtain ⟨s0, s1, s2, s3, s4, s5⟩ := h9; go_simp; first | done | rfl) (fun K hK => ?_); go_simp; refine hK _ ?_; clear hK K
            refine lexD_take (by kernel_rfl) (by kernel_rfl) HS (fun w9 h9 => by obtain ⟨s0, s1, s2, s3, s4, s5⟩ := h9; go_simp; first | done | rfl) (fun K hK => ?_); go_simp; refine hK _ ?_; clear hK K
            refine lexD_take (by kernel_rfl) (by kernel_rfl) HS (fun w9 h9 => by obtain ⟨s0, s1, s2, s3, s4, s5⟩ := h9; go_simp; first | done | rfl) (fun K hK => ?_); go_simp; refine hK _ ?_; clear hK K
            refine lexD_do (by kernel_rfl) (by kernel_rfl) (fun K hK => ?_); go_simp; refine (end_any ab ao asx _ (by omega) (by omega) (by omega)).mono ?_; rintro e w5 ⟨rfl, hB⟩; have HS : At (fun w' : World => w'.cell? ⟨w.heap.size, 0, none⟩ = some (.int .i64 ab) ∧ w'.cell? ⟨w.heap.size, 1, none⟩ = some (.int .i64 ao) ∧ w'.cell? ⟨w.heap.size, 2, none⟩ = some (.string asx) ∧ w'.cell? ⟨w.heap.size + 1, 0, none⟩ = some (.int .i64 ab) ∧ w'.cell? ⟨w.heap.size + 1, 1, none⟩ = some (.int .i64 bo) ∧ w'.cell? ⟨w.heap.size + 1, 2, none⟩ = some (.string bs)) w5 := (by obtain ⟨s0, s1, s2, s3, s4, s5⟩ := HS; exact ⟨keep_cell s0 hB, keep_cell s1 hB, keep_cell s2 hB, keep_cell s3 hB, keep_cell s4 hB, keep_cell s5 hB⟩); have HB := Lib.hid (below_then HB.out hB); refine hK _ _ (fun _ => HS) ?_; clear hK K hB
            refine lexD_take (by kernel_rfl) (by kernel_rfl) HS (fun w9 h9 => by obtain ⟨s0, s1, s2, s3, s4, s5⟩ := h9; go_simp; first | done | rfl) (fun K hK => ?_); go_simp; refine hK _ ?_; clear hK K
            refine lexD_take (by kernel_rfl) (by kernel_rfl) HS (fun w9 h9 => by obtain ⟨s0, s1, s2, s3, s4, s5⟩ := h9; go_simp; first | done | rfl) (fun K hK => ?_); go_simp; refine hK _ ?_; clear hK K
            refine lexD_take (by kernel_rfl) (by kernel_rfl) HS (fun w9 h9 => by obtain ⟨s0, s1, s2, s3, s4, s5⟩ := h9; go_simp; first | done | rfl) (fun K hK => ?_); go_simp; refine hK _ ?_; clear hK K
            refine lexD_nil ?_
            go_wp2
            go_ret
            exact ⟨rfl, HB.out⟩
        · have hr : r = false := HE.out _ (by rw [HI.out]; simp; omega)
          subst hr
          have d1 : decide (ao < bo + (bs.size : Int)) = false := decide_eq_false h1
          clear HE HI
          go_enter Try.func79, Try.ntmps79
          go_upto_region 1 with (fail)
          have HS : At (fun w' : World => w'.cell? ⟨w.heap.size, 0, none⟩ = some (.int .i64 ab) ∧ w'.cell? ⟨w.heap.size, 1, none⟩ = some (.int .i64 ao) ∧ w'.cell? ⟨w.heap.size, 2, none⟩ = some (.string asx) ∧ w'.cell? ⟨w.heap.size + 1, 0, none⟩ = some (.int .i64 ab) ∧ w'.cell? ⟨w.heap.size + 1, 1, none⟩ = some (.int .i64 bo) ∧ w'.cell? ⟨w.heap.size + 1, 2, none⟩ = some (.string bs)) (((w.alloc (.cells #[.int .i64 ab, .int .i64 ao, .string asx] 42)).alloc (.cells #[.int .i64 ab, .int .i64 bo, .string bs] 42)).drew) := HS0.out
          have HB : Hid (Below w.heap.size w (((w.alloc (.cells #[.int .i64 ab, .int .i64 ao, .string asx] 42)).alloc (.cells #[.int .i64 ab, .int .i64 bo, .string bs] 42)).drew)) := HB0.out
          generalize hww : (w.alloc (.cells #[.int .i64 ab, .int .i64 ao, .string asx] 42)).alloc (.cells #[.int .i64 ab, .int .i64 bo, .string bs] 42) = wb at *
          clear hww HS0 HB0
          refine wp_region_lexD HS [0, 2, 3, 5, 6, 7, 8, 9, 10, 11, 12, 13, 14, 15, 16, 18, 19, 20, 21, 22, 23, 25, 26, 27] (by kernel_rfl) (by kernel_rfl) (fun _ _ d _ _ h => by cases d <;> exact h) ?_
          refine lexD_take (by kernel_rfl) (by kernel_rfl) HS (fun w9 h9 => by obtain ⟨s0, s1, s2, s3, s4, s5⟩ := h9; go_simp; first | done | rfl) (fun K hK => ?_); go_simp; refine hK _ ?_; clear hK K
          refine lexD_do (by kernel_rfl) (by kernel_rfl) (fun K hK => ?_); go_simp; refine (HPA.out _).mono ?_; rintro e w5 ⟨rfl, hB⟩; have HS : At (fun w' : World => w'.cell? ⟨w.heap.size, 0, none⟩ = some (.int .i64 ab) ∧ w'.cell? ⟨w.heap.size, 1, none⟩ = some (.int .i64 ao) ∧ w'.cell? ⟨w.heap.size, 2, none⟩ = some (.string asx) ∧ w'.cell? ⟨w.heap.size + 1, 0, none⟩ = some (.int .i64 ab) ∧ w'.cell? ⟨w.heap.size + 1, 1, none⟩ = some (.int .i64 bo) ∧ w'.cell? ⟨w.heap.size + 1, 2, none⟩ = some (.string bs)) w5 := (by obtain ⟨s0, s1, s2, s3, s4, s5⟩ := HS; exact ⟨keep_cell s0 hB, keep_cell s1 hB, keep_cell s2 hB, keep_cell s3 hB, keep_cell s4 hB, keep_cell s5 hB⟩); have HB := Lib.hid (below_then HB.out hB); refine hK _ _ (fun _ => HS) ?_; clear hK K hB
          refine lexD_take (by kernel_rfl) (by kernel_rfl) HS (fun w9 h9 => by obtain ⟨s0, s1, s2, s3, s4, s5⟩ := h9; go_simp; first | done | rfl) (fun K hK => ?_); go_simp; refine hK _ ?_; clear hK K
          refine lexD_take (by kernel_rfl) (by kernel_rfl) HS (fun w9 h9 => by obtain ⟨s0, s1, s2, s3, s4, s5⟩ := h9; go_simp; first | done | rfl) (fun K hK => ?_); go_simp; refine hK _ ?_; clear hK K
          refine lexD_do (by kernel_rfl) (by kernel_rfl) (fun K hK => ?_); go_simp; refine (HPB.out _).mono ?_; rintro e w5 ⟨rfl, hB⟩; have HS : At (fun w' : World => w'.cell? ⟨w.heap.size, 0, none⟩ = some (.int .i64 ab) ∧ w'.cell? ⟨w.heap.size, 1, none⟩ = some (.int .i64 ao) ∧ w'.cell? ⟨w.heap.size, 2, none⟩ = some (.string asx) ∧ w'.cell? ⟨w.heap.size + 1, 0, none⟩ = some (.int .i64 ab) ∧ w'.cell? ⟨w.heap.size + 1, 1, none⟩ = some (.int .i64 bo) ∧ w'.cell? ⟨w.heap.size + 1, 2, none⟩ = some (.string bs)) w5 := (by obtain ⟨s0, s1, s2, s3, s4, s5⟩ := HS; exact ⟨keep_cell s0 hB, keep_cell s1 hB, keep_cell s2 hB, keep_cell s3 hB, keep_cell s4 hB, keep_cell s5 hB⟩); have HB := Lib.hid (below_then HB.out hB); refine hK _ _ (fun _ => HS) ?_; clear hK K hB
          refine lexD_take (by kernel_rfl) (by kernel_rfl) HS (fun w9 h9 => by obtain ⟨s0, s1, s2, s3, s4, s5⟩ := h9; go_simp; first | done | rfl) (fun K hK => ?_); go_simp; refine hK _ ?_; clear hK K
          refine lexD_take (by kernel_rfl) (by kernel_rfl) HS (fun w9 h9 => by obtain ⟨s0, s1, s2, s3, s4, s5⟩ := h9; go_simp; first | done | rfl) (fun K hK => ?_); go_simp; refine hK _ ?_; clear hK K
          refine lexD_take (by kernel_rfl) (by kernel_rfl) HS (fun w9 h9 => by obtain ⟨s0, s1, s2, s3, s4, s5⟩ := h9; go_simp; first | done | rfl) (fun K hK => ?_); go_simp; refine hK _ ?_; clear hK K
          refine lexD_take (by kernel_rfl) (by kernel_rfl) HS (fun w9 h9 => by obtain ⟨s0, s1, s2, s3, s4, s5⟩ := h9; go_simp; first | done | rfl) (fun K hK => ?_); go_simp; refine hK _ ?_; clear hK K
          refine lexD_take (by kernel_rfl) (by kernel_rfl) HS (fun w9 h9 => by obtain ⟨s0, s1, s2, s3, s4, s5⟩ := h9; go_simp; first | done | rfl) (fun K hK => ?_); go_simp; refine hK _ ?_; clear hK K
          refine lexD_take (by kernel_rfl) (by kernel_rfl) HS (fun w9 h9 => by obtain ⟨s0, s1, s2, s3, s4, s5⟩ := h9; go_simp; first | done | rfl) (fun K hK => ?_); go_simp; refine hK _ ?_; clear hK K
          refine lexD_take (by kernel_rfl) (by kernel_rfl) HS (fun w9 h9 => by obtain ⟨s0, s1, s2, s3, s4, s5⟩ := h9; go_simp; first | done | rfl) (fun K hK => ?_); go_simp; refine hK _ ?_; clear hK K
          refine lexD_take (by kernel_rfl) (by kernel_rfl) HS (fun w9 h9 => by obtain ⟨s0, s1, s2, s3, s4, s5⟩ := h9; go_simp; first | done | rfl) (fun K hK => ?_); go_simp; refine hK _ ?_; clear hK K
          refine lexD_take (by kernel_rfl) (by kernel_rfl) HS (fun w9 h9 => by obtain ⟨s0, s1, s2, s3, s4, s5⟩ := h9; go_simp; first | done | rfl) (fun K hK => ?_); go_simp; refine hK _ ?_; clear hK K
          refine lexD_take (by kernel_rfl) (by kernel_rfl) HS (fun w9 h9 => by obtain ⟨s0, s1, s2, s3, s4, s5⟩ := h9; go_simp; first | done | rfl) (fun K hK => ?_); go_simp; refine hK _ ?_; clear hK K
          refine lexD_take (by kernel_rfl) (by kernel_rfl) HS (fun w9 h9 => by obtain ⟨s0, s1, s2, s3, s4, s5⟩ := h9; go_simp; first | done | rfl) (fun K hK => ?_); go_simp; refine hK _ ?_; clear hK K
          refine lexD_take (by kernel_rfl) (by kernel_rfl) HS (fun w9 h9 => by obtain ⟨s0, s1, s2, s3, s4, s5⟩ := h9; go_simp; first | done | rfl) (fun K hK => ?_); go_simp; refine hK _ ?_; clear hK K
          refine lexD_do (by kernel_rfl) (by kernel_rfl) (fun K hK => ?_); go_simp; refine (end_any ab bo bs _ (by omega) (by omega) (by omega)).mono ?_; rintro e w5 ⟨rfl, hB⟩; have HS : At (fun w' : World => w'.cell? ⟨w.heap.size, 0, none⟩ = some (.int .i64 ab) ∧ w'.cell? ⟨w.heap.size, 1, none⟩ = some (.int .i64 ao) ∧ w'.cell? ⟨w.heap.size, 2, none⟩ = some (.string asx) ∧ w'.cell? ⟨w.heap.size + 1, 0, none⟩ = some (.int .i64 ab) ∧ w'.cell? ⟨w.heap.size + 1, 1, none⟩ = some (.int .i64 bo) ∧ w'.cell? ⟨w.heap.size + 1, 2, none⟩ = some (.string bs)) w5 := (by obtain ⟨s0, s1, s2, s3, s4, s5⟩ := HS; exact ⟨keep_cell s0 hB, keep_cell s1 hB, keep_cell s2 hB, keep_cell s3 hB, keep_cell s4 hB, keep_cell s5 hB⟩); have HB := Lib.hid (below_then HB.out hB); refine hK _ _ (fun _ => HS) ?_; clear hK K hB
          refine lexD_take (by kernel_rfl) (by kernel_rfl) HS (fun w9 h9 => by obtain ⟨s0, s1, s2, s3, s4, s5⟩ := h9; go_simp; first | done | rfl) (fun K hK => ?_); go_simp; refine hK _ ?_; clear hK K
          refine lexD_take (by kernel_rfl) (by kernel_rfl) HS (fun w9 h9 => by obtain ⟨s0, s1, s2, s3, s4, s5⟩ := h9; go_simp; first | done | rfl) (fun K hK => ?_); go_simp; refine hK _ ?_; clear hK K
          refine lexD_take (by kernel_rfl) (by kernel_rfl) HS (fun w9 h9 => by obtain ⟨s0, s1, s2, s3, s4, s5⟩ := h9; go_simp; first | done | rfl) (fun K hK => ?_); go_simp; refine hK _ ?_; clear hK K
          refine lexD_skip (by kernel_rfl) (by kernel_rfl) HS (fun K hK => ?_); go_simp; refine hK _ ?_; clear hK K
          refine lexD_skip (by kernel_rfl) (by kernel_rfl) HS (fun K hK => ?_); go_simp; refine hK _ ?_; clear hK K
          refine lexD_skip (by kernel_rfl) (by kernel_rfl) HS (fun K hK => ?_); go_simp; refine hK _ ?_; clear hK K
          refine lexD_pass (by kernel_rfl) (by kernel_rfl) HS (fun K hK => ?_); go_simp; refine hK _ ?_; clear hK K
          refine lexD_skip (by kernel_rfl) (by kernel_rfl) HS (fun K hK => ?_); go_simp; refine hK _ ?_; clear hK K
          refine lexD_take (by kernel_rfl) (by kernel_rfl) HS (fun w9 h9 => by obtain ⟨s0, s1, s2, s3, s4, s5⟩ := h9; go_simp; first | done | rfl) (fun K hK => ?_); go_simp; refine hK _ ?_; clear hK K
          refine lexD_take (by kernel_rfl) (by kernel_rfl) HS (fun w9 h9 => by obtain ⟨s0, s1, s2, s3, s4, s5⟩ := h9; go_simp; first | done | rfl) (fun K hK => ?_); go_simp; refine hK _ ?_; clear hK K
          refine lexD_nil ?_
          go_wp2
          go_ret
          exact ⟨rfl, HB.out⟩
      · have hr : r = false := HE.out _ (by rw [HI.out]; simp; omega)
        subst hr
        have q1 : (ab == bb) = false := by simpa using he
        clear HE HI
        go_enter Try.func79, Try.ntmps79
        go_upto_region 1 with (fail)
        have HS : At (fun w' : World => w'.cell? ⟨w.heap.size, 0, none⟩ = some (.int .i64 ab) ∧ w'.cell? ⟨w.heap.size, 1, none⟩ = some (.int .i64 ao) ∧ w'.cell? ⟨w.heap.size, 2, none⟩ = some (.string asx) ∧ w'.cell? ⟨w.heap.size + 1, 0, none⟩ = some (.int .i64 bb) ∧ w'.cell? ⟨w.heap.size + 1, 1, none⟩ = some (.int .i64 bo) ∧ w'.cell? ⟨w.heap.size + 1, 2, none⟩ = some (.string bs)) (((w.alloc (.cells #[.int .i64 ab, .int .i64 ao, .string asx] 42)).alloc (.cells #[.int .i64 bb, .int .i64 bo, .string bs] 42)).drew) := HS0.out
        have HB : Hid (Below w.heap.size w (((w.alloc (.cells #[.int .i64 ab, .int .i64 ao, .string asx] 42)).alloc (.cells #[.int .i64 bb, .int .i64 bo, .string bs] 42)).drew)) := HB0.out
        generalize hww : (w.alloc (.cells #[.int .i64 ab, .int .i64 ao, .string asx] 42)).alloc (.cells #[.int .i64 bb, .int .i64 bo, .string bs] 42) = wb at *
        clear hww HS0 HB0
        refine wp_region_lexD HS [0, 2, 3, 5, 6, 7, 8, 9, 10, 11, 12, 13, 14, 15, 16, 18, 19, 20, 21, 22, 23, 25, 26, 27] (by kernel_rfl) (by kernel_rfl) (fun _ _ d _ _ h => by cases d <;> exact h) ?_
        refine lexD_take (by kernel_rfl) (by kernel_rfl) HS (fun w9 h9 => by obtain ⟨s0, s1, s2, s3, s4, s5⟩ := h9; go_simp; first | done | rfl) (fun K hK => ?_); go_simp; refine hK _ ?_; clear hK K
        refine lexD_do (by kernel_rfl) (by kernel_rfl) (fun K hK => ?_); go_simp; refine (HPA.out _).mono ?_; rintro e w5 ⟨rfl, hB⟩; have HS : At (fun w' : World => w'.cell? ⟨w.heap.size, 0, none⟩ = some (.int .i64 ab) ∧ w'.cell? ⟨w.heap.size, 1, none⟩ = some (.int .i64 ao) ∧ w'.cell? ⟨w.heap.size, 2, none⟩ = some (.string asx) ∧ w'.cell? ⟨w.heap.size + 1, 0, none⟩ = some (.int .i64 bb) ∧ w'.cell? ⟨w.heap.size + 1, 1, none⟩ = some (.int .i64 bo) ∧ w'.cell? ⟨w.heap.size + 1, 2, none⟩ = some (.string bs)) w5 := (by obtain ⟨s0, s1, s2, s3, s4, s5⟩ := HS; exact ⟨keep_cell s0 hB, keep_cell s1 hB, keep_cell s2 hB, keep_cell s3 hB, keep_cell s4 hB, keep_cell s5 hB⟩); have HB := Lib.hid (below_then HB.out hB); refine hK _ _ (fun _ => HS) ?_; clear hK K hB
        refine lexD_take (by kernel_rfl) (by kernel_rfl) HS (fun w9 h9 => by obtain ⟨s0, s1, s2, s3, s4, s5⟩ := h9; go_simp; first | done | rfl) (fun K hK => ?_); go_simp; refine hK _ ?_; clear hK K
        refine lexD_take (by kernel_rfl) (by kernel_rfl) HS (fun w9 h9 => by obtain ⟨s0, s1, s2, s3, s4, s5⟩ := h9; go_simp; first | done | rfl) (fun K hK => ?_); go_simp; refine hK _ ?_; clear hK K
        refine lexD_do (by kernel_rfl) (by kernel_rfl) (fun K hK => ?_); go_simp; refine (HPB.out _).mono ?_; rintro e w5 ⟨rfl, hB⟩; have HS : At (fun w' : World => w'.cell? ⟨w.heap.size, 0, none⟩ = some (.int .i64 ab) ∧ w'.cell? ⟨w.heap.size, 1, none⟩ = some (.int .i64 ao) ∧ w'.cell? ⟨w.heap.size, 2, none⟩ = some (.string asx) ∧ w'.cell? ⟨w.heap.size + 1, 0, none⟩ = some (.int .i64 bb) ∧ w'.cell? ⟨w.heap.size + 1, 1, none⟩ = some (.int .i64 bo) ∧ w'.cell? ⟨w.heap.size + 1, 2, none⟩ = some (.string bs)) w5 := (by obtain ⟨s0, s1, s2, s3, s4, s5⟩ := HS; exact ⟨keep_cell s0 hB, keep_cell s1 hB, keep_cell s2 hB, keep_cell s3 hB, keep_cell s4 hB, keep_cell s5 hB⟩); have HB := Lib.hid (below_then HB.out hB); refine hK _ _ (fun _ => HS) ?_; clear hK K hB
        refine lexD_take (by kernel_rfl) (by kernel_rfl) HS (fun w9 h9 => by obtain ⟨s0, s1, s2, s3, s4, s5⟩ := h9; go_simp; first | done | rfl) (fun K hK => ?_); go_simp; refine hK _ ?_; clear hK K
        refine lexD_take (by kernel_rfl) (by kernel_rfl) HS (fun w9 h9 => by obtain ⟨s0, s1, s2, s3, s4, s5⟩ := h9; go_simp; first | done | rfl) (fun K hK => ?_); go_simp; refine hK _ ?_; clear hK K
        refine lexD_take (by kernel_rfl) (by kernel_rfl) HS (fun w9 h9 => by obtain ⟨s0, s1, s2, s3, s4, s5⟩ := h9; go_simp; first | done | rfl) (fun K hK => ?_); go_simp; refine hK _ ?_; clear hK K
        refine lexD_take (by kernel_rfl) (by kernel_rfl) HS (fun w9 h9 => by obtain ⟨s0, s1, s2, s3, s4, s5⟩ := h9; go_simp; first | done | rfl) (fun K hK => ?_); go_simp; refine hK _ ?_; clear hK K
        refine lexD_take (by kernel_rfl) (by kernel_rfl) HS (fun w9 h9 => by obtain ⟨s0, s1, s2, s3, s4, s5⟩ := h9; go_simp; first | done | rfl) (fun K hK => ?_); go_simp; refine hK _ ?_; clear hK K
        refine lexD_take (by kernel_rfl) (by kernel_rfl) HS (fun w9 h9 => by obtain ⟨s0, s1, s2, s3, s4, s5⟩ := h9; go_simp; first | done | rfl) (fun K hK => ?_); go_simp; refine hK _ ?_; clear hK K
        refine lexD_take (by kernel_rfl) (by kernel_rfl) HS (fun w9 h9 => by obtain ⟨s0, s1, s2, s3, s4, s5⟩ := h9; go_simp; first | done | rfl) (fun K hK => ?_); go_simp; refine hK _ ?_; clear hK K
        refine lexD_take (by kernel_rfl) (by kernel_rfl) HS (fun w9 h9 => by obtain ⟨s0, s1, s2, s3, s4, s5⟩ := h9; go_simp; first | done | rfl) (fun K hK => ?_); go_simp; refine hK _ ?_; clear hK K
        refine lexD_take (by kernel_rfl) (by kernel_rfl) HS (fun w9 h9 => by obtain ⟨s0, s1, s2, s3, s4, s5⟩ := h9; go_simp; first | done | rfl) (fun K hK => ?_); go_simp; refine hK _ ?_; clear hK K
        refine lexD_skip (by kernel_rfl) (by kernel_rfl) HS (fun K hK => ?_); go_simp; refine hK _ ?_; clear hK K
        refine lexD_skip (by kernel_rfl) (by kernel_rfl) HS (fun K hK => ?_); go_simp; refine hK _ ?_; clear hK K
        refine lexD_skip (by kernel_rfl) (by kernel_rfl) HS (fun K hK => ?_); go_simp; refine hK _ ?_; clear hK K
        refine lexD_pass (by kernel_rfl) (by kernel_rfl) HS (fun K hK => ?_); go_simp; refine hK _ ?_; clear hK K
        refine lexD_skip (by kernel_rfl) (by kernel_rfl) HS (fun K hK => ?_); go_simp; refine hK _ ?_; clear hK K
        refine lexD_take (by kernel_rfl) (by kernel_rfl) HS (fun w9 h9 => by obtain ⟨s0, s1, s2, s3, s4, s5⟩ := h9; go_simp; first | done | rfl) (fun K hK => ?_); go_simp; refine hK _ ?_; clear hK K
        refine lexD_take (by kernel_rfl) (by kernel_rfl) HS (fun w9 h9 => by obtain ⟨s0, s1, s2, s3, s4, s5⟩ := h9; go_simp; first | done | rfl) (fun K hK => ?_); go_simp; refine hK _ ?_; clear hK K
        refine lexD_skip (by kernel_rfl) (by kernel_rfl) HS (fun K hK => ?_); go_simp; refine hK _ ?_; clear hK K
        refine lexD_skip (by kernel_rfl) (by kernel_rfl) HS (fun K hK => ?_); go_simp; refine hK _ ?_; clear hK K
        refine lexD_skip (by kernel_rfl) (by kernel_rfl) HS (fun K hK => ?_); go_simp; refine hK _ ?_; clear hK K
        refine lexD_pass (by kernel_rfl) (by kernel_rfl) HS (fun K hK => ?_); go_simp; refine hK _ ?_; clear hK K
        refine lexD_skip (by kernel_rfl) (by kernel_rfl) HS (fun K hK => ?_); go_simp; refine hK _ ?_; clear hK K
        refine lexD_take (by kernel_rfl) (by kernel_rfl) HS (fun w9 h9 => by obtain ⟨s0, s1, s2, s3, s4, s5⟩ := h9; go_simp; first | done | rfl) (fun K hK => ?_); go_simp; refine hK _ ?_; clear hK K
        refine lexD_take (by kernel_rfl) (by kernel_rfl) HS (fun w9 h9 => by obtain ⟨s0, s1, s2, s3, s4, s5⟩ := h9; go_simp; first | done | rfl) (fun K hK => ?_); go_simp; refine hK _ ?_; clear hK K
        refine lexD_nil ?_
        go_wp2
        go_ret
        exact ⟨rfl, HB.out⟩
end Go.Proofs.Ytpicagcapgjiaaa
namespace Go.Proofs.Ytpicagcapgjiaaa
open Go.RowKit Go.Sel Go.Sel.Gra Go.Sel.Mer Go.Shelf

set_option maxHeartbeats 2000000 in
theorem writes_any (b o : Int) (s : ByteArray) (i : Nat) (w : World) (h0 : 0 ≤ o) (h1 : o ≤ 1000) (h2 : s.size ≤ 1000) (h3 : i ≤ 1000) :
    Calls Try.prog 108 #[.agg #[.int .i64 b, .int .i64 o, .string s], .int .i64 (i : Int)] w fun e w' => e = .returned (.bool (wrB ⟨b, o, s, []⟩ i)) ∧ Below w.heap.size w w' := by
  by_cases c1 : o ≤ (i : Int)
  · by_cases c2 : (i : Int) < o + (s.size : Int)
    · have d1 : decide (o ≤ (i : Int)) = true := decide_eq_true c1
      have d2 : decide ((i : Int) < o + (s.size : Int)) = true := decide_eq_true c2
      have HW : Hid (wrB ⟨b, o, s, []⟩ i = true) := by show _ = _; simp [wrB, c1, c2]
      go_enter Try.func108, Try.ntmps108
      go_wp2
      go_ret
      exact ⟨ret_bool HW.out.symm, below_al _ _⟩
    · have d1 : decide (o ≤ (i : Int)) = true := decide_eq_true c1
      have d2 : decide ((i : Int) < o + (s.size : Int)) = false := decide_eq_false c2
      have HW : Hid (wrB ⟨b, o, s, []⟩ i = false) := by show _ = _; simp [wrB]; omega
      go_enter Try.func108, Try.ntmps108
      go_wp2
      go_ret
      exact ⟨ret_bool HW.out.symm, below_al _ _⟩
  · have d1 : decide (o ≤ (i : Int)) = false := decide_eq_false c1
    have HW : Hid (wrB ⟨b, o, s, []⟩ i = false) := by show _ = _; simp [wrB]; omega
    go_enter Try.func108, Try.ntmps108
    go_wp2
    go_ret
    exact ⟨ret_bool HW.out.symm, below_al _ _⟩

set_option maxRecDepth 100000 in
set_option maxHeartbeats 8000000 in
theorem rOverlap_any (x y : It) (w : World) :
    Calls Try.prog 80 #[.agg #[.int .i64 x.b, .int .i64 x.o, .string x.s], .agg #[.int .i64 y.b, .int .i64 y.o, .string y.s]] w fun e w' => e = .returned (.bool (ovB x y)) ∧ Below w.heap.size w w' := by
  have HPA := Lib.hid (fun wx => rpRight_any x wx)
  have HPB := Lib.hid (fun wx => rpRight_any y wx)
  have HPX := Lib.hid (pright_iff (x := x))
  have HPY := Lib.hid (pright_iff (x := y))
  have HE : Hid (∀ b : Bool, (ovB x y = true ↔ b = true) → ovB x y = b) := fun b h => Bool.eq_iff_iff.2 h
  have HI := Lib.hid (ovB_iff (a := x) (b := y))
  have HO := Lib.hid (fun h1 h2 h3 => ovB_writes (a := x) (b := y) h1 h2 h3)
  have HWX : Hid (∀ i, wrB x i = wrB ⟨x.b, x.o, x.s, []⟩ i) := fun i => rfl
  have HWY : Hid (∀ i, wrB y i = wrB ⟨y.b, y.o, y.s, []⟩ i) := fun i => rfl
  generalize ovB x y = r at *
  cases ha : prightB x with
  | false =>
    have hr : r = false := HE.out _ (by rw [HI.out, ha]; simp)
    subst hr
    rw [ha] at HPA
    clear ha HE HI HPX HPY HPB HO
    obtain ⟨ab, ao, asx, ad⟩ := x
    obtain ⟨bb, bo, bs, bd⟩ := y
    simp only at *
    go_enter Try.func80, Try.ntmps80
    go_wp2_with (go_at_call 67; refine (HPA.out _).mono ?_; rintro e w5 ⟨rfl, hB⟩; have HB := Lib.hid ((((Below.refl w.heap.size w).alloc (Nat.le_refl _) (.cells #[.int .i64 ab, .int .i64 ao, .string asx] 42)).alloc (by simp) (.cells #[.int .i64 bb, .int .i64 bo, .string bs] 42)).trans (hB.mono (by simp; omega))); clear hB)
    go_ret
    exact ⟨rfl, HB.out⟩
  | true =>
    have hx := HPX.out.1 ha
    cases hb : prightB y with
    | false =>
      have hr : r = false := HE.out _ (by rw [HI.out, hb]; simp)
      subst hr
      rw [ha] at HPA
      rw [hb] at HPB
      clear ha hb HE HI HPX HPY HO hx
      obtain ⟨ab, ao, asx, ad⟩ := x
      obtain ⟨bb, bo, bs, bd⟩ := y
      simp only at *
      go_enter Try.func80, Try.ntmps80
      have e2 := blk22 w (.cells #[.int .i64 ab, .int .i64 ao, .string asx] 42) (.cells #[.int .i64 bb, .int .i64 bo, .string bs] 42)
      have HE2 := Lib.hid e2
      clear e2
      go_wp2_with (first
        | (go_at_call 67; refine (HPA.out _).mono ?_; rintro e w5 ⟨rfl, hB⟩; have HB := Lib.hid ((((Below.refl w.heap.size w).alloc (Nat.le_refl _) (.cells #[.int .i64 ab, .int .i64 ao, .string asx] 42)).alloc (by simp) (.cells #[.int .i64 bb, .int .i64 bo, .string bs] 42)).trans (hB.mono (by simp; omega))); have e3 := blk_below HE2.out hB (by simp); have c0 := blk_cell e3 0; have c1 := blk_cell e3 1; have c2 := blk_cell e3 2; simp only [List.getElem?_toArray, List.getElem?_cons_zero, List.getElem?_cons_succ] at c0 c1 c2; clear hB HPA HE2 e3)
        | (go_at_call 67; refine (HPB.out _).mono ?_; rintro e w6 ⟨rfl, hB⟩; have HB2 := Lib.hid (below_then HB.out hB); clear hB))
      go_ret
      exact ⟨rfl, HB2.out⟩
    | true =>
      have hy := HPY.out.1 hb
      have HAB := Lib.hid (And.intro ha hb)
      rw [ha] at HPA
      rw [hb] at HPB
      clear ha hb HPX HPY
      by_cases he : x.b = y.b
      · have HO2 : Hid (r = true ↔ ∃ i, i < 32 ∧ wrB x i = true ∧ wrB y i = true) := HO.out HAB.out.1 HAB.out.2 he
        clear HE HI HO
        obtain ⟨ab, ao, asx, ad⟩ := x
        obtain ⟨bb, bo, bs, bd⟩ := y
        simp only at *
        have q1 : (ab != bb) = false := by simpa using he
        have HWA : Hid (∀ i, wrB ⟨ab, ao, asx, ad⟩ i = wrB ⟨ab, ao, asx, []⟩ i) := fun i => rfl
        have HWB : Hid (∀ i, wrB ⟨bb, bo, bs, bd⟩ i = wrB ⟨bb, bo, bs, []⟩ i) := fun i => rfl
        clear he HWX HWY
        go_enter Try.func80, Try.ntmps80
        have HE1 := Lib.hid (blk21 w (.cells #[.int .i64 ab, .int .i64 ao, .string asx] 42) (.cells #[.int .i64 bb, .int .i64 bo, .string bs] 42))
        have HE2 := Lib.hid (blk22 w (.cells #[.int .i64 ab, .int .i64 ao, .string asx] 42) (.cells #[.int .i64 bb, .int .i64 bo, .string bs] 42))
        go_wp2_with (first
        | (go_at_call 67; refine (HPA.out _).mono ?_; rintro e w5 ⟨rfl, hB⟩; have HB := Lib.hid ((((Below.refl w.heap.size w).alloc (Nat.le_refl _) (.cells #[.int .i64 ab, .int .i64 ao, .string asx] 42)).alloc (by simp) (.cells #[.int .i64 bb, .int .i64 bo, .string bs] 42)).trans (hB.mono (by simp; omega))); have e1 := blk_below HE1.out hB (by simp; omega); have e3 := blk_below HE2.out hB (by simp); have HF1 := Lib.hid e1; have HF2 := Lib.hid e3; have a0 := blk_cell e1 0; have a1 := blk_cell e1 1; have a2 := blk_cell e1 2; have c0 := blk_cell e3 0; have c1 := blk_cell e3 1; have c2 := blk_cell e3 2; simp only [List.getElem?_toArray, List.getElem?_cons_zero, List.getElem?_cons_succ] at a0 a1 a2 c0 c1 c2; clear hB HPA HE1 HE2 e1 e3)
        | (go_at_call 67; refine (HPB.out _).mono ?_; rintro e w6 ⟨rfl, hB⟩; have HB2 := Lib.hid (below_then HB.out hB); have a0 := keep_cell a0 hB; have a1 := keep_cell a1 hB; have a2 := keep_cell a2 hB; have c0 := keep_cell c0 hB; have c1 := keep_cell c1 hB; have c2 := keep_cell c2 hB; clear hB HF1 HF2))
        have HC : Hid (w6.cell? ⟨w.heap.size, 0, none⟩ = some (.int .i64 ab) ∧ w6.cell? ⟨w.heap.size, 1, none⟩ = some (.int .i64 ao) ∧ w6.cell? ⟨w.heap.size, 2, none⟩ = some (.string asx) ∧ w6.cell? ⟨w.heap.size + 1, 0, none⟩ = some (.int .i64 bb) ∧ w6.cell? ⟨w.heap.size + 1, 1, none⟩ = some (.int .i64 bo) ∧ w6.cell? ⟨w.heap.size + 1, 2, none⟩ = some (.string bs)) := ⟨a0, a1, a2, c0, c1, c2⟩
        clear a0 a1 a2 c0 c1 c2
        go_loopw [5] (fun v wr => ∃ k : Nat, k ≤ 32 ∧ v = .int .i64 k ∧ Hid (∀ i, i < k → ¬ (wrB ⟨ab, ao, asx, ad⟩ i = true ∧ wrB ⟨bb, bo, bs, bd⟩ i = true)) ∧ Hid (Below w6.heap.size w6 wr)) (fun v _ => 32 - (intOf v).toNat)
        case atStart => exact ⟨0, by omega, rfl, fun i hi => by omega, Below.refl _ _⟩
        case round =>
          obtain ⟨k, hk, rfl, HJ, HBr⟩ := hrel
          have HBT := Lib.hid (below_then HB2.out HBr.out)
          by_cases hlt : k < 32
          · obtain ⟨a0, a1, a2, c0, c1, c2⟩ := HC.out
            have a0 := keep_cell a0 HBr.out
            have a1 := keep_cell a1 HBr.out
            have a2 := keep_cell a2 HBr.out
            have c0 := keep_cell c0 HBr.out
            have c1 := keep_cell c1 HBr.out
            have c2 := keep_cell c2 HBr.out
            have WX := Lib.hid (fun wx => writes_any ab ao asx k wx hx.2.2.1 (by omega) (by omega) (by omega))
            have WY := Lib.hid (fun wx => writes_any bb bo bs k wx hy.2.2.1 (by omega) (by omega) (by omega))
            cases h1 : wrB ⟨ab, ao, asx, []⟩ k with
            | false =>
              have HN : Hid (¬ (wrB ⟨ab, ao, asx, ad⟩ k = true ∧ wrB ⟨bb, bo, bs, bd⟩ k = true)) := by
                show ¬ _
                rw [HWA.out, h1]; simp
              rw [h1] at WX
              clear h1
              go_wp2_with (go_at_call 108; refine (WX.out _).mono ?_; rintro e w7 ⟨rfl, hB⟩; have HB7 := Lib.hid (below_then HBr.out hB); clear hB)
              go_roundw
              case rel => exact ⟨k + 1, by omega, by go_num, fun i hi => by
                by_cases e : i = k
                · subst e; exact HN.out
                · exact HJ.out i (by omega), HB7⟩
              case measure => simp [intOf] <;> omega
            | true =>
              rw [h1] at WX
              cases h2 : wrB ⟨bb, bo, bs, []⟩ k with
              | false =>
                have HN : Hid (¬ (wrB ⟨ab, ao, asx, ad⟩ k = true ∧ wrB ⟨bb, bo, bs, bd⟩ k = true)) := by
                  show ¬ _
                  rw [HWB.out, h2]; simp
                rw [h2] at WY
                clear h1 h2
                go_wp2_with (first
                  | (go_at_call 108; refine (WX.out _).mono ?_; rintro e w7 ⟨rfl, hB⟩; have HB7 := Lib.hid (below_then HBr.out hB); have c0 := keep_cell c0 hB; have c1 := keep_cell c1 hB; have c2 := keep_cell c2 hB; clear hB WX)
                  | (go_at_call 108; refine (WY.out _).mono ?_; rintro e w8 ⟨rfl, hB⟩; have HB8 := Lib.hid (below_then HB7.out hB); clear hB))
                go_roundw
                case rel => exact ⟨k + 1, by omega, by go_num, fun i hi => by
                  by_cases e : i = k
                  · subst e; exact HN.out
                  · exact HJ.out i (by omega), HB8⟩
                case measure => simp [intOf] <;> omega
              | true =>
                have hr : r = true := HO2.out.2 ⟨k, hlt, by rw [HWA.out]; exact h1, by rw [HWB.out]; exact h2⟩
                subst hr
                rw [h2] at WY
                clear h1 h2 HO2
                go_wp2_with (first
                  | (go_at_call 108; refine (WX.out _).mono ?_; rintro e w7 ⟨rfl, hB⟩; have HB7 := Lib.hid (below_then HBT.out hB); have c0 := keep_cell c0 hB; have c1 := keep_cell c1 hB; have c2 := keep_cell c2 hB; clear hB WX)
                  | (go_at_call 108; refine (WY.out _).mono ?_; rintro e w8 ⟨rfl, hB⟩; have HB8 := Lib.hid (below_then HB7.out hB); clear hB))
                go_ret
                exact ⟨rfl, HB8.out⟩
          · obtain rfl : k = 32 := by omega
            have hr : r = false := by
              cases hrr : r with
              | false => rfl
              | true =>
                obtain ⟨i, hi, h1, h2⟩ := HO2.out.1 hrr
                exact absurd ⟨h1, h2⟩ (HJ.out i hi)
            subst hr
            go_wp2
            go_ret
            exact ⟨rfl, HBT.out⟩
      · have hr : r = false := HE.out _ (by rw [HI.out]; simp [he])
        subst hr
        clear HE HI HO
        obtain ⟨ab, ao, asx, ad⟩ := x
        obtain ⟨bb, bo, bs, bd⟩ := y
        simp only at *
        have q1 : (ab != bb) = true := by simpa using he
        clear he HWX HWY
        go_enter Try.func80, Try.ntmps80
        have HE1 := Lib.hid (blk21 w (.cells #[.int .i64 ab, .int .i64 ao, .string asx] 42) (.cells #[.int .i64 bb, .int .i64 bo, .string bs] 42))
        have HE2 := Lib.hid (blk22 w (.cells #[.int .i64 ab, .int .i64 ao, .string asx] 42) (.cells #[.int .i64 bb, .int .i64 bo, .string bs] 42))
        go_wp2_with (first
        | (go_at_call 67; refine (HPA.out _).mono ?_; rintro e w5 ⟨rfl, hB⟩; have HB := Lib.hid ((((Below.refl w.heap.size w).alloc (Nat.le_refl _) (.cells #[.int .i64 ab, .int .i64 ao, .string asx] 42)).alloc (by simp) (.cells #[.int .i64 bb, .int .i64 bo, .string bs] 42)).trans (hB.mono (by simp; omega))); have e1 := blk_below HE1.out hB (by simp; omega); have e3 := blk_below HE2.out hB (by simp); have HF1 := Lib.hid e1; have HF2 := Lib.hid e3; have a0 := blk_cell e1 0; have a1 := blk_cell e1 1; have a2 := blk_cell e1 2; have c0 := blk_cell e3 0; have c1 := blk_cell e3 1; have c2 := blk_cell e3 2; simp only [List.getElem?_toArray, List.getElem?_cons_zero, List.getElem?_cons_succ] at a0 a1 a2 c0 c1 c2; clear hB HPA HE1 HE2 e1 e3)
        | (go_at_call 67; refine (HPB.out _).mono ?_; rintro e w6 ⟨rfl, hB⟩; have HB2 := Lib.hid (below_then HB.out hB); have a0 := keep_cell a0 hB; have a1 := keep_cell a1 hB; have a2 := keep_cell a2 hB; have c0 := keep_cell c0 hB; have c1 := keep_cell c1 hB; have c2 := keep_cell c2 hB; clear hB HF1 HF2))
        go_ret
        exact ⟨rfl, HB2.out⟩
end Go.Proofs.Ytpicagcapgjiaaa
