/- Walks of merge's laws: live. -/
import Derived.Test.YtpicagcapgjiaaaMer8
set_option linter.unusedSimpArgs false
set_option linter.unusedVariables false
namespace Go.Proofs.Ytpicagcapgjiaaa
open Go.RowKit Go.Sel Go.Sel.Gra Go.Sel.Mer Go.Shelf

def L0 : List It := [⟨1, 0, ⟨#[97]⟩, []⟩, ⟨1, 0, ⟨#[97]⟩, [0]⟩, ⟨2, 0, ⟨#[98]⟩, []⟩]
theorem L0_right : mrightB L0 = true := by decide +kernel
theorem L0_groups : groupsL L0 = [[0, 1], [2]] := by decide +kernel
theorem L0_deps : (mdepsL L0).length = 2 := by decide +kernel
theorem L0_exp : (expandL L0 [0]).length = 2 := by decide +kernel
def cells0 (q : Nat) : List Value := [.int .i64 1, .int .i64 0, .string ⟨#[97]⟩, .slice none 0 0, .int .i64 1, .int .i64 0, .string ⟨#[97]⟩, .slice (some ⟨q, 0, none⟩) 1 1, .int .i64 2, .int .i64 0, .string ⟨#[98]⟩, .slice none 0 0]
theorem ip_L0 {w : World} {g q : Nat} (hb : Bk w g 44 (cells0 q)) (hq : Bk w q 3 [.int .i64 0]) : Ip w (some ⟨g, 0, none⟩) 3 3 L0 := by
  refine ⟨[(none, 0, 0), (some ⟨q, 0, none⟩, 1, 1), (none, 0, 0)], rfl, rfl, hb.rd 3 3 (by omega) (by omega), fun j hj => ?_⟩
  match j, hj with
  | 0, _ => exact ⟨rfl, Rd.nil (c := 0) (by omega)⟩
  | 1, _ => exact ⟨rfl, hq.rd 1 1 (by omega) (by omega)⟩
  | 2, _ => exact ⟨rfl, Rd.nil (c := 0) (by omega)⟩

set_option maxRecDepth 100000 in
set_option maxHeartbeats 4000000 in
theorem mlive_any (w : World) : Calls Try.prog 23 #[] w fun e w' => e = .returned (.bool true) ∧ Below w.heap.size w w' := by
  have HR := Lib.hid L0_right
  have HG := Lib.hid L0_groups
  have HD := Lib.hid L0_deps
  have HE := Lib.hid L0_exp
  go_enter Try.func23, Try.ntmps23
  go_upto_region 3 with (fail)
  have HI : Hid (Ip (((w.alloc (.cells #[.int .i64 1, .int .i64 0, .string ⟨#[97]⟩] 42)).alloc (.cells #[.int .i64 0] 3)).alloc (.cells (cells0 (w.heap.size + 1)).toArray 44)) (some ⟨w.heap.size + 1 + 1, 0, none⟩) 3 3 L0) := by
    refine ip_L0 (q := w.heap.size + 1) ?_ ?_
    · have := Bk.new ((w.alloc (.cells #[.int .i64 1, .int .i64 0, .string ⟨#[97]⟩] 42)).alloc (.cells #[.int .i64 0] 3)) 44 (cells0 (w.heap.size + 1))
      simpa using this
    · have := Bk.new (w.alloc (.cells #[.int .i64 1, .int .i64 0, .string ⟨#[97]⟩] 42)) 3 [.int .i64 0]
      rw [World.size_alloc] at this
      exact Bk.keep this (below_al _ _)
  have HB : Hid (Below w.heap.size w (((w.alloc (.cells #[.int .i64 1, .int .i64 0, .string ⟨#[97]⟩] 42)).alloc (.cells #[.int .i64 0] 3)).alloc (.cells (cells0 (w.heap.size + 1)).toArray 44))) := below_then (below_al _ _) (below_then (below_al _ _) (below_al _ _))
  simp only [cells0] at HI HB
  generalize ((w.alloc (.cells #[.int .i64 1, .int .i64 0, .string ⟨#[97]⟩] 42)).alloc (.cells #[.int .i64 0] 3)).alloc _ = w3 at *
  generalize (some (⟨w.heap.size + 1 + 1, 0, none⟩ : Addr)) = A3 at *
  go_upto_region 4 with (go_at_call 27; (with_reducible refine (mGroups_any A3 3 3 L0 _ HI.out).mono ?_); rw [HG.out]; rintro e w4 ⟨⟨Ag, cg, rfl, hg⟩, hB⟩; have HGR := Lib.hid hg; have HB4 := Lib.hid (below_then HB.out hB); have HI4 := Lib.hid (HI.out.below hB); clear hg hB)
  obtain ⟨gb, go, Ag0, ng0, cg0, rfl, hgc, hgl, _⟩ := HGR.out.at_ (show 0 < 2 by omega)
  have hng : ng0 = 2 := hgl.symm
  subst hng
  have g1 := HGR.out.le
  have g2 := HGR.out.cap
  clear hgl
  rw [Nat.add_zero] at hgc
  have hl2 : ([[0, 1], [2]] : List (List Int)).length = 2 := rfl
  go_wp2_with (first
    | (go_at_call 24; (with_reducible refine (mRight_any A3 3 3 L0 _ HI4.out).mono ?_); rw [HR.out]; rintro e w5 ⟨rfl, hB⟩; have HB5 := Lib.hid (below_then HB4.out hB); have HI5 := Lib.hid (HI4.out.below hB); have hgc := keep_cell hgc hB; clear hB)
    | (go_at_call 29; (with_reducible refine (mDeps_any A3 3 3 L0 _ HI5.out (by omega)).mono ?_); rw [HD.out]; rintro e w6 ⟨⟨A6, c6, rfl, hd6⟩, hB⟩; have HB6 := Lib.hid (below_then HB5.out hB); have HI6 := Lib.hid (HI5.out.below hB); clear hB hd6)
    | (go_at_call 32; (with_reducible refine (mExpand_any A3 3 3 L0 _ 1 1 [0] _ (HI6.out.below (below_al _ _)) ((Bk.new w6 3 [.int .i64 0]).rd 1 1 (by omega) (by omega)) rfl).mono ?_); rw [HE.out]; rintro e w7 ⟨⟨A7, c7, rfl, hd7⟩, hB⟩; have HB7 := Lib.hid (below_then HB6.out (below_then (below_al _ _) hB)); clear hB hd7))
  go_ret
  exact ⟨rfl, HB7.out⟩
end Go.Proofs.Ytpicagcapgjiaaa
