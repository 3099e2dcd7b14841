/- Walks of graph's laws: live. -/
import Derived.Test.YtpicagcapgjiaaaGraS
import Derived.Test.YtpicagcapgjiaaaGra8
import Derived.Test.YtpicagcapgjiaaaGra9
set_option linter.unusedSimpArgs false
set_option linter.unusedVariables false
namespace Go.Proofs.Ytpicagcapgjiaaa
open Go.RowKit Go.Sel Go.Sel.Gra Go.Shelf

attribute [local go_sem] Oper.semAt_some

def D0 : List (List Int) := [[], [0], [0, 1]]
theorem d0_right : rightD D0 = true := by decide
theorem d0_thin : thinD D0 = [[], [0], [1]] := by decide
theorem d0_before : beforeB D0 0 2 = true := by decide
theorem d0_depth : depthI D0 2 = 3 := by decide
theorem d0_close : (closeL D0 [2]).length = 3 := by decide

set_option maxRecDepth 100000 in
set_option maxHeartbeats 4000000 in
theorem live_any (w : World) : Calls Try.prog 17 #[] w fun e w' => e = .returned (.bool true) ∧ Below w.heap.size w w' := by
  go_enter Try.func17, Try.ntmps17
  go_upto_region 2 with (fail)
  have hB0 : Below w.heap.size w (((w.alloc (.cells #[.int .i64 0] 3)).alloc (.cells #[.int .i64 0, .int .i64 1] 3)).alloc (.cells #[.slice none 0 0, .slice (some ⟨w.heap.size, 0, none⟩) 1 1, .slice (some ⟨w.heap.size + 1, 0, none⟩) 2 2] 23)) := below_then (below_then (below_al _ _) (below_al _ _)) (below_al _ _)
  have b1 := ((Bk.new w 3 [.int .i64 0]).keep (below_al _ (.cells #[.int .i64 0, .int .i64 1] 3))).keep (below_al _ (.cells #[.slice none 0 0, .slice (some ⟨w.heap.size, 0, none⟩) 1 1, .slice (some ⟨w.heap.size + 1, 0, none⟩) 2 2] 23))
  have b2 := (Bk.new (w.alloc (.cells #[.int .i64 0] 3)) 3 [.int .i64 0, .int .i64 1]).keep (below_al _ (.cells #[.slice none 0 0, .slice (some ⟨w.heap.size, 0, none⟩) 1 1, .slice (some ⟨w.heap.size + 1, 0, none⟩) 2 2] 23))
  have b3 := Bk.new ((w.alloc (.cells #[.int .i64 0] 3)).alloc (.cells #[.int .i64 0, .int .i64 1] 3)) 23 [.slice none 0 0, .slice (some ⟨w.heap.size, 0, none⟩) 1 1, .slice (some ⟨w.heap.size + 1, 0, none⟩) 2 2]
  simp only [World.size_alloc] at b2 b3
  have HB0 := Lib.hid hB0
  have HD : Hid (Dp (((w.alloc (.cells #[.int .i64 0] 3)).alloc (.cells #[.int .i64 0, .int .i64 1] 3)).alloc (.cells #[.slice none 0 0, .slice (some ⟨w.heap.size, 0, none⟩) 1 1, .slice (some ⟨w.heap.size + 1, 0, none⟩) 2 2] 23)) (some ⟨w.heap.size + 1 + 1, 0, none⟩) 3 3 D0) := by
    refine Dp.mk_ [(none, 0, 0), (some ⟨w.heap.size, 0, none⟩, 1, 1), (some ⟨w.heap.size + 1, 0, none⟩, 2, 2)] rfl rfl (b3.rd 3 3 (by omega) (by omega)) (fun j hj => ?_)
    have hj3 : j < 3 := hj
    rcases (show j = 0 ∨ j = 1 ∨ j = 2 by omega) with rfl | rfl | rfl
    · exact ⟨rfl, (Rd.nil (c := 0) (by omega))⟩
    · exact ⟨rfl, b1.rd 1 1 (by omega) (by omega)⟩
    · exact ⟨rfl, b2.rd 2 2 (by omega) (by omega)⟩
  clear b1 b2 b3 hB0
  generalize (((w.alloc (.cells #[.int .i64 0] 3)).alloc (.cells #[.int .i64 0, .int .i64 1] 3)).alloc (.cells #[.slice none 0 0, .slice (some ⟨w.heap.size, 0, none⟩) 1 1, .slice (some ⟨w.heap.size + 1, 0, none⟩) 2 2] 23)) = W at *
  generalize (some (⟨w.heap.size + 1 + 1, 0, none⟩ : Addr)) = A0 at *
  go_upto_region 3 with (go_at_call 58; (with_reducible refine (Thin_all _ _ _ D0 _ HD.out).mono ?_); rintro e w1 ⟨⟨A1, c1, rfl, ht⟩, hB⟩; have HT := Lib.hid ht; have HB1 := Lib.hid hB; clear ht hB)
  have ht := HT.out
  rw [d0_thin] at ht
  simp only [List.length_cons, List.length_nil, d0_thin]
  obtain ⟨b, off, A2, n2, c2, rfl, hc, hn2, hrd⟩ := ht.at_ (i := 2) (by decide)
  have hn1 : n2 = 1 := by rw [← hn2]; rfl
  subst hn1
  obtain ⟨b', off', rfl, _, hcc⟩ := hrd.form (by decide)
  have hcell := hcc 0 (by decide)
  have e0 : (iv .i64 (nth [[], [0], [1]] 2))[0]'(by decide) = .int .i64 1 := rfl
  rw [e0, Nat.add_zero] at hcell
  have hc' := fun w2 (h : Below w1.heap.size w1 w2) => keep_cell hc h
  have hcell' := fun w2 (h : Below w1.heap.size w1 w2) => keep_cell hcell h
  clear ht hcc hrd hn2 HT
  go_wp2_with (first
    | (go_at_call 16; (with_reducible refine (Right_any _ _ _ D0 _ (HD.out.below HB1.out)).mono ?_); rw [d0_right]; rintro e w2 ⟨rfl, hB⟩; have hc := hc' _ hB; have hcell := hcell' _ hB; have HB2 := Lib.hid (below_then HB1.out hB); clear hB hc' hcell')
    | (go_at_call 59; (with_reducible refine (Before_any _ _ _ D0 _ _ _ (HD.out.below HB2.out)).mono ?_); rw [d0_before]; rintro e w3 ⟨rfl, hB⟩; have HB3 := Lib.hid (below_then HB2.out hB); clear hB)
    | (go_at_call 60; (with_reducible refine (Depth_any _ _ _ D0 _ _ (HD.out.below HB3.out)).mono ?_); rw [d0_depth]; rintro e w4 ⟨rfl, hB⟩; have HB4 := Lib.hid (below_then HB3.out hB); clear hB)
    | (go_at_call 20; have hR2 : Rd (w4.alloc (.cells #[.int .i64 2] 3)) (some ⟨w4.heap.size, 0, none⟩) 1 1 (iv .i64 [2]) := (Bk.new w4 3 [.int .i64 2]).rd 1 1 (by omega) (by omega); have hD4 := (HD.out.below HB4.out).below (below_al w4 (.cells #[.int .i64 2] 3)); (with_reducible refine (Close_any _ _ _ D0 _ _ _ [2] _ hD4 hR2 rfl).mono ?_); clear hD4 hR2; rintro e w5 ⟨⟨A5, c5, rfl, _⟩, hB⟩; rw [d0_close]; have HB5 := Lib.hid (below_then HB4.out (below_then (below_al _ _) hB)); clear hB))
  go_ret
  exact ⟨rfl, below_then HB0.out HB5.out⟩
end Go.Proofs.Ytpicagcapgjiaaa
