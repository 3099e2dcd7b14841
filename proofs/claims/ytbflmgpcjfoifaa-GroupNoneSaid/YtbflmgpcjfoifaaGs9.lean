/- Walk of the statement GroupNone: nil groups. -/
import Derived.Test.YtbflmgpcjfoifaaGr2
import Derived.Test.YtbflmgpcjfoifaaGq11
set_option linter.unusedSimpArgs false
set_option linter.unusedVariables false
namespace Go.Proofs.Ytbflmgpcjfoifaa
open Go.RowKit Go.Sel Go.Sel.Gp Go.Shelf Go.Maps Go.Sort

attribute [local go_sem] Oper.semAt_some

theorem nFind (n : Int) (w : World) : Calls Try.prog 36 #[.pointer none, .int .i64 n] w fun e w' => e = .returned (.tuple #[.pointer none, .int .i64 1]) ∧ w' = w := by
  go_enter Try.func36, Try.ntmps36
  go_wp2
  go_ret2
  exact ⟨rfl, rfl⟩
theorem nMake (w : World) : Calls Try.prog 21 #[.pointer none] w fun e w' => e = .returned (.tuple #[.int .i64 0, .int .i64 1]) ∧ w' = w := by
  go_enter Try.func21, Try.ntmps21
  go_wp2
  go_ret2
  exact ⟨rfl, rfl⟩
theorem nDepend (n m : Int) (w : World) : Calls Try.prog 29 #[.pointer none, .int .i64 n, .int .i64 m] w fun e w' => e = .returned (.int .i64 1) ∧ Below w.heap.size w w' := by
  go_enter Try.func29, Try.ntmps29
  go_wp2_with (go_at_call 36; (with_reducible refine (nFind _ _).mono ?_); rintro e w2 ⟨rfl, hw⟩; subst w2)
  go_ret
  exact ⟨rfl, Below.refl _ _⟩
theorem nTurn (n x : Int) (A : Option Addr) (k c : Nat) (w : World) : Calls Try.prog 44 #[.pointer none, .int .i64 n, .int .u8 x, .slice A k c] w fun e w' => e = .returned (.int .i64 1) ∧ w' = w := by
  go_enter Try.func44, Try.ntmps44
  go_wp2_with (go_at_call 36; (with_reducible refine (nFind _ _).mono ?_); rintro e w2 ⟨rfl, hw⟩; subst w2)
  go_ret
  exact ⟨rfl, rfl⟩
theorem nEngage (n : Int) (w : World) : Calls Try.prog 19 #[.pointer none, .int .i64 n] w fun e w' => e = .returned (.int .i64 1) ∧ Below w.heap.size w w' := by
  have HB : Hid (∀ o, Below w.heap.size w (w.alloc o)) := fun o => below_al _ _
  go_enter Try.func19, Try.ntmps19
  go_wp2_with (go_at_call 44; (with_reducible refine (nTurn _ _ _ _ _ _).mono ?_); rintro e w2 ⟨rfl, hw⟩; subst w2)
  go_ret
  exact ⟨rfl, HB.out _⟩
theorem nDisengage (n : Int) (w : World) : Calls Try.prog 30 #[.pointer none, .int .i64 n] w fun e w' => e = .returned (.int .i64 1) ∧ Below w.heap.size w w' := by
  have HB : Hid (∀ o, Below w.heap.size w (w.alloc o)) := fun o => below_al _ _
  go_enter Try.func30, Try.ntmps30
  go_wp2_with (go_at_call 44; (with_reducible refine (nTurn _ _ _ _ _ _).mono ?_); rintro e w2 ⟨rfl, hw⟩; subst w2)
  go_ret
  exact ⟨rfl, HB.out _⟩
theorem nRelease (n : Int) (w : World) : Calls Try.prog 20 #[.pointer none, .int .i64 n] w fun e w' => e = .returned (.int .i64 1) ∧ Below w.heap.size w w' := by
  have HB : Hid (∀ o, Below w.heap.size w (w.alloc o)) := fun o => below_al _ _
  go_enter Try.func20, Try.ntmps20
  go_wp2_with (go_at_call 44; (with_reducible refine (nTurn _ _ _ _ _ _).mono ?_); rintro e w2 ⟨rfl, hw⟩; subst w2)
  go_ret
  exact ⟨rfl, HB.out _⟩
theorem nAbandon (n : Int) (w : World) : Calls Try.prog 22 #[.pointer none, .int .i64 n] w fun e w' => e = .returned (.int .i64 1) ∧ Below w.heap.size w w' := by
  go_enter Try.func22, Try.ntmps22
  go_wp2_with (go_at_call 36; (with_reducible refine (nFind _ _).mono ?_); rintro e w2 ⟨rfl, hw⟩; subst w2)
  go_ret
  exact ⟨rfl, Below.refl _ _⟩
theorem nTook (n : Int) (w : World) : Calls Try.prog 27 #[.pointer none, .int .i64 n] w fun e w' => e = .returned (.int .i64 1) ∧ Below w.heap.size w w' := by
  have HB : Hid (∀ o, Below w.heap.size w (w.alloc o)) := fun o => below_al _ _
  go_enter Try.func27, Try.ntmps27
  go_wp2
  go_ret
  exact ⟨rfl, HB.out _⟩
theorem nPatches (n : Int) (w : World) : Calls Try.prog 16 #[.pointer none, .int .i64 n] w fun e w' => e = .returned (.slice none 0 0) ∧ Below w.heap.size w w' := by
  go_enter Try.func16, Try.ntmps16
  go_wp2_with (go_at_call 36; (with_reducible refine (nFind _ _).mono ?_); rintro e w2 ⟨rfl, hw⟩; subst w2)
  go_ret
  exact ⟨rfl, Below.refl _ _⟩
theorem nState (n : Int) (w : World) : Calls Try.prog 15 #[.pointer none, .int .i64 n] w fun e w' => e = .returned (.int .u8 0) ∧ Below w.heap.size w w' := by
  go_enter Try.func15, Try.ntmps15
  go_wp2_with (go_at_call 36; (with_reducible refine (nFind _ _).mono ?_); rintro e w2 ⟨rfl, hw⟩; subst w2)
  go_ret
  exact ⟨rfl, Below.refl _ _⟩
theorem nFork (w : World) : Calls Try.prog 26 #[.pointer none] w fun e w' => e = .returned (.pointer none) ∧ Below w.heap.size w w' := by
  go_enter Try.func26, Try.ntmps26
  go_wp2
  go_ret
  exact ⟨rfl, Below.refl _ _⟩
theorem nEngaged1 (w : World) : Calls Try.prog 50 #[.pointer none] w fun e w' => e = .returned (.func (.func 62) #[] #[.pointer (some ⟨w.heap.size, 0, none⟩)]) ∧ w' = w.alloc (.cells #[.pointer none] 23) := by
  go_enter Try.func50, Try.ntmps50
  go_wp2
  go_ret
  exact ⟨rfl, rfl⟩
theorem nAbove1 (n : Int) (w : World) : Calls Try.prog 33 #[.pointer none, .int .i64 n] w fun e w' => e = .returned (.func (.func 53) #[] #[.pointer (some ⟨w.heap.size, 0, none⟩), .pointer (some ⟨w.heap.size + 1, 0, none⟩)]) ∧ w' = (w.alloc (.cells #[.pointer none] 23)).alloc (.cells #[.int .i64 n] 3) := by
  go_enter Try.func33, Try.ntmps33
  go_wp2
  go_ret
  exact ⟨rfl, rfl⟩
def noEnc (x : Empty) : Array Value := x.elim
theorem nEng_O (b1 : Nat) (w : World) (h1 : w.cell? ⟨b1, 0, none⟩ = some (.pointer none)) : SeqO Fence.wide 8 Try.prog 62 #[.pointer (some ⟨b1, 0, none⟩)] noEnc (fun _ _ => True) (fun ys => ys = []) w := by
  intro l J Jx W hW hJ hJx hY h0
  have c1 := keep_cell h1 hW
  have HJ := Lib.hid h0
  clear hY hJ hJx h0
  change CallsIn _ _ _ _ #[.func (.yield l) #[] #[], .pointer (some ⟨b1, 0, none⟩)] _ _
  refine callsIn_of_wp Try.func62 rfl trivial ?_ rfl
  simp only [Try.ntmps62, List.size_toArray, List.length_cons, List.length_nil, Nat.reduceAdd, Nat.reduceSub, Array.replicate_succ, Array.replicate_zero, List.push_toArray, List.append_toArray, List.nil_append, List.cons_append]
  gi_wp2
  refine bodyPost_ret (results_none rfl _ _ _) rfl ?_
  exact ⟨⟨_, rfl⟩, Nat.le_refl _, .inl ⟨[], rfl, HJ.out⟩⟩
theorem nAbove_O (b1 b2 : Nat) (n : Int) (w : World) (h1 : w.cell? ⟨b1, 0, none⟩ = some (.pointer none)) (h2 : w.cell? ⟨b2, 0, none⟩ = some (.int .i64 n)) : SeqO Fence.wide 8 Try.prog 53 #[.pointer (some ⟨b1, 0, none⟩), .pointer (some ⟨b2, 0, none⟩)] noEnc (fun _ _ => True) (fun ys => ys = []) w := by
  intro l J Jx W hW hJ hJx hY h0
  have c1 := keep_cell (keep_cell h1 hW) (below_al W (.cells #[.func (.yield l) #[] #[]] 77))
  have c2 := keep_cell (keep_cell h2 hW) (below_al W (.cells #[.func (.yield l) #[] #[]] 77))
  have HJ : Hid (J [] (W.alloc (.cells #[.func (.yield l) #[] #[]] 77))) := hJ.alloc _ h0
  have hf1 : Fence.wide.fn 36 := trivial
  clear hY hJ hJx h0
  change CallsIn _ _ _ _ #[.func (.yield l) #[] #[], .pointer (some ⟨b1, 0, none⟩), .pointer (some ⟨b2, 0, none⟩)] _ _
  refine callsIn_of_wp_marks Try.func53 rfl trivial ?_ rfl
  simp only [Try.ntmps53, List.size_toArray, List.length_cons, List.length_nil, Nat.reduceAdd, Nat.reduceSub, Array.replicate_succ, Array.replicate_zero, List.push_toArray, List.append_toArray, List.nil_append, List.cons_append]
  gi_wp2_with (gi_at_call 36; (with_reducible refine (callsIn_wide.2 (nFind _ _)).mono ?_); rintro e w2 ⟨rfl, hw⟩; subst w2)
  exact ⟨_, results_none rfl _ _ _, ⟨_, rfl⟩, by simp, .inl ⟨[], rfl, HJ.out⟩⟩

set_option maxRecDepth 100000 in
set_option maxHeartbeats 4000000 in
theorem nEngaged (w : World) : Calls Try.prog 25 #[.pointer none] w fun e w' => e = .returned (.slice none 0 0) ∧ Below w.heap.size w w' := by
  refine (callsIn_wide (n := 9)).1 ?_
  refine callsIn_of_wp_marks Try.func25 rfl trivial ?_ rfl
  simp only [Try.ntmps25, List.size_toArray, List.length_cons, List.length_nil, Nat.reduceAdd, Nat.reduceSub, Array.replicate_succ, Array.replicate_zero, List.push_toArray, List.append_toArray, List.nil_append, List.cons_append]
  refine wpIn_wide.2 ?_
  go_wp2_with (go_at_call 50; (with_reducible refine (nEngaged1 _).mono ?_); rintro e w2 ⟨rfl, hw⟩; subst w2)
  obtain ⟨HB, h0, h1, hsz⟩ : Hid (Below w.heap.size w ((w.alloc (.cells #[.slice none 0 0] 28)).alloc (.cells #[.pointer none] 23))) ∧ ((w.alloc (.cells #[.slice none 0 0] 28)).alloc (.cells #[.pointer none] 23)).cell? ⟨w.heap.size, 0, none⟩ = some (.slice none 0 0) ∧ ((w.alloc (.cells #[.slice none 0 0] 28)).alloc (.cells #[.pointer none] 23)).cell? ⟨w.heap.size + 1, 0, none⟩ = some (.pointer none) ∧ ((w.alloc (.cells #[.slice none 0 0] 28)).alloc (.cells #[.pointer none] 23)).heap.size = w.heap.size + 2 := by
    refine ⟨below_then (below_al _ _) (below_al _ _), keep_cell (new_cell w _ _ 0 _ rfl) (below_al _ _), ?_, by simp⟩
    have := new_cell (w.alloc (.cells #[.slice none 0 0] 28)) #[.pointer none] 23 0 _ rfl
    rw [World.size_alloc] at this
    exact this
  generalize ((w.alloc (.cells #[.slice none 0 0] 28)).alloc (.cells #[.pointer none] 23)) = w4 at *
  refine wpIn_wide.1 (wpIn_rangeFunc_O (α := Empty) (encs := noEnc) (Kp := fun _ _ => True) (F := Fence.wide) (n := 9) rfl (by omega) (gf := 62) (lb := #[.pointer (some ⟨w.heap.size + 1, 0, none⟩)]) rfl trivial (enters_of Try.func62 (by kernel_rfl) rfl)
    (SeqO.wide (nEng_O _ _ h1)) (fun _ _ => trivial) (fun _ _ _ _ _ _ _ _ => trivial) (Below.refl _ _) (fun x => x.elim)
    (fun _ V => V.cell? ⟨w.heap.size, 0, none⟩ = some (.slice none 0 0) ∧ Below w.heap.size w V)
    (fun _ _ _ => False)
    (OwnFrom.and (fun s X Y row hx hg hr => cell_kept hx hg (fun r e => (hr r e).2)) (ownFrom_below (Nat.le_refl _) (by omega)))
    (fun _ _ _ _ _ hs _ _ => hs)
    ⟨h0, HB.out⟩
    (fun x => x.elim) (fun _ x => x.elim) (fun _ _ x => x.elim) ?done (fun _ _ _ _ _ h => h.elim))
  rintro D ys V hD hys ⟨hc, hB⟩ hK
  have HBV := Lib.hid hB
  clear hB
  go_wp2
  try rw [Exit.noGoto_ret]
  refine ⟨by simp, .inl ⟨_, _, rfl, run_takeDeferred hK, ?_⟩⟩
  exact ⟨_, results_tmp rfl _ _ _, rfl, HBV.out.trans (belowK_b (w := w4) (by omega) V D _ _ hD hK rfl rfl)⟩

set_option maxRecDepth 100000 in
set_option maxHeartbeats 4000000 in
theorem nAhead (n : Int) (w : World) : Calls Try.prog 14 #[.pointer none, .int .i64 n] w fun e w' => (∃ A c, e = .returned (.slice A 0 c) ∧ c ≤ 9223372036854775807) ∧ Below w.heap.size w w' := by
  have hmm := @run_makeMap Try.prog
  refine (callsIn_wide (n := 9)).1 ?_
  refine callsIn_of_wp_marks Try.func14 rfl trivial ?_ rfl
  simp only [Try.ntmps14, List.size_toArray, List.length_cons, List.length_nil, Nat.reduceAdd, Nat.reduceSub, Array.replicate_succ, Array.replicate_zero, List.push_toArray, List.append_toArray, List.nil_append, List.cons_append]
  refine wpIn_wide.2 ?_
  go_wp2_with (go_at_call 33; (with_reducible refine (nAbove1 n _).mono ?_); rintro e w2 ⟨rfl, hw⟩; subst w2)
  obtain ⟨HB4, HIM4, hc1, hc2, hc3, hs4⟩ : Hid (Below w.heap.size w ((((w.alloc (.map #[] 0)).alloc (.cells #[.map (some w.heap.size)] 52)).alloc (.cells #[.pointer none] 23)).alloc (.cells #[.int .i64 n] 3))) ∧ Hid (IMap ((((w.alloc (.map #[] 0)).alloc (.cells #[.map (some w.heap.size)] 52)).alloc (.cells #[.pointer none] 23)).alloc (.cells #[.int .i64 n] 3)) w.heap.size []) ∧ ((((w.alloc (.map #[] 0)).alloc (.cells #[.map (some w.heap.size)] 52)).alloc (.cells #[.pointer none] 23)).alloc (.cells #[.int .i64 n] 3)).cell? ⟨w.heap.size + 1, 0, none⟩ = some (.map (some w.heap.size)) ∧ ((((w.alloc (.map #[] 0)).alloc (.cells #[.map (some w.heap.size)] 52)).alloc (.cells #[.pointer none] 23)).alloc (.cells #[.int .i64 n] 3)).cell? ⟨w.heap.size + 1 + 1, 0, none⟩ = some (.pointer none) ∧ ((((w.alloc (.map #[] 0)).alloc (.cells #[.map (some w.heap.size)] 52)).alloc (.cells #[.pointer none] 23)).alloc (.cells #[.int .i64 n] 3)).cell? ⟨w.heap.size + 1 + 1 + 1, 0, none⟩ = some (.int .i64 n) ∧ ((((w.alloc (.map #[] 0)).alloc (.cells #[.map (some w.heap.size)] 52)).alloc (.cells #[.pointer none] 23)).alloc (.cells #[.int .i64 n] 3)).heap.size = w.heap.size + 4 := by
    refine ⟨below_then (below_then (below_then (below_al _ _) (below_al _ _)) (below_al _ _)) (below_al _ _), (IMap.new w (t := 0) (kt := 0) (e := 0)).below (below_then (below_then (below_al _ _) (below_al _ _)) (below_al _ _)) (by simp), ?_, ?_, ?_, by simp⟩
    · have := new_cell (w.alloc (.map #[] 0)) #[.map (some w.heap.size)] 52 0 _ rfl
      rw [World.size_alloc] at this
      exact keep_cell (keep_cell this (below_al _ _)) (below_al _ _)
    · have := new_cell ((w.alloc (.map #[] 0)).alloc (.cells #[.map (some w.heap.size)] 52)) #[.pointer none] 23 0 _ rfl
      rw [World.size_alloc, World.size_alloc] at this
      exact keep_cell this (below_al _ _)
    · have := new_cell (((w.alloc (.map #[] 0)).alloc (.cells #[.map (some w.heap.size)] 52)).alloc (.cells #[.pointer none] 23)) #[.int .i64 n] 3 0 _ rfl
      rw [World.size_alloc, World.size_alloc, World.size_alloc] at this
      exact this
  clear hmm
  generalize ((((w.alloc (.map #[] 0)).alloc (.cells #[.map (some w.heap.size)] 52)).alloc (.cells #[.pointer none] 23)).alloc (.cells #[.int .i64 n] 3)) = w4 at *
  refine wpIn_wide.1 (wpIn_rangeFunc_O (α := Empty) (encs := noEnc) (Kp := fun _ _ => True) (F := Fence.wide) (n := 9) rfl (by omega) (gf := 53) (lb := #[.pointer (some ⟨w.heap.size + 1 + 1, 0, none⟩), .pointer (some ⟨w.heap.size + 1 + 1 + 1, 0, none⟩)]) rfl trivial (enters_of Try.func53 (by kernel_rfl) rfl)
    (SeqO.wide (nAbove_O _ _ n _ hc2 hc3)) (fun _ _ => trivial) (fun _ _ _ _ _ _ _ _ => trivial) (Below.refl _ _) (fun x => x.elim)
    (fun _ V => (IMap V w.heap.size (seenL []) ∧ V.cell? ⟨w.heap.size + 1, 0, none⟩ = some (.map (some w.heap.size))) ∧ Below w.heap.size w V)
    (fun _ _ _ => False)
    (OwnFrom.and (fun s X Y row hx hg hr => by
      obtain ⟨h1, h3⟩ := hx
      have key : ∀ k, k < w.heap.size + 4 → k < X.heap.size → Y.heap[k]? = X.heap[k]? := fun k hk hlt => hg.block k hlt (fun e => by have := (hr k e.symm).1; omega)
      exact ⟨imap_bl h1 (key _ (by omega) h1.lt), cell_kept h3 hg (fun r e => (hr r e).2)⟩) (ownFrom_below (Nat.le_refl _) (by omega)))
    (fun _ _ _ _ _ hs _ _ => hs)
    ⟨⟨HIM4.out, hc1⟩, HB4.out⟩
    (fun x => x.elim) (fun _ x => x.elim) (fun _ _ x => x.elim) ?done (fun _ _ _ _ _ h => h.elim))
  rintro D ys V hD hys ⟨⟨him, hc⟩, hB⟩ hK
  have HS := Lib.hid (sortedA_any V w.heap.size (seenL []) [] him (fun p hp => by simp [seenL] at hp) List.Pairwise.nil (fun x => by simp [seenL]) (by simp [seenL]))
  have HBV := Lib.hid hB
  have HKV := Lib.hid hK
  clear him hB hK hys
  go_wp2_with (first
    | (go_at_call 35; (with_reducible refine (keysA_any _ _).mono ?_); rintro e w2 ⟨rfl, hw⟩; subst w2)
    | (go_at_call 34; (with_reducible refine HS.out.mono ?_); rintro e w3 ⟨⟨v, rfl, hsl⟩, hB⟩; have HSL := Lib.hid hsl; have HB := Lib.hid hB; clear hsl hB))
  try rw [Exit.noGoto_ret]
  have hDl := (Array.getElem?_eq_some_iff.1 HKV.out).1
  have hK3 := (HB.out.block D hDl).trans HKV.out
  refine ⟨by simp, .inl ⟨_, _, rfl, run_takeDeferred hK3, ?_⟩⟩
  obtain ⟨A9, c9, rfl, hr9⟩ := HSL.out
  exact ⟨_, results_tmp rfl _ _ _, ⟨_, _, rfl, hr9.cap⟩, (HBV.out.trans (HB.out.mono HBV.out.size)).trans (belowK_b (w := w4) (by omega) _ D _ _ hD hK3 rfl rfl)⟩

set_option maxRecDepth 100000 in
set_option maxHeartbeats 4000000 in
theorem nBehind (w : World) : Calls Try.prog 24 #[.pointer none] w fun e w' => (∃ A c, e = .returned (.slice A 0 c) ∧ c ≤ 9223372036854775807) ∧ Below w.heap.size w w' := by
  have hmm := @run_makeMap Try.prog
  refine (callsIn_wide (n := 9)).1 ?_
  refine callsIn_of_wp_marks Try.func24 rfl trivial ?_ rfl
  simp only [Try.ntmps24, List.size_toArray, List.length_cons, List.length_nil, Nat.reduceAdd, Nat.reduceSub, Array.replicate_succ, Array.replicate_zero, List.push_toArray, List.append_toArray, List.nil_append, List.cons_append]
  refine wpIn_wide.2 ?_
  go_wp2_with (go_at_call 50; (with_reducible refine (nEngaged1 _).mono ?_); rintro e w2 ⟨rfl, hw⟩; subst w2)
  obtain ⟨HB4, HIM4, hc1, hc2, hs4⟩ : Hid (Below w.heap.size w ((((w.alloc (.cells #[.pointer none] 23)).alloc (.map #[] 0)).alloc (.cells #[.map (some (w.heap.size + 1))] 52)).alloc (.cells #[.pointer none] 23))) ∧ Hid (IMap ((((w.alloc (.cells #[.pointer none] 23)).alloc (.map #[] 0)).alloc (.cells #[.map (some (w.heap.size + 1))] 52)).alloc (.cells #[.pointer none] 23)) (w.heap.size + 1) []) ∧ ((((w.alloc (.cells #[.pointer none] 23)).alloc (.map #[] 0)).alloc (.cells #[.map (some (w.heap.size + 1))] 52)).alloc (.cells #[.pointer none] 23)).cell? ⟨w.heap.size + 1 + 1, 0, none⟩ = some (.map (some (w.heap.size + 1))) ∧ ((((w.alloc (.cells #[.pointer none] 23)).alloc (.map #[] 0)).alloc (.cells #[.map (some (w.heap.size + 1))] 52)).alloc (.cells #[.pointer none] 23)).cell? ⟨w.heap.size + 1 + 1 + 1, 0, none⟩ = some (.pointer none) ∧ ((((w.alloc (.cells #[.pointer none] 23)).alloc (.map #[] 0)).alloc (.cells #[.map (some (w.heap.size + 1))] 52)).alloc (.cells #[.pointer none] 23)).heap.size = w.heap.size + 4 := by
    refine ⟨below_then (below_then (below_then (below_al _ _) (below_al _ _)) (below_al _ _)) (below_al _ _), ?_, ?_, ?_, by simp⟩
    · have := (IMap.new (w.alloc (.cells #[.pointer none] 23)) (t := 0) (kt := 0) (e := 0))
      rw [World.size_alloc] at this
      exact (this.below (below_al _ _) (by simp)).below (below_al _ _) (by simp)
    · have := new_cell ((w.alloc (.cells #[.pointer none] 23)).alloc (.map #[] 0)) #[.map (some (w.heap.size + 1))] 52 0 _ rfl
      rw [World.size_alloc, World.size_alloc] at this
      exact keep_cell this (below_al _ _)
    · have := new_cell (((w.alloc (.cells #[.pointer none] 23)).alloc (.map #[] 0)).alloc (.cells #[.map (some (w.heap.size + 1))] 52)) #[.pointer none] 23 0 _ rfl
      rw [World.size_alloc, World.size_alloc, World.size_alloc] at this
      exact this
  clear hmm
  generalize ((((w.alloc (.cells #[.pointer none] 23)).alloc (.map #[] 0)).alloc (.cells #[.map (some (w.heap.size + 1))] 52)).alloc (.cells #[.pointer none] 23)) = w4 at *
  refine wpIn_wide.1 (wpIn_rangeFunc_O (α := Empty) (encs := noEnc) (Kp := fun _ _ => True) (F := Fence.wide) (n := 9) rfl (by omega) (gf := 62) (lb := #[.pointer (some ⟨w.heap.size + 1 + 1 + 1, 0, none⟩)]) rfl trivial (enters_of Try.func62 (by kernel_rfl) rfl)
    (SeqO.wide (nEng_O _ _ hc2)) (fun _ _ => trivial) (fun _ _ _ _ _ _ _ _ => trivial) (Below.refl _ _) (fun x => x.elim)
    (fun _ V => (IMap V (w.heap.size + 1) (seenL []) ∧ V.cell? ⟨w.heap.size + 1 + 1, 0, none⟩ = some (.map (some (w.heap.size + 1)))) ∧ Below w.heap.size w V)
    (fun _ _ _ => False)
    (OwnFrom.and (fun s X Y row hx hg hr => by
      obtain ⟨h1, h3⟩ := hx
      have key : ∀ k, k < w.heap.size + 4 → k < X.heap.size → Y.heap[k]? = X.heap[k]? := fun k hk hlt => hg.block k hlt (fun e => by have := (hr k e.symm).1; omega)
      exact ⟨imap_bl h1 (key _ (by omega) h1.lt), cell_kept h3 hg (fun r e => (hr r e).2)⟩) (ownFrom_below (Nat.le_refl _) (by omega)))
    (fun _ _ _ _ _ hs _ _ => hs)
    ⟨⟨HIM4.out, hc1⟩, HB4.out⟩
    (fun x => x.elim) (fun _ x => x.elim) (fun _ _ x => x.elim) ?done (fun _ _ _ _ _ h => h.elim))
  rintro D ys V hD hys ⟨⟨him, hc⟩, hB⟩ hK
  have HS := Lib.hid (sortedA_any V (w.heap.size + 1) (seenL []) [] him (fun p hp => by simp [seenL] at hp) List.Pairwise.nil (fun x => by simp [seenL]) (by simp [seenL]))
  have HBV := Lib.hid hB
  have HKV := Lib.hid hK
  clear him hB hK hys
  go_wp2_with (first
    | (go_at_call 35; (with_reducible refine (keysA_any _ _).mono ?_); rintro e w2 ⟨rfl, hw⟩; subst w2)
    | (go_at_call 34; (with_reducible refine HS.out.mono ?_); rintro e w3 ⟨⟨v, rfl, hsl⟩, hB⟩; have HSL := Lib.hid hsl; have HB := Lib.hid hB; clear hsl hB))
  try rw [Exit.noGoto_ret]
  have hDl := (Array.getElem?_eq_some_iff.1 HKV.out).1
  have hK3 := (HB.out.block D hDl).trans HKV.out
  refine ⟨by simp, .inl ⟨_, _, rfl, run_takeDeferred hK3, ?_⟩⟩
  obtain ⟨A9, c9, rfl, hr9⟩ := HSL.out
  exact ⟨_, results_tmp rfl _ _ _, ⟨_, _, rfl, hr9.cap⟩, (HBV.out.trans (HB.out.mono HBV.out.size)).trans (belowK_b (w := w4) (by omega) _ D _ _ hD hK3 rfl rfl)⟩

set_option maxRecDepth 100000 in
set_option maxHeartbeats 8000000 in
theorem law_GroupNone (x0 x1 x2 : Int) (w : World) : Calls Try.prog 11 #[.agg #[.int .i64 x0, .int .i64 x1, .int .i64 x2]] w fun e w' => e = .returned (.bool true) ∧ Below w.heap.size w w' := by
  have HB0 : Hid (Below w.heap.size w (w.alloc (.cells #[.int .i64 x0, .int .i64 x1, .int .i64 x2] 36))) := below_al _ _
  have k1 : (w.alloc (.cells #[.int .i64 x0, .int .i64 x1, .int .i64 x2] 36)).cell? ⟨w.heap.size, 1, none⟩ = some (.int .i64 x1) := new_cell w _ _ 1 _ rfl
  have k2 : (w.alloc (.cells #[.int .i64 x0, .int .i64 x1, .int .i64 x2] 36)).cell? ⟨w.heap.size, 2, none⟩ = some (.int .i64 x2) := new_cell w _ _ 2 _ rfl
  go_enter Try.func11, Try.ntmps11
  go_upto_region 3 with (go_at_call 21; (with_reducible refine (nMake _).mono ?_); rintro e w2 ⟨rfl, hw⟩; subst w2)
  generalize (w.alloc (.cells #[.int .i64 x0, .int .i64 x1, .int .i64 x2] 36)) = w1 at *
  go_wp2_with (first
    | (go_at_call 13; (with_reducible refine (live_any _).mono ?_); rintro e w2 ⟨rfl, hB⟩; have k1 := keep_cell k1 hB; have k2 := keep_cell k2 hB; have HB1 := Lib.hid (below_j HB0.out hB); clear hB)
    | (go_at_call 29; (with_reducible refine (nDepend _ _ _).mono ?_); rintro e wx0 ⟨rfl, hB⟩; have k1 := keep_cell k1 hB; have k2 := keep_cell k2 hB; have HC0 := Lib.hid (below_j HB1.out hB); clear hB)
    | (go_at_call 19; (with_reducible refine (nEngage _ _).mono ?_); rintro e wx1 ⟨rfl, hB⟩; have k1 := keep_cell k1 hB; have k2 := keep_cell k2 hB; have HC1 := Lib.hid (below_j HC0.out hB); clear hB)
    | (go_at_call 30; (with_reducible refine (nDisengage _ _).mono ?_); rintro e wx2 ⟨rfl, hB⟩; have k1 := keep_cell k1 hB; have k2 := keep_cell k2 hB; have HC2 := Lib.hid (below_j HC1.out hB); clear hB)
    | (go_at_call 20; (with_reducible refine (nRelease _ _).mono ?_); rintro e wx3 ⟨rfl, hB⟩; have k1 := keep_cell k1 hB; have k2 := keep_cell k2 hB; have HC3 := Lib.hid (below_j HC2.out hB); clear hB)
    | (go_at_call 22; (with_reducible refine (nAbandon _ _).mono ?_); rintro e wx4 ⟨rfl, hB⟩; have k1 := keep_cell k1 hB; have k2 := keep_cell k2 hB; have HC4 := Lib.hid (below_j HC3.out hB); clear hB)
    | (go_at_call 27; (with_reducible refine (nTook _ _).mono ?_); rintro e wx5 ⟨rfl, hB⟩; have k1 := keep_cell k1 hB; have k2 := keep_cell k2 hB; have HC5 := Lib.hid (below_j HC4.out hB); clear hB)
    | (go_at_call 24; (with_reducible refine (nBehind _).mono ?_); rintro e wx6 ⟨⟨A6, c6, rfl, hc6⟩, hB⟩; have k1 := keep_cell k1 hB; have k2 := keep_cell k2 hB; have HC6 := Lib.hid (below_j HC5.out hB); clear hB)
    | (go_at_call 16; (with_reducible refine (nPatches _ _).mono ?_); rintro e wx7 ⟨rfl, hB⟩; have k1 := keep_cell k1 hB; have k2 := keep_cell k2 hB; have HC7 := Lib.hid (below_j HC6.out hB); clear hB)
    | (go_at_call 15; (with_reducible refine (nState _ _).mono ?_); rintro e wx8 ⟨rfl, hB⟩; have k1 := keep_cell k1 hB; have k2 := keep_cell k2 hB; have HC8 := Lib.hid (below_j HC7.out hB); clear hB)
    | (go_at_call 14; (with_reducible refine (nAhead _ _).mono ?_); rintro e wx9 ⟨⟨A9, c9, rfl, hc9⟩, hB⟩; have k1 := keep_cell k1 hB; have k2 := keep_cell k2 hB; have HC9 := Lib.hid (below_j HC8.out hB); clear hB)
    | (go_at_call 25; (with_reducible refine (nEngaged _).mono ?_); rintro e wx10 ⟨rfl, hB⟩; have k1 := keep_cell k1 hB; have k2 := keep_cell k2 hB; have HC10 := Lib.hid (below_j HC9.out hB); clear hB)
    | (go_at_call 26; (with_reducible refine (nFork _).mono ?_); rintro e wx11 ⟨rfl, hB⟩; have k1 := keep_cell k1 hB; have k2 := keep_cell k2 hB; have HC11 := Lib.hid (below_j HC10.out hB); clear hB))
  go_ret
  exact ⟨rfl, HC11.out⟩
end Go.Proofs.Ytbflmgpcjfoifaa
