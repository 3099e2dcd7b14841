/- Walks of big: must, attempt, Way, and its reference. -/
import Derived.Test.YtcgfoaihfncppaaProg
import Derived.Test.YtcgfoaihfncppaaBgP
import Derived.Test.YtcgfoaihfncppaaMb1
import Derived.Test.YtcgfoaihfncppaaMap1
import Derived.Shelf.Abstract
import Derived.Deep.LoopGhost
import Derived.Defers
import Derived.Recover
set_option linter.unusedSimpArgs false
set_option linter.unusedVariables false
namespace Go.Proofs.Ytcgfoaihfncppaa
open Go.RowKit Go.Sel Go.Sel.Gra Go.Sel.Bg Go.Shelf

theorem must_ok (why : Int) (w : World) : Calls Try.prog 37 #[.bool true, .int .i64 why] w fun e w' => e = .returned (.tuple #[]) ∧ w' = w := by
  go_enter Try.func37, Try.ntmps37
  go_wp2
  go_end0
  exact ⟨rfl, rfl⟩
/-- The chain of a panic with 'refused'. -/
def gives (why : Int) : List PanicEntry := [{ v := .iface 99 (.agg #[.int .i64 why]), recovered := false }]
theorem must_no (why : Int) (w : World) : Calls Try.prog 37 #[.bool false, .int .i64 why] w fun e w' => e = .panicked (gives why) ∧ w' = w := by
  go_enter Try.func37, Try.ntmps37
  go_wp2
  simp [bodyPost, gives]

theorem catch_idle (p : Addr) (w : World) :
    CallsD Try.prog 53 #[.pointer (some p)] .returning w fun e u' w' => e = .returned (.tuple #[]) ∧ u' = .returning ∧ w' = w := by
  refine callsD_of_wpS Try.func53 rfl fun c₀ cs hu => ?_
  apply wpS_seq
  apply wpS_region
  simp [wpOpsS, go_sem, recoverD, hu, Try.ntmps53, Exit.thenS]
  refine wpS_of_wp ?_
  go_wp2
  cases c₀
  simp_all [bodyPostS, results, Try.results52]
theorem catch_gives (b : Nat) (x why : Int) (w : World) (T : TypeId) (hc : w.heap[b]? = some (.cells #[.int .i64 x] T (0, 0))) :
    CallsD Try.prog 53 #[.pointer (some ⟨b, 0, none⟩)] (.panicking (gives why)) w fun e u' w' =>
      e = .returned (.tuple #[]) ∧ u' = .panicking [{ v := .iface 99 (.agg #[.int .i64 why]), recovered := true }] ∧ Fr (· = b) w w' ∧ w'.heap[b]? = some (.cells #[.int .i64 why] T (0, 0)) := by
  have hta : ∀ W, (Instr.typeAssert (.iface 99 (.agg #[.int .i64 why])) 20 99 true).run Try.prog W = .ok (.tuple #[.agg #[.int .i64 why], .bool true]) W := fun _ => by kernel_rfl
  have hlt : b < w.heap.size := (Array.getElem?_eq_some_iff.1 hc).1
  have hn : ∀ o : Obj, (w.alloc o).heap[b]? = some (.cells #[.int .i64 x] T (0, 0)) := fun o => blk_below hc (below_al w o) hlt
  have hc1 : ∀ o : Obj, (w.alloc o).cell? ⟨b, 0, none⟩ = some (.int .i64 x) := fun o => by rw [blk_cell (hn o)]; rfl
  have hz1 : ∀ o : Obj, (w.alloc o).frozen? ⟨b, 0, none⟩ = false := fun o => blk_free (hn o) 0
  have HF : Hid (∀ o : Obj, Fr (· = b) w ((w.setCell ⟨b, 0, none⟩ (.int .i64 why)).alloc o) ∧ ((w.setCell ⟨b, 0, none⟩ (.int .i64 why)).alloc o).heap[b]? = some (.cells #[.int .i64 why] T (0, 0))) :=
    Lib.hid fun o => ⟨(Fr.setCell (S := (· = b)) (Fr.refl _ w) (p := ⟨b, 0, none⟩) (.inl rfl) _).alloc o, blk_below (blk_set hc 0 _) (below_al _ _) (by simpa using hlt)⟩
  clear hc hn
  refine callsD_of_wpS Try.func53 rfl fun c₀ cs hu => ?_
  apply wpS_seq
  apply wpS_region
  simp [wpOpsS, go_sem, recoverD, hu, Try.ntmps53, Exit.thenS, gives]
  refine wpS_of_wp ?_
  simp only [Array.replicate_succ, Array.replicate_zero, List.push_toArray, List.append_toArray, List.nil_append, List.cons_append, List.setIfInBounds_toArray, List.set_cons_zero, List.set_cons_succ]
  go_wp2
  exact ⟨rfl, _, rfl, _, results_none rfl _ _ _, rfl, rfl, (HF.out _).1, (HF.out _).2⟩

theorem setCell_same {w : World} {b : Nat} {v : Value} {T : TypeId} (h : w.heap[b]? = some (.cells #[v] T (0, 0))) : w.setCell ⟨b, 0, none⟩ v = w := by
  obtain ⟨hb, hg⟩ := Array.getElem?_eq_some_iff.1 h
  have e : (w.setCell ⟨b, 0, none⟩ v).heap = w.heap := by
    refine Array.ext_getElem? fun i => ?_
    by_cases hi : i = b
    · subst hi
      rw [blk_set h 0 v, h]
      rfl
    · exact Below.heap_setCell _ _ _ _ hi
  cases w
  simp_all [World.setCell]
/-- A function value does what it does, and returns. -/
theorem attempt_ok (g : Nat) (lb : Array Value) (eg : ∀ args w, (callFunc g args).run Try.prog w = .ok (.enter g args) w) (w : World) (S : Nat → Prop) (R : World → Prop) (hS : ∀ k, S k → k < w.heap.size)
    (h : Calls Try.prog g lb (w.alloc (.cells #[.int .i64 0] 24)) fun e w' => e = .returned (.tuple #[]) ∧ Fr S (w.alloc (.cells #[.int .i64 0] 24)) w' ∧ R w') :
    Calls Try.prog 29 #[.func (.func g) #[] lb] w fun e w' => e = .returned (.int .i64 0) ∧ Fr S w w' ∧ R w' := by
  have hmf : ∀ (fn : Fn) (first cap : Array Value) (w : World), (Instr.makeFunc fn first cap).run Try.prog w = .ok (.func fn first cap) w := fun _ _ _ _ => rfl
  have HH := Lib.hid h
  clear h
  go_enter_defers Try.func29, Try.ntmps29
  go_wp2_with (go_at_fn g; refine HH.out.mono ?_; rintro e w' ⟨rfl, hF, hR⟩; have hk : w'.heap[w.heap.size]? = some (.cells #[.int .i64 0] 24 (0, 0)) := (hF.block _ (by simp) (fun hs => by have := hS _ hs; omega)).trans (blk11 w _); have hc := blk_cell hk 0; simp only [List.getElem?_toArray, List.getElem?_cons_zero] at hc; have hz := blk_free hk 0; have HK := Lib.hid hk; have HF := Lib.hid hF; have HR := Lib.hid hR; clear hk hF hR)
  rw [setCell_same HK.out]
  refine leaves_cons (f := 53) (args := #[.pointer (some ⟨w.heap.size, 0, none⟩)]) (by simp) (by simp [go_sem]) ?_
  refine (catch_idle _ _).mono ?_
  rintro e u' w'' ⟨rfl, rfl, rfl⟩
  have hc := blk_cell HK.out 0
  simp only [List.getElem?_toArray, List.getElem?_cons_zero] at hc
  simp [Leaves, settle, results, Try.results28, go_sem, hc]
  exact ⟨(fr_of_below (below_al w _) S).trans HF.out, HR.out⟩
/-- A function value is given up: why. -/
theorem attempt_no (g : Nat) (lb : Array Value) (eg : ∀ args w, (callFunc g args).run Try.prog w = .ok (.enter g args) w) (why : Int) (w : World) (S : Nat → Prop) (hS : ∀ k, S k → k < w.heap.size)
    (h : Calls Try.prog g lb (w.alloc (.cells #[.int .i64 0] 24)) fun e w' => e = .panicked (gives why) ∧ Fr S (w.alloc (.cells #[.int .i64 0] 24)) w') :
    Calls Try.prog 29 #[.func (.func g) #[] lb] w fun e w' => e = .returned (.int .i64 why) ∧ Fr S w w' := by
  have hmf : ∀ (fn : Fn) (first cap : Array Value) (w : World), (Instr.makeFunc fn first cap).run Try.prog w = .ok (.func fn first cap) w := fun _ _ _ _ => rfl
  have HH := Lib.hid h
  clear h
  go_enter_defers Try.func29, Try.ntmps29
  go_wp2_with (go_at_fn g; refine HH.out.mono ?_; rintro e w' ⟨rfl, hF⟩; have hk : w'.heap[w.heap.size]? = some (.cells #[.int .i64 0] 24 (0, 0)) := (hF.block _ (by simp) (fun hs => by have := hS _ hs; omega)).trans (blk11 w _); have HK := Lib.hid hk; have HF := Lib.hid hF; clear hk hF)
  refine leaves_cons (f := 53) (args := #[.pointer (some ⟨w.heap.size, 0, none⟩)]) (by simp) (by simp [go_sem]) ?_
  refine (catch_gives _ 0 why _ _ HK.out).mono ?_
  rintro e u' w'' ⟨rfl, rfl, h1, h2⟩
  have hc := blk_cell h2 0
  simp only [List.getElem?_toArray, List.getElem?_cons_zero] at hc
  simp [Leaves, settle, results, Try.results28, go_sem, hc]
  have h3 := ((fr_of_below (below_al w _) S).trans HF.out).mono (T := fun k => S k ∨ k = w.heap.size) (fun _ _ h => .inl h)
  exact (h3.trans (h1.mono (fun _ _ h => .inr h))).mono fun k hk h => h.elim id (fun e => by omega)

/-- Numbers laid in a slice of their own. -/
theorem sl_rd (w : World) (l : List Int) (T : TypeId) (h : l.length ≤ 100) : Rd (w.alloc (.cells (iv .i64 l).toArray T)) (some ⟨w.heap.size, 0, none⟩) l.length l.length (iv .i64 l) :=
  rd_block (blk11 w _) l.length l.length _ 0 (Nat.le_refl _) (by omega) fun j hj => by simp
def big (k : Int) : Prop := 0 ≤ k ∧ k < 1062
theorem Way_no (k : Int) (hk : ¬ big k) (w : World) : Calls Try.prog 9 #[.int .i64 k] w fun e w' => e = .returned (.tuple #[.slice none 0 0, .int .i64 2]) ∧ w' = w := by
  unfold big at hk
  go_enter Try.func9, Try.ntmps9
  go_wp2
  all_goals (go_ret2; exact ⟨rfl, rfl⟩)
theorem Way_ok (k : Int) (hk : big k) (w : World) : Calls Try.prog 9 #[.int .i64 k] w fun e w' => (∃ A c, e = .returned (.tuple #[.slice A (wayL k).length c, .int .i64 0]) ∧ Rd w' A (wayL k).length c (iv .i64 (wayL k))) ∧ Below w.heap.size w w' := by
  unfold big at hk
  by_cases h6 : k < 6
  · have hw : Hid (wayL k = [k]) := Lib.hid (by simp [wayL, h6])
    go_enter Try.func9, Try.ntmps9
    go_wp2
    go_ret2
    rw [hw.out]
    exact ⟨⟨_, _, rfl, sl_rd w [k] _ (by simp)⟩, below_al _ _⟩
  · by_cases h38 : k < 38
    · have hw : Hid (wayL k = [6, k - 6]) := Lib.hid (by simp [wayL, h6, h38])
      go_enter Try.func9, Try.ntmps9
      go_wp2
      go_ret2
      rw [hw.out]
      exact ⟨⟨_, _, rfl, sl_rd w [6, k - 6] _ (by simp)⟩, below_al _ _⟩
    · have hw : Hid (wayL k = [7, (k - 38) / 32, (k - 38) % 32]) := Lib.hid (by simp [wayL, h6, h38])
      have e1 : k - 6 - 32 = k - 38 := by omega
      go_enter Try.func9, Try.ntmps9
      go_wp2
      go_ret2
      rw [hw.out]
      refine ⟨⟨_, _, rfl, ?_⟩, below_al _ _⟩
      first | exact sl_rd w [7, (k - 38) / 32, (k - 38) % 32] _ (by simp) | go_show
theorem rWay_no (k : Int) (hk : ¬ big k) (w : World) : Calls Try.prog 16 #[.int .i64 k] w fun e w' => e = .returned (.tuple #[.slice none 0 0, .int .i64 2]) ∧ w' = w := by
  unfold big at hk
  go_enter Try.func16, Try.ntmps16
  go_wp2
  all_goals (go_ret2; exact ⟨rfl, rfl⟩)
theorem rWay_ok (k : Int) (hk : big k) (w : World) : Calls Try.prog 16 #[.int .i64 k] w fun e w' => (∃ A c, e = .returned (.tuple #[.slice A (wayL k).length c, .int .i64 0]) ∧ Rd w' A (wayL k).length c (iv .i64 (wayL k))) ∧ Below w.heap.size w w' := by
  unfold big at hk
  by_cases h6 : k < 6
  · have hw : Hid (wayL k = [k]) := Lib.hid (by simp [wayL, h6])
    go_enter Try.func16, Try.ntmps16
    go_wp2
    go_ret2
    rw [hw.out]
    exact ⟨⟨_, _, rfl, sl_rd w [k] _ (by simp)⟩, below_al _ _⟩
  · by_cases h38 : k < 38
    · have hw : Hid (wayL k = [6, k - 6]) := Lib.hid (by simp [wayL, h6, h38])
      go_enter Try.func16, Try.ntmps16
      go_wp2
      go_ret2
      rw [hw.out]
      exact ⟨⟨_, _, rfl, sl_rd w [6, k - 6] _ (by simp)⟩, below_al _ _⟩
    · have hw : Hid (wayL k = [7, (k - 38) / 32, (k - 38) % 32]) := Lib.hid (by simp [wayL, h6, h38])
      go_enter Try.func16, Try.ntmps16
      go_wp2
      go_ret2
      rw [hw.out]
      refine ⟨⟨_, _, rfl, ?_⟩, below_al _ _⟩
      first | exact sl_rd w [7, (k - 38) / 32, (k - 38) % 32] _ (by simp) | go_show
end Go.Proofs.Ytcgfoaihfncppaa
