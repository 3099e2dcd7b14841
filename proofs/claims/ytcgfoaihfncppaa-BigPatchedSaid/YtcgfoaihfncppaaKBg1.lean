/- Walks of big: must, attempt, Way, and its reference. -/
import Derived.Test.YtcgfoaihfncppaaProg
import Derived.Test.YtcgfoaihfncppaaKSel7
import Derived.Shelf.Abstract
import Derived.Deep.LoopGhost
import Derived.Defers
import Derived.Recover
import Derived.WalkKit
import Derived.ProofKit
import Derived.OpenShut
import Derived.Carry
import Derived.Lay
import Derived.Lib.SmallJoins
import Derived.Test.YtcgfoaihfncppaaKSel
import Derived.Test.YtcgfoaihfncppaaKGraP
set_option linter.unusedSimpArgs false
set_option linter.unusedVariables false
namespace Go.Proofs.Ytcgfoaihfncppaa
open Go.RowKit Go.Sel Go.Sel.Gra Go.Sel.Bg Go.Shelf

theorem must_ok (why : Int) (w : World) : Calls Try.prog 37 #[.bool true, .int .i64 why] w fun e w' => e = .returned (.tuple #[]) ∧ w' = w := by
  go_enter Try.func37, Try.ntmps37
  go_wp2
  go_end0
  exact ⟨rfl, rfl⟩
/-- The chain of a panic with 'refused'. -/
def gives (why : Int) : List PanicEntry := [{ v := .iface 99 (.agg #[.int .i64 why]), recovered := false }]
theorem must_no (why : Int) (w : World) : Calls Try.prog 37 #[.bool false, .int .i64 why] w fun e w' => e = .panicked (gives why) ∧ w' = w := by
  go_enter Try.func37, Try.ntmps37
  go_wp2
  simp [bodyPost, gives]

theorem catch_idle (p : Addr) (w : World) :
    CallsD Try.prog 53 #[.pointer (some p)] .returning w fun e u' w' => e = .returned (.tuple #[]) ∧ u' = .returning ∧ w' = w := by
  refine callsD_of_wpS Try.func53 rfl fun c₀ cs hu => ?_
  apply wpS_seq
  apply wpS_region
  simp [wpOpsS, go_sem, recoverD, hu, Try.ntmps53, Exit.thenS]
  refine wpS_of_wp ?_
  go_wp2
  cases c₀
  simp_all [bodyPostS, results, Try.results52]
theorem catch_gives (b : Nat) (x why : Int) (w : World) (T : TypeId) (hc : w.heap[b]? = some (.cells #[.int .i64 x] T (0, 0))) :
    CallsD Try.prog 53 #[.pointer (some ⟨b, 0, none⟩)] (.panicking (gives why)) w fun e u' w' =>
      e = .returned (.tuple #[]) ∧ u' = .panicking [{ v := .iface 99 (.agg #[.int .i64 why]), recovered := true }] ∧ Fr (· = b) w w' ∧ w'.heap[b]? = some (.cells #[.int .i64 why] T (0, 0)) := by
  have hta : ∀ W, (Instr.typeAssert (.iface 99 (.agg #[.int .i64 why])) 20 99 true).run Try.prog W = .ok (.tuple #[.agg #[.int .i64 why], .bool true]) W := fun _ => by kernel_rfl
  have hlt : b < w.heap.size := (Array.getElem?_eq_some_iff.1 hc).1
  have hn : ∀ o : Obj, (w.alloc o).heap[b]? = some (.cells #[.int .i64 x] T (0, 0)) := fun o => blk_below hc (below_al w o) hlt
  have hc1 : ∀ o : Obj, (w.alloc o).cell? ⟨b, 0, none⟩ = some (.int .i64 x) := fun o => by rw [blk_cell (hn o)]; rfl
  have hz1 : ∀ o : Obj, (w.alloc o).frozen? ⟨b, 0, none⟩ = false := fun o => blk_free (hn o) 0
  have HF : Hid (∀ o : Obj, Fr (· = b) w ((w.setCell ⟨b, 0, none⟩ (.int .i64 why)).alloc o) ∧ ((w.setCell ⟨b, 0, none⟩ (.int .i64 why)).alloc o).heap[b]? = some (.cells #[.int .i64 why] T (0, 0))) :=
    Lib.hid fun o => ⟨(Fr.setCell (S := (· = b)) (Fr.refl _ w) (p := ⟨b, 0, none⟩) (.inl rfl) _).alloc o, blk_below (blk_set hc 0 _) (below_al _ _) (by simpa using hlt)⟩
  clear hc hn
  refine callsD_of_wpS Try.func53 rfl fun c₀ cs hu => ?_
  apply wpS_seq
  apply wpS_region
  simp [wpOpsS, go_sem, recoverD, hu, Try.ntmps53, Exit.thenS, gives]
  refine wpS_of_wp ?_
  simp only [Array.replicate_succ, Array.replicate_zero, List.push_toArray, List.append_toArray, List.nil_append, List.cons_append, List.setIfInBounds_toArray, List.set_cons_zero, List.set_cons_succ]
  go_wp2
  exact ⟨rfl, _, rfl, _, results_none rfl _ _ _, rfl, rfl, (HF.out _).1, (HF.out _).2⟩

theorem setCell_same {w : World} {b : Nat} {v : Value} {T : TypeId} (h : w.heap[b]? = some (.cells #[v] T (0, 0))) : w.setCell ⟨b, 0, none⟩ v = w := by
  obtain ⟨hb, hg⟩ := Array.getElem?_eq_some_iff.1 h
  have e : (w.setCell ⟨b, 0, none⟩ v).heap = w.heap := by
    refine Array.ext_getElem? fun i => ?_
    by_cases hi : i = b
    · subst hi
      rw [blk_set h 0 v, h]
      rfl
    · exact Below.heap_setCell _ _ _ _ hi
  cases w
  simp_all [World.setCell]
/-- A function value does what it does, and returns. -/
theorem attempt_ok (g : Nat) (lb : Array Value) (eg : ∀ args w, (callFunc g args).run Try.prog w = .ok (.enter g args) w) (w : World) (S : Nat → Prop) (R : World → Prop) (hS : ∀ k, S k → k < w.heap.size)
    (h : Calls Try.prog g lb (w.alloc (.cells #[.int .i64 0] 24)) fun e w' => e = .returned (.tuple #[]) ∧ Fr S (w.alloc (.cells #[.int .i64 0] 24)) w' ∧ R w') :
    Calls Try.prog 29 #[.func (.func g) #[] lb] w fun e w' => e = .returned (.int .i64 0) ∧ Fr S w w' ∧ R w' := by
  have hmf : ∀ (fn : Fn) (first cap : Array Value) (w : World), (Instr.makeFunc fn first cap).run Try.prog w = .ok (.func fn first cap) w := fun _ _ _ _ => rfl
  have HH := Lib.hid h
  clear h
  go_enter_defers Try.func29, Try.ntmps29
  go_wp2_with (go_at_fn g; refine HH.out.mono ?_; rintro e w' ⟨rfl, hF, hR⟩; have hk : w'.heap[w.heap.size]? = some (.cells #[.int .i64 0] 24 (0, 0)) := (hF.block _ (by simp) (fun hs => by have := hS _ hs; omega)).trans (blk11 w _); have hc := blk_cell hk 0; simp only [List.getElem?_toArray, List.getElem?_cons_zero] at hc; have hz := blk_free hk 0; have HK := Lib.hid hk; have HF := Lib.hid hF; have HR := Lib.hid hR; clear hk hF hR)
  rw [setCell_same HK.out]
  refine leaves_cons (f := 53) (args := #[.pointer (some ⟨w.heap.size, 0, none⟩)]) (by simp) (by simp [go_sem]) ?_
  refine (catch_idle _ _).mono ?_
  rintro e u' w'' ⟨rfl, rfl, rfl⟩
  have hc := blk_cell HK.out 0
  simp only [List.getElem?_toArray, List.getElem?_cons_zero] at hc
  simp [Leaves, settle, results, Try.results28, go_sem, hc]
  exact ⟨(fr_of_below (below_al w _) S).trans HF.out, HR.out⟩
/-- A function value is given up: why. -/
theorem attempt_no (g : Nat) (lb : Array Value) (eg : ∀ args w, (callFunc g args).run Try.prog w = .ok (.enter g args) w) (why : Int) (w : World) (S : Nat → Prop) (hS : ∀ k, S k → k < w.heap.size)
    (h : Calls Try.prog g lb (w.alloc (.cells #[.int .i64 0] 24)) fun e w' => e = .panicked (gives why) ∧ Fr S (w.alloc (.cells #[.int .i64 0] 24)) w') :
    Calls Try.prog 29 #[.func (.func g) #[] lb] w fun e w' => e = .returned (.int .i64 why) ∧ Fr S w w' := by
  have hmf : ∀ (fn : Fn) (first cap : Array Value) (w : World), (Instr.makeFunc fn first cap).run Try.prog w = .ok (.func fn first cap) w := fun _ _ _ _ => rfl
  have HH := Lib.hid h
  clear h
  go_enter_defers Try.func29, Try.ntmps29
  go_wp2_with (go_at_fn g; refine HH.out.mono ?_; rintro e w' ⟨rfl, hF⟩; have hk : w'.heap[w.heap.size]? = some (.cells #[.int .i64 0] 24 (0, 0)) := (hF.block _ (by simp) (fun hs => by have := hS _ hs; omega)).trans (blk11 w _); have HK := Lib.hid hk; have HF := Lib.hid hF; clear hk hF)
  refine leaves_cons (f := 53) (args := #[.pointer (some ⟨w.heap.size, 0, none⟩)]) (by simp) (by simp [go_sem]) ?_
  refine (catch_gives _ 0 why _ _ HK.out).mono ?_
  rintro e u' w'' ⟨rfl, rfl, h1, h2⟩
  have hc := blk_cell h2 0
  simp only [List.getElem?_toArray, List.getElem?_cons_zero] at hc
  simp [Leaves, settle, results, Try.results28, go_sem, hc]
  have h3 := ((fr_of_below (below_al w _) S).trans HF.out).mono (T := fun k => S k ∨ k = w.heap.size) (fun _ _ h => .inl h)
  exact (h3.trans (h1.mono (fun _ _ h => .inr h))).mono fun k hk h => h.elim id (fun e => by omega)

/-- Numbers laid in a slice of their own. -/
theorem sl_rd (w : World) (l : List Int) (T : TypeId) (h : l.length ≤ 100) : Rd (w.alloc (.cells (iv .i64 l).toArray T)) (some ⟨w.heap.size, 0, none⟩) l.length l.length (iv .i64 l) :=
  rd_block (blk11 w _) l.length l.length _ 0 (Nat.le_refl _) (by omega) fun j hj => by simp
def big (k : Int) : Prop := 0 ≤ k ∧ k < 1062
theorem Way_no (k : Int) (hk : ¬ big k) (w : World) : Calls Try.prog 9 #[.int .i64 k] w fun e w' => e = .returned (.tuple #[.slice none 0 0, .int .i64 2]) ∧ w' = w := by
  unfold big at hk
  go_enter Try.func9, Try.ntmps9
  go_wp2
  all_goals (go_ret2; exact ⟨rfl, rfl⟩)
theorem Way_ok (k : Int) (hk : big k) (w : World) : Calls Try.prog 9 #[.int .i64 k] w fun e w' => (∃ A c, e = .returned (.tuple #[.slice A (wayL k).length c, .int .i64 0]) ∧ Rd w' A (wayL k).length c (iv .i64 (wayL k))) ∧ Below w.heap.size w w' := by
  unfold big at hk
  by_cases h6 : k < 6
  · have hw : Hid (wayL k = [k]) := Lib.hid (by simp [wayL, h6])
    go_enter Try.func9, Try.ntmps9
    go_wp2
    go_ret2
    rw [hw.out]
    exact ⟨⟨_, _, rfl, sl_rd w [k] _ (by simp)⟩, below_al _ _⟩
  · by_cases h38 : k < 38
    · have hw : Hid (wayL k = [6, k - 6]) := Lib.hid (by simp [wayL, h6, h38])
      go_enter Try.func9, Try.ntmps9
      go_wp2
      go_ret2
      rw [hw.out]
      exact ⟨⟨_, _, rfl, sl_rd w [6, k - 6] _ (by simp)⟩, below_al _ _⟩
    · have hw : Hid (wayL k = [7, (k - 38) / 32, (k - 38) % 32]) := Lib.hid (by simp [wayL, h6, h38])
      have e1 : k - 6 - 32 = k - 38 := by omega
      go_enter Try.func9, Try.ntmps9
      go_wp2
      go_ret2
      rw [hw.out]
      refine ⟨⟨_, _, rfl, ?_⟩, below_al _ _⟩
      first | exact sl_rd w [7, (k - 38) / 32, (k - 38) % 32] _ (by simp) | go_show
theorem rWay_no (k : Int) (hk : ¬ big k) (w : World) : Calls Try.prog 16 #[.int .i64 k] w fun e w' => e = .returned (.tuple #[.slice none 0 0, .int .i64 2]) ∧ w' = w := by
  unfold big at hk
  go_enter Try.func16, Try.ntmps16
  go_wp2
  all_goals (go_ret2; exact ⟨rfl, rfl⟩)
theorem rWay_ok (k : Int) (hk : big k) (w : World) : Calls Try.prog 16 #[.int .i64 k] w fun e w' => (∃ A c, e = .returned (.tuple #[.slice A (wayL k).length c, .int .i64 0]) ∧ Rd w' A (wayL k).length c (iv .i64 (wayL k))) ∧ Below w.heap.size w w' := by
  unfold big at hk
  by_cases h6 : k < 6
  · have hw : Hid (wayL k = [k]) := Lib.hid (by simp [wayL, h6])
    go_enter Try.func16, Try.ntmps16
    go_wp2
    go_ret2
    rw [hw.out]
    exact ⟨⟨_, _, rfl, sl_rd w [k] _ (by simp)⟩, below_al _ _⟩
  · by_cases h38 : k < 38
    · have hw : Hid (wayL k = [6, k - 6]) := Lib.hid (by simp [wayL, h6, h38])
      go_enter Try.func16, Try.ntmps16
      go_wp2
      go_ret2
      rw [hw.out]
      exact ⟨⟨_, _, rfl, sl_rd w [6, k - 6] _ (by simp)⟩, below_al _ _⟩
    · have hw : Hid (wayL k = [7, (k - 38) / 32, (k - 38) % 32]) := Lib.hid (by simp [wayL, h6, h38])
      go_enter Try.func16, Try.ntmps16
      go_wp2
      go_ret2
      rw [hw.out]
      refine ⟨⟨_, _, rfl, ?_⟩, below_al _ _⟩
      first | exact sl_rd w [7, (k - 38) / 32, (k - 38) % 32] _ (by simp) | go_show
end Go.Proofs.Ytcgfoaihfncppaa
/- What every law's row asks behind the walk, once: old memory is as it was, so the arguments read as they read. -/
namespace Go.Sel
open Go.ChangeShapes Go.WideShapes Go.ChangeAt Go.RowKit

theorem trodAll_below {H : Type} {enc : TypeId × Value → H} {P : Program} (hl : laidOutB P = true) {W W' : World} (hb : Below W.heap.size W W') :
    ∀ {ts : List TypeId} {vs : List Value} {ds : List (DataW H)} {ps : List MemPlace}, (ts.all fun t => P.readableRec t && decide (t < P.types.size)) = true →
      DataW.TrodAll enc P W 0 (fun _ => true) true ts vs ds ps → (∀ x ∈ ps, x.block < W.heap.size) → DataW.TrodAll enc P W' 0 (fun b => decide (b < W.heap.size)) true ts vs ds ps
  | [], vs, ds, ps, _, h, _ => by
    obtain ⟨rfl, rfl, rfl⟩ := trodAll_nil h
    exact trodAll_mk0
  | t :: ts, vs, ds, ps, ht, h, hp => by
    obtain ⟨v, vs', d, ds', p, q, rfl, rfl, rfl, h1, h2⟩ := trodAll_cons h
    rw [List.all_cons, Bool.and_eq_true, Bool.and_eq_true, decide_eq_true_eq] at ht
    exact trodAll_cons_mk (Below.trod hl ht.1.1 ht.1.2 h1 hb fun x hx => hp x (List.mem_append_left _ hx)) (trodAll_below hl hb ht.2 h2 fun x hx => hp x (List.mem_append_right _ hx))

/-- A law's row, behind its walk. -/
theorem law_post {H : Type} {enc : TypeId × Value → H} {P : Program} (hl : laidOutB P = true) {f : Func} {s : ChangeSpec} {apart : Bool} {W W' : World} {args : Array Value} {ds gs : List (DataW H)} {before : List MemPlace}
    (hread : (f.params.toList.all fun t => P.readableRec t && decide (t < P.types.size)) = true) (hW : DataW.Whole enc P f.params.toList s.vars apart W args.toList ds gs before) (hv : s.vars = [])
    (hs : (s.fn H (ds ++ [])).vars = []) (hres : (s.fn H (ds ++ [])).results = [.lit (.bool true)]) (hargs : (s.fn H (ds ++ [])).args = ds)
    {t : TypeId} (hr : f.resultTypes = #[t]) (ht : P.underlying t = some .bool) (hb : Below W.heap.size W W') :
    s.post enc P f apart true false false W args (.bool true) W' := by
  have hlt := hW.lt
  have hW' := hW
  obtain ⟨p, q, hA, hV, rfl, hz, hn⟩ := hW
  rw [hv] at hV
  obtain ⟨rfl, rfl⟩ := trodVars_none hV
  refine ⟨ds, [], _, [], p, [], hW', ?_, ?_, ?_, hb.frame _, fun h => by cases h⟩
  · rw [hres, hr]
    exact trodAll_mk1 (shut_bool ht _)
  · rw [hargs]
    exact trodAll_below hl hb hread hA fun x hx => hlt x (List.mem_append_left _ hx)
  · rw [hv, hs]
    rfl

theorem spot_none {w : World} {a : Addr} {v : Value} (h : w.cell? a = some v) : a.spot = none := by
  unfold World.cell? at h
  split at h
  · split at h
    · cases h
    · rename_i hs
      cases hsp : a.spot with
      | none => rfl
      | some s => rw [hsp] at hs; exact absurd rfl hs
  · cases h
theorem rd_of_cells {w : World} {a : Addr} {n c : Nat} {cs : List Value} (hn : n ≤ c) (hc : c ≤ 9223372036854775807) (h : ∀ j (hj : j < cs.length), w.cell? (a.add j) = some cs[j]) : Rd w (some a) n c cs := by
  refine ⟨hn, hc, ?_⟩
  by_cases h0 : cs = []
  · exact .inl h0
  · right
    have hp : 0 < cs.length := List.length_pos_iff.2 h0
    have h1 := h 0 hp
    have hs : a.spot = none := spot_none (by simpa [Addr.add] using h1)
    refine ⟨a.block, a.off, by cases a; simp_all, fun j hj => ?_⟩
    have := h j hj
    have e : a.add j = ⟨a.block, a.off + j, none⟩ := by
      unfold Addr.add
      split
      · rename_i h2; subst h2; cases a; simp_all
      · rfl
    rwa [e] at this

section
variable {H : Type} {enc : TypeId × Value → H} {P : Program} {w : World} {base : Nat} {spare : Nat → Bool} {held : Bool}
/-- A slice of whole numbers that came in. -/
theorem read_ints {t e : TypeId} {k : IntKind} {fuel : Nat} {v : Value} {x : DataW H × List MemPlace} (ht : P.underlying t = some (.slice e)) (he : P.underlying e = some (.int k)) (hc : P.cellsOf e = 1)
    (h : DataW.trod enc P w base spare held fuel t [v] = some x) : ∃ (A : Option Addr) (n c : Nat) (xs : List Int), v = .slice A n c ∧ xs.length = n ∧ Rd w A n c (iv k xs) ∧ ∀ x ∈ xs, (Lit.int k x).wf = true := by
  rcases open_ints ht he hc h with ⟨hcs, _⟩ | ⟨a, len, cap, zs, hcs, _, hl, hm, hz, _, hcell, hwz⟩
  · obtain rfl : v = .slice none 0 0 := by simpa using hcs
    exact ⟨none, 0, 0, [], rfl, rfl, Rd.nil (by omega), by simp⟩
  · obtain rfl : v = .slice (some a) len cap := by simpa using hcs
    have hlz : len ≤ zs.length := by rw [hz]; split <;> omega
    refine ⟨some a, len, cap, zs.take len, rfl, by simp; omega, rd_of_cells hl (by simpa [maxLen] using hm) fun j hj => ?_, fun x hx => hwz x (List.mem_of_mem_take hx)⟩
    have hj' : j < len := by simp at hj; omega
    rw [hcell j (by omega), iv_at, List.getElem_take]
    simp [List.getD_eq_getElem?_getD, List.getElem?_eq_getElem (show j < zs.length by omega)]
theorem flat_get {α : Type} {c : Nat} : ∀ (vss : List (List α)), (∀ us ∈ vss, us.length = c) → ∀ i j, j < c → vss.flatten[i * c + j]? = (vss[i]?).bind (·[j]?)
  | [], _, i, j, _ => by simp
  | us :: vss, h, i, j, hj => by
    have hl : us.length = c := h us (by simp)
    cases i with
    | zero => simp [List.getElem?_append, hl, hj]
    | succ i =>
      have e : (i + 1) * c + j = us.length + (i * c + j) := by rw [hl, Nat.succ_mul]; omega
      rw [List.flatten_cons, e, List.getElem?_append_right (by omega), Nat.add_sub_cancel_left, flat_get vss (fun us hu => h us (by simp [hu])) i j hj]
      simp
theorem flat_length {α : Type} {c : Nat} : ∀ (vss : List (List α)), (∀ us ∈ vss, us.length = c) → vss.flatten.length = vss.length * c
  | [], _ => by simp
  | us :: vss, h => by
    rw [List.flatten_cons, List.length_append, flat_length vss (fun us hu => h us (by simp [hu])), h us (by simp), List.length_cons, Nat.succ_mul]
    omega
theorem add_add {a : Addr} (h : a.spot = none) (i j : Nat) : (a.add i).add j = a.add (i + j) := by
  cases a with
  | mk b o s =>
    simp only at h
    subst h
    unfold Addr.add
    by_cases hi : i = 0
    · subst hi; simp
    · by_cases hj : j = 0
      · subst hj; simp [hi]
      · simp [hi, hj, Nat.add_assoc]
/-- A slice that came in: each element's cells are read. -/
theorem read_elems {t e : TypeId} {c fuel : Nat} {v : Value} {x : DataW H × List MemPlace} (ht : P.underlying t = some (.slice e)) (hc : P.cellsOf e = c) (h0 : 0 < c)
    (h : DataW.trod enc P w base spare held fuel t [v] = some x) : ∃ (A : Option Addr) (n cap : Nat) (vss : List (List Value)), v = .slice A n cap ∧ vss.length = n ∧ (∀ us ∈ vss, us.length = c ∧ ∃ fuel y, DataW.trod enc P w base spare held fuel e us = some y) ∧ Rd w A n cap vss.flatten := by
  rcases DataW.trod_slice ht h with ⟨hcs, _⟩ | ⟨a, len, cap, elems, rest, n, _, hcs, _, hb, hl, hm, hlen, hel, _, _⟩
  · obtain rfl : v = .slice none 0 0 := by simpa using hcs
    exact ⟨none, 0, 0, [], rfl, rfl, fun us h => (by cases h), Rd.nil (by omega)⟩
  · obtain rfl : v = .slice (some a) len cap := by simpa using hcs
    have each : ∀ i, i < len → ∃ us, us.length = c ∧ (∀ j, j < c → w.cell? ((a.add (i * c)).add j) = us[j]?) ∧ ∃ y, DataW.trod enc P w base spare held n e us = some y := by
      intro i hi
      have h1 := hel i hi
      rw [hc, List.getElem?_eq_getElem (by omega)] at h1
      obtain ⟨us, h2, h3⟩ := Option.bind_eq_some_iff.1 h1
      have h4 := World.cells?_some h2
      exact ⟨us, h4.2.1, h4.2.2, _, h3⟩
    have hf : ∃ f : Nat → List Value, ∀ i, i < len → (f i).length = c ∧ (∀ j, j < c → w.cell? ((a.add (i * c)).add j) = (f i)[j]?) ∧ ∃ y, DataW.trod enc P w base spare held n e (f i) = some y := by
      refine ⟨fun i => if hi : i < len then Classical.choose (each i hi) else [], fun i hi => ?_⟩
      simp only [hi, dif_pos]
      exact Classical.choose_spec (each i hi)
    obtain ⟨f, hf⟩ := hf
    have hu : ∀ us ∈ (List.range len).map f, us.length = c := by
      intro us hus
      obtain ⟨i, hi, rfl⟩ := List.mem_map.1 hus
      exact (hf i (List.mem_range.1 hi)).1
    refine ⟨some a, len, cap, (List.range len).map f, rfl, by simp, ?_, ?_⟩
    · intro us hus
      obtain ⟨i, hi, rfl⟩ := List.mem_map.1 hus
      exact ⟨(hf i (List.mem_range.1 hi)).1, n, (hf i (List.mem_range.1 hi)).2.2⟩
    · refine rd_of_cells hl (by simpa [maxLen] using hm) fun j hj => ?_
      have hj' := hj
      rw [flat_length _ hu, List.length_map, List.length_range] at hj'
      have hdiv : j / c < len := by rw [Nat.div_lt_iff_lt_mul h0]; exact hj'
      have hmod : j % c < c := Nat.mod_lt _ h0
      have hlen0 : 0 < len := Nat.lt_of_le_of_lt (Nat.zero_le _) hdiv
      have hspot : a.spot = none := by
        have := (hf 0 hlen0).2.1 0 h0
        rw [Nat.zero_mul] at this
        have h5 : (f 0)[0]? ≠ none := by
          have := (hf 0 hlen0).1
          rw [List.getElem?_eq_getElem (by rw [this]; exact h0)]
          simp
        obtain ⟨u, hu0⟩ := Option.ne_none_iff_exists'.1 h5
        rw [hu0] at this
        exact spot_none (by simpa [Addr.add] using this)
      have h6 := (hf (j / c) hdiv).2.1 (j % c) hmod
      rw [add_add hspot, Nat.div_add_mod' j c] at h6
      have h7 := flat_get _ hu (j / c) (j % c) hmod
      rw [Nat.div_add_mod' j c, List.getElem?_map, List.getElem?_range hdiv] at h7
      simp only [Option.map_some, Option.bind_some] at h7
      rw [h6, ← h7, List.getElem?_eq_getElem hj]
/-- A slice of one-cell elements that came in. -/
theorem read_rows {t e : TypeId} {fuel : Nat} {v : Value} {x : DataW H × List MemPlace} (ht : P.underlying t = some (.slice e)) (hc : P.cellsOf e = 1)
    (h : DataW.trod enc P w base spare held fuel t [v] = some x) : ∃ (A : Option Addr) (n c : Nat) (vs : List Value), v = .slice A n c ∧ vs.length = n ∧ Rd w A n c vs ∧ ∀ u ∈ vs, ∃ fuel y, DataW.trod enc P w base spare held fuel e [u] = some y := by
  obtain ⟨A, n, c, vss, rfl, hl, hu, hr⟩ := read_elems ht hc (by omega) h
  refine ⟨A, n, c, vss.flatten, rfl, ?_, hr, ?_⟩
  · rw [flat_length vss (fun us h => (hu us h).1), hl, Nat.mul_one]
  · intro u h
    obtain ⟨us, h1, h2⟩ := List.mem_flatten.1 h
    obtain ⟨h3, h4⟩ := hu us h1
    match us, h3 with
    | [a], _ =>
      obtain rfl : u = a := by simpa using h2
      exact h4
end
end Go.Sel
/- Small words of my own for rows: slices of slices of whole numbers that came in; arrays of whole numbers and of slices. No program in sight. -/
namespace Go.Sel
open Go.ChangeShapes Go.WideShapes Go.ChangeAt Go.RowKit Go.Sel.Gra

def AllI64 (D : List (List Int)) : Prop := ∀ i, ∀ d ∈ nth D i, -9223372036854775808 ≤ d ∧ d ≤ 9223372036854775807
theorem i64_bounds {x : Int} (w : (Lit.int .i64 x).wf = true) : -9223372036854775808 ≤ x ∧ x ≤ 9223372036854775807 := by
  simpa [Lit.wf, IntKind.min, IntKind.max, IntKind.signed, IntKind.bits] using w
theorem rows_of {w : World} : ∀ (vs : List Value), (∀ u ∈ vs, ∃ (A : Option Addr) (n c : Nat) (xs : List Int), u = .slice A n c ∧ xs.length = n ∧ Rd w A n c (iv .i64 xs) ∧ ∀ x ∈ xs, (Lit.int .i64 x).wf = true) →
    ∃ (ss : List (Option Addr × Nat × Nat)) (D : List (List Int)), vs = ss.map sv ∧ ss.length = D.length ∧ AllI64 D ∧ ∀ j (h : j < ss.length), (nth D j).length = ss[j].2.1 ∧ Rd w ss[j].1 ss[j].2.1 ss[j].2.2 (iv .i64 (nth D j))
  | [], _ => ⟨[], [], rfl, rfl, fun i d h => by simp [nth] at h, fun j h => by simp at h⟩
  | u :: vs, h => by
    obtain ⟨A, n, c, xs, rfl, h1, h2, h3⟩ := h u (by simp)
    obtain ⟨ss, D, rfl, h4, h5, h6⟩ := rows_of vs fun u hu => h u (by simp [hu])
    refine ⟨(A, n, c) :: ss, xs :: D, rfl, by simp [h4], ?_, ?_⟩
    · intro i d hd
      cases i with
      | zero => exact i64_bounds (h3 d (by simpa [nth] using hd))
      | succ i => exact h5 i d (by simpa [nth] using hd)
    · intro j hj
      cases j with
      | zero => exact ⟨by simpa [nth] using h1, by simpa [nth] using h2⟩
      | succ j => exact h6 j (by simpa using hj)
section
variable {H : Type} {enc : TypeId × Value → H} {P : Program} {w : World} {base : Nat} {spare : Nat → Bool} {held : Bool}
/-- A slice of slices of whole numbers that came in. -/
theorem read_deps0 {t e f : TypeId} {fuel : Nat} {v : Value} {x : DataW H × List MemPlace} (ht : P.underlying t = some (.slice e)) (he : P.underlying e = some (.slice f)) (hf : P.underlying f = some (.int .i64)) (hc : P.cellsOf e = 1) (hg : P.cellsOf f = 1)
    (h : DataW.trod enc P w base spare held fuel t [v] = some x) : ∃ (A : Option Addr) (n c : Nat) (D : List (List Int)), v = .slice A n c ∧ Dp w A n c D ∧ AllI64 D := by
  obtain ⟨A, n, c, vs, rfl, hl, hr, hu⟩ := read_rows ht hc h
  obtain ⟨ss, D, rfl, h4, h5, h6⟩ := rows_of vs fun u hu' => by
    obtain ⟨fuel, y, hy⟩ := hu u hu'
    exact read_ints he hf hg hy
  have hl' : ss.length = n := by simpa using hl
  exact ⟨A, n, c, D, rfl, ⟨by omega, ss, hl', hr, h6⟩, h5⟩
end
end Go.Sel
/- Items: what slices of them read as. No program in sight. -/
set_option linter.unusedSimpArgs false
set_option linter.unusedVariables false
namespace Go.Sel.Mer
open Go.RowKit Go.Sel Go.Sel.Gra

/-- An item: its patch's block, place and bytes; its deps. -/
structure It where
  b : Int
  o : Int
  s : ByteArray
  ds : List Int
def zIt : It := ⟨0, 0, ByteArray.empty, []⟩
def nthI (L : List It) (i : Nat) : It := L.getD i zIt
theorem nthI_get {L : List It} {i : Nat} (h : i < L.length) : nthI L i = L[i] := by simp [nthI, List.getD_eq_getElem?_getD, h]
def depsL (L : List It) : List (List Int) := L.map (·.ds)
@[simp] theorem depsL_length (L : List It) : (depsL L).length = L.length := by simp [depsL]
theorem nth_depsL {L : List It} {i : Nat} (h : i < L.length) : nth (depsL L) i = (nthI L i).ds := by
  rw [nthI_get h]; simp [nth, depsL, List.getD_eq_getElem?_getD, h]
/-- A patch that may be. -/
def prightB (x : It) : Bool := decide (0 ≤ x.b) && decide (x.b < 96) && decide (0 ≤ x.o) && decide (x.o < 32) && decide (1 ≤ x.s.size) && decide ((x.s.size : Int) ≤ 32 - x.o)
theorem pright_iff {x : It} : prightB x = true ↔ 0 ≤ x.b ∧ x.b < 96 ∧ 0 ≤ x.o ∧ x.o < 32 ∧ 1 ≤ x.s.size ∧ (x.s.size : Int) ≤ 32 - x.o := by
  simp [prightB, and_assoc]
/-- Items that are right. -/
def mrightB (L : List It) : Bool := decide (L.length ≤ 64) && L.all prightB && rightD (depsL L)
theorem mright_iff {L : List It} : mrightB L = true ↔ L.length ≤ 64 ∧ (∀ x ∈ L, prightB x = true) ∧ rightD (depsL L) = true := by
  simp [mrightB, and_assoc, List.all_eq_true]

/-- The cells of an item whose deps' slice is q. -/
def itv (x : It) (q : Option Addr × Nat × Nat) : List Value := [.int .i64 x.b, .int .i64 x.o, .string x.s, sv q]
@[simp] theorem itv_length (x : It) (q : Option Addr × Nat × Nat) : (itv x q).length = 4 := rfl
def itvs (L : List It) (ss : List (Option Addr × Nat × Nat)) : List Value := ((L.zip ss).map fun p => itv p.1 p.2).flatten
theorem itvs_all (L : List It) (ss : List (Option Addr × Nat × Nat)) : ∀ us ∈ (L.zip ss).map fun p => itv p.1 p.2, us.length = 4 := by
  intro us h
  obtain ⟨p, _, rfl⟩ := List.mem_map.1 h
  rfl
theorem itvs_length {L : List It} {ss : List (Option Addr × Nat × Nat)} (h : ss.length = L.length) : (itvs L ss).length = L.length * 4 := by
  rw [itvs, flat_length _ (itvs_all L ss)]; simp [h]
theorem itvs_snoc {L : List It} {ss : List (Option Addr × Nat × Nat)} (h : ss.length = L.length) (x : It) (q : Option Addr × Nat × Nat) : itvs (L ++ [x]) (ss ++ [q]) = itvs L ss ++ itv x q := by
  rw [itvs, itvs, List.zip_append h.symm]; simp
theorem itvs_at {L : List It} {ss : List (Option Addr × Nat × Nat)} (h : ss.length = L.length) {i : Nat} (hi : i < L.length) {t : Nat} (ht : t < 4) : (itvs L ss)[i * 4 + t]? = (itv L[i] (ss[i]'(by omega)))[t]? := by
  rw [itvs, flat_get _ (itvs_all L ss) i t ht]
  rw [List.getElem?_map, List.getElem?_eq_getElem (by simp [h, hi])]
  simp

/-- '.slice A n c' reads as the items L, whose deps' slices are ss. -/
structure IpS (w : World) (A : Option Addr) (n c : Nat) (L : List It) (ss : List (Option Addr × Nat × Nat)) : Prop where
  len : L.length = n
  slen : ss.length = n
  rd : Rd w A n c (itvs L ss)
  deps : ∀ j (h : j < ss.length), (nthI L j).ds.length = ss[j].2.1 ∧ Rd w ss[j].1 ss[j].2.1 ss[j].2.2 (iv .i64 (nthI L j).ds)
def Ip (w : World) (A : Option Addr) (n c : Nat) (L : List It) : Prop := ∃ ss, IpS w A n c L ss
section
variable {w w' : World} {A : Option Addr} {n c : Nat} {L : List It} {ss : List (Option Addr × Nat × Nat)}
theorem IpS.below (h : IpS w A n c L ss) (hb : Below w.heap.size w w') : IpS w' A n c L ss := ⟨h.len, h.slen, h.rd.below hb, fun j hj => ⟨(h.deps j hj).1, (h.deps j hj).2.below hb⟩⟩
theorem Ip.len (h : Ip w A n c L) : L.length = n := by obtain ⟨ss, h⟩ := h; exact h.len
theorem Ip.le (h : Ip w A n c L) : n ≤ c := by obtain ⟨ss, h⟩ := h; exact h.rd.le
theorem Ip.cap (h : Ip w A n c L) : c ≤ 9223372036854775807 := by obtain ⟨ss, h⟩ := h; exact h.rd.cap
theorem Ip.below (h : Ip w A n c L) (hb : Below w.heap.size w w') : Ip w' A n c L := by obtain ⟨ss, h⟩ := h; exact ⟨ss, h.below hb⟩
theorem Ip.nil (h : c ≤ 9223372036854775807) : Ip w A 0 c [] := ⟨[], rfl, rfl, Rd.nil h, fun j h => by simp at h⟩
/-- The i-th item's cells. -/
theorem IpS.at_ (h : IpS w A n c L ss) {i : Nat} (hi : i < n) :
    ∃ b off, A = some ⟨b, off, none⟩ ∧ b < w.heap.size ∧ w.cell? ⟨b, off + i * 4, none⟩ = some (.int .i64 (nthI L i).b) ∧ w.cell? ⟨b, off + i * 4 + 1, none⟩ = some (.int .i64 (nthI L i).o) ∧
      w.cell? ⟨b, off + i * 4 + 2, none⟩ = some (.string (nthI L i).s) ∧ w.cell? ⟨b, off + i * 4 + 3, none⟩ = some (sv (ss[i]'(by rw [h.slen]; exact hi))) := by
  obtain ⟨h1, h2, h3, h4⟩ := h
  have hl := itvs_length (L := L) (ss := ss) (by omega)
  obtain ⟨b, off, rfl, hb, hc⟩ := h3.form (by omega)
  have hi1 : i < L.length := by omega
  have hs : i < ss.length := by omega
  have hat : ∀ t (ht : t < 4), w.cell? ⟨b, off + i * 4 + t, none⟩ = some ((itv L[i] ss[i])[t]) := fun t ht => by
    have h5 := hc (i * 4 + t) (by omega)
    have h6 := itvs_at (L := L) (ss := ss) (by omega) hi1 ht
    rw [List.getElem?_eq_getElem (by omega), List.getElem?_eq_getElem (by simpa using ht)] at h6
    rw [Nat.add_assoc, h5]; exact h6
  rw [nthI_get hi1]
  exact ⟨b, off, rfl, hb, hat 0 (by omega), hat 1 (by omega), hat 2 (by omega), hat 3 (by omega)⟩
/-- The i-th item: its cells, and what its deps read as. -/
theorem Ip.at_ (h : Ip w A n c L) {i : Nat} (hi : i < n) :
    ∃ b off A' n' c', A = some ⟨b, off, none⟩ ∧ b < w.heap.size ∧ w.cell? ⟨b, off + i * 4, none⟩ = some (.int .i64 (nthI L i).b) ∧ w.cell? ⟨b, off + i * 4 + 1, none⟩ = some (.int .i64 (nthI L i).o) ∧
      w.cell? ⟨b, off + i * 4 + 2, none⟩ = some (.string (nthI L i).s) ∧ w.cell? ⟨b, off + i * 4 + 3, none⟩ = some (.slice A' n' c') ∧ (nthI L i).ds.length = n' ∧ Rd w A' n' c' (iv .i64 (nthI L i).ds) := by
  obtain ⟨ss, h⟩ := h
  obtain ⟨b, off, h1, h2, h3, h4, h5, h6⟩ := h.at_ hi
  have h7 := h.deps i (by rw [h.slen]; exact hi)
  exact ⟨b, off, _, _, _, h1, h2, h3, h4, h5, h6, h7.1, h7.2⟩
/-- Its deps. -/
theorem Ip.upto (h : Ip w A n c L) {k : Nat} (hk : k ≤ n) : Ip w A k c (L.take k) := by
  obtain ⟨ss, h1, h2, h3, h4⟩ := h
  refine ⟨ss.take k, by rw [List.length_take]; omega, by rw [List.length_take]; omega, ⟨by have := h3.le; omega, h3.cap, ?_⟩, fun j hj => ?_⟩
  · have e : itvs (L.take k) (ss.take k) = (itvs L ss).take (k * 4) := by
      apply List.ext_getElem?
      intro j
      by_cases hj : j < k * 4
      · have hd : j / 4 < k := by omega
        have ej : j = j / 4 * 4 + j % 4 := by omega
        rw [List.getElem?_take_of_lt hj]
        generalize j / 4 = p at *
        generalize hq : j % 4 = q at *
        have hq4 : q < 4 := by omega
        subst ej
        rw [itvs_at (by simp; omega) (by simp; omega) hq4, itvs_at (by omega) (by omega) hq4]
        simp
      · rw [List.getElem?_eq_none (by rw [itvs_length (by simp; omega)]; simp; omega), List.getElem?_eq_none (by simp; omega)]
    rw [e]
    rcases h3.at_ with h0 | ⟨b, off, rfl, hc⟩
    · left; rw [h0]; simp
    · right
      exact ⟨b, off, rfl, fun j hj => by simp at hj; rw [List.getElem_take]; exact hc j (by omega)⟩
  · have hj' : j < k ∧ j < ss.length := by simp at hj; omega
    have h5 := h4 j hj'.2
    have e : nthI (L.take k) j = nthI L j := by
      rw [nthI_get (by simp; omega), nthI_get (by omega), List.getElem_take]
    rw [e]; simpa using h5
end
/-- A row of items of the call's own is read. -/
theorem rd_ownN {w : World} {base n size : Nat} {e : TypeId} {v : Value} {cs : List Value} (hs0 : 0 < size) (h : w.ownsRow base e size v n cs) : ∃ A c, v = .slice A n c ∧ cs.length = n * size ∧ Rd w A n c cs := by
  have hl : cs.length = n * size := h.1
  rcases h.2 with ⟨rfl, h0⟩ | ⟨g, cap, cur, rfl, hb, hh, hn, hc, hs, ht⟩
  · subst h0
    exact ⟨none, 0, rfl, hl, ⟨Nat.le_refl _, by omega, .inl (List.eq_nil_of_length_eq_zero (by simpa using hl))⟩⟩
  · refine ⟨_, cap, rfl, hl, ⟨hn, by simpa [maxLen] using hc, .inr ⟨g, 0, rfl, fun j hj => ?_⟩⟩⟩
    have := h.cells (g := g) rfl j cs[j] (by simp)
    have ha : (⟨g, 0, none⟩ : Addr).add j = ⟨g, 0 + j, none⟩ := by unfold Addr.add; split <;> simp_all
    rwa [ha] at this
section
variable {P : Program} {ops : Array Oper} {o : Oper} {a : Act} {Q : Exit → Act → World → Prop}
/-- 'append(s, y)' of a struct of several cells, in a plain region. -/
theorem wpList_pushN {Wg : World} (W : World) {rest : List Oper} (hgd : o.guard = none) (s x : Operand) (t e : TypeId)
    (ho : o.op = .call { callee := .builtin .append, args := #[s, x], argTypes := #[t, t] }) (base : Nat) (z : Value) (size bytes : Nat)
    (ht : P.underlying t = some (.slice e)) (hinfo : (P.info? e).map (fun i => (i.zero, i.size, i.bytes)) = some (some z, size, bytes)) (hz : z.cells.size = size) (hs0 : 0 < size) (hb0 : 0 < bytes)
    (v : Value) (n : Nat) (xs ys : List Value) (hs : a.eval s = v) (hx : a.eval x = .slice (some ⟨W.heap.size, 0, none⟩) 1 1) (hys : ys.length = size) (h1 : ∀ u ∈ ys, u.oneCell' = true)
    (HO : W.ownsRow base e size v n xs) (hbase : base ≤ W.heap.size) (hl : (n + 1) * bytes ≤ 140737488355328) (hW : Wg = W.alloc (.cells ys.toArray e))
    (h : ∀ g cap w1, w1.ownsRow base e size (.slice (some ⟨g, 0, none⟩) (n + 1) cap) (n + 1) (xs ++ ys) → W.grownBy w1 v.ownBlock → (v.ownBlock = some g ∨ W.heap.size ≤ g) → g < w1.heap.size → wpList P ops Q rest (a.put o.dst (.slice (some ⟨g, 0, none⟩) (n + 1) cap)) w1) :
    wpList P ops Q (o :: rest) a Wg := by
  subst hW
  refine wpList_plain hgd fun K hK => ?_
  obtain ⟨i0, hi, hzz⟩ := Option.map_eq_some_iff.1 hinfo
  simp only [Prod.mk.injEq] at hzz
  obtain ⟨hz0, hz1, hz2⟩ := hzz
  have hlen : n + 1 ≤ 140737488355328 := Nat.le_trans (Nat.le_mul_of_pos_right _ hb0) hl
  obtain ⟨v1, w1, hr, hown, hg, hnil, hat⟩ := run_append_own_at (P := P) (W.alloc (.cells ys.toArray e)) base t o.type e i0 z size bytes ht hi hz0 hz1 hz2 hz hs0 v n xs (HO.alloc _) ⟨W.heap.size, 0, none⟩ 1 1 ys (by rw [hys]; simp)
    (fun j u hu => by
      have hj := (List.getElem?_eq_some_iff.1 hu).1
      rw [Addr.add_lit, Nat.zero_add, blk_cell (heap_alloc_new W _) j]; simpa using hu) h1 (by simp only [maxLen]; omega) hl (by simp; omega)
  obtain ⟨g, cap, rfl, _, hlt⟩ := hown.form (by omega)
  unfold Oper.wp execOp
  simp only [ho, resolve, invoke, builtin, Sem.run_bind, Sem.run_pure, Result.andThen_ok, List.map_toArray, List.map_cons, List.map_nil, hs, hx, hr]
  refine hK _ _ (h g cap w1 hown (World.grownBy.trans (World.grownBy_alloc W _ _) hg) ?_ hlt)
  rcases hat with hat | hat
  · exact .inl (by rw [← hat]; rfl)
  · right
    have : g = (W.alloc (.cells ys.toArray e)).heap.size := by simpa [Value.ownBlock] using hat
    rw [this]; simp
end
end Go.Sel.Mer
