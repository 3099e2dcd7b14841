/- Walks of graph: Thin. -/
import Derived.Test.YtpicagcapgjiaaaGra7
import Derived.Test.YtpicagcapgjiaaaGra10
import Derived.Test.YtpicagcapgjiaaaGraR
import Derived.Test.YtpicagcapgjiaaaSel8
set_option linter.unusedSimpArgs false
set_option linter.unusedVariables false
namespace Go.Proofs.Ytpicagcapgjiaaa
open Go.RowKit Go.Sel Go.Sel.Gra Go.Shelf

attribute [local go_sem] Oper.semAt_some

/-- What is asked of the sort: that it turns a falling row of the call's own. -/
def SortC (xs : List Int) : Prop := ∀ (v : Value) (base : Nat) (W : World), W.ownsRow base 3 1 v xs.length (iv .i64 xs) →
  Calls Try.prog 75 #[v] W fun e W' => e = .returned (.tuple #[]) ∧ W'.ownsRow base 3 1 v xs.length (iv .i64 xs.reverse) ∧ Fr (fun k => v.ownBlock = some k) W W'

/-- Marks of rounds' deferred calls that are to be taken. -/
def collected (ds : List Nat) : List Deferred := ds.map fun D => { target := .collected D, args := #[] }
def Marks (ds : List Nat) (w : World) : Prop := ds.Nodup ∧ ∀ D ∈ ds, w.heap[D]? = some (.deferred (some []))
theorem leaves_all {F : Fence} {n : Nat} {P : Program} {fn : Func} {tmps : Array Value} {R : Ending → World → Prop} {base : Nat} : ∀ (ds : List Nat) (w : World), Marks ds w → (∀ D ∈ ds, base ≤ D) →
    (∀ w', Below base w w' → (∀ (k : Nat) (o : Obj), w.heap[k]? = some o → o.isCells = true → w'.heap[k]? = some o) → LeavesIn F n P fn tmps R [] .returning w') → LeavesInM F n P fn tmps R (collected ds) .returning w
  | [], w, _, _, h => h w (Below.refl _ _) (fun _ _ h _ => h)
  | D :: ds, w, hm, hb, h => by
    have hD := hm.2 D (by simp)
    refine ⟨by simp, .inl ⟨D, _, rfl, run_takeDeferred hD, ?_⟩⟩
    have hnd := List.nodup_cons.1 hm.1
    refine leaves_all (base := base) ds (w.putObj D (.deferred none)) ⟨hnd.2, fun E hE => ?_⟩ (fun E hE => hb E (by simp [hE])) fun w' hB hc => h w' ?_ ?_
    · rw [World.putObj_heap_other (fun e => hnd.1 (by rw [← e]; exact hE))]
      exact hm.2 E (by simp [hE])
    · refine ((Below.refl base w).grown (grownBy_putObj' w D _) ?_ (fun k e => by cases e; exact hb D (by simp))).trans hB
      have := (Array.getElem?_eq_some_iff.1 hD).1
      have := hb D (by simp)
      omega
    · intro k o hk ho
      refine hc k o ?_ ho
      rw [World.putObj_heap_other (fun e => by subst e; rw [hD] at hk; cases hk; cases ho)]
      exact hk

theorem operIn_append {F : Fence} {n : Nat} {P : Program} {o : Oper} {a : Act} {K : Act → World → Prop} {Q : Exit → Act → World → Prop} {W w1 : World} (s x : Operand) (t : TypeId) (ho : o.op = .call { callee := .builtin .append, args := #[s, x], argTypes := #[t, t] })
    (v u r : Value) (hs : a.eval s = v) (hx : a.eval x = u) (hrun : (Builtin.append_ #[t, t] o.type #[v, u]).run P W = .ok r w1) (h : K (a.put o.dst r) w1) : o.wpIn F n P a W K Q := by
  unfold Oper.wpIn
  refine ⟨?_, ?_⟩
  · simp [Oper.about, ho, resolve, Target.leads, Sem.run_pure]
  · rw [Oper.semAt_plain F _ _ (by rw [ho]; intro c hc'; cases hc')]
    simp [execOp, ho, resolve, invoke, builtin, hs, hx, hrun, Result.andThen]
    exact h
theorem own_own {β : Type} {base : Nat} {e : TypeId} {B : Nat} (v : β → Value) (n : β → Nat) (xs : β → List Value) : OwnFrom B (fun (s : β) W => W.ownsRow base e 1 (v s) (n s) (xs s)) := fun s W W' row h hg hr => by
  refine h.kept hg ?_
  rcases h.2 with ⟨hv, _⟩ | ⟨g, cap, cur, hv, _, hgb, _⟩
  · rw [hv]; exact .inl rfl
  · refine .inr fun e' => ?_
    rw [hv] at e'
    obtain ⟨_, o, ho, hc⟩ := hr g (by simpa [Value.ownBlock] using e'.symm)
    rw [hgb] at ho; cases ho; cases hc
def nilS : Value := .slice none 0 0
/-- Where Thin stands when k rows are over. -/
structure ThinSt (D : List (List Int)) (n go gu base : Nat) (w4 : World) (k : Nat) (wr : World) : Prop where
  rows : ∃ os us : List Value, os.length = n ∧ us.length = n ∧ Bk wr go 23 os ∧ Bk wr gu 87 us ∧
    (∀ j, j < k → ∃ v, os[j]? = some v ∧ wr.ownsRow base 3 1 v (thinRow D j).length (iv .i64 (thinRow D j))) ∧
    (∀ j, k ≤ j → j < n → os[j]? = some nilS) ∧
    (∀ j, j < k → ∃ u, us[j]? = some (.slice (some ⟨u, 0, none⟩) n n) ∧ base ≤ u ∧ Bk wr u 4 (bv (aheadL D j)))
  fr : Fr (fun x => x = go ∨ x = gu) w4 wr

/-- What a round of Thin leaves: for the outer loop's law. -/
theorem thin_done {W W2 W' w6 : World} {g0 row base k m : Nat} {v v2 : Value} {os vs cs : List Value} {xs2 : List Int} (hB : w6.heap.size = base) (hg0 : g0 < row) (hrow : row < base)
    (F2 : Fr (fun x => x = g0 ∨ v.ownBlock = some x) W W2) (F3 : Fr (· = row) W2 W') (hown : W.ownsRow base 3 1 v m cs) (hgo : Bk W g0 23 vs)
    (hgo2 : Bk W2 g0 23 (os.set k v2)) (hown2 : W2.ownsRow base 3 1 v2 xs2.length (iv .i64 xs2)) (hfr : Fr (fun x => x = g0 ∨ x = row) w6 W) :
    KeepsFrom w6.heap.size W W' ∧ KeepC (· = row) W W' ∧ Bk W' g0 23 (os.set k v2) ∧ W'.ownsRow base 3 1 v2 xs2.length (iv .i64 xs2) ∧ Fr (fun x => x = g0 ∨ x = row) w6 W' := by
  have FW : Fr (fun x => x = g0 ∨ x = row ∨ v.ownBlock = some x) W W' := (F2.mono (fun j _ h => by rcases h with h | h; exact .inl h; exact .inr (.inr h))).trans (F3.mono (fun j _ h => .inr (.inl h)))
  have typ : ∀ r, v.ownBlock = some r → base ≤ r ∧ ∃ cur, W.heap[r]? = some (.cells cur 3 (0, 0)) := fun r hr => by
    rcases hown.2 with ⟨hv, _⟩ | ⟨g, cap, cur, hv, hb, hgb, _⟩
    · rw [hv] at hr; cases hr
    · rw [hv] at hr
      have : g = r := by simpa [Value.ownBlock] using hr
      subst this
      exact ⟨hb, cur, hgb⟩
  refine ⟨⟨FW.size, fun r o hb ho hc => ?_⟩, ⟨fun r cs' hs ho => ?_⟩, F3.far hgo2 (by show ¬ (g0 = row); omega), own_same hown2 (fun r hr => ?_), ?_⟩
  · refine (FW.block r (Array.getElem?_eq_some_iff.1 ho).1 (fun h => ?_)).trans ho
    rcases h with h | h | h
    · omega
    · omega
    · obtain ⟨_, cur, h2⟩ := typ r h
      rw [ho] at h2; cases h2; cases hc
  · refine (FW.block r (Array.getElem?_eq_some_iff.1 ho).1 (fun h => ?_)).trans ho
    rcases h with h | h | h
    · subst h
      have hgo' : W.heap[r]? = some (.cells vs.toArray 23 (0, 0)) := hgo
      rw [ho] at hgo'; cases hgo'
    · exact hs h
    · obtain ⟨_, cur, h2⟩ := typ r h
      rw [ho] at h2; cases h2
  · have h1 := hown2.lt r hr
    refine F3.block r h1.2 (fun h => ?_)
    have := h1.1
    omega
  · refine ⟨FW.os.trans hfr.os, FW.tape.trans hfr.tape, FW.output.trans hfr.output, Nat.le_trans hfr.size FW.size, fun r hr hs => (FW.block r (Nat.lt_of_lt_of_le hr hfr.size) (fun h => ?_)).trans (hfr.block r hr hs)⟩
    rcases h with h | h | h
    · exact hs (.inl h)
    · exact hs (.inr h)
    · have := (typ r h).1
      omega
theorem own_base {w : World} {B B' m : Nat} {e : TypeId} {v : Value} {xs : List Value} (h : w.ownsRow B e 1 v m xs) (hB : B' ≤ B) : w.ownsRow B' e 1 v m xs := by
  refine ⟨h.1, ?_⟩
  rcases h.2 with h' | ⟨g, cap, cur, h1, h2, h3⟩
  · exact .inl h'
  · exact .inr ⟨g, cap, cur, h1, by omega, h3⟩
/-- Where Thin stands when one more row is over. -/
theorem thin_next {D : List (List Int)} {n g0 k m : Nat} {w4 wr w6 W w9 : World} {v : Value} {os us cs : List Value} {ds : List Nat} {Dd : Nat} (hk : k < n) (hg : w4.heap.size = g0 + 1 + 1 + 1 + 1) (hle : w4.heap.size ≤ wr.heap.size) (hs6 : w6.heap.size = wr.heap.size + 4)
    (hol : os.length = n) (hul : us.length = n) (HV : ∀ j, j < k → ∃ v, os[j]? = some v ∧ wr.ownsRow w4.heap.size 3 1 v (thinRow D j).length (iv .i64 (thinRow D j)))
    (HNIL : ∀ j, k ≤ j → j < n → os[j]? = some nilS) (HUP : ∀ j, j < k → ∃ u, us[j]? = some (.slice (some ⟨u, 0, none⟩) n n) ∧ w4.heap.size ≤ u ∧ Bk wr u 4 (bv (aheadL D j)))
    (HFR : Fr (fun x => x = g0 ∨ x = g0 + 1 + 1) w4 wr) (HFw : Fr (· = g0 + 1 + 1) wr w6) (HFRW : Fr (fun x => x = g0 ∨ x = wr.heap.size + 1) w6 W) (HF9 : Fr (fun x => v.ownBlock = some x) W w9)
    (HB6 : Bk w6 (g0 + 1 + 1) 87 (us.set k (.slice (some ⟨wr.heap.size + 1, 0, none⟩) n n))) (HGO : Bk W g0 23 (os.set k v)) (HROW : Bk W (wr.heap.size + 1) 4 (bv (aheadL D k)))
    (hown9 : w9.ownsRow (wr.heap.size + 4) 3 1 v (thinRow D k).reverse.length (iv .i64 (thinRow D k).reverse.reverse)) (hownW : W.ownsRow (wr.heap.size + 4) 3 1 v m cs)
    (hK : W.heap[Dd]? = some (.deferred (some []))) (hD : w6.heap.size ≤ Dd) (HMK : Marks ds wr) (HDS : ∀ E ∈ ds, w4.heap.size ≤ E) :
    ThinSt D n g0 (g0 + 1 + 1) w4.heap.size w4 (k + 1) w9 ∧ Marks (Dd :: ds) w9 ∧ ∀ E ∈ Dd :: ds, w4.heap.size ≤ E := by
  have hv : ∀ x, v.ownBlock = some x → wr.heap.size + 4 ≤ x := fun x hx => own_row hownW x hx
  have hW : w6.heap.size ≤ W.heap.size := HFRW.size
  -- what lay before the round, but for the two tables, lies on
  have far : ∀ x, x < wr.heap.size → x ≠ g0 → x ≠ g0 + 1 + 1 → w9.heap[x]? = wr.heap[x]? := fun x h1 h2 h3 => by
    rw [HF9.block x (by omega) (fun h => by have := hv x h; omega), HFRW.block x (by omega) (fun h => by rcases h with h | h <;> omega), HFw.block x h1 h3]
  have e1 : (thinRow D k).reverse.reverse = thinRow D k := List.reverse_reverse _
  rw [e1, List.length_reverse] at hown9
  refine ⟨⟨⟨os.set k v, us.set k (.slice (some ⟨wr.heap.size + 1, 0, none⟩) n n), by simpa using hol, by simpa using hul, HF9.far HGO (fun h => by have := hv _ h; omega), HF9.far (HFRW.far HB6 (by omega)) (fun h => by have := hv _ h; omega), ?_, ?_, ?_⟩, ?_⟩, ⟨?_, ?_⟩, ?_⟩
  · intro j hj
    by_cases e : j = k
    · subst e
      exact ⟨v, by rw [List.getElem?_set_self (by omega)], own_base hown9 (by omega)⟩
    · obtain ⟨u, h1, h2⟩ := HV j (by omega)
      refine ⟨u, by rw [List.getElem?_set_ne (Ne.symm e)]; exact h1, own_same h2 (fun r hr => ?_)⟩
      have := h2.lt r hr
      exact far r this.2 (by omega) (by omega)
  · intro j h1 h2
    rw [List.getElem?_set_ne (by omega)]
    exact HNIL j (by omega) h2
  · intro j hj
    by_cases e : j = k
    · subst e
      exact ⟨wr.heap.size + 1, by rw [List.getElem?_set_self (by omega)], by omega, HF9.far HROW (fun h => by have := hv _ h; omega)⟩
    · obtain ⟨u, h1, h2, h3⟩ := HUP j (by omega)
      refine ⟨u, by rw [List.getElem?_set_ne (Ne.symm e)]; exact h1, h2, ?_⟩
      exact (far u h3.lt (by omega) (by omega)).trans h3
  · refine ⟨((HF9.os.trans HFRW.os).trans HFw.os).trans HFR.os, ((HF9.tape.trans HFRW.tape).trans HFw.tape).trans HFR.tape, ((HF9.output.trans HFRW.output).trans HFw.output).trans HFR.output, by have := HF9.size; omega, fun x hx hs => ?_⟩
    rw [far x (by omega) (fun h => hs (.inl h)) (fun h => hs (.inr h))]
    exact HFR.block x hx hs
  · refine List.nodup_cons.2 ⟨fun h => ?_, HMK.1⟩
    have := (Array.getElem?_eq_some_iff.1 (HMK.2 Dd h)).1
    omega
  · intro E hE
    rcases List.mem_cons.1 hE with rfl | hE
    · refine (HF9.block E (Array.getElem?_eq_some_iff.1 hK).1 (fun h => ?_)).trans hK
      rcases hownW.2 with ⟨h1, _⟩ | ⟨g, cap, cur, h1, _, h2, _⟩
      · rw [h1] at h; cases h
      · rw [h1] at h
        have : g = E := by simpa [Value.ownBlock] using h
        subst this
        rw [hK] at h2; cases h2
    · have h1 := HMK.2 E hE
      have h2 := (Array.getElem?_eq_some_iff.1 h1).1
      have h3 := HDS E hE
      exact (far E h2 (by omega) (by omega)).trans h1
  · intro E hE
    rcases List.mem_cons.1 hE with rfl | hE
    · omega
    · exact HDS E hE

/-- A block of slices whose rows are known. -/
theorem dp_of {w : World} {g0 n : Nat} {os : List Value} {E : List (List Int)} (hn : n ≤ 9223372036854775807) (hl : E.length = n) (ho : os.length = n) (hb : Bk w g0 23 os)
    (h : ∀ j, j < n → ∃ A m c, os[j]? = some (.slice A m c) ∧ (nth E j).length = m ∧ Rd w A m c (iv .i64 (nth E j))) : Dp w (some ⟨g0, 0, none⟩) n n E := by
  have h' : ∀ j : Fin n, ∃ s : Option Addr × Nat × Nat, os[j.1]? = some (sv s) ∧ (nth E j.1).length = s.2.1 ∧ Rd w s.1 s.2.1 s.2.2 (iv .i64 (nth E j.1)) := fun j => by
    obtain ⟨A, m, c, h1, h2, h3⟩ := h j.1 j.2
    exact ⟨(A, m, c), h1, h2, h3⟩
  have hos : os = (List.ofFn fun j : Fin n => Classical.choose (h' j)).map sv := by
    apply List.ext_getElem?
    intro i
    by_cases hi : i < n
    · rw [(Classical.choose_spec (h' ⟨i, hi⟩)).1]
      simp [hi]
    · rw [List.getElem?_eq_none (by omega), List.getElem?_eq_none (by simp; omega)]
  refine Dp.mk_ (List.ofFn fun j : Fin n => Classical.choose (h' j)) hl (by simp) ?_ ?_
  · rw [← hos]
    exact hb.rd n n (Nat.le_refl _) hn
  · intro j hj
    have hj' : j < n := by simpa using hj
    have := (Classical.choose_spec (h' ⟨j, hj'⟩)).2
    simpa using this

theorem mkII (n : Nat) (hn : n ≤ 1000) (w : World) : (Instr.makeSlice 22 (.int .i64 (n : Int)) (.int .i64 (n : Int))).run Try.prog w = .ok (.slice (some ⟨w.heap.size, 0, none⟩) n n) (w.alloc (.cells (List.replicate n nilS).toArray 23)) :=
  run_makeN 22 23 (.slice none 0 0) 24 Try.underlying22 (by kernel_rfl) rfl n (by omega) (by omega) w
theorem mkBB (n : Nat) (hn : n ≤ 1000) (w : World) : (Instr.makeSlice 124 (.int .i64 (n : Int)) (.int .i64 (n : Int))).run Try.prog w = .ok (.slice (some ⟨w.heap.size, 0, none⟩) n n) (w.alloc (.cells (List.replicate n nilS).toArray 87)) :=
  run_makeN 124 87 (.slice none 0 0) 24 Try.underlying124 (by kernel_rfl) rfl n (by omega) (by omega) w

set_option maxRecDepth 100000 in
set_option maxHeartbeats 8000000 in
theorem Thin_any (A : Option Addr) (n c : Nat) (D : List (List Int)) (w : World) (hD : Dp w A n c D) (hsort : rightD D = true → ∀ i, i < n → SortC (thinRow D i).reverse) :
    Calls Try.prog 58 #[.slice A n c] w fun e w' => (∃ A' c', e = .returned (.slice A' (thinD D).length c') ∧ Dp w' A' (thinD D).length c' (thinD D)) ∧ Below w.heap.size w w' := by
  have hl := hD.len
  have l1 := hD.le
  have l2 := hD.cap
  have HD := Lib.hid hD
  have HL := Lib.hid hl
  have HSORT := Lib.hid hsort
  clear hD hsort
  cases hr : rightD D with
  | false =>
    have HR := Lib.hid hr
    have HE : Hid (thinD D = []) := by show _ = _; simp [thinD, hr]
    rw [HE.out]
    clear hl hr
    refine (callsIn_wide (n := 9)).1 ?_
    refine callsIn_of_wp_marks Try.func58 rfl trivial ?_ rfl
    simp only [Try.ntmps58, List.size_toArray, List.length_cons, List.length_nil, Nat.reduceAdd, Nat.reduceSub, Array.replicate_succ, Array.replicate_zero, List.push_toArray, List.append_toArray, List.nil_append, List.cons_append]
    refine wpIn_wide.2 ?_
    go_wp2_with (go_at_call 16; (with_reducible refine (Right_any A n c D _ HD.out).mono ?_); rw [HR.out]; rintro e w1 ⟨rfl, hB⟩; have HB1 := Lib.hid hB; clear hB)
    exact ⟨_, results_tmp rfl _ _ _, ⟨none, 0, rfl, Dp.nil (by omega)⟩, HB1.out⟩
  | true =>
    have h256 := (right_iff.1 hr).1
    have hn : n ≤ 1000 := by omega
    have HR := Lib.hid hr
    have hmk1 := mkII n hn
    have hmk2 := mkBB n hn
    clear hl hr h256
    refine (callsIn_wide (n := 9)).1 ?_
    refine callsIn_of_wp_marks Try.func58 rfl trivial ?_ rfl
    simp only [Try.ntmps58, List.size_toArray, List.length_cons, List.length_nil, Nat.reduceAdd, Nat.reduceSub, Array.replicate_succ, Array.replicate_zero, List.push_toArray, List.append_toArray, List.nil_append, List.cons_append]
    refine wpIn_wide.2 ?_
    go_upto_block 0 with (go_at_call 16; (with_reducible refine (Right_any A n c D _ HD.out).mono ?_); rw [HR.out]; rintro e w1 ⟨rfl, hB⟩; have HB1 := Lib.hid hB; clear hB)
    have e1 : Array.replicate n nilS = (List.replicate n nilS).toArray := by simp
    have HBo : Hid (Bk ((((w1.alloc (.cells (Array.replicate n nilS) 23)).alloc (.cells #[.slice (some ⟨w1.heap.size, 0, none⟩) n n] 22)).alloc (.cells (Array.replicate n nilS) 87)).alloc (.cells #[.slice (some ⟨w1.heap.size + 1 + 1, 0, none⟩) n n] 124)) w1.heap.size 23 (List.replicate n nilS)) := by
      show Bk _ _ _ _
      rw [e1]
      exact (((Bk.new w1 _ _).keep (below_al _ _)).keep (below_al _ _)).keep (below_al _ _)
    have HBu : Hid (Bk ((((w1.alloc (.cells (Array.replicate n nilS) 23)).alloc (.cells #[.slice (some ⟨w1.heap.size, 0, none⟩) n n] 22)).alloc (.cells (Array.replicate n nilS) 87)).alloc (.cells #[.slice (some ⟨w1.heap.size + 1 + 1, 0, none⟩) n n] 124)) (w1.heap.size + 1 + 1) 87 (List.replicate n nilS)) := by
      show Bk _ _ _ _
      rw [e1]
      have h := (Bk.new ((w1.alloc (.cells (List.replicate n nilS).toArray 23)).alloc (.cells #[.slice (some ⟨w1.heap.size, 0, none⟩) n n] 22)) 87 (List.replicate n nilS)).keep (below_al _ (.cells #[.slice (some ⟨w1.heap.size + 1 + 1, 0, none⟩) n n] 124))
      simp only [World.size_alloc] at h
      exact h
    have HC3 : Hid (((((w1.alloc (.cells (Array.replicate n nilS) 23)).alloc (.cells #[.slice (some ⟨w1.heap.size, 0, none⟩) n n] 22)).alloc (.cells (Array.replicate n nilS) 87)).alloc (.cells #[.slice (some ⟨w1.heap.size + 1 + 1, 0, none⟩) n n] 124)).cell? ⟨w1.heap.size + 1, 0, none⟩ = some (.slice (some ⟨w1.heap.size, 0, none⟩) n n)) := by
      have h := new_cell (w1.alloc (.cells (Array.replicate n nilS) 23)) #[.slice (some ⟨w1.heap.size, 0, none⟩) n n] 22 0 _ rfl
      simp only [World.size_alloc] at h
      exact keep_cell (keep_cell h (below_al _ _)) (below_al _ _)
    have HC4 : Hid (((((w1.alloc (.cells (Array.replicate n nilS) 23)).alloc (.cells #[.slice (some ⟨w1.heap.size, 0, none⟩) n n] 22)).alloc (.cells (Array.replicate n nilS) 87)).alloc (.cells #[.slice (some ⟨w1.heap.size + 1 + 1, 0, none⟩) n n] 124)).cell? ⟨w1.heap.size + 1 + 1 + 1, 0, none⟩ = some (.slice (some ⟨w1.heap.size + 1 + 1, 0, none⟩) n n)) := by
      have h := new_cell (((w1.alloc (.cells (Array.replicate n nilS) 23)).alloc (.cells #[.slice (some ⟨w1.heap.size, 0, none⟩) n n] 22)).alloc (.cells (Array.replicate n nilS) 87)) #[.slice (some ⟨w1.heap.size + 1 + 1, 0, none⟩) n n] 124 0 _ rfl
      simp only [World.size_alloc] at h
      exact h
    have HW4 : Hid (Below w.heap.size w ((((w1.alloc (.cells (Array.replicate n nilS) 23)).alloc (.cells #[.slice (some ⟨w1.heap.size, 0, none⟩) n n] 22)).alloc (.cells (Array.replicate n nilS) 87)).alloc (.cells #[.slice (some ⟨w1.heap.size + 1 + 1, 0, none⟩) n n] 124))) := below_then HB1.out (below_then (below_then (below_then (below_al _ _) (below_al _ _)) (below_al _ _)) (below_al _ _))
    have hs4 : ((((w1.alloc (.cells (Array.replicate n nilS) 23)).alloc (.cells #[.slice (some ⟨w1.heap.size, 0, none⟩) n n] 22)).alloc (.cells (Array.replicate n nilS) 87)).alloc (.cells #[.slice (some ⟨w1.heap.size + 1 + 1, 0, none⟩) n n] 124)).heap.size = w1.heap.size + 1 + 1 + 1 + 1 := by simp
    have hg0 := HB1.out.size
    clear hmk1 hmk2 HB1 e1
    generalize ((((w1.alloc (.cells (Array.replicate n nilS) 23)).alloc (.cells #[.slice (some ⟨w1.heap.size, 0, none⟩) n n] 22)).alloc (.cells (Array.replicate n nilS) 87)).alloc (.cells #[.slice (some ⟨w1.heap.size + 1 + 1, 0, none⟩) n n] 124)) = w4 at *
    generalize w1.heap.size = g0 at *
    have hmk := mkB n hn
    go_wp2_with (fail)
    refine wp_loop (fun a' wr => ∃ (k : Nat) (ds : List Nat) (u5 u6 u21 u22 u23 u24 u25 u26 u27 u28 u29 u30 u31 u32 u33 u71 u72 u73 u74 u75 u76 : Value), k ≤ n ∧ ThinSt D n g0 (g0 + 1 + 1) w4.heap.size w4 k wr ∧ Marks ds wr ∧ (∀ E ∈ ds, w4.heap.size ≤ E) ∧ a' = { tmps := #[.slice A n c, undef, .slice none 0 0, .pointer (some ⟨g0 + 1, 0, none⟩), .pointer (some ⟨g0 + 1 + 1 + 1, 0, none⟩), u5, u6, undef, undef, .slice A n c, .bool true, .bool false, .slice A n c, .int .i64 (n : Int), .slice (some ⟨g0, 0, none⟩) n n, .slice A n c, .int .i64 (n : Int), .slice (some ⟨g0 + 1 + 1, 0, none⟩) n n, .slice A n c, .int .i64 (n : Int), .int .i64 (k : Int), u21, u22, u23, u24, u25, u26, u27, u28, u29, u30, u31, u32, u33, undef, undef, undef, undef, undef, undef, undef, undef, undef, undef, undef, undef, undef, undef, undef, undef, undef, undef, undef, undef, undef, undef, undef, undef, undef, undef, undef, undef, undef, undef, undef, undef, undef, undef, undef, undef, undef, u71, u72, u73, u74, u75, u76, undef], defers := collected ds }) (fun a' _ => n - (intOf (a'.tmps.getD 20 undef)).toNat) ?start ?round
    case start =>
      refine ⟨0, [], undef, undef, undef, undef, undef, undef, undef, undef, undef, undef, undef, undef, undef, undef, undef, undef, undef, undef, undef, undef, undef, by omega, ⟨⟨_, _, by simp, by simp, HBo.out, HBu.out, fun j h => by omega, fun j _ h => by simp [h], fun j h => by omega⟩, Fr.refl _ _⟩, ⟨by simp, by simp⟩, by simp, rfl⟩
    case round =>
      rintro a' wr ⟨k, ds, u5, u6, u21, u22, u23, u24, u25, u26, u27, u28, u29, u30, u31, u32, u33, u71, u72, u73, u74, u75, u76, hk, HT, HM, hds, rfl⟩
      obtain ⟨⟨os, us, ho, hu, hbo, hbu, hv, hnil, hup⟩, hfr⟩ := HT
      have HWr : Hid (Below w.heap.size w wr) := HW4.out.trans (hfr.below HW4.out.size (fun j h => by rcases h with rfl | rfl <;> omega))
      have hc3 : wr.cell? ⟨g0 + 1, 0, none⟩ = some (.slice (some ⟨g0, 0, none⟩) n n) := by
        rw [← HC3.out]; exact hfr.cell (by show ¬ (g0 + 1 = g0 ∨ g0 + 1 = g0 + 1 + 1); omega) HC3.out
      have hc4 : wr.cell? ⟨g0 + 1 + 1 + 1, 0, none⟩ = some (.slice (some ⟨g0 + 1 + 1, 0, none⟩) n n) := by
        rw [← HC4.out]; exact hfr.cell (by show ¬ (g0 + 1 + 1 + 1 = g0 ∨ g0 + 1 + 1 + 1 = g0 + 1 + 1); omega) HC4.out
      have HFR := Lib.hid hfr
      have HBO := Lib.hid hbo
      have HBU := Lib.hid hbu
      have HV := Lib.hid hv
      have HNIL := Lib.hid hnil
      have HUP := Lib.hid hup
      have HOL := Lib.hid ho
      have HUL := Lib.hid hu
      have HMK := Lib.hid HM
      have HDS := Lib.hid hds
      have hszr : w4.heap.size ≤ wr.heap.size := hfr.size
      clear hfr hbo hbu hv hnil hup ho hu HM hds
      by_cases hlt : k < n
      · obtain ⟨b, off, A', n', c', rfl, hc, hn', hrd⟩ := (HD.out.below HWr.out).at_ hlt
        have hl1 := hrd.le
        have hl2 := hrd.cap
        have HNL := Lib.hid hn'
        have HRD := Lib.hid hrd
        go_upto_region 8 with (fail)
        have HSZ : Hid ((wr.alloc (.cells #[.int .i64 (k : Int)] 3)).heap.size = wr.heap.size + 1) := by show _ = _; simp
        have hi5 : (wr.alloc (.cells #[.int .i64 (k : Int)] 3)).cell? ⟨wr.heap.size, 0, none⟩ = some (.int .i64 (k : Int)) := new_cell wr #[.int .i64 (k : Int)] 3 0 _ rfl
        have hi3 := keep_cell hc3 (below_al wr (.cells #[.int .i64 (k : Int)] 3))
        have hi4 := keep_cell hc4 (below_al wr (.cells #[.int .i64 (k : Int)] 3))
        have HFi : Hid (Fr (· = g0 + 1 + 1) wr (wr.alloc (.cells #[.int .i64 (k : Int)] 3))) := fr_of_below (below_al _ _) _
        have HBi : Hid (Bk (wr.alloc (.cells #[.int .i64 (k : Int)] 3)) (g0 + 1 + 1) 87 us) := HBU.out.keep (below_al _ _)
        generalize wr.alloc (.cells #[.int .i64 (k : Int)] 3) = wi at *
        have hgk := HBi.out.cell k (by have := HUL.out; omega)
        have hgf := HBi.out.free k
        generalize us[k]'_ = uold at hgk
        have hx4 := fun o => keep_cell hi4 (below_al wi o)
        have hx5 := fun o => keep_cell hi5 (below_al wi o)
        have hxg := fun o => keep_cell hgk (below_al wi o)
        have hsw : g0 + 1 + 1 + 1 + 1 ≤ wr.heap.size := by omega
        have hswi : wi.heap.size = wr.heap.size + 1 := HSZ.out
        have hfg := fun o => (HBi.out.keep (below_al wi o)).free k
        have HF8 : Hid (Fr (· = g0 + 1 + 1) wr ((wi.alloc (.cells (bv (falses n)).toArray 4)).setCell ⟨g0 + 1 + 1, k, none⟩ (.slice (some ⟨wr.heap.size + 1, 0, none⟩) n n)).drew) := ((HFi.out.alloc _).setCell (.inl rfl) _).drewN 1
        have HB8 : Hid (Bk ((wi.alloc (.cells (bv (falses n)).toArray 4)).setCell ⟨g0 + 1 + 1, k, none⟩ (.slice (some ⟨wr.heap.size + 1, 0, none⟩) n n)).drew (g0 + 1 + 1) 87 (us.set k (.slice (some ⟨wr.heap.size + 1, 0, none⟩) n n))) := (HBi.out.keep (below_al _ _)).set k _
        have HR8 : Hid (Bk ((wi.alloc (.cells (bv (falses n)).toArray 4)).setCell ⟨g0 + 1 + 1, k, none⟩ (.slice (some ⟨wr.heap.size + 1, 0, none⟩) n n)).drew (wr.heap.size + 1) 4 (bv (falses n))) := by
          have h := Bk.new wi 4 (bv (falses n))
          rw [hswi] at h
          exact h.far (by show g0 + 1 + 1 ≠ wr.heap.size + 1; omega) _
        have HI8 : Hid (((wi.alloc (.cells (bv (falses n)).toArray 4)).setCell ⟨g0 + 1 + 1, k, none⟩ (.slice (some ⟨wr.heap.size + 1, 0, none⟩) n n)).drew.cell? ⟨wr.heap.size, 0, none⟩ = some (.int .i64 (k : Int))) := by
          show World.cell? ((wi.alloc (.cells (bv (falses n)).toArray 4)).setCell ⟨g0 + 1 + 1, k, none⟩ (.slice (some ⟨wr.heap.size + 1, 0, none⟩) n n)) _ = _
          rw [World.cell?_setCell_other _ _ _ _ (by simp <;> omega)]
          exact hx5 _
        have HS8 : Hid (((wi.alloc (.cells (bv (falses n)).toArray 4)).setCell ⟨g0 + 1 + 1, k, none⟩ (.slice (some ⟨wr.heap.size + 1, 0, none⟩) n n)).drew.heap.size = wr.heap.size + 2) := by show _ = _; simp [World.drew, hswi]
        clear hc3 hc4 hn' hrd
        go_region
        have HF5 : Hid (Fr (fun x => x = g0 ∨ x = g0 + 1 + 1) w4 ((wi.alloc (.cells (bv (falses n)).toArray 4)).setCell ⟨g0 + 1 + 1, k, none⟩ (.slice (some ⟨wr.heap.size + 1, 0, none⟩) n n)).drew) := HFR.out.trans (HF8.out.mono (fun j _ h => .inr h))
        clear hx4 hx5 hxg hfg hgk hgf hi3 hi4 hi5 HFi HBi
        generalize ((wi.alloc (.cells (bv (falses n)).toArray 4)).setCell ⟨g0 + 1 + 1, k, none⟩ (.slice (some ⟨wr.heap.size + 1, 0, none⟩) n n)).drew = w5 at *
        have hs5 : w5.heap.size = wr.heap.size + 2 := HS8.out
        have hi5 := HI8.out
        go_upto_block 2 with (go_at_call 98; (with_reducible refine (falling_any _ _ _ _ _).mono ?_); rintro e w6 ⟨rfl, rfl⟩)
        have hq1 : ((w5.alloc (.cells #[.slice A' n' c'] 23)).alloc (.cells #[.int .i64 (k : Int)] 3)).cell? ⟨wr.heap.size + 2, 0, none⟩ = some (.slice A' n' c') := by
          have h := keep_cell (new_cell w5 #[.slice A' n' c'] 23 0 _ rfl) (below_al _ (.cells #[.int .i64 (k : Int)] 3))
          rwa [hs5] at h
        have hq2 : ((w5.alloc (.cells #[.slice A' n' c'] 23)).alloc (.cells #[.int .i64 (k : Int)] 3)).cell? ⟨wr.heap.size + 2 + 1, 0, none⟩ = some (.int .i64 (k : Int)) := by
          have h := new_cell (w5.alloc (.cells #[.slice A' n' c'] 23)) #[.int .i64 (k : Int)] 3 0 _ rfl
          rwa [World.size_alloc, hs5] at h
        have HB56 : Hid (Below w5.heap.size w5 ((w5.alloc (.cells #[.slice A' n' c'] 23)).alloc (.cells #[.int .i64 (k : Int)] 3))) := below_then (below_al _ _) (below_al _ _)
        have hs6 : ((w5.alloc (.cells #[.slice A' n' c'] 23)).alloc (.cells #[.int .i64 (k : Int)] 3)).heap.size = wr.heap.size + 4 := by simp [hs5]
        have HFw : Hid (Fr (· = g0 + 1 + 1) wr ((w5.alloc (.cells #[.slice A' n' c'] 23)).alloc (.cells #[.int .i64 (k : Int)] 3))) := HF8.out.trans (fr_of_below HB56.out _)
        have HF6 : Hid (Fr (fun x => x = g0 ∨ x = g0 + 1 + 1) w4 ((w5.alloc (.cells #[.slice A' n' c'] 23)).alloc (.cells #[.int .i64 (k : Int)] 3))) := HF5.out.trans (fr_of_below HB56.out _)
        have HB6 := Lib.hid (HB8.out.keep HB56.out)
        have HR6 := Lib.hid (HR8.out.keep HB56.out)
        have HI6 := Lib.hid (keep_cell HI8.out HB56.out)
        have HC36 : Hid (((w5.alloc (.cells #[.slice A' n' c'] 23)).alloc (.cells #[.int .i64 (k : Int)] 3)).cell? ⟨g0 + 1, 0, none⟩ = some (.slice (some ⟨g0, 0, none⟩) n n)) := by
          show _ = _
          rw [← HC3.out]; exact HF6.out.cell (by show ¬ (g0 + 1 = g0 ∨ g0 + 1 = g0 + 1 + 1); omega) HC3.out
        have HC46 : Hid (((w5.alloc (.cells #[.slice A' n' c'] 23)).alloc (.cells #[.int .i64 (k : Int)] 3)).cell? ⟨g0 + 1 + 1 + 1, 0, none⟩ = some (.slice (some ⟨g0 + 1 + 1, 0, none⟩) n n)) := by
          show _ = _
          rw [← HC4.out]; exact HF6.out.cell (by show ¬ (g0 + 1 + 1 + 1 = g0 ∨ g0 + 1 + 1 + 1 = g0 + 1 + 1); omega) HC4.out
        have HG6 : Hid (Bk ((w5.alloc (.cells #[.slice A' n' c'] 23)).alloc (.cells #[.int .i64 (k : Int)] 3)) g0 23 os) := HFw.out.far HBO.out (by show ¬ (g0 = g0 + 1 + 1); omega)
        clear HF8 HF5 HB8 HR8 HI8 HS8 hi5 HB56
        generalize ((w5.alloc (.cells #[.slice A' n' c'] 23)).alloc (.cells #[.int .i64 (k : Int)] 3)) = w6 at *
        have HROW6 : Hid (Rd w6 A' n' c' (iv .i64 (nth D k))) := by
          obtain ⟨b', off', A2, n2, c2, e, hc2, _, hrd2⟩ := HD.out.at_ hlt
          cases e
          have hb' := World.block_lt_of_cell? _ _ hc2
          have : wr.cell? ⟨b, off + k, none⟩ = some (.slice A2 n2 c2) := (HWr.out.cell hb').trans hc2
          rw [hc] at this
          cases this
          exact hrd2.below (HWr.out.trans (HFw.out.below HWr.out.size (fun j h => by subst h; omega)))
        have h0own : Hid (Bk w6 g0 23 (os.set k nilS)) := by
          have h := HNIL.out k (Nat.le_refl _) hlt
          have e : os.set k nilS = os := by
            apply List.ext_getElem?
            intro i
            by_cases hik : k = i
            · subst hik; rw [List.getElem?_set_self (by have := HOL.out; omega), h]
            · rw [List.getElem?_set_ne hik]
          show Bk _ _ _ _
          rw [e]; exact HG6.out
        have hfal : bv (falses n) = bv (tFold D []).2 := by simp [tFold, falses, HL.out]
        have HR6' : Hid (Bk w6 (wr.heap.size + 1) 4 (bv (tFold D []).2)) := by
          show Bk _ _ _ _
          rw [← hfal]; exact HR6.out
        clear hfal HR6
        go_wp2_with (fail)
        refine wpIn_wide.1 (wpIn_rangeFunc_ownH (F := Fence.wide) (n := 9) rfl (by omega) (gf := 118) (lb := #[.pointer (some ⟨wr.heap.size + 2, 0, none⟩), .pointer (some ⟨wr.heap.size + 2 + 1, 0, none⟩)]) rfl trivial (enters_of Try.func118 (by kernel_rfl) rfl)
          (falling_stops 8 (by omega) (wr.heap.size + 2) (wr.heap.size + 2 + 1) k (· = wr.heap.size + 1) A' n' c' (nth D k) HNL.out (by omega) w6 (fun j h => by subst h; omega) (by omega) hq1 hq2 HROW6.out) KeepC.trans keepC_b (Below.refl _ _) (fun _ => rfl)
          (fun pre W => (∃ v, Bk W g0 23 (os.set k v) ∧ W.ownsRow (wr.heap.size + 4) 3 1 v (tFold D (pre.map fun x => (x.val : Int))).1.length (iv .i64 (tFold D (pre.map fun x => (x.val : Int))).1)) ∧ Bk W (wr.heap.size + 1) 4 (bv (tFold D (pre.map fun x => (x.val : Int))).2) ∧ Fr (fun x => x = g0 ∨ x = wr.heap.size + 1) w6 W)
          (fun _ _ _ => False)
          (fun s X Y row h hg hr => by
            obtain ⟨⟨v, h1, h2⟩, h3, h4⟩ := h
            exact ⟨⟨v, bk_own (fun _ => os.set k v) s X Y row h1 hg hr, own_own (fun _ => v) (fun s => (tFold D (s.map fun (x : MkT (marksL (nth D k) k) k) => (x.val : Int))).1.length) (fun s => iv .i64 (tFold D (s.map fun (x : MkT (marksL (nth D k) k) k) => (x.val : Int))).1) s X Y row h2 hg hr⟩, bk_own (fun s => bv (tFold D (s.map fun (x : MkT (marksL (nth D k) k) k) => (x.val : Int))).2) s X Y row h3 hg hr, fr_own (Nat.le_refl _) s X Y row h4 hg hr⟩)
          (fun _ _ _ _ _ hs _ _ => hs)
          ⟨⟨nilS, h0own.out, World.ownsRow_nil _ _ _ _⟩, HR6'.out, Fr.refl _ _⟩
          (fun x a' _ => a' = { tmps := #[.slice (some ⟨b, off, none⟩) n c, undef, .slice none 0 0, .pointer (some ⟨g0 + 1, 0, none⟩), .pointer (some ⟨g0 + 1 + 1 + 1, 0, none⟩), .pointer (some ⟨wr.heap.size, 0, none⟩), .slice A' n' c', .int .i64 (x.val : Int), undef, .slice (some ⟨b, off, none⟩) n c, .bool true, .bool false, .slice (some ⟨b, off, none⟩) n c, .int .i64 (n : Int), .slice (some ⟨g0, 0, none⟩) n n, .slice (some ⟨b, off, none⟩) n c, .int .i64 (n : Int), .slice (some ⟨g0 + 1 + 1, 0, none⟩) n n, .slice (some ⟨b, off, none⟩) n c, .int .i64 (n : Int), .int .i64 (k : Int), .bool true, .int .i64 (k : Int), .pointer (some ⟨b, off + k, none⟩), .slice A' n' c', .slice (some ⟨g0 + 1 + 1, 0, none⟩) n n, .int .i64 (k : Int), .slice (some ⟨b, off, none⟩) n c, .int .i64 (n : Int), .slice (some ⟨wr.heap.size + 1, 0, none⟩) n n, .pointer (some ⟨g0 + 1 + 1, k, none⟩), .slice A' n' c', .int .i64 (k : Int), .func (.func 118) #[] #[.pointer (some ⟨wr.heap.size + 2, 0, none⟩), .pointer (some ⟨wr.heap.size + 2 + 1, 0, none⟩)], .int .i64 (x.val : Int), undef, undef, undef, undef, undef, undef, undef, undef, undef, undef, undef, undef, undef, undef, undef, undef, undef, undef, undef, undef, undef, undef, undef, undef, undef, undef, undef, undef, undef, undef, undef, undef, undef, undef, undef, undef, u71, u72, u73, u74, u75, u76, undef], defers := [] })
          (fun _ _ _ _ _ _ hs _ _ => hs)
          ?assign ?body ?done ?stop)
        case assign =>
          intro l pre x W K hi hK
          simp only [encF]
          gi_wp2
          exact hK _ _ (KeepsFrom.refl _ _) (KeepC.refl _ _) hi rfl
        case body =>
          rintro l pre x a' W hl ⟨r, hr⟩ ⟨⟨v, hgo, hown⟩, hrow, hfr⟩ rfl hlen
          have hxd := x.2.1
          have hxm := (bit_marksL.1 x.2.2).2
          have HSN : Hid (tFold D ((pre ++ [x]).map fun x => (x.val : Int)) = tStep D (tFold D (pre.map fun x => (x.val : Int))) (x.val : Int)) := by show _ = _; rw [List.map_append]; exact tFold_snoc _ _ _
          have HPL : Hid ((tFold D (pre.map fun x => (x.val : Int))).1.length ≤ k) := by show _ ≤ _; have := tFold_fst_length D (pre.map fun x => (x.val : Int)); rw [List.length_map] at this; omega
          have HTL : Hid ((tFold D (pre.map fun x => (x.val : Int))).2.length = n) := by show _ = _; rw [tFold_length]; exact HL.out
          generalize hxv : x.val = xv at *
          generalize tFold D (pre.map fun x => (x.val : Int)) = st at *
          obtain ⟨so, su⟩ := st
          simp only at hown hrow HPL HTL HSN
          obtain ⟨uu, hu1, hu2, hu3⟩ := HUP.out xv hxd
          have hult : uu < wr.heap.size := hu3.lt
          have hulo : w4.heap.size ≤ uu := hu2
          have hlW : w6.heap.size ≤ W.heap.size := hfr.size
          have hd3 : W.cell? ⟨g0 + 1, 0, none⟩ = some (.slice (some ⟨g0, 0, none⟩) n n) := by rw [← HC36.out]; exact hfr.cell (by show ¬ (g0 + 1 = g0 ∨ g0 + 1 = wr.heap.size + 1); omega) HC36.out
          have hd4 : W.cell? ⟨g0 + 1 + 1 + 1, 0, none⟩ = some (.slice (some ⟨g0 + 1 + 1, 0, none⟩) n n) := by rw [← HC46.out]; exact hfr.cell (by show ¬ (g0 + 1 + 1 + 1 = g0 ∨ g0 + 1 + 1 + 1 = wr.heap.size + 1); omega) HC46.out
          have hd5 : W.cell? ⟨wr.heap.size, 0, none⟩ = some (.int .i64 (k : Int)) := by rw [← HI6.out]; exact hfr.cell (by show ¬ (wr.heap.size = g0 ∨ wr.heap.size = wr.heap.size + 1); omega) HI6.out
          have hgu := hfr.far HB6.out (show ¬ (g0 + 1 + 1 = g0 ∨ g0 + 1 + 1 = wr.heap.size + 1) by omega)
          have hguk := hgu.cell k (by simp; have := HUL.out; omega)
          rw [List.getElem_set_self] at hguk
          have hgud : W.cell? ⟨g0 + 1 + 1, xv, none⟩ = some (.slice (some ⟨uu, 0, none⟩) n n) := by
            have h1 : xv < us.length := by have := HUL.out; omega
            rw [hgu.cell xv (by simpa using h1), List.getElem_set_ne (by omega)]
            rw [List.getElem?_eq_getElem h1] at hu1
            exact hu1
          have hubk : Bk W uu 4 (bv (aheadL D xv)) := hfr.far (HFw.out.far hu3 (show ¬ (uu = g0 + 1 + 1) by omega)) (show ¬ (uu = g0 ∨ uu = wr.heap.size + 1) by omega)
          have hxn : xv < n := by omega
          have hrd := hrow.bit xv (by have := HTL.out; omega)
          have hrf := hrow.free xv
          have hgok := hgo.cell k (by simp; have := HOL.out; omega)
          rw [List.getElem_set_self] at hgok
          have hgof := hgo.free k
          have HGO := Lib.hid hgo
          have HOWN := Lib.hid hown
          have HROW := Lib.hid hrow
          have HFRW := Lib.hid hfr
          have HGU := Lib.hid hgu
          have HUB := Lib.hid hubk
          have HLREC := Lib.hid hr
          have HXM := Lib.hid hxm
          have HXV := Lib.hid hxv
          clear hgo hown hrow hfr hgu hubk hu1 hu2 hu3 hr hxm hxv hq1 hq2
          cases hbit : bit su xv with
          | true =>
            rw [hbit] at hrd
            have HBIT := Lib.hid hbit
            clear hbit
            have F2 : Hid (Fr (fun x => x = g0 ∨ v.ownBlock = some x) W W) := Fr.refl _ _
            have hoB := own_row HOWN.out
            have GO2 := HGO
            have OWN2 := HOWN
            have nS : ∀ x, x ≠ g0 → x < wr.heap.size + 4 → ¬ (x = g0 ∨ v.ownBlock = some x) := fun x h1 h2 h => by
              rcases h with h | h
              · exact h1 h
              · have := hoB _ h; omega
            have d4 : W.cell? ⟨g0 + 1 + 1 + 1, 0, none⟩ = some (.slice (some ⟨g0 + 1 + 1, 0, none⟩) n n) := (F2.out.cell (nS _ (by show g0 + 1 + 1 + 1 ≠ g0; omega) (by show g0 + 1 + 1 + 1 < wr.heap.size + 4; omega)) hd4).trans hd4
            have d5 : W.cell? ⟨wr.heap.size, 0, none⟩ = some (.int .i64 (k : Int)) := (F2.out.cell (nS _ (by show wr.heap.size ≠ g0; omega) (by show wr.heap.size < wr.heap.size + 4; omega)) hd5).trans hd5
            have dgk : W.cell? ⟨g0 + 1 + 1, k, none⟩ = some (.slice (some ⟨wr.heap.size + 1, 0, none⟩) n n) := (F2.out.cell (nS _ (by show g0 + 1 + 1 ≠ g0; omega) (by show g0 + 1 + 1 < wr.heap.size + 4; omega)) hguk).trans hguk
            have dgd : W.cell? ⟨g0 + 1 + 1, xv, none⟩ = some (.slice (some ⟨uu, 0, none⟩) n n) := (F2.out.cell (nS _ (by show g0 + 1 + 1 ≠ g0; omega) (by show g0 + 1 + 1 < wr.heap.size + 4; omega)) hgud).trans hgud
            have UB2 := Lib.hid (F2.out.far HUB.out (nS _ (by omega) (by omega)))
            have ROW := Lib.hid (F2.out.far HROW.out (nS _ (by omega) (by omega)))
            have hrd2 := ROW.out.bit xv (by have := HTL.out; omega)
            rw [HBIT.out] at hrd2
            have hrf2 := ROW.out.free xv
            have L2 : Hid (∃ r, W.heap[l]? = some (.loop r)) := by
              have hr := HLREC.out
              refine ⟨r, (F2.out.block l (Array.getElem?_eq_some_iff.1 hr).1 (fun h => ?_)).trans hr⟩
              rcases h with h | h
              · omega
              · rcases HOWN.out.2 with ⟨hv, _⟩ | ⟨g, cap', cur, hv, _, hgb, _⟩
                · rw [hv] at h; cases h
                · rw [hv] at h
                  have : g = l := by simpa [Value.ownBlock] using h
                  subst this
                  rw [hr] at hgb; cases hgb
            have hrow2 : wr.heap.size + 1 < W.heap.size := ROW.out.lt
            have hsz2 : w6.heap.size ≤ W.heap.size := Nat.le_trans hlW F2.out.size
            clear hrd hrf hd3 hd4 hd5 hguk hgud hgok hgof
            gi_wp2_with (refine ⟨trivial, ?_⟩; gi_at_call 64; refine (CallsIn.inRound l (callsIn_wide.2 (those_any _ _ _ _))).mono ?_; rintro e w7 ⟨rfl, rfl⟩)
            have e4 : ((W.setCell ⟨wr.heap.size + 1, xv, none⟩ (.bool true)).alloc (.cells #[.slice (some ⟨uu, 0, none⟩) n n] 87)).cell? ⟨g0 + 1 + 1 + 1, 0, none⟩ = some (.slice (some ⟨g0 + 1 + 1, 0, none⟩) n n) := keep_cell (by rw [World.cell?_setCell_other _ _ _ _ (by simp <;> omega)]; exact d4) (below_al _ _)
            have e5 : ((W.setCell ⟨wr.heap.size + 1, xv, none⟩ (.bool true)).alloc (.cells #[.slice (some ⟨uu, 0, none⟩) n n] 87)).cell? ⟨wr.heap.size, 0, none⟩ = some (.int .i64 (k : Int)) := keep_cell (by rw [World.cell?_setCell_other _ _ _ _ (by simp <;> omega)]; exact d5) (below_al _ _)
            have egk : ((W.setCell ⟨wr.heap.size + 1, xv, none⟩ (.bool true)).alloc (.cells #[.slice (some ⟨uu, 0, none⟩) n n] 87)).cell? ⟨g0 + 1 + 1, k, none⟩ = some (.slice (some ⟨wr.heap.size + 1, 0, none⟩) n n) := keep_cell (by rw [World.cell?_setCell_other _ _ _ _ (by simp <;> omega)]; exact dgk) (below_al _ _)
            have eb : ((W.setCell ⟨wr.heap.size + 1, xv, none⟩ (.bool true)).alloc (.cells #[.slice (some ⟨uu, 0, none⟩) n n] 87)).cell? ⟨W.heap.size, 0, none⟩ = some (.slice (some ⟨uu, 0, none⟩) n n) := by
              have h := new_cell (W.setCell ⟨wr.heap.size + 1, xv, none⟩ (.bool true)) #[.slice (some ⟨uu, 0, none⟩) n n] 87 0 _ rfl
              simpa using h
            have UB3 : Hid (Bk ((W.setCell ⟨wr.heap.size + 1, xv, none⟩ (.bool true)).alloc (.cells #[.slice (some ⟨uu, 0, none⟩) n n] 87)) uu 4 (bv (aheadL D xv))) := (UB2.out.far (by show wr.heap.size + 1 ≠ uu; omega) _).keep (below_al _ _)
            have ROW3 : Hid (Bk ((W.setCell ⟨wr.heap.size + 1, xv, none⟩ (.bool true)).alloc (.cells #[.slice (some ⟨uu, 0, none⟩) n n] 87)) (wr.heap.size + 1) 4 (bv (su.set xv true))) := by
              have h := (ROW.out.set xv (.bool true)).keep (below_al _ (.cells #[.slice (some ⟨uu, 0, none⟩) n n] 87))
              rw [bv_set] at h
              exact h
            have L3 : Hid (∃ r, ((W.setCell ⟨wr.heap.size + 1, xv, none⟩ (.bool true)).alloc (.cells #[.slice (some ⟨uu, 0, none⟩) n n] 87)).heap[l]? = some (.loop r)) := by
              obtain ⟨r, hr⟩ := L2.out
              exact ⟨r, (Below.heap_alloc _ _ l (by simpa using (Array.getElem?_eq_some_iff.1 hr).1)).trans ((Below.heap_setCell _ _ _ _ (show l ≠ wr.heap.size + 1 by omega)).trans hr)⟩
            have F3 : Hid (Fr (· = wr.heap.size + 1) W ((W.setCell ⟨wr.heap.size + 1, xv, none⟩ (.bool true)).alloc (.cells #[.slice (some ⟨uu, 0, none⟩) n n] 87))) := ((Fr.refl (fun x => x = wr.heap.size + 1) W).setCell (p := ⟨wr.heap.size + 1, xv, none⟩) (.inl rfl) _).alloc _
            have hs3 : ((W.setCell ⟨wr.heap.size + 1, xv, none⟩ (.bool true)).alloc (.cells #[.slice (some ⟨uu, 0, none⟩) n n] 87)).heap.size = W.heap.size + 1 := by simp
            clear nS d4 d5 dgk dgd UB2 ROW hrd2 hrf2 L2
            have hsz : (W.setCell ⟨wr.heap.size + 1, xv, none⟩ (.bool true)).heap.size = W.heap.size := by simp
            try simp only [hsz]
            generalize ((W.setCell ⟨wr.heap.size + 1, xv, none⟩ (.bool true)).alloc (.cells #[.slice (some ⟨uu, 0, none⟩) n n] 87)) = W3 at *
            have hal : (aheadL D xv).length = n := by simp [HL.out]
            obtain ⟨r3, hr3⟩ := L3.out
            have hlt3 : l < W3.heap.size := (Array.getElem?_eq_some_iff.1 hr3).1
            refine wpIn_rangeFunc_ownN (l₀ := l) (r₀ := r3) rfl hr3 (by omega) (gf := 101) (lb := #[.pointer (some ⟨W.heap.size, 0, none⟩)]) rfl trivial (enters_of Try.func101 (by kernel_rfl) rfl)
              (SeqStopsK.inRound (F := Fence.wide) l (those_stops 6 (by omega) W.heap.size uu n (· = wr.heap.size + 1) (aheadL D xv) hal hn (by show ¬ (uu = wr.heap.size + 1); omega) W3 eb UB3.out)) KeepC.trans keepC_b (Below.refl _ _) (fun _ => rfl)
              (fun (p2 : List (MkT (aheadL D xv) n)) X => Bk X (wr.heap.size + 1) 4 (bv (markAll (p2.map fun y => (y.val : Int)) (su.set xv true))) ∧ Fr (· = wr.heap.size + 1) W3 X)
              (fun _ _ _ => False)
              (fun s X Y row h hg hr => ⟨bk_own (fun (p2 : List (MkT (aheadL D xv) n)) => bv (markAll (p2.map fun y => (y.val : Int)) (su.set xv true))) s X Y row h.1 hg hr, fr_own (Nat.le_refl _) s X Y row h.2 hg hr⟩)
              (fun _ _ _ _ _ hs _ _ => hs)
              ⟨ROW3.out, Fr.refl _ _⟩
              (fun y a' _ => a' = { tmps := #[.slice (some ⟨b, off, none⟩) n c, undef, .slice none 0 0, .pointer (some ⟨g0 + 1, 0, none⟩), .pointer (some ⟨g0 + 1 + 1 + 1, 0, none⟩), .pointer (some ⟨wr.heap.size, 0, none⟩), .slice A' n' c', .int .i64 (xv : Int), .int .i64 (y.val : Int), .slice (some ⟨b, off, none⟩) n c, .bool true, .bool false, .slice (some ⟨b, off, none⟩) n c, .int .i64 (n : Int), .slice (some ⟨g0, 0, none⟩) n n, .slice (some ⟨b, off, none⟩) n c, .int .i64 (n : Int), .slice (some ⟨g0 + 1 + 1, 0, none⟩) n n, .slice (some ⟨b, off, none⟩) n c, .int .i64 (n : Int), .int .i64 (k : Int), .bool true, .int .i64 (k : Int), .pointer (some ⟨b, off + k, none⟩), .slice A' n' c', .slice (some ⟨g0 + 1 + 1, 0, none⟩) n n, .int .i64 (k : Int), .slice (some ⟨b, off, none⟩) n c, .int .i64 (n : Int), .slice (some ⟨wr.heap.size + 1, 0, none⟩) n n, .pointer (some ⟨g0 + 1 + 1, k, none⟩), .slice A' n' c', .int .i64 (k : Int), .func (.func 118) #[] #[.pointer (some ⟨wr.heap.size + 2, 0, none⟩), .pointer (some ⟨wr.heap.size + 2 + 1, 0, none⟩)], .int .i64 (xv : Int), .slice (some ⟨g0 + 1 + 1, 0, none⟩) n n, .int .i64 (k : Int), .pointer (some ⟨g0 + 1 + 1, k, none⟩), .slice (some ⟨wr.heap.size + 1, 0, none⟩) n n, .int .i64 (xv : Int), .pointer (some ⟨wr.heap.size + 1, xv, none⟩), .bool true, .bool false, undef, undef, undef, undef, undef, undef, undef, undef, undef, undef, .slice (some ⟨g0 + 1 + 1, 0, none⟩) n n, .int .i64 (k : Int), .pointer (some ⟨g0 + 1 + 1, k, none⟩), .slice (some ⟨wr.heap.size + 1, 0, none⟩) n n, .int .i64 (xv : Int), .pointer (some ⟨wr.heap.size + 1, xv, none⟩), .slice (some ⟨g0 + 1 + 1, 0, none⟩) n n, .int .i64 (xv : Int), .pointer (some ⟨g0 + 1 + 1, xv, none⟩), .slice (some ⟨uu, 0, none⟩) n n, .func (.func 101) #[] #[.pointer (some ⟨W.heap.size, 0, none⟩)], .int .i64 (y.val : Int), undef, undef, undef, undef, undef, undef, u71, u72, u73, u74, u75, u76, undef], defers := [] })
              (fun _ _ _ _ _ _ hs _ _ => hs)
              ?assign2 ?body2 ?done2 ?stop2
            case assign2 =>
              rintro l2 p2 y X K hi hK
              simp only [encF]
              gi_wp2
              exact hK _ _ (KeepsFrom.refl _ _) (KeepC.refl _ _) hi rfl
            case body2 =>
              rintro l2 p2 y a' X _ _ ⟨hb, hf⟩ rfl _
              have hyn := y.2.1
              have HSN2 : Hid (bv (markAll ((p2 ++ [y]).map fun y => (y.val : Int)) (su.set xv true)) = (bv (markAll (p2.map fun y => (y.val : Int)) (su.set xv true))).set y.val (.bool true)) := by
                show _ = _
                rw [List.map_append, List.map_cons, List.map_nil, markAll_snoc, bv_set]; simp
              generalize hyv : y.val = yv at *
              have HYV := Lib.hid hyv
              have hh4 : X.cell? ⟨g0 + 1 + 1 + 1, 0, none⟩ = some (.slice (some ⟨g0 + 1 + 1, 0, none⟩) n n) := by rw [← e4]; exact hf.cell (by show ¬ (g0 + 1 + 1 + 1 = wr.heap.size + 1); omega) e4
              have hh5 : X.cell? ⟨wr.heap.size, 0, none⟩ = some (.int .i64 (k : Int)) := by rw [← e5]; exact hf.cell (by show ¬ (wr.heap.size = wr.heap.size + 1); omega) e5
              have hhk : X.cell? ⟨g0 + 1 + 1, k, none⟩ = some (.slice (some ⟨wr.heap.size + 1, 0, none⟩) n n) := by rw [← egk]; exact hf.cell (by show ¬ (g0 + 1 + 1 = wr.heap.size + 1); omega) egk
              have hyl : yv < (markAll (p2.map fun y => (y.val : Int)) (su.set xv true)).length := by rw [markAll_length, List.length_set]; have h7 : su.length = n := HTL.out; omega
              have hhb := hb.bit yv hyl
              have hhf := hb.free yv
              have HB2 := Lib.hid hb
              have HF2 := Lib.hid hf
              clear hb hf hyv e4 e5 egk eb hr3
              gi_wp2
              refine ⟨⟨by simp, fun r o hB ho hc => (Below.heap_setCell _ _ _ _ (show r ≠ wr.heap.size + 1 by omega)).trans ho⟩, KeepC.set (S := fun x => x = wr.heap.size + 1) (p := ⟨wr.heap.size + 1, yv, none⟩) (.inl rfl) _, ?_, HF2.out.setCell (p := ⟨wr.heap.size + 1, yv, none⟩) (.inl rfl) _⟩
              have h := HB2.out.set yv (.bool true)
              rw [HSN2.out]
              exact h
            case done2 =>
              rintro ys X hys ⟨hb, hf⟩
              have HE := thin_done (W := W) (W2 := W) (W' := X) (w6 := w6) (g0 := g0) (row := wr.heap.size + 1) (base := wr.heap.size + 4) (k := k) (v := v) (v2 := v) (os := os) (xs2 := so) hs6 (by omega) (by omega) F2.out (F3.out.trans hf) HOWN.out HGO.out GO2.out OWN2.out HFRW.out
              gi_wp2
              refine ⟨HE.1, HE.2.1, ⟨v, HE.2.2.1, ?_⟩, ?_, HE.2.2.2.2⟩
              · rw [HSN.out]
                have e : (tStep D (so, su) (xv : Int)).1 = so := by simp [tStep, HBIT.out]
                rw [e]; exact HE.2.2.2.1
              · rw [HSN.out]
                have e : (tStep D (so, su) (xv : Int)).2 = markAll (thoseL (aheadL D xv)) (su.set xv true) := by simp [tStep]
                rw [e, ← hys]; exact hb
            case stop2 =>
              rintro c p2 X _ h
              exact h.elim
          | false =>
            rw [hbit] at hrd
            have HBIT := Lib.hid hbit
            clear hbit
            obtain ⟨gg, cap, w1, hrun, hown1, hgrow1, hat1, hlt1⟩ := run_push (P := Try.prog) (W := W.drew) (wr.heap.size + 4) 23 23 3 (.int .i64 0) 8 Try.underlying23 infoInt rfl (by omega) v so.length (iv .i64 so) (.int .i64 (xv : Int)) rfl HOWN.out.drew (by show wr.heap.size + 4 ≤ W.heap.size; omega) (by have := HPL.out; omega)
            have HRUN := Lib.hid hrun
            have hoB := own_row HOWN.out
            have hS1 : ∀ (b0 : Nat) (vv : Value), b0 < wr.heap.size + 4 → W.cell? ⟨b0, 0, none⟩ = some vv → w1.cell? ⟨b0, 0, none⟩ = some vv := fun b0 vv hb0 hcv => by
              have hbl := World.block_lt_of_cell? _ _ hcv
              have e := hgrow1.block b0 hbl (fun e => by have := hoB b0 e.symm; omega)
              rw [← hcv]; simp only [World.cell?, e, World.drew]
            have a3 : W.drew.cell? ⟨g0 + 1, 0, none⟩ = some (.slice (some ⟨g0, 0, none⟩) n n) := hd3
            have a5 : W.drew.cell? ⟨wr.heap.size, 0, none⟩ = some (.int .i64 (k : Int)) := hd5
            have ag : W.drew.cell? ⟨g0, k, none⟩ = some v := hgok
            have b3 := keep_cell a3 (below_al W.drew (.cells #[.int .i64 (xv : Int)] 3))
            have b5 := keep_cell a5 (below_al W.drew (.cells #[.int .i64 (xv : Int)] 3))
            have bg := keep_cell ag (below_al W.drew (.cells #[.int .i64 (xv : Int)] 3))
            have c3 := hS1 _ _ (by omega) hd3
            have c5 := hS1 _ _ (by omega) hd5
            have hg1 : w1.heap[g0]? = some (.cells (os.set k v).toArray 23 (0, 0)) := by
              have hbl := HGO.out.lt
              exact (hgrow1.block g0 hbl (fun e => by have := hoB g0 e.symm; omega)).trans HGO.out
            have cg := Bk.cell hg1 k (by simp; have := HOL.out; omega)
            rw [List.getElem_set_self] at cg
            have cf := Bk.free hg1 k
            have CF := Lib.hid cf
            clear hoB cf
            gi_wp2
            refine wpIn_region_any (by kernel_rfl) ?_
            refine wpAnyIn_good (fun L a w' => L.size = 11 ∧ (L.getD 8 false = true → L.getD 7 false = true ∧ L.getD 5 false = true) ∧ (L.getD 10 false = true → ∀ j, j < 10 → L.getD j false = true) ∧ ∃ (y43 y44 y45 y46 y47 y48 y49 y50 y51 y52 : Value), a = ({ tmps := #[.slice (some ⟨b, off, none⟩) n c, undef, .slice none 0 0, .pointer (some ⟨g0 + 1, 0, none⟩), .pointer (some ⟨g0 + 1 + 1 + 1, 0, none⟩), .pointer (some ⟨wr.heap.size, 0, none⟩), .slice A' n' c', .int .i64 (xv : Int), undef, .slice (some ⟨b, off, none⟩) n c, .bool true, .bool false, .slice (some ⟨b, off, none⟩) n c, .int .i64 (n : Int), .slice (some ⟨g0, 0, none⟩) n n, .slice (some ⟨b, off, none⟩) n c, .int .i64 (n : Int), .slice (some ⟨g0 + 1 + 1, 0, none⟩) n n, .slice (some ⟨b, off, none⟩) n c, .int .i64 (n : Int), .int .i64 (k : Int), .bool true, .int .i64 (k : Int), .pointer (some ⟨b, off + k, none⟩), .slice A' n' c', .slice (some ⟨g0 + 1 + 1, 0, none⟩) n n, .int .i64 (k : Int), .slice (some ⟨b, off, none⟩) n c, .int .i64 (n : Int), .slice (some ⟨wr.heap.size + 1, 0, none⟩) n n, .pointer (some ⟨g0 + 1 + 1, k, none⟩), .slice A' n' c', .int .i64 (k : Int), .func (.func 118) #[] #[.pointer (some ⟨wr.heap.size + 2, 0, none⟩), .pointer (some ⟨wr.heap.size + 2 + 1, 0, none⟩)], .int .i64 (xv : Int), .slice (some ⟨g0 + 1 + 1, 0, none⟩) n n, .int .i64 (k : Int), .pointer (some ⟨g0 + 1 + 1, k, none⟩), .slice (some ⟨wr.heap.size + 1, 0, none⟩) n n, .int .i64 (xv : Int), .pointer (some ⟨wr.heap.size + 1, xv, none⟩), .bool false, .bool true, y43, y44, y45, y46, y47, y48, y49, y50, y51, y52, undef, undef, undef, undef, undef, undef, undef, undef, undef, undef, undef, undef, undef, undef, undef, undef, undef, undef, u71, u72, u73, u74, u75, u76, undef], defers := [] } : Act) ∧ (L.getD 0 false = true → y43 = .slice (some ⟨g0, 0, none⟩) n n) ∧ (L.getD 1 false = true → y44 = .int .i64 (k : Int)) ∧ (L.getD 2 false = true → y45 = .slice (some ⟨g0, 0, none⟩) n n) ∧ (L.getD 3 false = true → y46 = .int .i64 (k : Int)) ∧ (L.getD 4 false = true → y47 = .pointer (some ⟨g0, k, none⟩)) ∧ (L.getD 5 false = true → y48 = v) ∧ (L.getD 6 false = true → y49 = .int .i64 (xv : Int)) ∧ (L.getD 7 false = true → y50 = .slice (some ⟨W.drew.heap.size, 0, none⟩) 1 1) ∧ (L.getD 8 false = true → y51 = .slice (some ⟨gg, 0, none⟩) (so.length + 1) cap) ∧ (L.getD 9 false = true → y52 = .pointer (some ⟨g0, k, none⟩)) ∧ w' = (if L.getD 10 false then w1.setCell ⟨g0, k, none⟩ (.slice (some ⟨gg, 0, none⟩) (so.length + 1) cap) else if L.getD 8 false then w1 else if L.getD 7 false then W.drew.alloc (.cells #[.int .i64 (xv : Int)] 3) else W.drew)) (acB_spec ?gac) ?gsz ?gend ?gstep _ _ _ _ ?gstart ?gopen
            case gac => kernel_rfl
            case gsz => exact fun L a w' h => h.1
            case gopen => exact Nat.le_of_eq (by kernel_rfl)
            case gstart => exact ⟨rfl, by simp, by simp, undef, undef, undef, undef, undef, undef, undef, undef, undef, undef, rfl, by simp , by simp , by simp , by simp , by simp , by simp , by simp , by simp , by simp , by simp, by simp⟩
            case gend =>
              rintro L a w' ⟨h1, h2, h3, y43, y44, y45, y46, y47, y48, y49, y50, y51, y52, rfl, e43 , e44 , e45 , e46 , e47 , e48 , e49 , e50 , e51 , e52, hwx⟩ hall
              obtain rfl := e43 (hall 0 (by decide))
              obtain rfl := e44 (hall 1 (by decide))
              obtain rfl := e45 (hall 2 (by decide))
              obtain rfl := e46 (hall 3 (by decide))
              obtain rfl := e47 (hall 4 (by decide))
              obtain rfl := (e48 (hall 5 (by decide))).symm
              obtain rfl := e49 (hall 6 (by decide))
              obtain rfl := e50 (hall 7 (by decide))
              obtain rfl := e51 (hall 8 (by decide))
              obtain rfl := e52 (hall 9 (by decide))
              rw [if_pos (hall 10 (by decide))] at hwx
              have hoB := own_row HOWN.out
              have F2 : Hid (Fr (fun x => x = g0 ∨ v.ownBlock = some x) W (w1.setCell ⟨g0, k, none⟩ (.slice (some ⟨gg, 0, none⟩) (so.length + 1) cap))) := (show Fr (fun x => x = g0 ∨ v.ownBlock = some x) W w1 from ⟨hgrow1.os, hgrow1.tape, hgrow1.output, hgrow1.size, fun j hj hs => hgrow1.block j hj (fun e => hs (.inr e.symm))⟩).setCell (p := ⟨g0, k, none⟩) (.inl (.inl rfl)) _
              have GO2 : Hid (Bk (w1.setCell ⟨g0, k, none⟩ (.slice (some ⟨gg, 0, none⟩) (so.length + 1) cap)) g0 23 (os.set k (.slice (some ⟨gg, 0, none⟩) (so.length + 1) cap))) := by
                have h := Bk.set hg1 k (.slice (some ⟨gg, 0, none⟩) (so.length + 1) cap)
                rw [List.set_set] at h
                exact h
              have hgg : wr.heap.size + 4 ≤ gg := by
                have := (hown1.lt gg (by rfl)).1
                exact this
              have OWN2 : Hid ((w1.setCell ⟨g0, k, none⟩ (.slice (some ⟨gg, 0, none⟩) (so.length + 1) cap)).ownsRow (wr.heap.size + 4) 3 1 (.slice (some ⟨gg, 0, none⟩) (so.length + 1) cap) (so ++ [(xv : Int)]).length (iv .i64 (so ++ [(xv : Int)]))) := by
                have h : (w1.setCell ⟨g0, k, none⟩ (.slice (some ⟨gg, 0, none⟩) (so.length + 1) cap)).ownsRow (wr.heap.size + 4) 3 1 (.slice (some ⟨gg, 0, none⟩) (so.length + 1) cap) (so.length + 1) (iv .i64 so ++ [.int .i64 (xv : Int)]) := own_same hown1 (fun r hr => Below.heap_setCell _ _ _ _ (by show r ≠ g0; have := (hown1.lt r hr).1; omega))
                show World.ownsRow _ _ _ _ _ _ _
                rw [List.length_append, List.length_singleton, iv, List.map_append]
                exact h
              subst hwx
              clear hrun hown1 hgrow1 hat1 hlt1 HRUN CF hg1 c3 c5 a3 a5 ag b3 b5 bg cg
              generalize (w1.setCell ⟨g0, k, none⟩ (.slice (some ⟨gg, 0, none⟩) (so.length + 1) cap)) = W2 at *
              have nS : ∀ x, x ≠ g0 → x < wr.heap.size + 4 → ¬ (x = g0 ∨ v.ownBlock = some x) := fun x h1 h2 h => by
                rcases h with h | h
                · exact h1 h
                · have := hoB _ h; omega
              have d4 : W2.cell? ⟨g0 + 1 + 1 + 1, 0, none⟩ = some (.slice (some ⟨g0 + 1 + 1, 0, none⟩) n n) := (F2.out.cell (nS _ (by show g0 + 1 + 1 + 1 ≠ g0; omega) (by show g0 + 1 + 1 + 1 < wr.heap.size + 4; omega)) hd4).trans hd4
              have d5 : W2.cell? ⟨wr.heap.size, 0, none⟩ = some (.int .i64 (k : Int)) := (F2.out.cell (nS _ (by show wr.heap.size ≠ g0; omega) (by show wr.heap.size < wr.heap.size + 4; omega)) hd5).trans hd5
              have dgk : W2.cell? ⟨g0 + 1 + 1, k, none⟩ = some (.slice (some ⟨wr.heap.size + 1, 0, none⟩) n n) := (F2.out.cell (nS _ (by show g0 + 1 + 1 ≠ g0; omega) (by show g0 + 1 + 1 < wr.heap.size + 4; omega)) hguk).trans hguk
              have dgd : W2.cell? ⟨g0 + 1 + 1, xv, none⟩ = some (.slice (some ⟨uu, 0, none⟩) n n) := (F2.out.cell (nS _ (by show g0 + 1 + 1 ≠ g0; omega) (by show g0 + 1 + 1 < wr.heap.size + 4; omega)) hgud).trans hgud
              have UB2 := Lib.hid (F2.out.far HUB.out (nS _ (by omega) (by omega)))
              have ROW2 := Lib.hid (F2.out.far HROW.out (nS _ (by omega) (by omega)))
              have hrd2 := ROW2.out.bit xv (by have := HTL.out; omega)
              rw [HBIT.out] at hrd2
              have hrf2 := ROW2.out.free xv
              have L2 : Hid (∃ r, W2.heap[l]? = some (.loop r)) := by
                have hr := HLREC.out
                refine ⟨r, (F2.out.block l (Array.getElem?_eq_some_iff.1 hr).1 (fun h => ?_)).trans hr⟩
                rcases h with h | h
                · omega
                · rcases HOWN.out.2 with ⟨hv, _⟩ | ⟨g, cap', cur, hv, _, hgb, _⟩
                  · rw [hv] at h; cases h
                  · rw [hv] at h
                    have : g = l := by simpa [Value.ownBlock] using h
                    subst this
                    rw [hr] at hgb; cases hgb
              have hrow2 : wr.heap.size + 1 < W2.heap.size := ROW2.out.lt
              have hsz2 : w6.heap.size ≤ W2.heap.size := Nat.le_trans hlW F2.out.size
              clear hrd hrf hd3 hd4 hd5 hguk hgud hgok hgof
              gi_wp2_with (refine ⟨trivial, ?_⟩; gi_at_call 64; refine (CallsIn.inRound l (callsIn_wide.2 (those_any _ _ _ _))).mono ?_; rintro e w7 ⟨rfl, rfl⟩)
              have e4 : ((W2.setCell ⟨wr.heap.size + 1, xv, none⟩ (.bool true)).alloc (.cells #[.slice (some ⟨uu, 0, none⟩) n n] 87)).cell? ⟨g0 + 1 + 1 + 1, 0, none⟩ = some (.slice (some ⟨g0 + 1 + 1, 0, none⟩) n n) := keep_cell (by rw [World.cell?_setCell_other _ _ _ _ (by simp <;> omega)]; exact d4) (below_al _ _)
              have e5 : ((W2.setCell ⟨wr.heap.size + 1, xv, none⟩ (.bool true)).alloc (.cells #[.slice (some ⟨uu, 0, none⟩) n n] 87)).cell? ⟨wr.heap.size, 0, none⟩ = some (.int .i64 (k : Int)) := keep_cell (by rw [World.cell?_setCell_other _ _ _ _ (by simp <;> omega)]; exact d5) (below_al _ _)
              have egk : ((W2.setCell ⟨wr.heap.size + 1, xv, none⟩ (.bool true)).alloc (.cells #[.slice (some ⟨uu, 0, none⟩) n n] 87)).cell? ⟨g0 + 1 + 1, k, none⟩ = some (.slice (some ⟨wr.heap.size + 1, 0, none⟩) n n) := keep_cell (by rw [World.cell?_setCell_other _ _ _ _ (by simp <;> omega)]; exact dgk) (below_al _ _)
              have eb : ((W2.setCell ⟨wr.heap.size + 1, xv, none⟩ (.bool true)).alloc (.cells #[.slice (some ⟨uu, 0, none⟩) n n] 87)).cell? ⟨W2.heap.size, 0, none⟩ = some (.slice (some ⟨uu, 0, none⟩) n n) := by
                have h := new_cell (W2.setCell ⟨wr.heap.size + 1, xv, none⟩ (.bool true)) #[.slice (some ⟨uu, 0, none⟩) n n] 87 0 _ rfl
                simpa using h
              have UB3 : Hid (Bk ((W2.setCell ⟨wr.heap.size + 1, xv, none⟩ (.bool true)).alloc (.cells #[.slice (some ⟨uu, 0, none⟩) n n] 87)) uu 4 (bv (aheadL D xv))) := (UB2.out.far (by show wr.heap.size + 1 ≠ uu; omega) _).keep (below_al _ _)
              have ROW3 : Hid (Bk ((W2.setCell ⟨wr.heap.size + 1, xv, none⟩ (.bool true)).alloc (.cells #[.slice (some ⟨uu, 0, none⟩) n n] 87)) (wr.heap.size + 1) 4 (bv (su.set xv true))) := by
                have h := (ROW2.out.set xv (.bool true)).keep (below_al _ (.cells #[.slice (some ⟨uu, 0, none⟩) n n] 87))
                rw [bv_set] at h
                exact h
              have L3 : Hid (∃ r, ((W2.setCell ⟨wr.heap.size + 1, xv, none⟩ (.bool true)).alloc (.cells #[.slice (some ⟨uu, 0, none⟩) n n] 87)).heap[l]? = some (.loop r)) := by
                obtain ⟨r, hr⟩ := L2.out
                exact ⟨r, (Below.heap_alloc _ _ l (by simpa using (Array.getElem?_eq_some_iff.1 hr).1)).trans ((Below.heap_setCell _ _ _ _ (show l ≠ wr.heap.size + 1 by omega)).trans hr)⟩
              have F3 : Hid (Fr (· = wr.heap.size + 1) W2 ((W2.setCell ⟨wr.heap.size + 1, xv, none⟩ (.bool true)).alloc (.cells #[.slice (some ⟨uu, 0, none⟩) n n] 87))) := ((Fr.refl (fun x => x = wr.heap.size + 1) W2).setCell (p := ⟨wr.heap.size + 1, xv, none⟩) (.inl rfl) _).alloc _
              have hs3 : ((W2.setCell ⟨wr.heap.size + 1, xv, none⟩ (.bool true)).alloc (.cells #[.slice (some ⟨uu, 0, none⟩) n n] 87)).heap.size = W2.heap.size + 1 := by simp
              clear nS d4 d5 dgk dgd UB2 ROW2 hrd2 hrf2 L2
              have hsz : (W2.setCell ⟨wr.heap.size + 1, xv, none⟩ (.bool true)).heap.size = W2.heap.size := by simp
              try simp only [hsz]
              generalize ((W2.setCell ⟨wr.heap.size + 1, xv, none⟩ (.bool true)).alloc (.cells #[.slice (some ⟨uu, 0, none⟩) n n] 87)) = W3 at *
              have hal : (aheadL D xv).length = n := by simp [HL.out]
              obtain ⟨r3, hr3⟩ := L3.out
              have hlt3 : l < W3.heap.size := (Array.getElem?_eq_some_iff.1 hr3).1
              refine wpIn_rangeFunc_ownN (l₀ := l) (r₀ := r3) rfl hr3 (by omega) (gf := 101) (lb := #[.pointer (some ⟨W2.heap.size, 0, none⟩)]) rfl trivial (enters_of Try.func101 (by kernel_rfl) rfl)
                (SeqStopsK.inRound (F := Fence.wide) l (those_stops 6 (by omega) W2.heap.size uu n (· = wr.heap.size + 1) (aheadL D xv) hal hn (by show ¬ (uu = wr.heap.size + 1); omega) W3 eb UB3.out)) KeepC.trans keepC_b (Below.refl _ _) (fun _ => rfl)
                (fun (p2 : List (MkT (aheadL D xv) n)) X => Bk X (wr.heap.size + 1) 4 (bv (markAll (p2.map fun y => (y.val : Int)) (su.set xv true))) ∧ Fr (· = wr.heap.size + 1) W3 X)
                (fun _ _ _ => False)
                (fun s X Y row h hg hr => ⟨bk_own (fun (p2 : List (MkT (aheadL D xv) n)) => bv (markAll (p2.map fun y => (y.val : Int)) (su.set xv true))) s X Y row h.1 hg hr, fr_own (Nat.le_refl _) s X Y row h.2 hg hr⟩)
                (fun _ _ _ _ _ hs _ _ => hs)
                ⟨ROW3.out, Fr.refl _ _⟩
                (fun y a' _ => a' = { tmps := #[.slice (some ⟨b, off, none⟩) n c, undef, .slice none 0 0, .pointer (some ⟨g0 + 1, 0, none⟩), .pointer (some ⟨g0 + 1 + 1 + 1, 0, none⟩), .pointer (some ⟨wr.heap.size, 0, none⟩), .slice A' n' c', .int .i64 (xv : Int), .int .i64 (y.val : Int), .slice (some ⟨b, off, none⟩) n c, .bool true, .bool false, .slice (some ⟨b, off, none⟩) n c, .int .i64 (n : Int), .slice (some ⟨g0, 0, none⟩) n n, .slice (some ⟨b, off, none⟩) n c, .int .i64 (n : Int), .slice (some ⟨g0 + 1 + 1, 0, none⟩) n n, .slice (some ⟨b, off, none⟩) n c, .int .i64 (n : Int), .int .i64 (k : Int), .bool true, .int .i64 (k : Int), .pointer (some ⟨b, off + k, none⟩), .slice A' n' c', .slice (some ⟨g0 + 1 + 1, 0, none⟩) n n, .int .i64 (k : Int), .slice (some ⟨b, off, none⟩) n c, .int .i64 (n : Int), .slice (some ⟨wr.heap.size + 1, 0, none⟩) n n, .pointer (some ⟨g0 + 1 + 1, k, none⟩), .slice A' n' c', .int .i64 (k : Int), .func (.func 118) #[] #[.pointer (some ⟨wr.heap.size + 2, 0, none⟩), .pointer (some ⟨wr.heap.size + 2 + 1, 0, none⟩)], .int .i64 (xv : Int), .slice (some ⟨g0 + 1 + 1, 0, none⟩) n n, .int .i64 (k : Int), .pointer (some ⟨g0 + 1 + 1, k, none⟩), .slice (some ⟨wr.heap.size + 1, 0, none⟩) n n, .int .i64 (xv : Int), .pointer (some ⟨wr.heap.size + 1, xv, none⟩), .bool false, .bool true, .slice (some ⟨g0, 0, none⟩) n n, .int .i64 (k : Int), .slice (some ⟨g0, 0, none⟩) n n, .int .i64 (k : Int), .pointer (some ⟨g0, k, none⟩), v, .int .i64 (xv : Int), .slice (some ⟨W.drew.heap.size, 0, none⟩) 1 1, .slice (some ⟨gg, 0, none⟩) (so.length + 1) cap, .pointer (some ⟨g0, k, none⟩), .slice (some ⟨g0 + 1 + 1, 0, none⟩) n n, .int .i64 (k : Int), .pointer (some ⟨g0 + 1 + 1, k, none⟩), .slice (some ⟨wr.heap.size + 1, 0, none⟩) n n, .int .i64 (xv : Int), .pointer (some ⟨wr.heap.size + 1, xv, none⟩), .slice (some ⟨g0 + 1 + 1, 0, none⟩) n n, .int .i64 (xv : Int), .pointer (some ⟨g0 + 1 + 1, xv, none⟩), .slice (some ⟨uu, 0, none⟩) n n, .func (.func 101) #[] #[.pointer (some ⟨W2.heap.size, 0, none⟩)], .int .i64 (y.val : Int), undef, undef, undef, undef, undef, undef, u71, u72, u73, u74, u75, u76, undef], defers := [] })
                (fun _ _ _ _ _ _ hs _ _ => hs)
                ?assign3 ?body3 ?done3 ?stop3
              case assign3 =>
                rintro l2 p2 y X K hi hK
                simp only [encF]
                gi_wp2
                exact hK _ _ (KeepsFrom.refl _ _) (KeepC.refl _ _) hi rfl
              case body3 =>
                rintro l2 p2 y a' X _ _ ⟨hb, hf⟩ rfl _
                have hyn := y.2.1
                have HSN2 : Hid (bv (markAll ((p2 ++ [y]).map fun y => (y.val : Int)) (su.set xv true)) = (bv (markAll (p2.map fun y => (y.val : Int)) (su.set xv true))).set y.val (.bool true)) := by
                  show _ = _
                  rw [List.map_append, List.map_cons, List.map_nil, markAll_snoc, bv_set]; simp
                generalize hyv : y.val = yv at *
                have HYV := Lib.hid hyv
                have hh4 : X.cell? ⟨g0 + 1 + 1 + 1, 0, none⟩ = some (.slice (some ⟨g0 + 1 + 1, 0, none⟩) n n) := by rw [← e4]; exact hf.cell (by show ¬ (g0 + 1 + 1 + 1 = wr.heap.size + 1); omega) e4
                have hh5 : X.cell? ⟨wr.heap.size, 0, none⟩ = some (.int .i64 (k : Int)) := by rw [← e5]; exact hf.cell (by show ¬ (wr.heap.size = wr.heap.size + 1); omega) e5
                have hhk : X.cell? ⟨g0 + 1 + 1, k, none⟩ = some (.slice (some ⟨wr.heap.size + 1, 0, none⟩) n n) := by rw [← egk]; exact hf.cell (by show ¬ (g0 + 1 + 1 = wr.heap.size + 1); omega) egk
                have hyl : yv < (markAll (p2.map fun y => (y.val : Int)) (su.set xv true)).length := by rw [markAll_length, List.length_set]; have h7 : su.length = n := HTL.out; omega
                have hhb := hb.bit yv hyl
                have hhf := hb.free yv
                have HB2 := Lib.hid hb
                have HF2 := Lib.hid hf
                clear hb hf hyv e4 e5 egk eb hr3
                gi_wp2
                refine ⟨⟨by simp, fun r o hB ho hc => (Below.heap_setCell _ _ _ _ (show r ≠ wr.heap.size + 1 by omega)).trans ho⟩, KeepC.set (S := fun x => x = wr.heap.size + 1) (p := ⟨wr.heap.size + 1, yv, none⟩) (.inl rfl) _, ?_, HF2.out.setCell (p := ⟨wr.heap.size + 1, yv, none⟩) (.inl rfl) _⟩
                have h := HB2.out.set yv (.bool true)
                rw [HSN2.out]
                exact h
              case done3 =>
                rintro ys X hys ⟨hb, hf⟩
                have HE := thin_done (W := W) (W2 := W2) (W' := X) (w6 := w6) (g0 := g0) (row := wr.heap.size + 1) (base := wr.heap.size + 4) (k := k) (v := v) (v2 := (.slice (some ⟨gg, 0, none⟩) (so.length + 1) cap)) (os := os) (xs2 := (so ++ [(xv : Int)])) hs6 (by omega) (by omega) F2.out (F3.out.trans hf) HOWN.out HGO.out GO2.out OWN2.out HFRW.out
                gi_wp2
                refine ⟨HE.1, HE.2.1, ⟨(.slice (some ⟨gg, 0, none⟩) (so.length + 1) cap), HE.2.2.1, ?_⟩, ?_, HE.2.2.2.2⟩
                · rw [HSN.out]
                  have e : (tStep D (so, su) (xv : Int)).1 = (so ++ [(xv : Int)]) := by simp [tStep, HBIT.out]
                  rw [e]; exact HE.2.2.2.1
                · rw [HSN.out]
                  have e : (tStep D (so, su) (xv : Int)).2 = markAll (thoseL (aheadL D xv)) (su.set xv true) := by simp [tStep]
                  rw [e, ← hys]; exact hb
              case stop3 =>
                rintro c p2 X _ h
                exact h.elim
            case gstep =>
              rintro i o L a w' ho hi hif hdep ⟨h1, h2, h3, y43, y44, y45, y46, y47, y48, y49, y50, y51, y52, rfl, e43, e44, e45, e46, e47, e48, e49, e50, e51, e52, hwx⟩ K hK
              have hi11 : i < 11 := by omega
              have h10 : L.getD 10 false = false := by
                cases h : L.getD 10 false with
                | false => rfl
                | true =>
                  by_cases e : i = 10
                  · subst e; rw [h] at hif; cases hif
                  · have := h3 h i (by omega); rw [this] at hif; cases hif
              rw [h10] at hwx
              simp only [Bool.false_eq_true, if_false] at hwx
              have f3 : w'.cell? ⟨g0 + 1, 0, none⟩ = some (.slice (some ⟨g0, 0, none⟩) n n) := by
                rw [hwx]; split
                · exact c3
                · split
                  · exact b3
                  · exact a3
              have f5 : w'.cell? ⟨wr.heap.size, 0, none⟩ = some (.int .i64 (k : Int)) := by
                rw [hwx]; split
                · exact c5
                · split
                  · exact b5
                  · exact a5
              have fg : w'.cell? ⟨g0, k, none⟩ = some v := by
                rw [hwx]; split
                · exact cg
                · split
                  · exact bg
                  · exact ag
              have st : ∀ j, L.getD j false = true → (L.setIfInBounds i true).getD j false = true := fun j h => by rw [getD_set hi, h]; simp
              have up : ∀ j, j ≠ i → (L.setIfInBounds i true).getD j false = true → L.getD j false = true := fun j hj h => by rw [getD_set hi] at h; simpa [Ne.symm hj] using h
              have sm : ∀ j, j ≠ i → (L.setIfInBounds i true).getD j false = L.getD j false := fun j hj => by rw [getD_set hi]; simp [Ne.symm hj]
              have H2 := Lib.hid h2
              have H3 := Lib.hid h3
              have E43 := Lib.hid e43
              have E44 := Lib.hid e44
              have E45 := Lib.hid e45
              have E46 := Lib.hid e46
              have E47 := Lib.hid e47
              have E48 := Lib.hid e48
              have E49 := Lib.hid e49
              have E50 := Lib.hid e50
              have E51 := Lib.hid e51
              have E52 := Lib.hid e52
              have hw := hwx
              have HW := Lib.hid hw
              clear h2 h3 hwx a3 a5 ag b3 b5 bg c3 c5 cg
              clear e43 e44 e45 e46 e47 e48 e49 e50 e51 e52
              rcases (show i = 0 ∨ i = 1 ∨ i = 2 ∨ i = 3 ∨ i = 4 ∨ i = 5 ∨ i = 6 ∨ i = 7 ∨ i = 8 ∨ i = 9 ∨ i = 10 by omega) with rfl | rfl | rfl | rfl | rfl | rfl | rfl | rfl | rfl | rfl | rfl
              · obtain rfl := Option.some.inj ho
                refine wpOpIn_lit rfl rfl ?_
                clear hdep hw
                go_simp
                exact hK _ _ ⟨by simp [h1], fun h => ⟨st 7 (H2.out (up 8 (by decide) h)).1, st 5 (H2.out (up 8 (by decide) h)).2⟩, fun h => absurd (up 10 (by decide) h) (by rw [h10]; decide), (.slice (some ⟨g0, 0, none⟩) n n), _, _, _, _, _, _, _, _, _, rfl, fun _ => rfl, fun h => E44.out (up 1 (by decide) h), fun h => E45.out (up 2 (by decide) h), fun h => E46.out (up 3 (by decide) h), fun h => E47.out (up 4 (by decide) h), fun h => E48.out (up 5 (by decide) h), fun h => E49.out (up 6 (by decide) h), fun h => E50.out (up 7 (by decide) h), fun h => E51.out (up 8 (by decide) h), fun h => E52.out (up 9 (by decide) h), by rw [sm 10 (by decide), sm 8 (by decide), sm 7 (by decide), h10, if_neg Bool.false_ne_true]; exact HW.out⟩
              · obtain rfl := Option.some.inj ho
                refine wpOpIn_lit rfl rfl ?_
                clear hdep hw
                go_simp
                exact hK _ _ ⟨by simp [h1], fun h => ⟨st 7 (H2.out (up 8 (by decide) h)).1, st 5 (H2.out (up 8 (by decide) h)).2⟩, fun h => absurd (up 10 (by decide) h) (by rw [h10]; decide), _, (.int .i64 (k : Int)), _, _, _, _, _, _, _, _, rfl, fun h => E43.out (up 0 (by decide) h), fun _ => rfl, fun h => E45.out (up 2 (by decide) h), fun h => E46.out (up 3 (by decide) h), fun h => E47.out (up 4 (by decide) h), fun h => E48.out (up 5 (by decide) h), fun h => E49.out (up 6 (by decide) h), fun h => E50.out (up 7 (by decide) h), fun h => E51.out (up 8 (by decide) h), fun h => E52.out (up 9 (by decide) h), by rw [sm 10 (by decide), sm 8 (by decide), sm 7 (by decide), h10, if_neg Bool.false_ne_true]; exact HW.out⟩
              · obtain rfl := Option.some.inj ho
                refine wpOpIn_lit rfl rfl ?_
                clear hdep hw
                go_simp
                exact hK _ _ ⟨by simp [h1], fun h => ⟨st 7 (H2.out (up 8 (by decide) h)).1, st 5 (H2.out (up 8 (by decide) h)).2⟩, fun h => absurd (up 10 (by decide) h) (by rw [h10]; decide), _, _, (.slice (some ⟨g0, 0, none⟩) n n), _, _, _, _, _, _, _, rfl, fun h => E43.out (up 0 (by decide) h), fun h => E44.out (up 1 (by decide) h), fun _ => rfl, fun h => E46.out (up 3 (by decide) h), fun h => E47.out (up 4 (by decide) h), fun h => E48.out (up 5 (by decide) h), fun h => E49.out (up 6 (by decide) h), fun h => E50.out (up 7 (by decide) h), fun h => E51.out (up 8 (by decide) h), fun h => E52.out (up 9 (by decide) h), by rw [sm 10 (by decide), sm 8 (by decide), sm 7 (by decide), h10, if_neg Bool.false_ne_true]; exact HW.out⟩
              · obtain rfl := Option.some.inj ho
                refine wpOpIn_lit rfl rfl ?_
                clear hdep hw
                go_simp
                exact hK _ _ ⟨by simp [h1], fun h => ⟨st 7 (H2.out (up 8 (by decide) h)).1, st 5 (H2.out (up 8 (by decide) h)).2⟩, fun h => absurd (up 10 (by decide) h) (by rw [h10]; decide), _, _, _, (.int .i64 (k : Int)), _, _, _, _, _, _, rfl, fun h => E43.out (up 0 (by decide) h), fun h => E44.out (up 1 (by decide) h), fun h => E45.out (up 2 (by decide) h), fun _ => rfl, fun h => E47.out (up 4 (by decide) h), fun h => E48.out (up 5 (by decide) h), fun h => E49.out (up 6 (by decide) h), fun h => E50.out (up 7 (by decide) h), fun h => E51.out (up 8 (by decide) h), fun h => E52.out (up 9 (by decide) h), by rw [sm 10 (by decide), sm 8 (by decide), sm 7 (by decide), h10, if_neg Bool.false_ne_true]; exact HW.out⟩
              · obtain rfl := Option.some.inj ho
                obtain rfl := E45.out (hdep ⟨2, .data⟩ (by simp) rfl)
                obtain rfl := E46.out (hdep ⟨3, .data⟩ (by simp) rfl)
                refine wpOpIn_lit rfl rfl ?_
                clear hdep hw
                go_simp
                exact hK _ _ ⟨by simp [h1], fun h => ⟨st 7 (H2.out (up 8 (by decide) h)).1, st 5 (H2.out (up 8 (by decide) h)).2⟩, fun h => absurd (up 10 (by decide) h) (by rw [h10]; decide), _, _, _, _, (.pointer (some ⟨g0, k, none⟩)), _, _, _, _, _, rfl, fun h => E43.out (up 0 (by decide) h), fun h => E44.out (up 1 (by decide) h), fun h => E45.out (up 2 (by decide) h), fun h => E46.out (up 3 (by decide) h), fun _ => rfl, fun h => E48.out (up 5 (by decide) h), fun h => E49.out (up 6 (by decide) h), fun h => E50.out (up 7 (by decide) h), fun h => E51.out (up 8 (by decide) h), fun h => E52.out (up 9 (by decide) h), by rw [sm 10 (by decide), sm 8 (by decide), sm 7 (by decide), h10, if_neg Bool.false_ne_true]; exact HW.out⟩
              · obtain rfl := Option.some.inj ho
                obtain rfl := E47.out (hdep ⟨4, .data⟩ (by simp) rfl)
                refine wpOpIn_lit rfl rfl ?_
                clear hdep hw
                go_simp
                exact hK _ _ ⟨by simp [h1], fun h => ⟨st 7 (H2.out (up 8 (by decide) h)).1, st 5 (H2.out (up 8 (by decide) h)).2⟩, fun h => absurd (up 10 (by decide) h) (by rw [h10]; decide), _, _, _, _, _, (v), _, _, _, _, rfl, fun h => E43.out (up 0 (by decide) h), fun h => E44.out (up 1 (by decide) h), fun h => E45.out (up 2 (by decide) h), fun h => E46.out (up 3 (by decide) h), fun h => E47.out (up 4 (by decide) h), fun _ => rfl, fun h => E49.out (up 6 (by decide) h), fun h => E50.out (up 7 (by decide) h), fun h => E51.out (up 8 (by decide) h), fun h => E52.out (up 9 (by decide) h), by rw [sm 10 (by decide), sm 8 (by decide), sm 7 (by decide), h10, if_neg Bool.false_ne_true]; exact HW.out⟩
              · obtain rfl := Option.some.inj ho
                refine wpOpIn_lit rfl rfl ?_
                clear hdep hw
                go_simp
                exact hK _ _ ⟨by simp [h1], fun h => ⟨st 7 (H2.out (up 8 (by decide) h)).1, st 5 (H2.out (up 8 (by decide) h)).2⟩, fun h => absurd (up 10 (by decide) h) (by rw [h10]; decide), _, _, _, _, _, _, (.int .i64 (xv : Int)), _, _, _, rfl, fun h => E43.out (up 0 (by decide) h), fun h => E44.out (up 1 (by decide) h), fun h => E45.out (up 2 (by decide) h), fun h => E46.out (up 3 (by decide) h), fun h => E47.out (up 4 (by decide) h), fun h => E48.out (up 5 (by decide) h), fun _ => rfl, fun h => E50.out (up 7 (by decide) h), fun h => E51.out (up 8 (by decide) h), fun h => E52.out (up 9 (by decide) h), by rw [sm 10 (by decide), sm 8 (by decide), sm 7 (by decide), h10, if_neg Bool.false_ne_true]; exact HW.out⟩
              · obtain rfl := Option.some.inj ho
                obtain rfl := E49.out (hdep ⟨6, .data⟩ (by simp) rfl)
                have h8 : L.getD 8 false = false := by
                  cases h : L.getD 8 false with
                  | false => rfl
                  | true => rw [(H2.out h).1] at hif; cases hif
                simp only [h8, hif, Bool.false_eq_true, if_false] at hw
                subst hw
                refine wpOpIn_lit rfl rfl ?_
                clear hdep
                go_simp
                exact hK _ _ ⟨by simp [h1], fun h => ⟨st 7 (H2.out (up 8 (by decide) h)).1, st 5 (H2.out (up 8 (by decide) h)).2⟩, fun h => absurd (up 10 (by decide) h) (by rw [h10]; decide), _, _, _, _, _, _, _, (.slice (some ⟨W.drew.heap.size, 0, none⟩) 1 1), _, _, rfl, fun h => E43.out (up 0 (by decide) h), fun h => E44.out (up 1 (by decide) h), fun h => E45.out (up 2 (by decide) h), fun h => E46.out (up 3 (by decide) h), fun h => E47.out (up 4 (by decide) h), fun h => E48.out (up 5 (by decide) h), fun h => E49.out (up 6 (by decide) h), fun _ => rfl, fun h => E51.out (up 8 (by decide) h), fun h => E52.out (up 9 (by decide) h), by rw [sm 10 (by decide), sm 8 (by decide), h10, h8, getD_set hi]; simp; rfl⟩
              · obtain rfl := Option.some.inj ho
                have d5 := (hdep ⟨5, .data⟩ (by simp) rfl)
                have d7 := (hdep ⟨7, .data⟩ (by simp) rfl)
                obtain rfl := E48.out d5
                obtain rfl := E50.out d7
                simp only [d7, hif, Bool.false_eq_true, if_false, if_true] at hw
                subst hw
                have hrun := HRUN.out
                refine wpOpIn_lit rfl rfl ?_
                clear hdep
                refine operIn_append (.tmp 48) (.tmp 50) 23 rfl _ _ _ rfl rfl hrun ?_
                exact hK _ _ ⟨by simp [h1], fun _ => ⟨st 7 d7, st 5 d5⟩, fun h => absurd (up 10 (by decide) h) (by rw [h10]; decide), _, _, _, _, _, _, _, _, (.slice (some ⟨gg, 0, none⟩) (so.length + 1) cap), _, rfl, fun h => E43.out (up 0 (by decide) h), fun h => E44.out (up 1 (by decide) h), fun h => E45.out (up 2 (by decide) h), fun h => E46.out (up 3 (by decide) h), fun h => E47.out (up 4 (by decide) h), fun h => E48.out (up 5 (by decide) h), fun h => E49.out (up 6 (by decide) h), fun h => E50.out (up 7 (by decide) h), fun _ => rfl, fun h => E52.out (up 9 (by decide) h), by rw [sm 10 (by decide), h10, getD_set hi]; simp⟩
              · obtain rfl := Option.some.inj ho
                obtain rfl := E43.out (hdep ⟨0, .data⟩ (by simp) rfl)
                obtain rfl := E44.out (hdep ⟨1, .data⟩ (by simp) rfl)
                refine wpOpIn_lit rfl rfl ?_
                clear hdep hw
                go_simp
                exact hK _ _ ⟨by simp [h1], fun h => ⟨st 7 (H2.out (up 8 (by decide) h)).1, st 5 (H2.out (up 8 (by decide) h)).2⟩, fun h => absurd (up 10 (by decide) h) (by rw [h10]; decide), _, _, _, _, _, _, _, _, _, (.pointer (some ⟨g0, k, none⟩)), rfl, fun h => E43.out (up 0 (by decide) h), fun h => E44.out (up 1 (by decide) h), fun h => E45.out (up 2 (by decide) h), fun h => E46.out (up 3 (by decide) h), fun h => E47.out (up 4 (by decide) h), fun h => E48.out (up 5 (by decide) h), fun h => E49.out (up 6 (by decide) h), fun h => E50.out (up 7 (by decide) h), fun h => E51.out (up 8 (by decide) h), fun _ => rfl, by rw [sm 10 (by decide), sm 8 (by decide), sm 7 (by decide), h10, if_neg Bool.false_ne_true]; exact HW.out⟩
              · obtain rfl := Option.some.inj ho
                have d8 := (hdep ⟨8, .data⟩ (by simp) rfl)
                have hall : ∀ j, j < 10 → L.getD j false = true := fun j hj => by
                  rcases (show j = 0 ∨ j = 1 ∨ j = 2 ∨ j = 3 ∨ j = 4 ∨ j = 5 ∨ j = 6 ∨ j = 7 ∨ j = 8 ∨ j = 9 by omega) with rfl | rfl | rfl | rfl | rfl | rfl | rfl | rfl | rfl | rfl
                  · exact (hdep ⟨0, .phase⟩ (by simp) rfl)
                  · exact (hdep ⟨1, .phase⟩ (by simp) rfl)
                  · exact (hdep ⟨2, .phase⟩ (by simp) rfl)
                  · exact (hdep ⟨3, .phase⟩ (by simp) rfl)
                  · exact (hdep ⟨4, .phase⟩ (by simp) rfl)
                  · exact (hdep ⟨5, .phase⟩ (by simp) rfl)
                  · exact (hdep ⟨6, .phase⟩ (by simp) rfl)
                  · exact (hdep ⟨7, .phase⟩ (by simp) rfl)
                  · exact (hdep ⟨8, .data⟩ (by simp) rfl)
                  · exact (hdep ⟨9, .data⟩ (by simp) rfl)
                obtain rfl := E51.out d8
                obtain rfl := E52.out (hdep ⟨9, .data⟩ (by simp) rfl)
                simp only [d8, if_true] at hw
                subst hw
                have cfree := CF.out
                refine wpOpIn_lit rfl rfl ?_
                clear hdep
                go_simp
                exact hK _ _ ⟨by simp [h1], fun h => ⟨st 7 (H2.out (up 8 (by decide) h)).1, st 5 (H2.out (up 8 (by decide) h)).2⟩, fun _ j hj => st j (hall j hj), _, _, _, _, _, _, _, _, _, _, rfl, fun h => E43.out (up 0 (by decide) h), fun h => E44.out (up 1 (by decide) h), fun h => E45.out (up 2 (by decide) h), fun h => E46.out (up 3 (by decide) h), fun h => E47.out (up 4 (by decide) h), fun h => E48.out (up 5 (by decide) h), fun h => E49.out (up 6 (by decide) h), fun h => E50.out (up 7 (by decide) h), fun h => E51.out (up 8 (by decide) h), fun h => E52.out (up 9 (by decide) h), by rw [getD_set hi]; simp⟩
        case done =>
          rintro Dd ys W hDd hys ⟨⟨v, hgo, hown⟩, hrow, hfr⟩ hKK
          rw [hys] at hown hrow
          have ef : (thoseL (marksL (nth D k) k)).reverse = fallL D k := rfl
          rw [ef, thin_fold HR.out] at hown
          rw [ef, thin_fold2 HR.out] at hrow
          clear hys ef
          have d3 : W.cell? ⟨g0 + 1, 0, none⟩ = some (.slice (some ⟨g0, 0, none⟩) n n) := (hfr.cell (by show ¬ (g0 + 1 = g0 ∨ g0 + 1 = wr.heap.size + 1); omega) HC36.out).trans HC36.out
          have d5 : W.cell? ⟨wr.heap.size, 0, none⟩ = some (.int .i64 (k : Int)) := (hfr.cell (by show ¬ (wr.heap.size = g0 ∨ wr.heap.size = wr.heap.size + 1); omega) HI6.out).trans HI6.out
          have dg := hgo.cell k (by simp; have := HOL.out; omega)
          rw [List.getElem_set_self] at dg
          have HGO := Lib.hid hgo
          have HOWN := Lib.hid hown
          have HROW := Lib.hid hrow
          have HFRW := Lib.hid hfr
          have HK2 := Lib.hid hKK
          have HSC : Hid (Calls Try.prog 75 #[v] W fun e W' => e = .returned (.tuple #[]) ∧ W'.ownsRow (wr.heap.size + 4) 3 1 v (thinRow D k).reverse.length (iv .i64 (thinRow D k).reverse.reverse) ∧ Fr (fun k => v.ownBlock = some k) W W') := HSORT.out HR.out k hlt v (wr.heap.size + 4) W HOWN.out
          clear hgo hown hrow hfr hKK hq1 hq2
          go_wp2_with (go_at_call 75; (with_reducible refine HSC.out.mono ?_); rintro e w9 ⟨rfl, ho9, hf9⟩; have HO9 := Lib.hid ho9; have HF9 := Lib.hid hf9; clear ho9 hf9)
          have HN := thin_next hlt hs4 hszr hs6 HOL.out HUL.out HV.out HNIL.out HUP.out HFR.out HFw.out HFRW.out HF9.out HB6.out HGO.out HROW.out HO9.out HOWN.out HK2.out hDd HMK.out HDS.out
          refine ⟨⟨k + 1, Dd :: ds, _, _, _, _, _, _, _, _, _, _, _, _, _, _, _, _, _, _, _, _, _, hlt, HN.1, HN.2.1, HN.2.2, rfl⟩, ?_⟩
          show n - (intOf (.int .i64 ((k : Int) + 1))).toNat < n - (intOf (.int .i64 (k : Int))).toNat
          simp only [intOf]
          omega
        case stop =>
          rintro Dd c pre W _ _ h _
          exact h.elim
      · obtain rfl : k = n := by omega
        go_wp2_with (fail)
        refine leaves_all (base := w4.heap.size) ds wr HMK.out HDS.out fun w' hB hc => ?_
        have hlt' : (thinD D).length = k := (thinD_length HR.out).trans HL.out
        rw [hlt']
        refine ⟨_, results_tmp rfl _ _ _, ⟨_, _, rfl, ?_⟩, HWr.out.trans (hB.mono HW4.out.size)⟩
        have hb9 := hc g0 _ HBO.out rfl
        refine dp_of (by omega) hlt' HOL.out hb9 (fun j hj => ?_)
        obtain ⟨v, h1, h2⟩ := HV.out j hj
        have h3 : w'.ownsRow w4.heap.size 3 1 v (thinRow D j).length (iv .i64 (thinRow D j)) := own_same h2 (fun r hr => by
          rcases h2.2 with ⟨h4, _⟩ | ⟨g, cap, cur, h4, _, h5, _⟩
          · rw [h4] at hr; cases hr
          · rw [h4] at hr
            have : g = r := by simpa [Value.ownBlock] using hr
            subst this
            rw [h5]
            exact hc g _ h5 rfl)
        obtain ⟨A, m, rfl, h6, h7⟩ := rd_own h3
        rw [nth_thinD HR.out (by have := HL.out; omega)]
        exact ⟨A, _, m, h1, rfl, h7⟩
end Go.Proofs.Ytpicagcapgjiaaa
