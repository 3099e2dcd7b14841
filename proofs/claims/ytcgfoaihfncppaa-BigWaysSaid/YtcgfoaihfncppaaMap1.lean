/- Small words of my own: 'range' over a map with whole numbers as keys; such a map as the shelf reads it. No program in sight. -/
import Derived.Test.YtcgfoaihfncppaaSel7
import Derived.Maps.RangeWalk
import Derived.Shelf.SlIterI.Nil
set_option linter.unusedSimpArgs false
set_option linter.unusedVariables false
namespace Go.Sel
open Go.RowKit Go.MapKept Go.Maps
open Go.ChangeMaps (setBlock heap_setBlock_same heap_setBlock_other)

/-- 'for k, v := range m' under way: of l's entries 'left' are still to come. -/
structure IRng (w : World) (b r : Nat) (l left : List (Int × Value)) : Prop where
  map : IMap w b l
  it : ∃ es clock since seen c0, w.heap[b]? = some (.map es clock) ∧ w.heap[r]? = some (.mapIter (some b) since seen c0) ∧ (es.toList.map (·.born)).Nodup ∧ (∀ x ∈ es.toList, x.born < since) ∧ since ≤ c0 ∧ since ≤ clock ∧
    (leftOf es seen).toList.map (fun e => (e.key, e.val)) = left.map (fun p => (Value.int .i64 p.1, p.2)) ∧ es.toList.map (fun e => (e.key, e.val)) = l.map (fun p => (Value.int .i64 p.1, p.2))
theorem IRng.lt {w : World} {b r : Nat} {l left : List (Int × Value)} (h : IRng w b r l left) : r < w.heap.size := by
  obtain ⟨es, clock, since, seen, c0, _, hr, _⟩ := h.it
  exact (Array.getElem?_eq_some_iff.1 hr).1
theorem IRng.ne {w : World} {b r : Nat} {l left : List (Int × Value)} (h : IRng w b r l left) : r ≠ b := by
  obtain ⟨es, clock, since, seen, c0, hb, hr, _⟩ := h.it
  intro e
  rw [e, hb] at hr
  cases hr
theorem IRng.left_eq {w : World} {b r : Nat} {l left : List (Int × Value)} (h : IRng w b r l left) : w.rangeLeft b r = left.length := by
  obtain ⟨es, clock, since, seen, c0, hb, hr, _, _, _, _, hl, _⟩ := h.it
  have := congrArg List.length hl
  simp only [List.length_map, Array.length_toList] at this
  simp only [World.rangeLeft, hb, hr]
  exact this
theorem IRng.same {w w' : World} {b r : Nat} {l left : List (Int × Value)} (h : IRng w b r l left) (hb : w'.heap[b]? = w.heap[b]?) (hr : w'.heap[r]? = w.heap[r]?) : IRng w' b r l left :=
  ⟨⟨h.map.nodup, by rw [hb]; exact h.map.is⟩, by rw [hb, hr]; exact h.it⟩
theorem IRng.keep {S : Nat → Prop} {w w' : World} {b r : Nat} {l left : List (Int × Value)} (h : IRng w b r l left) (hf : Fr S w w') (hb : ¬ S b) (hr : ¬ S r) : IRng w' b r l left :=
  h.same (hf.block b h.map.lt hb) (hf.block r h.lt hr)
theorem IRng.start {P : Program} {w : World} {b : Nat} {l : List (Int × Value)} {t k e : TypeId} (h : IMap w b l) (ht : P.underlying t = some (.map k e)) :
    ∃ w', (Instr.range t (.map (some b))).run P w = .ok (.pointer (some ⟨w.heap.size, 0, none⟩)) w' ∧ IRng w' b w.heap.size l l ∧ Below w.heap.size w w' ∧ w.heap.size < w'.heap.size := by
  obtain ⟨es, clock, hb, hes, hlt, hnd⟩ := h.is
  have hB := below_al w (.mapIter (some b) clock #[] clock)
  refine ⟨_, run_range_map w t k e b es clock ht hb, ⟨h.below hB h.lt, es, clock, clock, #[], clock, (hB.block b h.lt).trans hb, blk11 w _, hnd, hlt, Nat.le_refl _, Nat.le_refl _, ?_, hes⟩, hB, by simp⟩
  rw [← hes]
  congr 1
  simp [leftOf]

theorem filter_out {α : Type} (f : α → Nat) : ∀ (L1 : List α) (e : α) (L2 : List α), ((L1 ++ e :: L2).map f).Nodup → (L1 ++ e :: L2).filter (fun x => f x != f e) = L1 ++ L2 := by
  intro L1 e L2 h
  rw [List.filter_append, List.filter_cons]
  rw [List.map_append, List.map_cons, List.nodup_append, List.nodup_cons] at h
  obtain ⟨_, ⟨h1, _⟩, h3⟩ := h
  have a1 : L1.filter (fun x => f x != f e) = L1 := List.filter_eq_self.2 fun x hx => by
    have := h3 (f x) (List.mem_map_of_mem hx) (f e) (by simp)
    simpa using this
  have a2 : L2.filter (fun x => f x != f e) = L2 := List.filter_eq_self.2 fun x hx => by
    have : f x ≠ f e := fun e' => h1 (by rw [← e']; exact List.mem_map_of_mem hx)
    simpa using this
  rw [a1, a2]
  simp

theorem IRng.next {P : Program} {w : World} {b r : Nat} {l left : List (Int × Value)} (h : IRng w b r l left) (ty : TypeId) :
    (left = [] ∧ (Instr.next (.pointer (some ⟨r, 0, none⟩)) false ty).run P w = .ok (.tuple #[.bool false]) w) ∨
    ∃ l1 p l2 w', left = l1 ++ p :: l2 ∧ (Instr.next (.pointer (some ⟨r, 0, none⟩)) false ty).run P w = .ok (.tuple #[.bool true, .int .i64 p.1, p.2]) w' ∧ IRng w' b r l (l1 ++ l2) ∧ Fr (· = r) w w' ∧ w'.heap.size = w.heap.size ∧
      (Instr.entry (.pointer (some ⟨r, 0, none⟩))).run P w' = .ok (.tuple #[.int .i64 p.1, p.2]) w' := by
  have hne := h.ne
  have hrl := h.lt
  have hm := h.map
  obtain ⟨es, clock, since, seen, c0, hb, hr, hnd, hold, hsc, hsk, hl, hes⟩ := h.it
  rcases run_next_at (P := P) w ty r b since c0 seen es clock hr hb hold hsc with ⟨h0, hrun⟩ | ⟨e, he, w1, hal, hrun⟩
  · left
    refine ⟨?_, hrun⟩
    have := congrArg List.length hl
    simp only [List.length_map, Array.length_toList, h0] at this
    exact List.eq_nil_of_length_eq_zero this.symm
  · right
    obtain ⟨L1, L2, hL⟩ := List.append_of_mem he
    rw [hL, List.map_append, List.map_cons] at hl
    obtain ⟨l1, rest, e1, e2, e3⟩ := List.map_eq_append_iff.1 hl.symm
    obtain ⟨p, l2, rfl, e4, e5⟩ := List.map_eq_cons_iff.1 e3
    simp only [Prod.mk.injEq] at e4
    have hw1 : Fr (· = r) w w1 ∧ w1.heap = w.heap := by
      rcases hal with rfl | rfl
      · exact ⟨Fr.refl _ _, rfl⟩
      · exact ⟨(Fr.refl _ w).drewN 1, rfl⟩
    have hr1 : w1.heap[r]? = some (.mapIter (some b) since seen c0) := by rw [hw1.2]; exact hr
    have hb1 : w1.heap[b]? = some (.map es clock) := by rw [hw1.2]; exact hb
    have hsb : ∀ o i, i ≠ r → (setBlock w1 r o).heap[i]? = w1.heap[i]? := fun o i hi => by simp [setBlock, Array.getElem?_setIfInBounds, Ne.symm hi]
    have hbn : (setBlock w1 r (.mapIter (some b) since (seen.push e.born) clock)).heap[b]? = some (.map es clock) := (hsb _ b (Ne.symm hne)).trans hb1
    have hrn : (setBlock w1 r (.mapIter (some b) since (seen.push e.born) clock)).heap[r]? = some (.mapIter (some b) since (seen.push e.born) clock) := by
      have hlt : r < w1.heap.size := by rw [hw1.2]; exact hrl
      simp [setBlock, hlt]
    have hsz : (setBlock w1 r (.mapIter (some b) since (seen.push e.born) clock)).heap.size = w.heap.size := by simp [setBlock, hw1.2]
    have heM : e ∈ es.toList := by
      have : e ∈ (leftOf es seen).toList := he
      simp [leftOf] at this
      simpa using this.1
    refine ⟨l1, p, l2, _, e1, ?_, ⟨⟨hm.nodup, ?_⟩, es, clock, since, seen.push e.born, clock, hbn, hrn, hnd, hold, hsk, hsk, ?_, hes⟩, ?_, hsz, ?_⟩
    · rw [hrun, ← e4.1, ← e4.2]
    · rw [hbn, ← hb]; exact hm.is
    · have hleft : (leftOf es (seen.push e.born)).toList = (leftOf es seen).toList.filter (fun x => x.born != e.born) := by
        simp only [leftOf, Array.toList_filter]
        rw [List.filter_filter]
        congr 1
        funext x
        simp only [Array.contains_push, Bool.not_or]
        cases (seen.contains x.born) <;> simp [bne]
      have hndL : ((L1 ++ e :: L2).map (·.born)).Nodup := by
        rw [← hL]
        refine List.Nodup.sublist ?_ hnd
        simp only [leftOf, Array.toList_filter]
        exact (List.filter_sublist).map _
      rw [hleft, hL, filter_out (·.born) L1 e L2 hndL, List.map_append, List.map_append, e2, e5]
    · refine ⟨?_, ?_, ?_, ?_, ?_⟩
      · exact hw1.1.os
      · exact hw1.1.tape
      · exact hw1.1.output
      · exact Nat.le_of_eq hsz.symm
      · intro i hi hne'
        rw [hsb _ i hne', hw1.2]
    · rw [run_entry_at _ r b since seen es clock e hrn hbn heM hnd, ← e4.1, ← e4.2]

section
variable {P : Program} {w : World} {ops : Array Oper} {rest : List Oper} {o : Oper} {a : Act} {Q : Exit → Act → World → Prop}
/-- 'range m' at the operation. -/
theorem wpList_range_i (hg : o.guard = none) (m : Operand) (t : TypeId) (hop : o.op = Op.range t m) {k e : TypeId} (ht : P.underlying t = some (.map k e)) {b : Nat} {l : List (Int × Value)} (hm : a.eval m = .map (some b)) (h : IMap w b l)
    (hK : ∀ w', IRng w' b w.heap.size l l → Below w.heap.size w w' → w.heap.size < w'.heap.size → wpList P ops Q rest (a.put o.dst (.pointer (some ⟨w.heap.size, 0, none⟩))) w') :
    wpList P ops Q (o :: rest) a w := by
  refine wpList_plain hg fun K' hK' => ?_
  obtain ⟨w', hrun, r1, r2, r3⟩ := IRng.start (P := P) h ht
  unfold Oper.wp
  simp [execOp, hop, hm, hrun, Result.andThen]
  exact hK' _ _ (hK w' r1 r2 r3)
/-- The step at the operation. -/
theorem wpList_next_i (hg : o.guard = none) (it : Operand) (hop : o.op = Op.next it false) {b r : Nat} {l left : List (Int × Value)} (hit : a.eval it = .pointer (some ⟨r, 0, none⟩)) (h : IRng w b r l left)
    (hDone : left = [] → wpList P ops Q rest (a.put o.dst (.tuple #[.bool false])) w)
    (hMore : ∀ l1 p l2 w', left = l1 ++ p :: l2 → IRng w' b r l (l1 ++ l2) → Fr (· = r) w w' → w'.heap.size = w.heap.size → (Instr.entry (.pointer (some ⟨r, 0, none⟩))).run P w' = .ok (.tuple #[.int .i64 p.1, p.2]) w' →
      wpList P ops Q rest (a.put o.dst (.tuple #[.bool true, .int .i64 p.1, p.2])) w') :
    wpList P ops Q (o :: rest) a w := by
  refine wpList_plain hg fun K' hK' => ?_
  unfold Oper.wp
  rcases h.next (P := P) o.type with ⟨h0, hrun⟩ | ⟨l1, p, l2, w', e, hrun, hr, hf, hs, hen⟩
  · simp [execOp, hop, hit, hrun, Result.andThen]
    exact hK' _ _ (hDone h0)
  · simp [execOp, hop, hit, hrun, Result.andThen]
    exact hK' _ _ (hMore l1 p l2 w' e hr hf hs hen)
end
end Go.Sel
/- Small words of my own: a map with whole numbers as keys: an entry struck; as the shelf reads it; its keys, sorted. No program in sight. -/
set_option linter.unusedSimpArgs false
set_option linter.unusedVariables false
namespace Go.Sel
open Go.RowKit Go.MapKept Go.Maps
open Go.ChangeMaps (setBlock heap_setBlock_same heap_setBlock_other)
open Go.ChangeShapes Go.WideShapes
open Go.WideElems (Fit rd rg pl rd_key rd_val rg_of rd_mk)

section
variable {P : Program} {w : World} {b : Nat} {l : List (Int × Value)} {t kt e : TypeId} {q : IntKind}
/-- An entry is struck. -/
def del (l : List (Int × Value)) (k : Int) : List (Int × Value) := l.filter (fun p => p.1 != k)
theorem IMap.delete (h : IMap w b l) (ht : P.underlying t = some (.map kt e)) (hk : P.underlying kt = some (.int q)) (k : Int) (kt' ty : TypeId) :
    ∃ w', (Builtin.delete_ #[t, kt'] ty #[.map (some b), .int .i64 k]).run P w = .ok (.tuple #[]) w' ∧ IMap w' b (del l k) ∧ ButBlock b w w' := by
  obtain ⟨es, clock, hb, hes, hlt, hnd⟩ := h.is
  have hlen : es.size = l.length := by simpa using congrArg List.length hes
  have hfo : ∀ (o : Obj), ButBlock b w (setBlock w b o) := fun o => ⟨rfl, rfl, rfl, by simp [setBlock], fun i hi => heap_setBlock_other hb _ hi⟩
  cases hl : look l k with
  | none =>
    obtain ⟨j, h1, _⟩ := findNow_look (q := q) es.toList l k 0 hes
    have hd : del l k = l := List.filter_eq_self.2 fun p hp => by simpa using look_none.1 hl p hp
    refine ⟨setBlock w b (.map es clock), ?_, ⟨by rw [hd]; exact h.nodup, es, clock, heap_setBlock_same hb _, by rw [hd]; exact hes, hlt, hnd⟩, hfo _⟩
    simp [Builtin.delete_, run_underlying ht, MapKept.run_getObj_map hb, checkKey_int w _ 9999 kt q k hk, Instr.findKey, run_underlying hk, h1, hl, MapKept.run_setObj_map _ hb, Result.andThen, setBlock]
  | some u =>
    obtain ⟨j, h1, h2, h3⟩ := findNow_at (q := q) es.toList l k hes hl
    have hj : j < es.size := by simpa using h2
    have hjl : j < l.length := by omega
    have hjk : l[j] = (k, u) := by rw [List.getElem?_eq_getElem hjl] at h3; simpa using h3
    have hd : del l k = l.eraseIdx j := by
      have e1 : l = l.take j ++ l[j] :: l.drop (j + 1) := by simp
      unfold del
      rw [List.eraseIdx_eq_take_drop_succ]
      conv => lhs; rw [e1]
      have hn := h.nodup
      rw [e1, List.map_append, List.map_cons, List.nodup_append, List.nodup_cons] at hn
      obtain ⟨_, ⟨n1, _⟩, n3⟩ := hn
      rw [List.filter_append, List.filter_cons]
      have a1 : (l.take j).filter (fun p => p.1 != k) = l.take j := List.filter_eq_self.2 fun x hx => by
        have := n3 x.1 (List.mem_map_of_mem hx) l[j].1 (by simp)
        rw [hjk] at this
        simpa using this
      have a2 : (l.drop (j + 1)).filter (fun p => p.1 != k) = l.drop (j + 1) := List.filter_eq_self.2 fun x hx => by
        have : x.1 ≠ l[j].1 := fun e' => n1 (by rw [← e']; exact List.mem_map_of_mem hx)
        rw [hjk] at this
        simpa using this
      rw [a1, a2, hjk]
      simp
    have htl : (es.eraseIdxIfInBounds j).toList = es.toList.eraseIdx j := by simp [Array.eraseIdxIfInBounds, hj]
    refine ⟨setBlock w b (.map (es.eraseIdxIfInBounds j) clock), ?_, ⟨?_, es.eraseIdxIfInBounds j, clock, heap_setBlock_same hb _, ?_, ?_, ?_⟩, hfo _⟩
    · simp [Builtin.delete_, run_underlying ht, MapKept.run_getObj_map hb, checkKey_int w _ 9999 kt q k hk, Instr.findKey, run_underlying hk, h1, hl, MapKept.run_setObj_map _ hb, Result.andThen, setBlock]
    · exact h.nodup.sublist ((List.filter_sublist).map _)
    · rw [htl, hd, Go.ChangeMaps.map_eraseIdx, Go.ChangeMaps.map_eraseIdx, hes]
    · intro x hx
      rw [htl] at hx
      exact hlt x (List.mem_of_mem_eraseIdx hx)
    · rw [htl]
      exact hnd.sublist ((List.eraseIdx_sublist _ _).map _)

/-- As the shelf reads it. -/
theorem IMap.fit {H : Type} {R : Value → Option (DataW H × List MemPlace)} (h : IMap w b l) (hk : P.underlying kt = some (.int .i64)) (hw : ∀ p ∈ l, (Lit.int .i64 p.1).wf = true) (hR : ∀ p ∈ l, ∃ y, R p.2 = some y) (hs : l.length ≤ maxLen) :
    ∃ es clock, w.heap[b]? = some (.map es clock) ∧ Fit P kt R es clock ∧ es.toList.map (fun e => (e.key, e.val)) = l.map (fun p => (Value.int .i64 p.1, p.2)) ∧
      es.toList.map (rg P kt R) = l.map (fun p => (Lit.int .i64 p.1, ((R p.2).getD (.nil, [])).1)) := by
  obtain ⟨es, clock, hb, hes, hlt, hnd⟩ := h.is
  have hlen : es.size = l.length := by simpa using congrArg List.length hes
  have hrd : ∀ x ∈ es.toList, ∃ p ∈ l, x.key = .int .i64 p.1 ∧ x.val = p.2 := fun x hx => by
    have : (x.key, x.val) ∈ es.toList.map (fun e => (e.key, e.val)) := List.mem_map.2 ⟨x, hx, rfl⟩
    rw [hes] at this
    obtain ⟨p, hp, e⟩ := List.mem_map.1 this
    simp only [Prod.mk.injEq] at e
    exact ⟨p, hp, e.1.symm, e.2.symm⟩
  have hone : ∀ x ∈ es.toList, ∀ p ∈ l, x.key = .int .i64 p.1 → x.val = p.2 → rd P kt R x = some (Lit.int .i64 p.1, ((R p.2).getD (.nil, [])).1) := fun x hx p hp e1 e2 => by
    obtain ⟨y, hy⟩ := hR p hp
    obtain ⟨k, v, bo⟩ := x
    simp only at e1 e2
    subst e1 e2
    rw [rd_mk (Maps.keyOf_int_mk hk (hw p hp)) hy, hy]
    rfl
  refine ⟨es, clock, hb, ⟨by omega, ⟨hlt, hnd, ?_⟩, fun x hx => ?_⟩, hes, ?_⟩
  · have e1 : es.toList.map (·.key) = l.map (fun p => Value.int .i64 p.1) := by
      have := congrArg (List.map Prod.fst) hes
      rw [List.map_map, List.map_map] at this
      exact this
    rw [e1]
    have hn := h.nodup
    unfold List.Nodup at hn ⊢
    rw [List.pairwise_map] at hn ⊢
    exact hn.imp fun h e => h (by injection e)
  · obtain ⟨p, hp, e1, e2⟩ := hrd x hx
    exact ⟨_, hone x hx p hp e1 e2⟩
  · apply List.ext_getElem (by simp [hlen])
    intro i h1 h2
    simp only [List.length_map] at h1 h2
    simp only [List.getElem_map]
    have hi : (es.toList[i].key, es.toList[i].val) = (Value.int .i64 l[i].1, l[i].2) := by
      have := congrArg (fun z => z[i]?) hes
      simp only [List.getElem?_map, List.getElem?_eq_getElem h1, List.getElem?_eq_getElem h2, Option.map_some] at this
      injection this
    simp only [Prod.mk.injEq] at hi
    rw [rg_of (hone _ (List.getElem_mem h1) l[i] (List.getElem_mem h2) hi.1 hi.2)]
theorem IMap.owns {H : Type} {R : Value → Option (DataW H × List MemPlace)} (h : IMap w b l) (hk : P.underlying kt = some (.int .i64)) (hw : ∀ p ∈ l, (Lit.int .i64 p.1).wf = true) (hR : ∀ p ∈ l, ∃ y, R p.2 = some y) (hs : l.length ≤ maxLen) :
    ∃ D : DataW H, w.ownsMap P kt R b l.length D ∧ (intKeys D).Perm (l.map (·.1)) ∧ Maps.size D = l.length ∧ D = .map ((l.map (fun p => (Lit.int .i64 p.1, ((R p.2).getD (.nil, [])).1))).foldr DataW.insert []) := by
  obtain ⟨es, clock, hb, F, hes, hrg⟩ := h.fit (R := R) hk hw hR hs
  have hlen : es.size = l.length := by simpa using congrArg List.length hes
  refine ⟨_, ⟨es, clock, hb, F, by omega, rfl⟩, ?_, ?_, by rw [hrg]⟩
  · rw [hrg]
    refine ((sorted_perm _).map _).trans ?_
    rw [List.map_map]
    refine List.Perm.of_eq (List.map_congr_left fun p _ => rfl)
  · simp [Maps.size, length_sorted, hlen]
/-- The number that a value is. -/
def vOf : Value → Int
  | .int _ n => n
  | _ => 0
/-- What reads as a set is one. -/
theorem IMap.of_owns {H : Type} {n : Nat} {ks : List Int} (hk : P.underlying kt = some (.int .i64)) (he : P.underlying e = some .bool)
    (h : w.ownsMap (H := H) P kt (plainElem P e) b n (.map ((ks.map (fun x => (Lit.int .i64 x, DataW.lit (.bool true)))).foldr DataW.insert []))) : ∃ ks', IMap w b (seenL ks') ∧ ks'.Perm ks := by
  obtain ⟨es, clock, hb, F, hs, hD⟩ := h
  have hD' : ((ks.map (fun x => (Lit.int .i64 x, DataW.lit (H := H) (.bool true)))).foldr DataW.insert []) = ((es.toList.map (rg P kt (plainElem P e))).foldr DataW.insert []) := by
    injection hD
  have hp : (es.toList.map (rg P kt (plainElem (H := H) P e))).Perm (ks.map (fun x => (Lit.int .i64 x, DataW.lit (.bool true)))) := ((sorted_perm _).symm.trans (hD' ▸ List.Perm.refl _)).trans (sorted_perm _)
  have hone : ∀ x ∈ es.toList, ∃ k : Int, x.key = .int .i64 k ∧ x.val = .bool true ∧ rg P kt (plainElem (H := H) P e) x = (Lit.int .i64 k, DataW.lit (.bool true)) := fun x hx => by
    obtain ⟨y, hy⟩ := F.reads x hx
    obtain ⟨k, hk1, hk2, _⟩ := Maps.keyOf_int_inv hk (rd_key hy)
    obtain ⟨z, hz, hyz⟩ := rd_val hy
    have hm : rg P kt (plainElem (H := H) P e) x ∈ es.toList.map (rg P kt (plainElem P e)) := List.mem_map.2 ⟨x, hx, rfl⟩
    rw [hp.mem_iff] at hm
    obtain ⟨k', _, hk'⟩ := List.mem_map.1 hm
    rw [rg_of hy] at hk' ⊢
    obtain ⟨y1, y2⟩ := y
    simp only [Prod.mk.injEq] at hk'
    simp only at hk2 hyz
    refine ⟨k, hk1, ?_, by rw [← hk'.2, hk2]⟩
    rw [← hk'.2] at hyz
    cases hv : x.val <;> rw [hv] at hz <;> simp [plainElem, he] at hz
    rename_i bb
    subst hz
    simp at hyz
    rw [← hyz]
  refine ⟨es.toList.map fun x => vOf x.key, ⟨?_, es, clock, hb, ?_, F.stamped.1, F.stamped.2.1⟩, ?_⟩
  · have e1 : (seenL (es.toList.map fun x => vOf x.key)).map (·.1) = es.toList.map fun x => vOf x.key := by simp [seenL]
    rw [e1]
    have h3 := F.stamped.2.2
    rw [show es.toList.map (·.key) = (es.toList.map fun x => vOf x.key).map (Value.int .i64) by
      rw [List.map_map]
      refine List.map_congr_left fun x hx => ?_
      obtain ⟨k, hk1, _⟩ := hone x hx
      simp [hk1, vOf]] at h3
    unfold List.Nodup at h3 ⊢
    rw [List.pairwise_map] at h3
    exact h3.imp fun h e => h (by rw [e])
  · simp only [seenL, List.map_map]
    refine List.map_congr_left fun x hx => ?_
    obtain ⟨k, hk1, hk2, _⟩ := hone x hx
    simp [hk1, hk2, vOf]
  · have e1 : es.toList.map (fun x => vOf x.key) = (es.toList.map (rg P kt (plainElem (H := H) P e))).map (fun p => intOf p.1) := by
      rw [List.map_map]
      refine List.map_congr_left fun x hx => ?_
      obtain ⟨k, hk1, _, hk3⟩ := hone x hx
      simp [hk3, hk1, vOf, intOf]
    rw [e1]
    refine (hp.map _).trans ?_
    rw [List.map_map]
    refine List.Perm.of_eq ?_
    exact (List.map_congr_left (g := id) (fun x _ => rfl)).trans (List.map_id ks)
end
/-- A rising row is what its members, sorted, give. -/
theorem sorted_rises {ss ks ps : List Int} (h1 : ss.Perm ks) (h2 : ks.Nodup) (h3 : ps.Pairwise (· < ·)) (h4 : ∀ x, x ∈ ks ↔ x ∈ ps) : ss.mergeSort (fun x y => decide (x ≤ y)) = ps := by
  have hp : (ss.mergeSort (fun x y => decide (x ≤ y))).Perm ps := by
    refine (List.mergeSort_perm _ _).trans (h1.trans ?_)
    refine (List.perm_ext_iff_of_nodup h2 (h3.imp fun h => by omega)).2 h4
  have hs : (ss.mergeSort (fun x y => decide (x ≤ y))).Pairwise (fun x y => decide (x ≤ y) = true) := List.pairwise_mergeSort (fun a b c h1 h2 => by simp at *; omega) (fun a b => by simp; omega) _
  refine List.Perm.eq_of_pairwise (le := fun x y => x ≤ y) (fun a b _ _ h1 h2 => by omega) (hs.imp fun h => by simpa using h) (h3.imp fun h => by omega) hp
end Go.Sel
