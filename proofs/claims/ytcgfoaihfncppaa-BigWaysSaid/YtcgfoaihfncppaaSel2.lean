/- More small words of my own: a map with whole numbers as keys is stored into; made maps. No program in sight. -/
import Derived.Test.YtcgfoaihfncppaaSel
import Derived.Maps.Own
set_option linter.unusedSimpArgs false
set_option linter.unusedVariables false
namespace Go.Sel
open Go.RowKit Go.MapKept
open Go.ChangeMaps (setBlock heap_setBlock_same heap_setBlock_other)

theorem look_none {l : List (Int × Value)} {k : Int} : look l k = none ↔ ∀ p ∈ l, p.1 ≠ k := by
  simp [look, List.find?_eq_none]
theorem look_some_any {l : List (Int × Value)} {k : Int} {v : Value} (h : look l k = some v) : l.any (fun p => p.1 == k) = true := by
  simp only [look, Option.map_eq_some_iff] at h
  obtain ⟨p, hp, _⟩ := h
  exact List.any_eq_true.2 ⟨p, List.mem_of_find?_eq_some hp, List.find?_some (p := fun (p : Int × Value) => p.1 == k) hp⟩
theorem look_none_any {l : List (Int × Value)} {k : Int} (h : look l k = none) : l.any (fun p => p.1 == k) = false := by
  rw [List.any_eq_false]
  intro p hp
  simpa using look_none.1 h p hp

theorem put_nodup {l : List (Int × Value)} (k : Int) (v : Value) (h : (l.map (·.1)).Nodup) : ((put l k v).map (·.1)).Nodup := by
  unfold put
  split
  · have : (l.map fun p => if p.1 == k then (k, v) else p).map (·.1) = l.map (·.1) := by
      rw [List.map_map]
      refine List.map_congr_left fun p _ => ?_
      simp only [Function.comp]
      split
      · rename_i h; simp at h; simp [h]
      · rfl
    rw [this]; exact h
  · rename_i hn
    rw [List.map_append, List.nodup_append]
    refine ⟨h, by simp, ?_⟩
    intro a ha b hb
    simp only [List.map_cons, List.map_nil, List.mem_singleton] at hb
    subst hb
    rintro rfl
    obtain ⟨p, hp, rfl⟩ := List.mem_map.1 ha
    exact hn (List.any_eq_true.2 ⟨p, hp, by simp⟩)

/-- 'w'' is 'w' but for block b. -/
structure ButBlock (b : Nat) (w w' : World) : Prop where
  tape : w'.tape = w.tape
  os : w'.os = w.os
  output : w'.output = w.output
  size : w'.heap.size = w.heap.size
  far : ∀ i, i ≠ b → w'.heap[i]? = w.heap[i]?
theorem ButBlock.cell {b : Nat} {w w' : World} (h : ButBlock b w w') {a : Addr} (ha : a.block ≠ b) : w'.cell? a = w.cell? a := by
  simp only [World.cell?, h.far _ ha]
theorem ButBlock.frozen {b : Nat} {w w' : World} (h : ButBlock b w w') {a : Addr} (ha : a.block ≠ b) : w'.frozen? a = w.frozen? a := by
  simp only [World.frozen?, h.far _ ha]
theorem ButBlock.below {b B : Nat} {a w w' : World} (h : ButBlock b w w') (hB : Below B a w) (hb : B ≤ b) : Below B a w' :=
  hB.trans ⟨h.os, h.tape, h.output, Nat.le_of_eq h.size.symm, fun i hi => h.far i (by omega)⟩
theorem ButBlock.imap {b c : Nat} {w w' : World} {l : List (Int × Value)} (h : ButBlock b w w') (hm : IMap w c l) (hc : c ≠ b) : IMap w' c l :=
  ⟨hm.nodup, by rw [h.far c hc]; exact hm.is⟩
theorem ButBlock.rd {b : Nat} {w w' : World} {A : Option Addr} {n c : Nat} {cs : List Value} (h : ButBlock b w w') (hr : Rd w A n c cs) (hA : ∀ a, A = some a → a.block ≠ b) : Rd w' A n c cs :=
  ⟨hr.le, hr.cap, hr.at_.imp id fun ⟨k, off, e, hc⟩ => ⟨k, off, e, fun j hj => by rw [h.cell (a := ⟨k, off + j, none⟩) (show k ≠ b from hA _ e)]; exact hc j hj⟩⟩

theorem IMap.below {w w' : World} {B b : Nat} {l : List (Int × Value)} (h : IMap w b l) (hB : Below B w w') (hb : b < B) : IMap w' b l :=
  ⟨h.nodup, by rw [hB.block b hb]; exact h.is⟩
theorem IMap.lt {w : World} {b : Nat} {l : List (Int × Value)} (h : IMap w b l) : b < w.heap.size := by
  obtain ⟨es, c, hb, _⟩ := h.is
  exact (Array.getElem?_eq_some_iff.1 hb).1
theorem IMap.new (w : World) {t kt e : TypeId} : IMap (w.alloc (.map #[] 0)) w.heap.size [] :=
  ⟨by simp, #[], 0, blk11 w _, rfl, by simp, by simp⟩

section
variable {P : Program} {w : World} {b : Nat} {l : List (Int × Value)} {t kt e : TypeId} {q : IntKind}
theorem findNow_at {q : IntKind} (es : List MapEntry) (l : List (Int × Value)) (k : Int) (h : es.map (fun e => (e.key, e.val)) = l.map (fun p => (Value.int .i64 p.1, p.2))) {v : Value} (hv : look l k = some v) :
    ∃ j, Instr.findNow (.int q) (.int .i64 k) es 0 = some (some (j, v)) ∧ j < es.length ∧ l[j]? = some (k, v) := by
  obtain ⟨j, h1, h2⟩ := findNow_look (q := q) es l k 0 h
  rw [hv, Nat.zero_add] at h1
  obtain ⟨h3, h4⟩ := h2 v hv
  have hl : es.length = l.length := by simpa using congrArg List.length h
  exact ⟨j, h1, h3, by rw [List.getElem?_eq_getElem (by omega), h4 (by omega)]⟩

theorem IMap.store (h : IMap w b l) (ht : P.underlying t = some (.map kt e)) (hk : P.underlying kt = some (.int q)) (k : Int) (v : Value) :
    ∃ w', (Instr.mapUpdate t (.map (some b)) (.int .i64 k) v).run P w = .ok () w' ∧ IMap w' b (put l k v) ∧ ButBlock b w w' := by
  obtain ⟨es, clock, hb, hes, hlt, hnd⟩ := h.is
  have hlen : es.size = l.length := by simpa using congrArg List.length hes
  cases hl : look l k with
  | none =>
    obtain ⟨j, h1, _⟩ := findNow_look (q := q) es.toList l k 0 hes
    refine ⟨setBlock w b (.map (es.push ⟨.int .i64 k, v, clock⟩) (clock + 1)), ?_, ⟨put_nodup k v h.nodup, es.push ⟨.int .i64 k, v, clock⟩, clock + 1, heap_setBlock_same hb _, ?_, ?_, ?_⟩, ⟨rfl, rfl, rfl, by simp [setBlock], fun i hi => heap_setBlock_other hb _ hi⟩⟩
    · simp [Instr.mapUpdate, run_underlying ht, MapKept.run_getObj_map hb, checkKey_int w _ 9999 kt q k hk, Instr.findKey, run_underlying hk, h1, hl, MapKept.run_setObj_map _ hb, Result.andThen, setBlock]
    · rw [put, if_neg (by rw [look_none_any hl]; decide)]
      simp [hes]
    · intro x hx
      simp only [Array.toList_push, List.mem_append, List.mem_singleton] at hx
      rcases hx with hx | rfl
      · have := hlt x hx; omega
      · show clock < clock + 1; omega
    · rw [Array.toList_push, List.map_append, List.nodup_append]
      refine ⟨hnd, by simp, ?_⟩
      intro a ha c hc
      simp only [List.map_cons, List.map_nil, List.mem_singleton] at hc
      subst hc
      obtain ⟨x, hx, rfl⟩ := List.mem_map.1 ha
      have := hlt x hx
      omega
  | some u =>
    obtain ⟨j, h1, h2, h3⟩ := findNow_at (q := q) es.toList l k hes hl
    have hj : j < es.size := by simpa using h2
    have hkey : es[j].key = .int .i64 k := by
      have := congrArg (fun z => z[j]?) hes
      simp only [List.getElem?_map, h3] at this
      rw [List.getElem?_eq_getElem h2] at this
      simp at this
      exact this.1
    have hmod : (es.modify j fun e => { e with key := .int .i64 k, val := v }).toList = es.toList.set j { es[j] with key := .int .i64 k, val := v } := by
      rw [Array.toList_modify, Go.ChangeMaps.modify_eq_set _ _ _ _ (by rw [List.getElem?_eq_getElem h2])]
      simp
    refine ⟨setBlock w b (.map (es.modify j fun e => { e with key := .int .i64 k, val := v }) clock), ?_, ⟨put_nodup k v h.nodup, _, clock, heap_setBlock_same hb _, ?_, ?_, ?_⟩, ⟨rfl, rfl, rfl, by simp [setBlock], fun i hi => heap_setBlock_other hb _ hi⟩⟩
    · simp [Instr.mapUpdate, run_underlying ht, MapKept.run_getObj_map hb, checkKey_int w _ 9999 kt q k hk, Instr.findKey, run_underlying hk, h1, Array.getElem?_eq_getElem hj, hkey, Instr.keyThatStays, Instr.sameBits, MapKept.run_setObj_map _ hb, Result.andThen, setBlock]
    · have hjl : j < l.length := by omega
      rw [put, if_pos (look_some_any hl), hmod, List.map_set, hes]
      apply List.ext_getElem (by simp)
      intro i hi1 hi2
      simp only [List.length_set, List.length_map] at hi1
      have hkj : l[j] = (k, u) := by rw [List.getElem?_eq_getElem hjl] at h3; simpa using h3
      rw [List.getElem_set]
      split
      · rename_i hij
        subst hij
        simp [hkj]
      · rename_i hij
        have : l[i].1 ≠ k := by
          intro he
          have h4 := h.nodup
          rw [List.nodup_iff_pairwise_ne, List.pairwise_iff_getElem] at h4
          rcases Nat.lt_or_gt_of_ne hij with hlt' | hlt'
          · exact h4 j i (by simpa using hjl) (by simpa using hi1) hlt' (by simp [hkj, he])
          · exact h4 i j (by simpa using hi1) (by simpa using hjl) hlt' (by simp [hkj, he])
        simp [this]
    · intro x hx
      rw [hmod] at hx
      rcases List.mem_or_eq_of_mem_set hx with hx | rfl
      · exact hlt x hx
      · exact hlt es[j] (by simp)
    · have : (es.toList.set j { es[j] with key := .int .i64 k, val := v }).map (·.born) = es.toList.map (·.born) := by
        rw [List.map_set]
        apply List.ext_getElem (by simp)
        intro i h1 h2
        rw [List.getElem_set]
        split
        · rename_i hij; subst hij; simp
        · rfl
      rw [hmod, this]; exact hnd
end

/-- 'm[k] = v' at the operation: the world behind it is any that holds the new map and is the old one else. -/
theorem wpList_store {P : Program} {w : World} {ops : Array Oper} {rest : List Oper} {o : Oper} {a : Act} {Q : Exit → Act → World → Prop}
    (hg : o.guard = none) (m x v : Operand) (t : TypeId) (hop : o.op = Op.mapUpdate t m x v) {kt e : TypeId} {q : IntKind}
    (ht : P.underlying t = some (.map kt e)) (hk : P.underlying kt = some (.int q)) {b : Nat} {l : List (Int × Value)} {k : Int} {val : Value}
    (hm : a.eval m = .map (some b)) (hx : a.eval x = .int .i64 k) (hv : a.eval v = val) (h : IMap w b l)
    (hK : ∀ w', IMap w' b (put l k val) → ButBlock b w w' → wpList P ops Q rest (a.put o.dst undef) w') :
    wpList P ops Q (o :: rest) a w := by
  refine wpList_plain hg fun K' hK' => ?_
  obtain ⟨w', hrun, r1, r2⟩ := h.store ht hk k val
  unfold Oper.wp
  simp [execOp, hop, hm, hx, hv, hrun, Result.andThen]
  exact hK' _ _ (hK w' r1 r2)

/-- The map of those that were seen. -/
def seenL (xs : List Int) : List (Int × Value) := xs.map fun k => (k, .bool true)
theorem look_seen (xs : List Int) (k : Int) : (look (seenL xs) k).getD (.bool false) = .bool (xs.contains k) := by
  unfold look seenL
  induction xs with
  | nil => rfl
  | cons x xs ih =>
    by_cases h : x = k
    · subst h; simp
    · have : (x == k) = false := by simpa using h
      have h2 : (k == x) = false := by simp; exact fun e => h e.symm
      simp only [List.map_cons, List.find?_cons, this, List.contains_cons, h2, Bool.false_or]
      exact ih
theorem put_seen (xs : List Int) (k : Int) (h : xs.contains k = false) : put (seenL xs) k (.bool true) = seenL (xs ++ [k]) := by
  have : (seenL xs).any (fun p => p.1 == k) = false := by
    rw [List.any_eq_false]
    intro p hp
    simp only [seenL, List.mem_map] at hp
    obtain ⟨y, hy, rfl⟩ := hp
    intro he
    simp at he
    subst he
    simp [hy] at h
  rw [put, if_neg (by rw [this]; decide)]
  simp [seenL]
end Go.Sel
