/- Small words of my own: append of a slice that is read; rows of bytes in an array of the call's own. No program in sight. -/
import Derived.Test.YtcgfoaihfncppaaSel7
set_option linter.unusedSimpArgs false
set_option linter.unusedVariables false
namespace Go.Sel
open Go.RowKit Go.Sel.Gra

section
variable {P : Program}
/-- 'append(v, s...)', s read as 'ys'. -/
theorem run_extend {w : World} (base : Nat) (t ty e : TypeId) (z : Value) (bytes : Nat)
    (ht : P.underlying t = some (.slice e)) (hinfo : (P.info? e).map (fun i => (i.zero, i.size, i.bytes)) = some (some z, 1, bytes)) (hz : z.cells.size = 1)
    (v : Value) (n : Nat) (xs : List Value) (HO : w.ownsRow base e 1 v n xs) (A : Option Addr) (m c : Nat) (ys : List Value) (hr : Rd w A m c ys) (hl : ys.length = m) (h1 : ∀ u ∈ ys, u.oneCell' = true)
    (hmax : n + m ≤ maxLen) (hb : (n + m) * bytes ≤ 140737488355328) (hbase : base ≤ w.heap.size) :
    ∃ v' w1, (Builtin.append_ #[t, t] ty #[v, .slice A m c]).run P w = .ok v' w1 ∧ w1.ownsRow base e 1 v' (n + m) (xs ++ ys) ∧ w.grownBy w1 v.ownBlock ∧ (v'.ownBlock = v.ownBlock ∨ v'.ownBlock = some w.heap.size) := by
  obtain ⟨i0, hi, hzz⟩ := Option.map_eq_some_iff.1 hinfo
  simp only [Prod.mk.injEq] at hzz
  obtain ⟨hz0, hz1, hz2⟩ := hzz
  cases A with
  | none =>
    have hys : ys = [] := by
      rcases hr.at_ with h | ⟨b, off, h, _⟩
      · exact h
      · cases h
    subst hys
    simp only [List.length_nil] at hl
    subst hl
    refine ⟨v, w, ?_, by simpa using HO, World.grownBy.refl w _, .inl rfl⟩
    rcases HO.2 with ⟨rfl, rfl⟩ | ⟨g, cap, cur, rfl, _, _, hnc, _⟩
    · simp [Builtin.append_, run_underlying ht, sizeOf, typeInfo, hi, Builtin.lenOf, Builtin.firstCells]
    · simp [Builtin.append_, run_underlying ht, sizeOf, typeInfo, hi, Builtin.lenOf, Builtin.firstCells, hnc, storeCells]
  | some a =>
    obtain ⟨v', w1, hr1, hown, hg, _, hat⟩ := run_append_own_at (P := P) w base t ty e i0 z 1 bytes ht hi hz0 hz1 hz2 hz (by decide) v n xs HO a m c ys (by simpa using hl) (fun j u hu => by
      obtain ⟨hj, hu'⟩ := List.getElem?_eq_some_iff.1 hu
      rcases hr.at_ with h | ⟨b, off, h, hc⟩
      · subst h; simp at hj
      · injection h with h
        subst h
        have ha : (⟨b, off, none⟩ : Addr).add j = ⟨b, off + j, none⟩ := by unfold Addr.add; split <;> simp_all
        rw [ha, hc j hj, hu']) h1 hmax hb hbase
    exact ⟨v', w1, hr1, hown, hg, hat⟩
/-- 's == nil'. -/
theorem run_eql_sl (w : World) (t e : TypeId) (a : Option Addr) (n c : Nat) (h : P.underlying t = some (.slice e)) : (binOp .eql t (.slice a n c) (.slice none 0 0)).run P w = .ok (.bool a.isNone) w := by
  simp only [binOp]
  simp [Op.equal, Op.maxDepth, Lib.run_equalIn_slice_nil w 9999 t e a n c 0 0 h]
theorem run_neq_sl (w : World) (t e : TypeId) (a : Option Addr) (n c : Nat) (h : P.underlying t = some (.slice e)) : (binOp .neq t (.slice a n c) (.slice none 0 0)).run P w = .ok (.bool (!a.isNone)) w := by
  simp only [binOp]
  simp [Op.equal, Op.maxDepth, Lib.run_equalIn_slice_nil w 9999 t e a n c 0 0 h]
/-- 's[l:]' of a slice that isn't cut at its very end. -/
theorem slice_lo {t : TypeId} (hu : P.underlying t = some (.slice (P.elem t))) (hz : ∀ W, (sizeOf (P.elem t)).run P W = .ok 1 W) (b off n c l : Nat) (h1 : l ≤ n) (hlc : l < c) :
    ∀ W, (Instr.slice t (.slice (some ⟨b, off, none⟩) n c) (some (.int .i64 (l : Int))) none none).run P W = .ok (.slice (some ⟨b, off + l, none⟩) (n - l) (c - l)) W := by
  intro W
  rw [run_slice_l W t _ n c hu .i64 l (by omega) (by omega), hz]
  simp only [Result.andThen, sliced, Int.toNat_natCast]
  rw [if_neg (by omega)]
  simp only [Option.map_some, Addr.add, Nat.mul_one]
  split
  · rename_i h0
    simp [h0]
  · rfl
/-- A builtin 'append', its run known, in a plain region. -/
theorem wpList_append_run {ops : Array Oper} {rest : List Oper} {o : Oper} {a : Act} {Q : Exit → Act → World → Prop} {w w' : World} (hgd : o.guard = none) (d s : Operand) (t t' : TypeId)
    (ho : o.op = .call { callee := .builtin .append, args := #[d, s], argTypes := #[t, t'] }) (dv sv v : Value) (hd : a.eval d = dv) (hs : a.eval s = sv)
    (hrun : (Builtin.append_ #[t, t'] o.type #[dv, sv]).run P w = .ok v w') (h : wpList P ops Q rest (a.put o.dst v) w') : wpList P ops Q (o :: rest) a w := by
  refine wpList_plain hgd fun K hK => ?_
  unfold Oper.wp execOp
  simp only [ho, resolve, invoke, builtin, Sem.run_bind, Sem.run_pure, Result.andThen_ok, List.map_toArray, List.map_cons, List.map_nil, hd, hs, hrun]
  exact hK _ _ h
end
theorem one_iv (k : IntKind) (xs : List Int) : ∀ u ∈ iv k xs, u.oneCell' = true := by
  intro u hu
  obtain ⟨x, _, rfl⟩ := List.mem_map.1 hu
  rfl
theorem one_sv (ss : List (Option Addr × Nat × Nat)) : ∀ u ∈ ss.map sv, u.oneCell' = true := by
  intro u hu
  obtain ⟨x, _, rfl⟩ := List.mem_map.1 hu
  rfl
/-- An empty slice of the call's own. -/
theorem own_empty (w : World) (e : TypeId) (base : Nat) (hb : base ≤ w.heap.size) : (w.alloc (.cells #[] e)).ownsRow base e 1 (.slice (some ⟨w.heap.size, 0, none⟩) 0 0) 0 [] :=
  ⟨rfl, .inr ⟨w.heap.size, 0, #[], rfl, hb, blk11 w _, Nat.le_refl _, by decide, rfl, rfl⟩⟩

/-- '.slice A n c' reads as the rows of bytes D, whose slices are ss. -/
structure BpS (w : World) (A : Option Addr) (n c : Nat) (D : List (List Int)) (ss : List (Option Addr × Nat × Nat)) : Prop where
  len : D.length = n
  slen : ss.length = n
  rd : Rd w A n c (ss.map sv)
  row : ∀ j (h : j < ss.length), (nth D j).length = ss[j].2.1 ∧ Rd w ss[j].1 ss[j].2.1 ss[j].2.2 (iv .u8 (nth D j)) ∧ AllByte (nth D j)
def Bp (w : World) (A : Option Addr) (n c : Nat) (D : List (List Int)) : Prop := ∃ ss, BpS w A n c D ss
section
variable {w w' : World} {A : Option Addr} {n c : Nat} {D : List (List Int)} {ss : List (Option Addr × Nat × Nat)}
theorem BpS.below (h : BpS w A n c D ss) (hb : Below w.heap.size w w') : BpS w' A n c D ss :=
  ⟨h.len, h.slen, h.rd.below hb, fun j hj => ⟨(h.row j hj).1, (h.row j hj).2.1.below hb, (h.row j hj).2.2⟩⟩
theorem Bp.below (h : Bp w A n c D) (hb : Below w.heap.size w w') : Bp w' A n c D := by obtain ⟨ss, h⟩ := h; exact ⟨ss, h.below hb⟩
theorem Bp.len (h : Bp w A n c D) : D.length = n := by obtain ⟨ss, h⟩ := h; exact h.len
theorem Bp.le (h : Bp w A n c D) : n ≤ c := by obtain ⟨ss, h⟩ := h; exact h.rd.le
theorem Bp.cap (h : Bp w A n c D) : c ≤ 9223372036854775807 := by obtain ⟨ss, h⟩ := h; exact h.rd.cap
theorem Bp.byte (h : Bp w A n c D) {i : Nat} (hi : i < n) : AllByte (nth D i) := by obtain ⟨ss, h⟩ := h; exact (h.row i (by rw [h.slen]; exact hi)).2.2
/-- The i-th row: its slice, and what it reads as. -/
theorem Bp.at_ (h : Bp w A n c D) {i : Nat} (hi : i < n) :
    ∃ b off A' n' c', A = some ⟨b, off, none⟩ ∧ b < w.heap.size ∧ w.cell? ⟨b, off + i, none⟩ = some (.slice A' n' c') ∧ (nth D i).length = n' ∧ Rd w A' n' c' (iv .u8 (nth D i)) ∧ AllByte (nth D i) := by
  obtain ⟨ss, h⟩ := h
  have hs : i < ss.length := by rw [h.slen]; exact hi
  obtain ⟨b, off, rfl, hb, hc⟩ := h.rd.form (by simp; omega)
  have := hc i (by simpa using hs)
  simp only [List.getElem_map, sv] at this
  exact ⟨b, off, _, _, _, rfl, hb, this, (h.row i hs).1, (h.row i hs).2.1, (h.row i hs).2.2⟩
theorem Bp.upto (h : Bp w A n c D) {k : Nat} (hk : k ≤ n) : Bp w A k c (D.take k) := by
  obtain ⟨ss, h⟩ := h
  have h1 := h.rd.upto k hk
  rw [← List.map_take] at h1
  have h2 := h.len
  have h3 := h.slen
  refine ⟨ss.take k, by simp; omega, by simp; omega, h1, fun j hj => ?_⟩
  have hj' : j < k ∧ j < ss.length := by rw [List.length_take] at hj; omega
  have h5 := h.row j hj'.2
  have e : nth (D.take k) j = nth D j := by simp [nth, List.getD_eq_getElem?_getD, List.getElem?_take_of_lt hj'.1]
  rw [e]
  simpa using h5
end
/-- Rows of bytes in an array of the call's own (from block B on), which may be written. -/
structure WbS (B : Nat) (w : World) (A : Option Addr) (n c : Nat) (D : List (List Int)) (ss : List (Option Addr × Nat × Nat)) : Prop where
  len : D.length = n
  slen : ss.length = n
  le : n ≤ c
  cap : c ≤ 9223372036854775807
  at_ : n = 0 ∨ ∃ g cur T, A = some ⟨g, 0, none⟩ ∧ B ≤ g ∧ w.heap[g]? = some (.cells cur T (0, 0)) ∧ ∀ j (h : j < ss.length), cur[j]? = some (sv ss[j])
  row : ∀ j (h : j < ss.length), (nth D j).length = ss[j].2.1 ∧ Rd w ss[j].1 ss[j].2.1 ss[j].2.2 (iv .u8 (nth D j)) ∧ AllByte (nth D j)
def Wb (B : Nat) (w : World) (A : Option Addr) (n c : Nat) (D : List (List Int)) : Prop := ∃ ss, WbS B w A n c D ss
section
variable {B : Nat} {w w' : World} {A : Option Addr} {n c : Nat} {D : List (List Int)} {ss : List (Option Addr × Nat × Nat)}
theorem WbS.bp (h : WbS B w A n c D ss) : BpS w A n c D ss := by
  refine ⟨h.len, h.slen, ⟨h.le, h.cap, ?_⟩, h.row⟩
  rcases h.at_ with h0 | ⟨g, cur, T, rfl, _, hg, hc⟩
  · left; have h1 := h.slen; exact List.eq_nil_of_length_eq_zero (by rw [List.length_map]; omega)
  · refine .inr ⟨g, 0, rfl, fun j hj => ?_⟩
    rw [blk_cell hg, Nat.zero_add, hc j (by simpa using hj)]; simp
theorem Wb.bp (h : Wb B w A n c D) : Bp w A n c D := by obtain ⟨ss, h⟩ := h; exact ⟨ss, h.bp⟩
theorem WbS.below (h : WbS B w A n c D ss) (hb : Below w.heap.size w w') : WbS B w' A n c D ss :=
  ⟨h.len, h.slen, h.le, h.cap, h.at_.imp id fun ⟨g, cur, T, h1, h2, h3, h4⟩ => ⟨g, cur, T, h1, h2, blk_below h3 hb (Array.getElem?_eq_some_iff.1 h3).1, h4⟩,
    fun j hj => ⟨(h.row j hj).1, (h.row j hj).2.1.below hb, (h.row j hj).2.2⟩⟩
theorem Wb.below (h : Wb B w A n c D) (hb : Below w.heap.size w w') : Wb B w' A n c D := by obtain ⟨ss, h⟩ := h; exact ⟨ss, h.below hb⟩
theorem Wb.len (h : Wb B w A n c D) : D.length = n := h.bp.len
theorem Wb.le (h : Wb B w A n c D) : n ≤ c := h.bp.le
theorem Wb.cap (h : Wb B w A n c D) : c ≤ 9223372036854775807 := h.bp.cap
theorem Wb.mono {B' : Nat} (h : Wb B w A n c D) (hb : B' ≤ B) : Wb B' w A n c D := by
  obtain ⟨ss, h⟩ := h
  exact ⟨ss, h.len, h.slen, h.le, h.cap, h.at_.imp id fun ⟨g, cur, T, h1, h2, h3⟩ => ⟨g, cur, T, h1, by omega, h3⟩, h.row⟩
/-- The i-th row, which may be stored into. -/
theorem Wb.at_ (h : Wb B w A n c D) {i : Nat} (hi : i < n) :
    ∃ g A' n' c', A = some ⟨g, 0, none⟩ ∧ B ≤ g ∧ g < w.heap.size ∧ w.cell? ⟨g, i, none⟩ = some (.slice A' n' c') ∧ w.frozen? ⟨g, i, none⟩ = false ∧ (nth D i).length = n' ∧ Rd w A' n' c' (iv .u8 (nth D i)) ∧ AllByte (nth D i) := by
  obtain ⟨ss, h⟩ := h
  have hs : i < ss.length := by rw [h.slen]; exact hi
  rcases h.at_ with h0 | ⟨g, cur, T, rfl, hb, hg, hc⟩
  · omega
  · exact ⟨g, _, _, _, rfl, hb, (Array.getElem?_eq_some_iff.1 hg).1, by rw [blk_cell hg, hc i hs]; rfl, blk_free hg i, h.row i hs⟩
theorem rd_off {m g : Nat} {cur : Array Value} {T : TypeId} {q : Nat} {v : Value} {k : IntKind} {xs : List Int} (hg : w.heap[g]? = some (.cells cur T (0, 0))) (hn : ∀ j x, cur[j]? = some (.int k x) → n ≤ j) (hq : q < n) (hr : Rd w A m c (iv k xs)) : Rd (w.setCell ⟨g, q, none⟩ v) A m c (iv k xs) := by
  refine ⟨hr.le, hr.cap, hr.at_.imp id fun ⟨b, off, e, hc⟩ => ⟨b, off, e, fun j hj => ?_⟩⟩
  have h1 := hc j hj
  by_cases hb : b = g
  · subst hb
    have h2 := h1
    rw [blk_cell hg, iv_at] at h2
    have h3 := hn _ _ h2
    rw [blk_cell (blk_set hg q v)]
    rw [blk_cell hg] at h1
    rw [Array.getElem?_setIfInBounds_ne (by omega)]
    exact h1
  · rw [← h1]
    refine World.cell?_setCell_other _ _ _ _ ?_
    intro e
    exact hb (congrArg Addr.block e).symm
theorem Wb.set (h : Wb B w A n c D) {i : Nat} (hi : i < n) {A' : Option Addr} {n' c' : Nat} {xs : List Int} (hr : Rd w A' n' c' (iv .u8 xs)) (hl : xs.length = n') (hx : AllByte xs) {g : Nat} (hA : A = some ⟨g, 0, none⟩) :
    Wb B (w.setCell ⟨g, i, none⟩ (.slice A' n' c')) A n c (D.set i xs) := by
  obtain ⟨ss, h⟩ := h
  have hs := h.slen
  have hD := h.len
  rcases h.at_ with h0 | ⟨g', cur, T, e, hb, hg, hc⟩
  · omega
  · rw [hA] at e
    injection e with e; injection e with e
    subst e
    have hn : ∀ (k : IntKind) j x, cur[j]? = some (.int k x) → n ≤ j := by
      intro k j x hj
      rcases Nat.lt_or_ge j n with h' | h'
      · rw [hc j (by omega)] at hj; cases hj
      · exact h'
    refine ⟨ss.set i (A', n', c'), by simpa using hD, by simpa using hs, h.le, h.cap, .inr ⟨g, cur.setIfInBounds i (.slice A' n' c'), T, hA, hb, blk_set hg i _, fun j hj => ?_⟩, fun j hj => ?_⟩
    · have hj' : j < ss.length := by simpa using hj
      have hsz : j < cur.size := (Array.getElem?_eq_some_iff.1 (hc j hj')).1
      by_cases e : i = j
      · subst e
        simp [hsz, sv]
      · rw [Array.getElem?_setIfInBounds_ne e, hc j hj', List.getElem_set_ne e]
    · have hj' : j < ss.length := by simpa using hj
      by_cases e : i = j
      · subst e
        have e1 : nth (D.set i xs) i = xs := by simp [nth, List.getD_eq_getElem?_getD, show i < D.length by omega]
        rw [e1]
        simp only [List.getElem_set_self]
        exact ⟨hl, rd_off (n := n) hg (hn .u8) hi hr, hx⟩
      · have e1 : nth (D.set i xs) j = nth D j := by simp [nth, List.getD_eq_getElem?_getD, List.getElem?_set_ne e]
        rw [e1]
        simp only [List.getElem_set_ne e]
        have h5 := h.row j hj'
        exact ⟨h5.1, rd_off (n := n) hg (hn .u8) hi h5.2.1, h5.2.2⟩
theorem Wb.below_set {W : World} (h : Wb B w A n c D) {i g : Nat} (hi : i < n) (hA : A = some ⟨g, 0, none⟩) (hW : Below B W w) (v : Value) : Below B W (w.setCell ⟨g, i, none⟩ v) := by
  obtain ⟨g', _, _, _, e, hb, _⟩ := h.at_ hi
  rw [hA] at e
  injection e with e; injection e with e
  subst e
  exact hW.setCell hb v
end
end Go.Sel
