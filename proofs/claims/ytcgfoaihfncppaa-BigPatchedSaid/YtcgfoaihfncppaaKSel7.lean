/- Small words of my own: blocks whose cells are known; what a walk leaves as it was. No program in sight. -/
import Derived.Test.YtcgfoaihfncppaaKGraP
import Derived.OwnWalk
import Derived.Maps.RangeWalk
import Derived.Shelf.SlIterI.Nil
namespace Go.Sel
open Go.RowKit

/-- Block g holds just the cells vs. -/
def Bk (w : World) (g : Nat) (T : TypeId) (vs : List Value) : Prop := w.heap[g]? = some (.cells vs.toArray T (0, 0))
theorem Bk.lt {w : World} {g : Nat} {T : TypeId} {vs : List Value} (h : Bk w g T vs) : g < w.heap.size := (Array.getElem?_eq_some_iff.1 h).1
theorem Bk.cell {w : World} {g : Nat} {T : TypeId} {vs : List Value} (h : Bk w g T vs) (j : Nat) (hj : j < vs.length) : w.cell? ⟨g, j, none⟩ = some vs[j] := by
  rw [blk_cell h j]; simp [hj]
theorem Bk.free {w : World} {g : Nat} {T : TypeId} {vs : List Value} (h : Bk w g T vs) (j : Nat) : w.frozen? ⟨g, j, none⟩ = false := blk_free h j
theorem Bk.set {w : World} {g : Nat} {T : TypeId} {vs : List Value} (h : Bk w g T vs) (j : Nat) (v : Value) : Bk (w.setCell ⟨g, j, none⟩ v) g T (vs.set j v) := by
  have := blk_set h j v
  unfold Bk
  rw [this]; simp
theorem Bk.far {w : World} {g : Nat} {T : TypeId} {vs : List Value} (h : Bk w g T vs) {p : Addr} (hp : p.block ≠ g) (v : Value) : Bk (w.setCell p v) g T vs := blk_far h hp v
theorem Bk.below {w w' : World} {B g : Nat} {T : TypeId} {vs : List Value} (h : Bk w g T vs) (hB : Below B w w') (hb : g < B) : Bk w' g T vs := blk_below h hB hb
theorem Bk.keep {w w' : World} {g : Nat} {T : TypeId} {vs : List Value} (h : Bk w g T vs) (hB : Below w.heap.size w w') : Bk w' g T vs := blk_below h hB h.lt
theorem Bk.new (w : World) (T : TypeId) (vs : List Value) : Bk (w.alloc (.cells vs.toArray T)) w.heap.size T vs := blk11 w _
theorem Bk.rd {w : World} {g : Nat} {T : TypeId} {vs : List Value} (h : Bk w g T vs) (n c : Nat) (hn : n ≤ c) (hc : c ≤ 9223372036854775807) : Rd w (some ⟨g, 0, none⟩) n c vs :=
  rd_block h n c vs 0 hn hc fun j hj => by simp [hj]
theorem Bk.bit {w : World} {g : Nat} {T : TypeId} {ms : List Bool} (h : Bk w g T (bv ms)) (j : Nat) (hj : j < ms.length) : w.cell? ⟨g, j, none⟩ = some (.bool (Gra.bit ms j)) := by
  rw [h.cell j (by simpa using hj), bv_at, Gra.bit_get hj]
theorem bv_set (ms : List Bool) (j : Nat) (b : Bool) : (bv ms).set j (.bool b) = bv (ms.set j b) := by simp [bv, List.map_set]
theorem iv_set (k : IntKind) (xs : List Int) (j : Nat) (x : Int) : (iv k xs).set j (.int k x) = iv k (xs.set j x) := by simp [iv, List.map_set]

theorem keep_cell {w w' : World} {a : Addr} {v : Value} (h : w.cell? a = some v) (hB : Below w.heap.size w w') : w'.cell? a = some v := (hB.cell (World.block_lt_of_cell? w a h)).trans h
theorem new_cell (w : World) (cs : Array Value) (e : TypeId) (j : Nat) (v : Value) (h : cs[j]? = some v) : (w.alloc (.cells cs e)).cell? ⟨w.heap.size, j, none⟩ = some v := (blk_cell (blk11 w _) j).trans h
theorem Rd.upto {w : World} {A : Option Addr} {n c : Nat} {cs : List Value} (h : Rd w A n c cs) (k : Nat) (hk : k ≤ n) : Rd w A k c (cs.take k) :=
  ⟨by have := h.le; omega, h.cap, by
    rcases h.at_ with h0 | ⟨b, off, e, hc⟩
    · exact .inl (by rw [h0]; simp)
    · exact .inr ⟨b, off, e, fun j hj => by rw [List.getElem_take]; exact hc j (by simp at hj; omega)⟩⟩
/-- w' is w but for new blocks and for the blocks of S. -/
structure Fr (S : Nat → Prop) (w w' : World) : Prop where
  os : w'.os = w.os
  tape : w'.tape = w.tape
  output : w'.output = w.output
  size : w.heap.size ≤ w'.heap.size
  block : ∀ k, k < w.heap.size → ¬ S k → w'.heap[k]? = w.heap[k]?
theorem Fr.refl (S : Nat → Prop) (w : World) : Fr S w w := ⟨rfl, rfl, rfl, Nat.le_refl _, fun _ _ _ => rfl⟩
theorem Fr.trans {S : Nat → Prop} {a b c : World} (h : Fr S a b) (k : Fr S b c) : Fr S a c :=
  ⟨k.os.trans h.os, k.tape.trans h.tape, k.output.trans h.output, Nat.le_trans h.size k.size, fun i hi hs => (k.block i (Nat.lt_of_lt_of_le hi h.size) hs).trans (h.block i hi hs)⟩
theorem Fr.mono {S T : Nat → Prop} {a b : World} (h : Fr S a b) (hs : ∀ k, k < a.heap.size → S k → T k) : Fr T a b :=
  ⟨h.os, h.tape, h.output, h.size, fun i hi ht => h.block i hi fun hS => ht (hs i hi hS)⟩
theorem fr_of_below {w w' : World} (h : Below w.heap.size w w') (S : Nat → Prop) : Fr S w w' := ⟨h.os, h.tape, h.output, h.size, fun k hk _ => h.block k hk⟩
theorem Fr.below {S : Nat → Prop} {w w' : World} (h : Fr S w w') {B : Nat} (hB : B ≤ w.heap.size) (hS : ∀ k, S k → B ≤ k) : Below B w w' :=
  ⟨h.os, h.tape, h.output, h.size, fun k hk => h.block k (Nat.lt_of_lt_of_le hk hB) fun hs => by have := hS k hs; omega⟩
theorem Fr.alloc {S : Nat → Prop} {a b : World} (h : Fr S a b) (o : Obj) : Fr S a (b.alloc o) := h.trans (fr_of_below (below_al b o) S)
theorem Fr.setCell {S : Nat → Prop} {a b : World} (h : Fr S a b) {p : Addr} (hp : S p.block ∨ a.heap.size ≤ p.block) (v : Value) : Fr S a (b.setCell p v) :=
  ⟨h.os, h.tape, h.output, by simpa using h.size, fun k hk hs => (Below.heap_setCell _ _ _ _ (fun e => by rcases hp with hp | hp; exact hs (e ▸ hp); omega)).trans (h.block k hk hs)⟩
theorem Fr.drewN {S : Nat → Prop} {a b : World} (h : Fr S a b) (n : Nat) : Fr S a (b.drewN n) := h.trans (fr_of_below (below_drewN b n) S)
theorem Fr.cell {S : Nat → Prop} {a b : World} (h : Fr S a b) {p : Addr} (hs : ¬ S p.block) {v : Value} (hv : a.cell? p = some v) : b.cell? p = a.cell? p := by
  have hk := h.block p.block (World.block_lt_of_cell? a p hv) hs
  simp only [World.cell?, hk]
theorem Fr.far {S : Nat → Prop} {a b : World} (h : Fr S a b) {g : Nat} {T : TypeId} {vs : List Value} (hb : Bk a g T vs) (hs : ¬ S g) : Bk b g T vs := (h.block g hb.lt hs).trans hb
/-- 'make([]T, n)' of one-cell elements. -/
theorem run_makeN {P : Program} (t e : TypeId) (z : Value) (bytes : Nat) (ht : P.underlying t = some (.slice e)) (hinfo : (P.info? e).map (fun i => (i.zero, i.size, i.bytes)) = some (some z, 1, bytes)) (hz : z.cells = #[z]) (n : Nat) (hb : (bytes : Int) * (n : Int) ≤ 281474976710656) (hn : (n : Int) ≤ 9223372036854775807) (w : World) :
    (Instr.makeSlice t (.int .i64 (n : Int)) (.int .i64 (n : Int))).run P w = .ok (.slice (some ⟨w.heap.size, 0, none⟩) n n) (w.alloc (.cells (List.replicate n z).toArray e)) := by
  obtain ⟨i, hi, h1, h2, h3⟩ := info_parts hinfo
  rw [run_make (P := P) w t e i z ht hi h1 .i64 .i64 n n (by omega) (Int.le_refl _) (by rw [h3]; exact hb) hn]
  simp only [Int.toNat_natCast]
  have e' : madeCells z.cells (n * i.size) = (List.replicate n z).toArray := by
    rw [h2, Nat.mul_one, hz]
    apply Array.toList_inj.1
    simp [madeCells, Nat.mod_one, List.map_const']
  rw [e']
end Go.Sel
/- Big files, plainly: the pointers of a file, by their places in the order in which they are looked at. No program in sight. -/
set_option linter.unusedSimpArgs false
set_option linter.unusedVariables false
namespace Go.Sel.Bg

/-- The i-th byte of a block of an image. -/
def at2 (D : List (List Int)) (b : Int) (i : Nat) : Int := (D.getD b.toNat []).getD i 0
def tp (t : List Int) (i : Nat) : Int := t.getD i 0
/-- The pointers of the block Indirect, those of Double, and those of the blocks that these point to; 0 where there is none. -/
def vI (D : List (List Int)) (t : List Int) (j : Nat) : Int := if tp t 6 = 0 then 0 else at2 D (tp t 6) j
def vD (D : List (List Int)) (t : List Int) (i : Nat) : Int := if tp t 7 = 0 then 0 else at2 D (tp t 7) i
def vE (D : List (List Int)) (t : List Int) (i j : Nat) : Int := if vD D t i = 0 then 0 else at2 D (vD D t i) j
/-- The p-th pointer. -/
def val (D : List (List Int)) (t : List Int) (p : Nat) : Int :=
  if p < 8 then tp t p else if p < 40 then vI D t (p - 8) else if (p - 40) % 33 = 0 then vD D t ((p - 40) / 33) else vE D t ((p - 40) / 33) ((p - 40) % 33 - 1)
/-- The first m pointers may be: none is pointed to twice, all are blocks of the image. -/
def okU (D : List (List Int)) (t : List Int) (m : Nat) : Prop :=
  (∀ p, p < m → 0 ≤ val D t p ∧ (val D t p).toNat < max 1 D.length) ∧ ∀ p q, p < m → q < m → val D t p = val D t q → val D t p ≠ 0 → p = q
def whole (D : List (List Int)) : Prop := D.length ≤ 96 ∧ ∀ b ∈ D, b.length = 32
def Rt (D : List (List Int)) (t : List Int) : Prop := whole D ∧ okU D t 1096
/-- The place of the k-th block's pointer; the block whose pointer is the p-th. -/
def posK (k : Nat) : Nat := if k < 6 then k else if k < 38 then k + 2 else 40 + 33 * ((k - 38) / 32) + 1 + (k - 38) % 32
theorem posK_lt {k : Nat} (h : k < 1062) : posK k < 1096 := by
  unfold posK
  split
  · omega
  · split
    · omega
    · omega
theorem posK_inj {k l : Nat} (hk : k < 1062) (hl : l < 1062) (h : posK k = posK l) : k = l := by
  unfold posK at h
  split at h <;> split at h <;> (try split at h) <;> (try split at h) <;> omega
/-- Where the k-th block lies. -/
def atK (D : List (List Int)) (t : List Int) (k : Nat) : Int := val D t (posK k)
theorem atK_eq (D : List (List Int)) (t : List Int) {k : Nat} (h : k < 1062) : atK D t k = if k < 6 then tp t k else if k < 38 then vI D t (k - 6) else vE D t ((k - 38) / 32) ((k - 38) % 32) := by
  unfold atK val posK
  by_cases h6 : k < 6
  · rw [if_pos h6, if_pos h6, if_pos (by omega)]
  · rw [if_neg h6, if_neg h6]
    by_cases h38 : k < 38
    · rw [if_pos h38, if_pos h38, if_neg (by omega), if_pos (by omega)]
      try congr 1
      try omega
    · rw [if_neg h38, if_neg h38, if_neg (by omega), if_neg (by omega), if_neg (by omega)]
      have e1 : (40 + 33 * ((k - 38) / 32) + 1 + (k - 38) % 32 - 40) / 33 = (k - 38) / 32 := by omega
      have e2 : (40 + 33 * ((k - 38) / 32) + 1 + (k - 38) % 32 - 40) % 33 - 1 = (k - 38) % 32 := by omega
      rw [e1, e2]
/-- The slots of the k-th block. -/
def wayL (k : Int) : List Int := if k < 6 then [k] else if k < 38 then [6, k - 6] else [7, (k - 38) / 32, (k - 38) % 32]
theorem wayL_inj {a b : Int} (ha : 0 ≤ a) (hb : 0 ≤ b) : wayL a = wayL b ↔ a = b := by
  constructor
  · intro h
    unfold wayL at h
    split at h <;> split at h <;> (try split at h) <;> (try split at h) <;> simp only [List.cons.injEq, and_true, reduceCtorEq, and_false, List.nil_eq, List.cons_ne_nil] at h <;> omega
  · rintro rfl
    rfl
theorem wayL_len (a : Int) : 1 ≤ (wayL a).length ∧ (wayL a).length ≤ 3 := by
  unfold wayL
  split
  · simp
  · split <;> simp
end Go.Sel.Bg
/- Small words of my own: append of a slice that is read; rows of bytes in an array of the call's own. No program in sight. -/
set_option linter.unusedSimpArgs false
set_option linter.unusedVariables false
namespace Go.Sel
open Go.RowKit Go.Sel.Gra

section
variable {P : Program}
/-- 'append(v, s...)', s read as 'ys'. -/
theorem run_extend {w : World} (base : Nat) (t ty e : TypeId) (z : Value) (bytes : Nat)
    (ht : P.underlying t = some (.slice e)) (hinfo : (P.info? e).map (fun i => (i.zero, i.size, i.bytes)) = some (some z, 1, bytes)) (hz : z.cells.size = 1)
    (v : Value) (n : Nat) (xs : List Value) (HO : w.ownsRow base e 1 v n xs) (A : Option Addr) (m c : Nat) (ys : List Value) (hr : Rd w A m c ys) (hl : ys.length = m) (h1 : ∀ u ∈ ys, u.oneCell' = true)
    (hmax : n + m ≤ maxLen) (hb : (n + m) * bytes ≤ 140737488355328) (hbase : base ≤ w.heap.size) :
    ∃ v' w1, (Builtin.append_ #[t, t] ty #[v, .slice A m c]).run P w = .ok v' w1 ∧ w1.ownsRow base e 1 v' (n + m) (xs ++ ys) ∧ w.grownBy w1 v.ownBlock ∧ (v'.ownBlock = v.ownBlock ∨ v'.ownBlock = some w.heap.size) := by
  obtain ⟨i0, hi, hzz⟩ := Option.map_eq_some_iff.1 hinfo
  simp only [Prod.mk.injEq] at hzz
  obtain ⟨hz0, hz1, hz2⟩ := hzz
  cases A with
  | none =>
    have hys : ys = [] := by
      rcases hr.at_ with h | ⟨b, off, h, _⟩
      · exact h
      · cases h
    subst hys
    simp only [List.length_nil] at hl
    subst hl
    refine ⟨v, w, ?_, by simpa using HO, World.grownBy.refl w _, .inl rfl⟩
    rcases HO.2 with ⟨rfl, rfl⟩ | ⟨g, cap, cur, rfl, _, _, hnc, _⟩
    · simp [Builtin.append_, run_underlying ht, sizeOf, typeInfo, hi, Builtin.lenOf, Builtin.firstCells]
    · simp [Builtin.append_, run_underlying ht, sizeOf, typeInfo, hi, Builtin.lenOf, Builtin.firstCells, hnc, storeCells]
  | some a =>
    obtain ⟨v', w1, hr1, hown, hg, _, hat⟩ := run_append_own_at (P := P) w base t ty e i0 z 1 bytes ht hi hz0 hz1 hz2 hz (by decide) v n xs HO a m c ys (by simpa using hl) (fun j u hu => by
      obtain ⟨hj, hu'⟩ := List.getElem?_eq_some_iff.1 hu
      rcases hr.at_ with h | ⟨b, off, h, hc⟩
      · subst h; simp at hj
      · injection h with h
        subst h
        have ha : (⟨b, off, none⟩ : Addr).add j = ⟨b, off + j, none⟩ := by unfold Addr.add; split <;> simp_all
        rw [ha, hc j hj, hu']) h1 hmax hb hbase
    exact ⟨v', w1, hr1, hown, hg, hat⟩
/-- 's == nil'. -/
theorem run_eql_sl (w : World) (t e : TypeId) (a : Option Addr) (n c : Nat) (h : P.underlying t = some (.slice e)) : (binOp .eql t (.slice a n c) (.slice none 0 0)).run P w = .ok (.bool a.isNone) w := by
  simp only [binOp]
  simp [Op.equal, Op.maxDepth, Lib.run_equalIn_slice_nil w 9999 t e a n c 0 0 h]
theorem run_neq_sl (w : World) (t e : TypeId) (a : Option Addr) (n c : Nat) (h : P.underlying t = some (.slice e)) : (binOp .neq t (.slice a n c) (.slice none 0 0)).run P w = .ok (.bool (!a.isNone)) w := by
  simp only [binOp]
  simp [Op.equal, Op.maxDepth, Lib.run_equalIn_slice_nil w 9999 t e a n c 0 0 h]
/-- 's[l:]' of a slice that isn't cut at its very end. -/
theorem slice_lo {t : TypeId} (hu : P.underlying t = some (.slice (P.elem t))) (hz : ∀ W, (sizeOf (P.elem t)).run P W = .ok 1 W) (b off n c l : Nat) (h1 : l ≤ n) (hlc : l < c) :
    ∀ W, (Instr.slice t (.slice (some ⟨b, off, none⟩) n c) (some (.int .i64 (l : Int))) none none).run P W = .ok (.slice (some ⟨b, off + l, none⟩) (n - l) (c - l)) W := by
  intro W
  rw [run_slice_l W t _ n c hu .i64 l (by omega) (by omega), hz]
  simp only [Result.andThen, sliced, Int.toNat_natCast]
  rw [if_neg (by omega)]
  simp only [Option.map_some, Addr.add, Nat.mul_one]
  split
  · rename_i h0
    simp [h0]
  · rfl
/-- A builtin 'append', its run known, in a plain region. -/
theorem wpList_append_run {ops : Array Oper} {rest : List Oper} {o : Oper} {a : Act} {Q : Exit → Act → World → Prop} {w w' : World} (hgd : o.guard = none) (d s : Operand) (t t' : TypeId)
    (ho : o.op = .call { callee := .builtin .append, args := #[d, s], argTypes := #[t, t'] }) (dv sv v : Value) (hd : a.eval d = dv) (hs : a.eval s = sv)
    (hrun : (Builtin.append_ #[t, t'] o.type #[dv, sv]).run P w = .ok v w') (h : wpList P ops Q rest (a.put o.dst v) w') : wpList P ops Q (o :: rest) a w := by
  refine wpList_plain hgd fun K hK => ?_
  unfold Oper.wp execOp
  simp only [ho, resolve, invoke, builtin, Sem.run_bind, Sem.run_pure, Result.andThen_ok, List.map_toArray, List.map_cons, List.map_nil, hd, hs, hrun]
  exact hK _ _ h
end
theorem one_iv (k : IntKind) (xs : List Int) : ∀ u ∈ iv k xs, u.oneCell' = true := by
  intro u hu
  obtain ⟨x, _, rfl⟩ := List.mem_map.1 hu
  rfl
theorem one_sv (ss : List (Option Addr × Nat × Nat)) : ∀ u ∈ ss.map sv, u.oneCell' = true := by
  intro u hu
  obtain ⟨x, _, rfl⟩ := List.mem_map.1 hu
  rfl
/-- An empty slice of the call's own. -/
theorem own_empty (w : World) (e : TypeId) (base : Nat) (hb : base ≤ w.heap.size) : (w.alloc (.cells #[] e)).ownsRow base e 1 (.slice (some ⟨w.heap.size, 0, none⟩) 0 0) 0 [] :=
  ⟨rfl, .inr ⟨w.heap.size, 0, #[], rfl, hb, blk11 w _, Nat.le_refl _, by decide, rfl, rfl⟩⟩

/-- '.slice A n c' reads as the rows of bytes D, whose slices are ss. -/
structure BpS (w : World) (A : Option Addr) (n c : Nat) (D : List (List Int)) (ss : List (Option Addr × Nat × Nat)) : Prop where
  len : D.length = n
  slen : ss.length = n
  rd : Rd w A n c (ss.map sv)
  row : ∀ j (h : j < ss.length), (nth D j).length = ss[j].2.1 ∧ Rd w ss[j].1 ss[j].2.1 ss[j].2.2 (iv .u8 (nth D j)) ∧ AllByte (nth D j)
def Bp (w : World) (A : Option Addr) (n c : Nat) (D : List (List Int)) : Prop := ∃ ss, BpS w A n c D ss
section
variable {w w' : World} {A : Option Addr} {n c : Nat} {D : List (List Int)} {ss : List (Option Addr × Nat × Nat)}
theorem BpS.below (h : BpS w A n c D ss) (hb : Below w.heap.size w w') : BpS w' A n c D ss :=
  ⟨h.len, h.slen, h.rd.below hb, fun j hj => ⟨(h.row j hj).1, (h.row j hj).2.1.below hb, (h.row j hj).2.2⟩⟩
theorem Bp.below (h : Bp w A n c D) (hb : Below w.heap.size w w') : Bp w' A n c D := by obtain ⟨ss, h⟩ := h; exact ⟨ss, h.below hb⟩
theorem Bp.len (h : Bp w A n c D) : D.length = n := by obtain ⟨ss, h⟩ := h; exact h.len
theorem Bp.le (h : Bp w A n c D) : n ≤ c := by obtain ⟨ss, h⟩ := h; exact h.rd.le
theorem Bp.cap (h : Bp w A n c D) : c ≤ 9223372036854775807 := by obtain ⟨ss, h⟩ := h; exact h.rd.cap
theorem Bp.byte (h : Bp w A n c D) {i : Nat} (hi : i < n) : AllByte (nth D i) := by obtain ⟨ss, h⟩ := h; exact (h.row i (by rw [h.slen]; exact hi)).2.2
/-- The i-th row: its slice, and what it reads as. -/
theorem Bp.at_ (h : Bp w A n c D) {i : Nat} (hi : i < n) :
    ∃ b off A' n' c', A = some ⟨b, off, none⟩ ∧ b < w.heap.size ∧ w.cell? ⟨b, off + i, none⟩ = some (.slice A' n' c') ∧ (nth D i).length = n' ∧ Rd w A' n' c' (iv .u8 (nth D i)) ∧ AllByte (nth D i) := by
  obtain ⟨ss, h⟩ := h
  have hs : i < ss.length := by rw [h.slen]; exact hi
  obtain ⟨b, off, rfl, hb, hc⟩ := h.rd.form (by simp; omega)
  have := hc i (by simpa using hs)
  simp only [List.getElem_map, sv] at this
  exact ⟨b, off, _, _, _, rfl, hb, this, (h.row i hs).1, (h.row i hs).2.1, (h.row i hs).2.2⟩
theorem Bp.upto (h : Bp w A n c D) {k : Nat} (hk : k ≤ n) : Bp w A k c (D.take k) := by
  obtain ⟨ss, h⟩ := h
  have h1 := h.rd.upto k hk
  rw [← List.map_take] at h1
  have h2 := h.len
  have h3 := h.slen
  refine ⟨ss.take k, by simp; omega, by simp; omega, h1, fun j hj => ?_⟩
  have hj' : j < k ∧ j < ss.length := by rw [List.length_take] at hj; omega
  have h5 := h.row j hj'.2
  have e : nth (D.take k) j = nth D j := by simp [nth, List.getD_eq_getElem?_getD, List.getElem?_take_of_lt hj'.1]
  rw [e]
  simpa using h5
end
/-- Rows of bytes in an array of the call's own (from block B on), which may be written. -/
structure WbS (B : Nat) (w : World) (A : Option Addr) (n c : Nat) (D : List (List Int)) (ss : List (Option Addr × Nat × Nat)) : Prop where
  len : D.length = n
  slen : ss.length = n
  le : n ≤ c
  cap : c ≤ 9223372036854775807
  at_ : n = 0 ∨ ∃ g cur T, A = some ⟨g, 0, none⟩ ∧ B ≤ g ∧ w.heap[g]? = some (.cells cur T (0, 0)) ∧ ∀ j (h : j < ss.length), cur[j]? = some (sv ss[j])
  row : ∀ j (h : j < ss.length), (nth D j).length = ss[j].2.1 ∧ Rd w ss[j].1 ss[j].2.1 ss[j].2.2 (iv .u8 (nth D j)) ∧ AllByte (nth D j)
def Wb (B : Nat) (w : World) (A : Option Addr) (n c : Nat) (D : List (List Int)) : Prop := ∃ ss, WbS B w A n c D ss
section
variable {B : Nat} {w w' : World} {A : Option Addr} {n c : Nat} {D : List (List Int)} {ss : List (Option Addr × Nat × Nat)}
theorem WbS.bp (h : WbS B w A n c D ss) : BpS w A n c D ss := by
  refine ⟨h.len, h.slen, ⟨h.le, h.cap, ?_⟩, h.row⟩
  rcases h.at_ with h0 | ⟨g, cur, T, rfl, _, hg, hc⟩
  · left; have h1 := h.slen; exact List.eq_nil_of_length_eq_zero (by rw [List.length_map]; omega)
  · refine .inr ⟨g, 0, rfl, fun j hj => ?_⟩
    rw [blk_cell hg, Nat.zero_add, hc j (by simpa using hj)]; simp
theorem Wb.bp (h : Wb B w A n c D) : Bp w A n c D := by obtain ⟨ss, h⟩ := h; exact ⟨ss, h.bp⟩
theorem WbS.below (h : WbS B w A n c D ss) (hb : Below w.heap.size w w') : WbS B w' A n c D ss :=
  ⟨h.len, h.slen, h.le, h.cap, h.at_.imp id fun ⟨g, cur, T, h1, h2, h3, h4⟩ => ⟨g, cur, T, h1, h2, blk_below h3 hb (Array.getElem?_eq_some_iff.1 h3).1, h4⟩,
    fun j hj => ⟨(h.row j hj).1, (h.row j hj).2.1.below hb, (h.row j hj).2.2⟩⟩
theorem Wb.below (h : Wb B w A n c D) (hb : Below w.heap.size w w') : Wb B w' A n c D := by obtain ⟨ss, h⟩ := h; exact ⟨ss, h.below hb⟩
theorem Wb.len (h : Wb B w A n c D) : D.length = n := h.bp.len
theorem Wb.le (h : Wb B w A n c D) : n ≤ c := h.bp.le
theorem Wb.cap (h : Wb B w A n c D) : c ≤ 9223372036854775807 := h.bp.cap
theorem Wb.mono {B' : Nat} (h : Wb B w A n c D) (hb : B' ≤ B) : Wb B' w A n c D := by
  obtain ⟨ss, h⟩ := h
  exact ⟨ss, h.len, h.slen, h.le, h.cap, h.at_.imp id fun ⟨g, cur, T, h1, h2, h3⟩ => ⟨g, cur, T, h1, by omega, h3⟩, h.row⟩
/-- The i-th row, which may be stored into. -/
theorem Wb.at_ (h : Wb B w A n c D) {i : Nat} (hi : i < n) :
    ∃ g A' n' c', A = some ⟨g, 0, none⟩ ∧ B ≤ g ∧ g < w.heap.size ∧ w.cell? ⟨g, i, none⟩ = some (.slice A' n' c') ∧ w.frozen? ⟨g, i, none⟩ = false ∧ (nth D i).length = n' ∧ Rd w A' n' c' (iv .u8 (nth D i)) ∧ AllByte (nth D i) := by
  obtain ⟨ss, h⟩ := h
  have hs : i < ss.length := by rw [h.slen]; exact hi
  rcases h.at_ with h0 | ⟨g, cur, T, rfl, hb, hg, hc⟩
  · omega
  · exact ⟨g, _, _, _, rfl, hb, (Array.getElem?_eq_some_iff.1 hg).1, by rw [blk_cell hg, hc i hs]; rfl, blk_free hg i, h.row i hs⟩
theorem rd_off {m g : Nat} {cur : Array Value} {T : TypeId} {q : Nat} {v : Value} {k : IntKind} {xs : List Int} (hg : w.heap[g]? = some (.cells cur T (0, 0))) (hn : ∀ j x, cur[j]? = some (.int k x) → n ≤ j) (hq : q < n) (hr : Rd w A m c (iv k xs)) : Rd (w.setCell ⟨g, q, none⟩ v) A m c (iv k xs) := by
  refine ⟨hr.le, hr.cap, hr.at_.imp id fun ⟨b, off, e, hc⟩ => ⟨b, off, e, fun j hj => ?_⟩⟩
  have h1 := hc j hj
  by_cases hb : b = g
  · subst hb
    have h2 := h1
    rw [blk_cell hg, iv_at] at h2
    have h3 := hn _ _ h2
    rw [blk_cell (blk_set hg q v)]
    rw [blk_cell hg] at h1
    rw [Array.getElem?_setIfInBounds_ne (by omega)]
    exact h1
  · rw [← h1]
    refine World.cell?_setCell_other _ _ _ _ ?_
    intro e
    exact hb (congrArg Addr.block e).symm
theorem Wb.set (h : Wb B w A n c D) {i : Nat} (hi : i < n) {A' : Option Addr} {n' c' : Nat} {xs : List Int} (hr : Rd w A' n' c' (iv .u8 xs)) (hl : xs.length = n') (hx : AllByte xs) {g : Nat} (hA : A = some ⟨g, 0, none⟩) :
    Wb B (w.setCell ⟨g, i, none⟩ (.slice A' n' c')) A n c (D.set i xs) := by
  obtain ⟨ss, h⟩ := h
  have hs := h.slen
  have hD := h.len
  rcases h.at_ with h0 | ⟨g', cur, T, e, hb, hg, hc⟩
  · omega
  · rw [hA] at e
    injection e with e; injection e with e
    subst e
    have hn : ∀ (k : IntKind) j x, cur[j]? = some (.int k x) → n ≤ j := by
      intro k j x hj
      rcases Nat.lt_or_ge j n with h' | h'
      · rw [hc j (by omega)] at hj; cases hj
      · exact h'
    refine ⟨ss.set i (A', n', c'), by simpa using hD, by simpa using hs, h.le, h.cap, .inr ⟨g, cur.setIfInBounds i (.slice A' n' c'), T, hA, hb, blk_set hg i _, fun j hj => ?_⟩, fun j hj => ?_⟩
    · have hj' : j < ss.length := by simpa using hj
      have hsz : j < cur.size := (Array.getElem?_eq_some_iff.1 (hc j hj')).1
      by_cases e : i = j
      · subst e
        simp [hsz, sv]
      · rw [Array.getElem?_setIfInBounds_ne e, hc j hj', List.getElem_set_ne e]
    · have hj' : j < ss.length := by simpa using hj
      by_cases e : i = j
      · subst e
        have e1 : nth (D.set i xs) i = xs := by simp [nth, List.getD_eq_getElem?_getD, show i < D.length by omega]
        rw [e1]
        simp only [List.getElem_set_self]
        exact ⟨hl, rd_off (n := n) hg (hn .u8) hi hr, hx⟩
      · have e1 : nth (D.set i xs) j = nth D j := by simp [nth, List.getD_eq_getElem?_getD, List.getElem?_set_ne e]
        rw [e1]
        simp only [List.getElem_set_ne e]
        have h5 := h.row j hj'
        exact ⟨h5.1, rd_off (n := n) hg (hn .u8) hi h5.2.1, h5.2.2⟩
theorem Wb.below_set {W : World} (h : Wb B w A n c D) {i g : Nat} (hi : i < n) (hA : A = some ⟨g, 0, none⟩) (hW : Below B W w) (v : Value) : Below B W (w.setCell ⟨g, i, none⟩ v) := by
  obtain ⟨g', _, _, _, e, hb, _⟩ := h.at_ hi
  rw [hA] at e
  injection e with e; injection e with e
  subst e
  exact hW.setCell hb v
end
end Go.Sel
/- Small words of my own: 'range' over a map with whole numbers as keys; such a map as the shelf reads it. No program in sight. -/
set_option linter.unusedSimpArgs false
set_option linter.unusedVariables false
namespace Go.Sel
open Go.RowKit Go.MapKept Go.Maps
open Go.ChangeMaps (setBlock heap_setBlock_same heap_setBlock_other)

/-- 'for k, v := range m' under way: of l's entries 'left' are still to come. -/
structure IRng (w : World) (b r : Nat) (l left : List (Int × Value)) : Prop where
  map : IMap w b l
  it : ∃ es clock since seen c0, w.heap[b]? = some (.map es clock) ∧ w.heap[r]? = some (.mapIter (some b) since seen c0) ∧ (es.toList.map (·.born)).Nodup ∧ (∀ x ∈ es.toList, x.born < since) ∧ since ≤ c0 ∧ since ≤ clock ∧
    (leftOf es seen).toList.map (fun e => (e.key, e.val)) = left.map (fun p => (Value.int .i64 p.1, p.2)) ∧ es.toList.map (fun e => (e.key, e.val)) = l.map (fun p => (Value.int .i64 p.1, p.2))
theorem IRng.lt {w : World} {b r : Nat} {l left : List (Int × Value)} (h : IRng w b r l left) : r < w.heap.size := by
  obtain ⟨es, clock, since, seen, c0, _, hr, _⟩ := h.it
  exact (Array.getElem?_eq_some_iff.1 hr).1
theorem IRng.ne {w : World} {b r : Nat} {l left : List (Int × Value)} (h : IRng w b r l left) : r ≠ b := by
  obtain ⟨es, clock, since, seen, c0, hb, hr, _⟩ := h.it
  intro e
  rw [e, hb] at hr
  cases hr
theorem IRng.left_eq {w : World} {b r : Nat} {l left : List (Int × Value)} (h : IRng w b r l left) : w.rangeLeft b r = left.length := by
  obtain ⟨es, clock, since, seen, c0, hb, hr, _, _, _, _, hl, _⟩ := h.it
  have := congrArg List.length hl
  simp only [List.length_map, Array.length_toList] at this
  simp only [World.rangeLeft, hb, hr]
  exact this
theorem IRng.same {w w' : World} {b r : Nat} {l left : List (Int × Value)} (h : IRng w b r l left) (hb : w'.heap[b]? = w.heap[b]?) (hr : w'.heap[r]? = w.heap[r]?) : IRng w' b r l left :=
  ⟨⟨h.map.nodup, by rw [hb]; exact h.map.is⟩, by rw [hb, hr]; exact h.it⟩
theorem IRng.keep {S : Nat → Prop} {w w' : World} {b r : Nat} {l left : List (Int × Value)} (h : IRng w b r l left) (hf : Fr S w w') (hb : ¬ S b) (hr : ¬ S r) : IRng w' b r l left :=
  h.same (hf.block b h.map.lt hb) (hf.block r h.lt hr)
theorem IRng.start {P : Program} {w : World} {b : Nat} {l : List (Int × Value)} {t k e : TypeId} (h : IMap w b l) (ht : P.underlying t = some (.map k e)) :
    ∃ w', (Instr.range t (.map (some b))).run P w = .ok (.pointer (some ⟨w.heap.size, 0, none⟩)) w' ∧ IRng w' b w.heap.size l l ∧ Below w.heap.size w w' ∧ w.heap.size < w'.heap.size := by
  obtain ⟨es, clock, hb, hes, hlt, hnd⟩ := h.is
  have hB := below_al w (.mapIter (some b) clock #[] clock)
  refine ⟨_, run_range_map w t k e b es clock ht hb, ⟨h.below hB h.lt, es, clock, clock, #[], clock, (hB.block b h.lt).trans hb, blk11 w _, hnd, hlt, Nat.le_refl _, Nat.le_refl _, ?_, hes⟩, hB, by simp⟩
  rw [← hes]
  congr 1
  simp [leftOf]

theorem filter_out {α : Type} (f : α → Nat) : ∀ (L1 : List α) (e : α) (L2 : List α), ((L1 ++ e :: L2).map f).Nodup → (L1 ++ e :: L2).filter (fun x => f x != f e) = L1 ++ L2 := by
  intro L1 e L2 h
  rw [List.filter_append, List.filter_cons]
  rw [List.map_append, List.map_cons, List.nodup_append, List.nodup_cons] at h
  obtain ⟨_, ⟨h1, _⟩, h3⟩ := h
  have a1 : L1.filter (fun x => f x != f e) = L1 := List.filter_eq_self.2 fun x hx => by
    have := h3 (f x) (List.mem_map_of_mem hx) (f e) (by simp)
    simpa using this
  have a2 : L2.filter (fun x => f x != f e) = L2 := List.filter_eq_self.2 fun x hx => by
    have : f x ≠ f e := fun e' => h1 (by rw [← e']; exact List.mem_map_of_mem hx)
    simpa using this
  rw [a1, a2]
  simp

theorem IRng.next {P : Program} {w : World} {b r : Nat} {l left : List (Int × Value)} (h : IRng w b r l left) (ty : TypeId) :
    (left = [] ∧ (Instr.next (.pointer (some ⟨r, 0, none⟩)) false ty).run P w = .ok (.tuple #[.bool false]) w) ∨
    ∃ l1 p l2 w', left = l1 ++ p :: l2 ∧ (Instr.next (.pointer (some ⟨r, 0, none⟩)) false ty).run P w = .ok (.tuple #[.bool true, .int .i64 p.1, p.2]) w' ∧ IRng w' b r l (l1 ++ l2) ∧ Fr (· = r) w w' ∧ w'.heap.size = w.heap.size ∧
      (Instr.entry (.pointer (some ⟨r, 0, none⟩))).run P w' = .ok (.tuple #[.int .i64 p.1, p.2]) w' := by
  have hne := h.ne
  have hrl := h.lt
  have hm := h.map
  obtain ⟨es, clock, since, seen, c0, hb, hr, hnd, hold, hsc, hsk, hl, hes⟩ := h.it
  rcases run_next_at (P := P) w ty r b since c0 seen es clock hr hb hold hsc with ⟨h0, hrun⟩ | ⟨e, he, w1, hal, hrun⟩
  · left
    refine ⟨?_, hrun⟩
    have := congrArg List.length hl
    simp only [List.length_map, Array.length_toList, h0] at this
    exact List.eq_nil_of_length_eq_zero this.symm
  · right
    obtain ⟨L1, L2, hL⟩ := List.append_of_mem he
    rw [hL, List.map_append, List.map_cons] at hl
    obtain ⟨l1, rest, e1, e2, e3⟩ := List.map_eq_append_iff.1 hl.symm
    obtain ⟨p, l2, rfl, e4, e5⟩ := List.map_eq_cons_iff.1 e3
    simp only [Prod.mk.injEq] at e4
    have hw1 : Fr (· = r) w w1 ∧ w1.heap = w.heap := by
      rcases hal with rfl | rfl
      · exact ⟨Fr.refl _ _, rfl⟩
      · exact ⟨(Fr.refl _ w).drewN 1, rfl⟩
    have hr1 : w1.heap[r]? = some (.mapIter (some b) since seen c0) := by rw [hw1.2]; exact hr
    have hb1 : w1.heap[b]? = some (.map es clock) := by rw [hw1.2]; exact hb
    have hsb : ∀ o i, i ≠ r → (setBlock w1 r o).heap[i]? = w1.heap[i]? := fun o i hi => by simp [setBlock, Array.getElem?_setIfInBounds, Ne.symm hi]
    have hbn : (setBlock w1 r (.mapIter (some b) since (seen.push e.born) clock)).heap[b]? = some (.map es clock) := (hsb _ b (Ne.symm hne)).trans hb1
    have hrn : (setBlock w1 r (.mapIter (some b) since (seen.push e.born) clock)).heap[r]? = some (.mapIter (some b) since (seen.push e.born) clock) := by
      have hlt : r < w1.heap.size := by rw [hw1.2]; exact hrl
      simp [setBlock, hlt]
    have hsz : (setBlock w1 r (.mapIter (some b) since (seen.push e.born) clock)).heap.size = w.heap.size := by simp [setBlock, hw1.2]
    have heM : e ∈ es.toList := by
      have : e ∈ (leftOf es seen).toList := he
      simp [leftOf] at this
      simpa using this.1
    refine ⟨l1, p, l2, _, e1, ?_, ⟨⟨hm.nodup, ?_⟩, es, clock, since, seen.push e.born, clock, hbn, hrn, hnd, hold, hsk, hsk, ?_, hes⟩, ?_, hsz, ?_⟩
    · rw [hrun, ← e4.1, ← e4.2]
    · rw [hbn, ← hb]; exact hm.is
    · have hleft : (leftOf es (seen.push e.born)).toList = (leftOf es seen).toList.filter (fun x => x.born != e.born) := by
        simp only [leftOf, Array.toList_filter]
        rw [List.filter_filter]
        congr 1
        funext x
        simp only [Array.contains_push, Bool.not_or]
        cases (seen.contains x.born) <;> simp [bne]
      have hndL : ((L1 ++ e :: L2).map (·.born)).Nodup := by
        rw [← hL]
        refine List.Nodup.sublist ?_ hnd
        simp only [leftOf, Array.toList_filter]
        exact (List.filter_sublist).map _
      rw [hleft, hL, filter_out (·.born) L1 e L2 hndL, List.map_append, List.map_append, e2, e5]
    · refine ⟨?_, ?_, ?_, ?_, ?_⟩
      · exact hw1.1.os
      · exact hw1.1.tape
      · exact hw1.1.output
      · exact Nat.le_of_eq hsz.symm
      · intro i hi hne'
        rw [hsb _ i hne', hw1.2]
    · rw [run_entry_at _ r b since seen es clock e hrn hbn heM hnd, ← e4.1, ← e4.2]

section
variable {P : Program} {w : World} {ops : Array Oper} {rest : List Oper} {o : Oper} {a : Act} {Q : Exit → Act → World → Prop}
/-- 'range m' at the operation. -/
theorem wpList_range_i (hg : o.guard = none) (m : Operand) (t : TypeId) (hop : o.op = Op.range t m) {k e : TypeId} (ht : P.underlying t = some (.map k e)) {b : Nat} {l : List (Int × Value)} (hm : a.eval m = .map (some b)) (h : IMap w b l)
    (hK : ∀ w', IRng w' b w.heap.size l l → Below w.heap.size w w' → w.heap.size < w'.heap.size → wpList P ops Q rest (a.put o.dst (.pointer (some ⟨w.heap.size, 0, none⟩))) w') :
    wpList P ops Q (o :: rest) a w := by
  refine wpList_plain hg fun K' hK' => ?_
  obtain ⟨w', hrun, r1, r2, r3⟩ := IRng.start (P := P) h ht
  unfold Oper.wp
  simp [execOp, hop, hm, hrun, Result.andThen]
  exact hK' _ _ (hK w' r1 r2 r3)
/-- The step at the operation. -/
theorem wpList_next_i (hg : o.guard = none) (it : Operand) (hop : o.op = Op.next it false) {b r : Nat} {l left : List (Int × Value)} (hit : a.eval it = .pointer (some ⟨r, 0, none⟩)) (h : IRng w b r l left)
    (hDone : left = [] → wpList P ops Q rest (a.put o.dst (.tuple #[.bool false])) w)
    (hMore : ∀ l1 p l2 w', left = l1 ++ p :: l2 → IRng w' b r l (l1 ++ l2) → Fr (· = r) w w' → w'.heap.size = w.heap.size → (Instr.entry (.pointer (some ⟨r, 0, none⟩))).run P w' = .ok (.tuple #[.int .i64 p.1, p.2]) w' →
      wpList P ops Q rest (a.put o.dst (.tuple #[.bool true, .int .i64 p.1, p.2])) w') :
    wpList P ops Q (o :: rest) a w := by
  refine wpList_plain hg fun K' hK' => ?_
  unfold Oper.wp
  rcases h.next (P := P) o.type with ⟨h0, hrun⟩ | ⟨l1, p, l2, w', e, hrun, hr, hf, hs, hen⟩
  · simp [execOp, hop, hit, hrun, Result.andThen]
    exact hK' _ _ (hDone h0)
  · simp [execOp, hop, hit, hrun, Result.andThen]
    exact hK' _ _ (hMore l1 p l2 w' e hr hf hs hen)
end
end Go.Sel
/- Small words of my own: a map with whole numbers as keys: an entry struck; as the shelf reads it; its keys, sorted. No program in sight. -/
set_option linter.unusedSimpArgs false
set_option linter.unusedVariables false
namespace Go.Sel
open Go.RowKit Go.MapKept Go.Maps
open Go.ChangeMaps (setBlock heap_setBlock_same heap_setBlock_other)
open Go.ChangeShapes Go.WideShapes
open Go.WideElems (Fit rd rg pl rd_key rd_val rg_of rd_mk)

section
variable {P : Program} {w : World} {b : Nat} {l : List (Int × Value)} {t kt e : TypeId} {q : IntKind}
/-- An entry is struck. -/
def del (l : List (Int × Value)) (k : Int) : List (Int × Value) := l.filter (fun p => p.1 != k)
theorem IMap.delete (h : IMap w b l) (ht : P.underlying t = some (.map kt e)) (hk : P.underlying kt = some (.int q)) (k : Int) (kt' ty : TypeId) :
    ∃ w', (Builtin.delete_ #[t, kt'] ty #[.map (some b), .int .i64 k]).run P w = .ok (.tuple #[]) w' ∧ IMap w' b (del l k) ∧ ButBlock b w w' := by
  obtain ⟨es, clock, hb, hes, hlt, hnd⟩ := h.is
  have hlen : es.size = l.length := by simpa using congrArg List.length hes
  have hfo : ∀ (o : Obj), ButBlock b w (setBlock w b o) := fun o => ⟨rfl, rfl, rfl, by simp [setBlock], fun i hi => heap_setBlock_other hb _ hi⟩
  cases hl : look l k with
  | none =>
    obtain ⟨j, h1, _⟩ := findNow_look (q := q) es.toList l k 0 hes
    have hd : del l k = l := List.filter_eq_self.2 fun p hp => by simpa using look_none.1 hl p hp
    refine ⟨setBlock w b (.map es clock), ?_, ⟨by rw [hd]; exact h.nodup, es, clock, heap_setBlock_same hb _, by rw [hd]; exact hes, hlt, hnd⟩, hfo _⟩
    simp [Builtin.delete_, run_underlying ht, MapKept.run_getObj_map hb, checkKey_int w _ 9999 kt q k hk, Instr.findKey, run_underlying hk, h1, hl, MapKept.run_setObj_map _ hb, Result.andThen, setBlock]
  | some u =>
    obtain ⟨j, h1, h2, h3⟩ := findNow_at (q := q) es.toList l k hes hl
    have hj : j < es.size := by simpa using h2
    have hjl : j < l.length := by omega
    have hjk : l[j] = (k, u) := by rw [List.getElem?_eq_getElem hjl] at h3; simpa using h3
    have hd : del l k = l.eraseIdx j := by
      have e1 : l = l.take j ++ l[j] :: l.drop (j + 1) := by simp
      unfold del
      rw [List.eraseIdx_eq_take_drop_succ]
      conv => lhs; rw [e1]
      have hn := h.nodup
      rw [e1, List.map_append, List.map_cons, List.nodup_append, List.nodup_cons] at hn
      obtain ⟨_, ⟨n1, _⟩, n3⟩ := hn
      rw [List.filter_append, List.filter_cons]
      have a1 : (l.take j).filter (fun p => p.1 != k) = l.take j := List.filter_eq_self.2 fun x hx => by
        have := n3 x.1 (List.mem_map_of_mem hx) l[j].1 (by simp)
        rw [hjk] at this
        simpa using this
      have a2 : (l.drop (j + 1)).filter (fun p => p.1 != k) = l.drop (j + 1) := List.filter_eq_self.2 fun x hx => by
        have : x.1 ≠ l[j].1 := fun e' => n1 (by rw [← e']; exact List.mem_map_of_mem hx)
        rw [hjk] at this
        simpa using this
      rw [a1, a2, hjk]
      simp
    have htl : (es.eraseIdxIfInBounds j).toList = es.toList.eraseIdx j := by simp [Array.eraseIdxIfInBounds, hj]
    refine ⟨setBlock w b (.map (es.eraseIdxIfInBounds j) clock), ?_, ⟨?_, es.eraseIdxIfInBounds j, clock, heap_setBlock_same hb _, ?_, ?_, ?_⟩, hfo _⟩
    · simp [Builtin.delete_, run_underlying ht, MapKept.run_getObj_map hb, checkKey_int w _ 9999 kt q k hk, Instr.findKey, run_underlying hk, h1, hl, MapKept.run_setObj_map _ hb, Result.andThen, setBlock]
    · exact h.nodup.sublist ((List.filter_sublist).map _)
    · rw [htl, hd, Go.ChangeMaps.map_eraseIdx, Go.ChangeMaps.map_eraseIdx, hes]
    · intro x hx
      rw [htl] at hx
      exact hlt x (List.mem_of_mem_eraseIdx hx)
    · rw [htl]
      exact hnd.sublist ((List.eraseIdx_sublist _ _).map _)

/-- As the shelf reads it. -/
theorem IMap.fit {H : Type} {R : Value → Option (DataW H × List MemPlace)} (h : IMap w b l) (hk : P.underlying kt = some (.int .i64)) (hw : ∀ p ∈ l, (Lit.int .i64 p.1).wf = true) (hR : ∀ p ∈ l, ∃ y, R p.2 = some y) (hs : l.length ≤ maxLen) :
    ∃ es clock, w.heap[b]? = some (.map es clock) ∧ Fit P kt R es clock ∧ es.toList.map (fun e => (e.key, e.val)) = l.map (fun p => (Value.int .i64 p.1, p.2)) ∧
      es.toList.map (rg P kt R) = l.map (fun p => (Lit.int .i64 p.1, ((R p.2).getD (.nil, [])).1)) := by
  obtain ⟨es, clock, hb, hes, hlt, hnd⟩ := h.is
  have hlen : es.size = l.length := by simpa using congrArg List.length hes
  have hrd : ∀ x ∈ es.toList, ∃ p ∈ l, x.key = .int .i64 p.1 ∧ x.val = p.2 := fun x hx => by
    have : (x.key, x.val) ∈ es.toList.map (fun e => (e.key, e.val)) := List.mem_map.2 ⟨x, hx, rfl⟩
    rw [hes] at this
    obtain ⟨p, hp, e⟩ := List.mem_map.1 this
    simp only [Prod.mk.injEq] at e
    exact ⟨p, hp, e.1.symm, e.2.symm⟩
  have hone : ∀ x ∈ es.toList, ∀ p ∈ l, x.key = .int .i64 p.1 → x.val = p.2 → rd P kt R x = some (Lit.int .i64 p.1, ((R p.2).getD (.nil, [])).1) := fun x hx p hp e1 e2 => by
    obtain ⟨y, hy⟩ := hR p hp
    obtain ⟨k, v, bo⟩ := x
    simp only at e1 e2
    subst e1 e2
    rw [rd_mk (Maps.keyOf_int_mk hk (hw p hp)) hy, hy]
    rfl
  refine ⟨es, clock, hb, ⟨by omega, ⟨hlt, hnd, ?_⟩, fun x hx => ?_⟩, hes, ?_⟩
  · have e1 : es.toList.map (·.key) = l.map (fun p => Value.int .i64 p.1) := by
      have := congrArg (List.map Prod.fst) hes
      rw [List.map_map, List.map_map] at this
      exact this
    rw [e1]
    have hn := h.nodup
    unfold List.Nodup at hn ⊢
    rw [List.pairwise_map] at hn ⊢
    exact hn.imp fun h e => h (by injection e)
  · obtain ⟨p, hp, e1, e2⟩ := hrd x hx
    exact ⟨_, hone x hx p hp e1 e2⟩
  · apply List.ext_getElem (by simp [hlen])
    intro i h1 h2
    simp only [List.length_map] at h1 h2
    simp only [List.getElem_map]
    have hi : (es.toList[i].key, es.toList[i].val) = (Value.int .i64 l[i].1, l[i].2) := by
      have := congrArg (fun z => z[i]?) hes
      simp only [List.getElem?_map, List.getElem?_eq_getElem h1, List.getElem?_eq_getElem h2, Option.map_some] at this
      injection this
    simp only [Prod.mk.injEq] at hi
    rw [rg_of (hone _ (List.getElem_mem h1) l[i] (List.getElem_mem h2) hi.1 hi.2)]
theorem IMap.owns {H : Type} {R : Value → Option (DataW H × List MemPlace)} (h : IMap w b l) (hk : P.underlying kt = some (.int .i64)) (hw : ∀ p ∈ l, (Lit.int .i64 p.1).wf = true) (hR : ∀ p ∈ l, ∃ y, R p.2 = some y) (hs : l.length ≤ maxLen) :
    ∃ D : DataW H, w.ownsMap P kt R b l.length D ∧ (intKeys D).Perm (l.map (·.1)) ∧ Maps.size D = l.length ∧ D = .map ((l.map (fun p => (Lit.int .i64 p.1, ((R p.2).getD (.nil, [])).1))).foldr DataW.insert []) := by
  obtain ⟨es, clock, hb, F, hes, hrg⟩ := h.fit (R := R) hk hw hR hs
  have hlen : es.size = l.length := by simpa using congrArg List.length hes
  refine ⟨_, ⟨es, clock, hb, F, by omega, rfl⟩, ?_, ?_, by rw [hrg]⟩
  · rw [hrg]
    refine ((sorted_perm _).map _).trans ?_
    rw [List.map_map]
    refine List.Perm.of_eq (List.map_congr_left fun p _ => rfl)
  · simp [Maps.size, length_sorted, hlen]
/-- The number that a value is. -/
def vOf : Value → Int
  | .int _ n => n
  | _ => 0
/-- What reads as a set is one. -/
theorem IMap.of_owns {H : Type} {n : Nat} {ks : List Int} (hk : P.underlying kt = some (.int .i64)) (he : P.underlying e = some .bool)
    (h : w.ownsMap (H := H) P kt (plainElem P e) b n (.map ((ks.map (fun x => (Lit.int .i64 x, DataW.lit (.bool true)))).foldr DataW.insert []))) : ∃ ks', IMap w b (seenL ks') ∧ ks'.Perm ks := by
  obtain ⟨es, clock, hb, F, hs, hD⟩ := h
  have hD' : ((ks.map (fun x => (Lit.int .i64 x, DataW.lit (H := H) (.bool true)))).foldr DataW.insert []) = ((es.toList.map (rg P kt (plainElem P e))).foldr DataW.insert []) := by
    injection hD
  have hp : (es.toList.map (rg P kt (plainElem (H := H) P e))).Perm (ks.map (fun x => (Lit.int .i64 x, DataW.lit (.bool true)))) := ((sorted_perm _).symm.trans (hD' ▸ List.Perm.refl _)).trans (sorted_perm _)
  have hone : ∀ x ∈ es.toList, ∃ k : Int, x.key = .int .i64 k ∧ x.val = .bool true ∧ rg P kt (plainElem (H := H) P e) x = (Lit.int .i64 k, DataW.lit (.bool true)) := fun x hx => by
    obtain ⟨y, hy⟩ := F.reads x hx
    obtain ⟨k, hk1, hk2, _⟩ := Maps.keyOf_int_inv hk (rd_key hy)
    obtain ⟨z, hz, hyz⟩ := rd_val hy
    have hm : rg P kt (plainElem (H := H) P e) x ∈ es.toList.map (rg P kt (plainElem P e)) := List.mem_map.2 ⟨x, hx, rfl⟩
    rw [hp.mem_iff] at hm
    obtain ⟨k', _, hk'⟩ := List.mem_map.1 hm
    rw [rg_of hy] at hk' ⊢
    obtain ⟨y1, y2⟩ := y
    simp only [Prod.mk.injEq] at hk'
    simp only at hk2 hyz
    refine ⟨k, hk1, ?_, by rw [← hk'.2, hk2]⟩
    rw [← hk'.2] at hyz
    cases hv : x.val <;> rw [hv] at hz <;> simp [plainElem, he] at hz
    rename_i bb
    subst hz
    simp at hyz
    rw [← hyz]
  refine ⟨es.toList.map fun x => vOf x.key, ⟨?_, es, clock, hb, ?_, F.stamped.1, F.stamped.2.1⟩, ?_⟩
  · have e1 : (seenL (es.toList.map fun x => vOf x.key)).map (·.1) = es.toList.map fun x => vOf x.key := by simp [seenL]
    rw [e1]
    have h3 := F.stamped.2.2
    rw [show es.toList.map (·.key) = (es.toList.map fun x => vOf x.key).map (Value.int .i64) by
      rw [List.map_map]
      refine List.map_congr_left fun x hx => ?_
      obtain ⟨k, hk1, _⟩ := hone x hx
      simp [hk1, vOf]] at h3
    unfold List.Nodup at h3 ⊢
    rw [List.pairwise_map] at h3
    exact h3.imp fun h e => h (by rw [e])
  · simp only [seenL, List.map_map]
    refine List.map_congr_left fun x hx => ?_
    obtain ⟨k, hk1, hk2, _⟩ := hone x hx
    simp [hk1, hk2, vOf]
  · have e1 : es.toList.map (fun x => vOf x.key) = (es.toList.map (rg P kt (plainElem (H := H) P e))).map (fun p => intOf p.1) := by
      rw [List.map_map]
      refine List.map_congr_left fun x hx => ?_
      obtain ⟨k, hk1, _, hk3⟩ := hone x hx
      simp [hk3, hk1, vOf, intOf]
    rw [e1]
    refine (hp.map _).trans ?_
    rw [List.map_map]
    refine List.Perm.of_eq ?_
    exact (List.map_congr_left (g := id) (fun x _ => rfl)).trans (List.map_id ks)
end
/-- A rising row is what its members, sorted, give. -/
theorem sorted_rises {ss ks ps : List Int} (h1 : ss.Perm ks) (h2 : ks.Nodup) (h3 : ps.Pairwise (· < ·)) (h4 : ∀ x, x ∈ ks ↔ x ∈ ps) : ss.mergeSort (fun x y => decide (x ≤ y)) = ps := by
  have hp : (ss.mergeSort (fun x y => decide (x ≤ y))).Perm ps := by
    refine (List.mergeSort_perm _ _).trans (h1.trans ?_)
    refine (List.perm_ext_iff_of_nodup h2 (h3.imp fun h => by omega)).2 h4
  have hs : (ss.mergeSort (fun x y => decide (x ≤ y))).Pairwise (fun x y => decide (x ≤ y) = true) := List.pairwise_mergeSort (fun a b c h1 h2 => by simp at *; omega) (fun a b => by simp; omega) _
  refine List.Perm.eq_of_pairwise (le := fun x y => x ≤ y) (fun a b _ _ h1 h2 => by omega) (hs.imp fun h => by simpa using h) (h3.imp fun h => by omega) hp
end Go.Sel
