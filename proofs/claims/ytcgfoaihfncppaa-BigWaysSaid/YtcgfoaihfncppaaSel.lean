/- Small words of my own for the walks over selvedge: slices that read as lists, bytes as strings, maps with whole numbers as keys. No program in sight. -/
import Derived.WalkKit
import Derived.WalkSpells
import Derived.WalkLawsBesides
import Derived.KernelRfl
import Derived.Lib.Hide
import Derived.Deep.QuietTactic
import Derived.BigQuiet
import Derived.Deep.LoopGhost
import Derived.Deep.DeepCutAuto
import Derived.StillTailTactics
import Derived.Deep.RegionHeld3
import Derived.Carry
import Derived.Maps.AppendAt
namespace Go.Sel
open Go.RowKit

theorem ret_bool {a b : Bool} (h : a = b) : Ending.returned (.bool a) = .returned (.bool b) := by rw [h]
theorem ret_int {k : IntKind} {a b : Int} (h : a = b) : Ending.returned (.int k a) = .returned (.int k b) := by rw [h]
theorem ret_str {a b : ByteArray} (h : a = b) : Ending.returned (.string a) = .returned (.string b) := by rw [h]

/-- For a loop's measure. -/
def slen : Value → Nat | .slice _ k _ => k | _ => 0
theorem slen_slice (A : Option Addr) (k c : Nat) : slen (.slice A k c) = k := rfl

def iv (k : IntKind) (xs : List Int) : List Value := xs.map (.int k)
def bv (xs : List Bool) : List Value := xs.map .bool
@[simp] theorem iv_length (k : IntKind) (xs : List Int) : (iv k xs).length = xs.length := by simp [iv]
@[simp] theorem bv_length (xs : List Bool) : (bv xs).length = xs.length := by simp [bv]
theorem iv_at (k : IntKind) (xs : List Int) (j : Nat) (h : j < (iv k xs).length) : (iv k xs)[j] = .int k (xs[j]'(by simpa using h)) := by simp [iv]
theorem bv_at (xs : List Bool) (j : Nat) (h : j < (bv xs).length) : (bv xs)[j] = .bool (xs[j]'(by simpa using h)) := by simp [bv]
def IsByte (x : Int) : Prop := 0 ≤ x ∧ x ≤ 255
def AllByte (xs : List Int) : Prop := ∀ x ∈ xs, 0 ≤ x ∧ x ≤ 255

/-- A slice value '.slice A n c' whose cells read as 'cs'. -/
structure Rd (w : World) (A : Option Addr) (n c : Nat) (cs : List Value) : Prop where
  le : n ≤ c
  cap : c ≤ 9223372036854775807
  at_ : cs = [] ∨ ∃ b off, A = some ⟨b, off, none⟩ ∧ ∀ j (h : j < cs.length), w.cell? ⟨b, off + j, none⟩ = some cs[j]

theorem Rd.form {w : World} {A : Option Addr} {n c : Nat} {cs : List Value} (h : Rd w A n c cs) (hp : 0 < cs.length) :
    ∃ b off, A = some ⟨b, off, none⟩ ∧ b < w.heap.size ∧ ∀ j (h : j < cs.length), w.cell? ⟨b, off + j, none⟩ = some cs[j] := by
  rcases h.at_ with rfl | ⟨b, off, e, hc⟩
  · simp at hp
  · exact ⟨b, off, e, World.block_lt_of_cell? w _ (hc 0 hp), hc⟩

theorem Rd.below {w w' : World} {A : Option Addr} {n c : Nat} {cs : List Value} (h : Rd w A n c cs) (hb : Below w.heap.size w w') : Rd w' A n c cs :=
  ⟨h.le, h.cap, h.at_.imp id fun ⟨b, off, e, hc⟩ => ⟨b, off, e, fun j hj => (hb.cell (World.block_lt_of_cell? w _ (hc j hj))).trans (hc j hj)⟩⟩

theorem Rd.nil {w : World} {A : Option Addr} {c : Nat} (h : c ≤ 9223372036854775807) : Rd w A 0 c [] := ⟨Nat.zero_le _, h, .inl rfl⟩

theorem rd_drewN {w : World} {A : Option Addr} {n c : Nat} {cs : List Value} (m : Nat) (h : Rd w A n c cs) : Rd (w.drewN m) A n c cs :=
  ⟨h.le, h.cap, h.at_.imp id fun ⟨b, off, e, hc⟩ => ⟨b, off, e, fun j hj => by simpa using hc j hj⟩⟩

theorem below_al (w : World) (o : Obj) : Below w.heap.size w (w.alloc o) := (Below.refl _ _).alloc (Nat.le_refl _) _
theorem Rd.alloc {w : World} {A : Option Addr} {n c : Nat} {cs : List Value} (h : Rd w A n c cs) (o : Obj) : Rd (w.alloc o) A n c cs := h.below (below_al w o)

theorem below_drewN (w : World) (n : Nat) : Below w.heap.size w (w.drewN n) := by
  induction n with
  | zero => exact Below.refl _ _
  | succ n ih => rw [← World.drew_drewN]; exact ih.drew
theorem Below.then_drewN {B : Nat} {a w : World} (h : Below B a w) (n : Nat) : Below B a (w.drewN n) := by
  induction n with
  | zero => exact h
  | succ n ih => rw [← World.drew_drewN]; exact ih.drew
theorem below_then {w w1 w2 : World} (h : Below w.heap.size w w1) (k : Below w1.heap.size w1 w2) : Below w.heap.size w w2 :=
  h.trans (k.mono h.size)

/-- A row of the call's own is read. -/
theorem rd_own {w : World} {base n : Nat} {e : TypeId} {v : Value} {cs : List Value} (h : w.ownsRow base e 1 v n cs) : ∃ A c, v = .slice A n c ∧ cs.length = n ∧ Rd w A n c cs := by
  have hl : cs.length = n := by simpa using h.1
  rcases h.2 with ⟨rfl, rfl⟩ | ⟨g, cap, cur, rfl, hb, hh, hn, hc, hs, ht⟩
  · exact ⟨none, 0, rfl, hl, ⟨Nat.le_refl _, by omega, .inl (List.eq_nil_of_length_eq_zero hl)⟩⟩
  · refine ⟨_, cap, rfl, hl, ⟨hn, by simpa [maxLen] using hc, .inr ⟨g, 0, rfl, fun j hj => ?_⟩⟩⟩
    have := h.cells (g := g) rfl j cs[j] (by simp)
    have ha : (⟨g, 0, none⟩ : Addr).add j = ⟨g, 0 + j, none⟩ := by unfold Addr.add; split <;> simp_all
    rwa [ha] at this

/-- A block whose cells are known is read. -/
theorem rd_block {w : World} {b : Nat} {cells : Array Value} {e : TypeId} {fr : Nat × Nat} (h : w.heap[b]? = some (.cells cells e fr)) (n c : Nat) (cs : List Value) (off : Nat) (hn : n ≤ c) (hc : c ≤ 9223372036854775807)
    (hcs : ∀ j (h : j < cs.length), cells[off + j]? = some cs[j]) : Rd w (some ⟨b, off, none⟩) n c cs :=
  ⟨hn, hc, .inr ⟨b, off, rfl, fun j hj => by simp [World.cell?, h, hcs j hj]⟩⟩

theorem run_slice_string0 {P : Program} (w : World) (src dst e : TypeId) (A : Option Addr) (c : Nat) (hs : P.underlying src = some (.slice e)) (he : P.underlying e = some (.int .u8)) (hd : P.underlying dst = some .string) :
    (convert src dst (.slice A 0 c)).run P w = .ok (.string ByteArray.empty) w := by
  cases A with
  | none => exact run_convert_bytes_nil w src e hs he 0 c dst hd
  | some a =>
    have hl : (loadCells a 0).run P w = .ok (([] : List Int).map (Value.int .u8)).toArray w := by
      simp [loadCells, loadCellsFrom]
    rw [run_convert_bytes_string w src dst e _ 0 c hs he hd, run_bytesToString w _ 0 c [] hl]
    rfl

/-- 'string(b)' of bytes that are read. -/
theorem Rd.str {P : Program} {w : World} {A : Option Addr} {n c : Nat} {xs : List Int} (h : Rd w A n c (iv .u8 xs)) (hn : xs.length = n) {src dst e : TypeId} (hs : P.underlying src = some (.slice e)) (he : P.underlying e = some (.int .u8)) (hd : P.underlying dst = some .string) :
    (convert src dst (.slice A n c)).run P w = .ok (.string (strOfNums xs)) w := by
  subst hn
  rcases h.at_ with h0 | ⟨b, off, rfl, hc⟩
  · have : xs = [] := List.map_eq_nil_iff.1 h0
    subst this
    exact run_slice_string0 w src dst e A c hs he hd
  · exact run_convert_bytes_arg w src e hs he b off xs.length c xs rfl (fun i hi => by
      have := hc i (by simpa using hi)
      rw [this, iv_at]
      simp [List.getD_eq_getElem?_getD, List.getElem?_eq_getElem hi]) dst hd

/-- The same behind one draw, the world written out (as 'go_still_tail' has it). -/
theorem Rd.strR {P : Program} {w : World} {A : Option Addr} {n c : Nat} {xs : List Int} (h : Rd w A n c (iv .u8 xs)) (hn : xs.length = n) {src dst e : TypeId} (hs : P.underlying src = some (.slice e)) (he : P.underlying e = some (.int .u8)) (hd : P.underlying dst = some .string) :
    (convert src dst (.slice A n c)).run P { heap := w.heap, tape := w.tape, drawn := w.drawn + 1, os := w.os, output := w.output } = .ok (.string (strOfNums xs)) { heap := w.heap, tape := w.tape, drawn := w.drawn + 1, os := w.os, output := w.output } :=
  Rd.str (w := w.drewN 1) (rd_drewN 1 h) hn hs he hd
theorem byteNums : ∀ zs : List Int, AllByte zs → (zs.map (fun n => UInt8.ofNat n.toNat)).map (fun b : UInt8 => (b.toNat : Int)) = zs := by
  intro zs hz
  rw [List.map_map]
  conv => rhs; rw [← List.map_id zs]
  refine List.map_congr_left fun z hz' => ?_
  have := hz z hz'
  simp only [Function.comp, UInt8.toNat_ofNat', id]
  omega
theorem strOfNums_inj {xs ys : List Int} (hx : AllByte xs) (hy : AllByte ys) (h : strOfNums xs = strOfNums ys) : xs = ys := by
  have h' : xs.map (fun n => UInt8.ofNat n.toNat) = ys.map (fun n => UInt8.ofNat n.toNat) := by
    rw [← strOfNums_data xs, ← strOfNums_data ys, h]
  rw [← byteNums xs hx, ← byteNums ys hy, h']

/-- The bytes of a text, as whole numbers. -/
def nums (s : ByteArray) : List Int := s.data.toList.map fun b => (b.toNat : Int)
@[simp] theorem nums_length (s : ByteArray) : (nums s).length = s.size := by rw [nums, List.length_map, Array.length_toList]; rfl
theorem nums_byte (s : ByteArray) : AllByte (nums s) := by
  intro x hx
  simp only [nums, List.mem_map] at hx
  obtain ⟨b, _, rfl⟩ := hx
  have := b.toNat_lt
  omega
theorem nums_strOfNums {xs : List Int} (hx : AllByte xs) : nums (strOfNums xs) = xs := by
  unfold nums
  rw [strOfNums_data]
  exact byteNums xs hx
theorem strOfNums_nums (s : ByteArray) : strOfNums (nums s) = s := by
  have h : ∀ l : List UInt8, (l.map fun b => (b.toNat : Int)).map (fun n => UInt8.ofNat n.toNat) = l := by
    intro l
    rw [List.map_map]
    conv => rhs; rw [← List.map_id l]
    refine List.map_congr_left fun z _ => ?_
    simp
  have : (strOfNums (nums s)).data = s.data := by
    apply Array.toList_inj.1
    rw [strOfNums_data, nums, h]
  cases s; cases hs : strOfNums (nums _); simp_all
theorem nums_inj {s t : ByteArray} (h : nums s = nums t) : s = t := by rw [← strOfNums_nums s, h, strOfNums_nums]

theorem toList_beq (s t : ByteArray) : (s.toList == t.toList) = decide (s = t) := by
  rw [ByteArray.toList_eq, ByteArray.toList_eq, Bool.eq_iff_iff, beq_iff_eq, decide_eq_true_eq]
  constructor
  · intro h
    have := Array.toList_inj.1 h
    cases s; cases t; simp_all
  · rintro rfl; rfl
theorem toList_empty (s : ByteArray) : s.toList.isEmpty = decide (s.size = 0) := by
  rw [ByteArray.toList_eq, Bool.eq_iff_iff, List.isEmpty_iff, decide_eq_true_eq, Array.toList_eq_nil_iff]
  cases s with
  | mk d => exact Array.size_eq_zero_iff.symm
theorem toList_nil (s : ByteArray) : s.toList = [] ↔ s.size = 0 := by
  rw [← List.isEmpty_iff, toList_empty, decide_eq_true_eq]
theorem strOfNums_beq {xs ys : List Int} (hx : AllByte xs) (hy : AllByte ys) : ((strOfNums xs).toList == (strOfNums ys).toList) = decide (xs = ys) := by
  rw [toList_beq]
  exact decide_eq_decide.2 ⟨strOfNums_inj hx hy, fun h => by rw [h]⟩
/-! ### A map with whole numbers as keys -/
/-- Block b is a map: its entries, in order, are 'l'; no key twice. -/
structure IMap (w : World) (b : Nat) (l : List (Int × Value)) : Prop where
  nodup : (l.map (·.1)).Nodup
  is : ∃ es clock, w.heap[b]? = some (.map es clock) ∧ es.toList.map (fun e => (e.key, e.val)) = l.map (fun p => (Value.int .i64 p.1, p.2)) ∧ (∀ e ∈ es.toList, e.born < clock) ∧ (es.toList.map (·.born)).Nodup

def look (l : List (Int × Value)) (k : Int) : Option Value := (l.find? (fun p => p.1 == k)).map (·.2)
def put (l : List (Int × Value)) (k : Int) (v : Value) : List (Int × Value) := if l.any (fun p => p.1 == k) then l.map (fun p => if p.1 == k then (k, v) else p) else l ++ [(k, v)]

theorem findNow_look {q : IntKind} : ∀ (es : List MapEntry) (l : List (Int × Value)) (k : Int) (i : Nat), es.map (fun e => (e.key, e.val)) = l.map (fun p => (Value.int .i64 p.1, p.2)) →
    ∃ j, Instr.findNow (.int q) (.int .i64 k) es i = some ((look l k).map fun v => (i + j, v)) ∧ (∀ v, look l k = some v → j < es.length ∧ ∀ (h : j < l.length), l[j] = (k, v))
  | [], [], k, i, _ => ⟨0, by simp [Instr.findNow, look], by simp [look]⟩
  | [], _ :: _, _, _, h => by simp at h
  | _ :: _, [], _, _, h => by simp at h
  | e :: es, (a, v) :: l, k, i, h => by
    simp only [List.map_cons, List.cons.injEq, Prod.mk.injEq] at h
    obtain ⟨⟨hk, hv⟩, ht⟩ := h
    by_cases ha : a = k
    · subst ha
      refine ⟨0, ?_, ?_⟩
      · simp [Instr.findNow, hk, Instr.sameNow, look, hv]
      · intro u hu
        simp [look] at hu
        exact ⟨by simp, fun _ => by simp [hu]⟩
    · obtain ⟨j, h1, h2⟩ := findNow_look (q := q) es l k (i + 1) ht
      refine ⟨j + 1, ?_, ?_⟩
      · have hka : (k == a) = false := by simp; exact fun h => ha h.symm
        have hl : look ((a, v) :: l) k = look l k := by simp [look, ha]
        simp only [Instr.findNow, hk, Instr.sameNow, if_true, hka, h1, hl]
        cases look l k <;> simp
        omega
      · intro u hu
        have hl : look ((a, v) :: l) k = look l k := by simp [look, ha]
        rw [hl] at hu
        obtain ⟨h3, h4⟩ := h2 u hu
        exact ⟨by simpa using h3, fun h => by simpa using h4 (by simpa using h)⟩

theorem checkKey_int {P : Program} (w : World) (b : Bool) (n : Nat) (kt : TypeId) (q : IntKind) (k : Int) (hk : P.underlying kt = some (.int q)) : (Instr.checkKey b (n + 1) kt (.int .i64 k)).run P w = .ok () w := by
  simp [Instr.checkKey, run_underlying hk]

section
variable {P : Program} {w : World} {b : Nat} {l : List (Int × Value)} {t kt e : TypeId} {q : IntKind}
theorem IMap.lookup (h : IMap w b l) (ht : P.underlying t = some (.map kt e)) (hk : P.underlying kt = some (.int q)) {z : Value} (hz : (zeroValue e).run P w = .ok z w) (k : Int) :
    (Instr.lookup t (.map (some b)) (.int .i64 k) false).run P w = .ok ((look l k).getD z) w := by
  obtain ⟨es, clock, hb, hes, _⟩ := h.is
  obtain ⟨j, h1, _⟩ := findNow_look (q := q) es.toList l k 0 hes
  have hg : (getObj b).run P w = .ok (.map es clock) w := by simp [getObj, Sem.run, hb]
  cases hl : look l k with
  | none => simp [Instr.lookup, run_underlying ht, hg, checkKey_int w _ 9999 kt q k hk, Instr.findKey, run_underlying hk, h1, hl, hz]
  | some v => simp [Instr.lookup, run_underlying ht, hg, checkKey_int w _ 9999 kt q k hk, Instr.findKey, run_underlying hk, h1, hl]
theorem IMap.lookup_ok (h : IMap w b l) (ht : P.underlying t = some (.map kt e)) (hk : P.underlying kt = some (.int q)) {z : Value} (hz : (zeroValue e).run P w = .ok z w) (k : Int) :
    (Instr.lookup t (.map (some b)) (.int .i64 k) true).run P w = .ok (.tuple #[(look l k).getD z, .bool (look l k).isSome]) w := by
  obtain ⟨es, clock, hb, hes, _⟩ := h.is
  obtain ⟨j, h1, _⟩ := findNow_look (q := q) es.toList l k 0 hes
  have hg : (getObj b).run P w = .ok (.map es clock) w := by simp [getObj, Sem.run, hb]
  cases hl : look l k with
  | none => simp [Instr.lookup, run_underlying ht, hg, checkKey_int w _ 9999 kt q k hk, Instr.findKey, run_underlying hk, h1, hl, hz]
  | some v => simp [Instr.lookup, run_underlying ht, hg, checkKey_int w _ 9999 kt q k hk, Instr.findKey, run_underlying hk, h1, hl]
theorem IMap.len (h : IMap w b l) (ht : P.underlying t = some (.map kt e)) (ty : TypeId) :
    (Builtin.len_ #[t] ty #[.map (some b)]).run P w = .ok (.int .i64 l.length) w := by
  obtain ⟨es, clock, hb, hes, _⟩ := h.is
  have hg : (getObj b).run P w = .ok (.map es clock) w := by simp [getObj, Sem.run, hb]
  have hl : es.size = l.length := by have := congrArg List.length hes; simpa using this
  simp [Builtin.len_, run_underlying ht, hg, hl, goInt]
end

theorem blk11 (w : World) (o : Obj) : (w.alloc o).heap[w.heap.size]? = some o := heap_alloc_new w o
theorem blk21 (w : World) (o p : Obj) : ((w.alloc o).alloc p).heap[w.heap.size]? = some o := by
  rw [heap_alloc_old]
  · exact heap_alloc_new w o
  · simp
theorem blk22 (w : World) (o p : Obj) : ((w.alloc o).alloc p).heap[w.heap.size + 1]? = some p := by
  have := heap_alloc_new (w.alloc o) p
  simpa using this
theorem blk_cell {w : World} {b : Nat} {cs : Array Value} {e : TypeId} {fr : Nat × Nat} (h : w.heap[b]? = some (.cells cs e fr)) (j : Nat) : w.cell? ⟨b, j, none⟩ = cs[j]? := by
  simp [World.cell?, h]
theorem blk_free {w : World} {b : Nat} {cs : Array Value} {e : TypeId} (h : w.heap[b]? = some (.cells cs e (0, 0))) (j : Nat) : w.frozen? ⟨b, j, none⟩ = false := by
  simp [World.frozen?, h]
theorem blk_set {w : World} {b : Nat} {cs : Array Value} {e : TypeId} {fr : Nat × Nat} (h : w.heap[b]? = some (.cells cs e fr)) (j : Nat) (v : Value) : (w.setCell ⟨b, j, none⟩ v).heap[b]? = some (.cells (cs.setIfInBounds j v) e fr) := by
  simp [World.setCell, Array.getElem?_modify, h]
theorem blk_far {w : World} {b : Nat} {o : Option Obj} (h : w.heap[b]? = o) {p : Addr} (hp : p.block ≠ b) (v : Value) : (w.setCell p v).heap[b]? = o := by
  rw [Below.heap_setCell _ _ _ _ (fun e => hp e.symm)]; exact h
theorem blk_below {w w' : World} {B b : Nat} {o : Option Obj} (h : w.heap[b]? = o) (hB : Below B w w') (hb : b < B) : w'.heap[b]? = o := (hB.block b hb).trans h
theorem blk_row {w : World} {b : Nat} {cs cs' : Array Value} {e : TypeId} {fr : Nat × Nat} (h : w.heap[b]? = some (.cells cs e fr)) : (w.setRow b cs').heap[b]? = some (.cells cs' e fr) := setRow_heap w b cs cs' e fr h
theorem below_setRow {B b : Nat} {a w : World} (h : Below B a w) (hb : B ≤ b) (cs : Array Value) : Below B a (w.setRow b cs) :=
  h.trans ⟨rfl, rfl, rfl, by simp [World.setRow], fun k hk => setRow_other w b k _ (by omega)⟩
/-- 'xs[l:h]' of a slice that isn't cut at its very end. -/
theorem slice_lh {P : Program} {t : TypeId} {s : Nat} (hu : P.underlying t = some (.slice (P.elem t))) (hz : ∀ W, (sizeOf (P.elem t)).run P W = .ok s W) (b off n c l h : Nat) (li hi : Int) (hl : li = l) (hh : hi = h) (h1 : l ≤ h) (h2 : h ≤ c) (hlc : l < c) :
    ∀ W, (Instr.slice t (.slice (some ⟨b, off, none⟩) n c) (some (.int .i64 li)) (some (.int .i64 hi)) none).run P W = .ok (.slice (some ⟨b, off + l * s, none⟩) (h - l) (c - l)) W := by
  intro W
  subst hl; subst hh
  rw [run_slice_lh W t _ n c hu .i64 .i64 l h (by omega) (by omega) (by omega), hz]
  simp only [Result.andThen, sliced, Int.toNat_natCast]
  rw [if_neg (by omega)]
  simp only [Option.map_some, Addr.add]
  split
  · rename_i h0
    simp [h0]
  · rfl
/-- copy, its run known. -/
theorem wpList_copy_run {P : Program} {ops : Array Oper} {rest : List Oper} {o : Oper} {a : Act} {Q : Exit → Act → World → Prop} {w w' : World} (hgd : o.guard = none) (d s : Operand) (t t' : TypeId)
    (ho : o.op = .call { callee := .builtin .copy, args := #[d, s], argTypes := #[t, t'] }) (dv sv v : Value) (hd : a.eval d = dv) (hs : a.eval s = sv)
    (hrun : (Builtin.copy_ #[t, t'] o.type #[dv, sv]).run P w = .ok v w') (h : wpList P ops Q rest (a.put o.dst v) w') : wpList P ops Q (o :: rest) a w := by
  refine wpList_plain hgd fun K hK => ?_
  unfold Oper.wp execOp
  simp only [ho, resolve, invoke, builtin, Sem.run_bind, Sem.run_pure, Result.andThen_ok, List.map_toArray, List.map_cons, List.map_nil, hd, hs, hrun]
  exact hK _ _ h
end Go.Sel
