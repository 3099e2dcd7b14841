/- Small words of my own for the walks over selvedge: slices that read as lists, bytes as strings, maps with whole numbers as keys. No program in sight. -/
import Derived.WalkKit
import Derived.WalkSpells
import Derived.WalkLawsBesides
import Derived.KernelRfl
import Derived.Lib.Hide
import Derived.Deep.QuietTactic
import Derived.BigQuiet
import Derived.Deep.LoopGhost
import Derived.Deep.DeepCutAuto
import Derived.StillTailTactics
import Derived.Deep.RegionHeld3
import Derived.Carry
import Derived.Maps.AppendAt
import Derived.Maps.Own
import Derived.Deep.AppendLies
import Derived.Deep.RegionLaw
namespace Go.Sel
open Go.RowKit

theorem ret_bool {a b : Bool} (h : a = b) : Ending.returned (.bool a) = .returned (.bool b) := by rw [h]
theorem ret_int {k : IntKind} {a b : Int} (h : a = b) : Ending.returned (.int k a) = .returned (.int k b) := by rw [h]
theorem ret_str {a b : ByteArray} (h : a = b) : Ending.returned (.string a) = .returned (.string b) := by rw [h]

/-- For a loop's measure. -/
def slen : Value → Nat | .slice _ k _ => k | _ => 0
theorem slen_slice (A : Option Addr) (k c : Nat) : slen (.slice A k c) = k := rfl

def iv (k : IntKind) (xs : List Int) : List Value := xs.map (.int k)
def bv (xs : List Bool) : List Value := xs.map .bool
@[simp] theorem iv_length (k : IntKind) (xs : List Int) : (iv k xs).length = xs.length := by simp [iv]
@[simp] theorem bv_length (xs : List Bool) : (bv xs).length = xs.length := by simp [bv]
theorem iv_at (k : IntKind) (xs : List Int) (j : Nat) (h : j < (iv k xs).length) : (iv k xs)[j] = .int k (xs[j]'(by simpa using h)) := by simp [iv]
theorem bv_at (xs : List Bool) (j : Nat) (h : j < (bv xs).length) : (bv xs)[j] = .bool (xs[j]'(by simpa using h)) := by simp [bv]
def IsByte (x : Int) : Prop := 0 ≤ x ∧ x ≤ 255
def AllByte (xs : List Int) : Prop := ∀ x ∈ xs, 0 ≤ x ∧ x ≤ 255

/-- A slice value '.slice A n c' whose cells read as 'cs'. -/
structure Rd (w : World) (A : Option Addr) (n c : Nat) (cs : List Value) : Prop where
  le : n ≤ c
  cap : c ≤ 9223372036854775807
  at_ : cs = [] ∨ ∃ b off, A = some ⟨b, off, none⟩ ∧ ∀ j (h : j < cs.length), w.cell? ⟨b, off + j, none⟩ = some cs[j]

theorem Rd.form {w : World} {A : Option Addr} {n c : Nat} {cs : List Value} (h : Rd w A n c cs) (hp : 0 < cs.length) :
    ∃ b off, A = some ⟨b, off, none⟩ ∧ b < w.heap.size ∧ ∀ j (h : j < cs.length), w.cell? ⟨b, off + j, none⟩ = some cs[j] := by
  rcases h.at_ with rfl | ⟨b, off, e, hc⟩
  · simp at hp
  · exact ⟨b, off, e, World.block_lt_of_cell? w _ (hc 0 hp), hc⟩

theorem Rd.below {w w' : World} {A : Option Addr} {n c : Nat} {cs : List Value} (h : Rd w A n c cs) (hb : Below w.heap.size w w') : Rd w' A n c cs :=
  ⟨h.le, h.cap, h.at_.imp id fun ⟨b, off, e, hc⟩ => ⟨b, off, e, fun j hj => (hb.cell (World.block_lt_of_cell? w _ (hc j hj))).trans (hc j hj)⟩⟩

theorem Rd.nil {w : World} {A : Option Addr} {c : Nat} (h : c ≤ 9223372036854775807) : Rd w A 0 c [] := ⟨Nat.zero_le _, h, .inl rfl⟩

theorem rd_drewN {w : World} {A : Option Addr} {n c : Nat} {cs : List Value} (m : Nat) (h : Rd w A n c cs) : Rd (w.drewN m) A n c cs :=
  ⟨h.le, h.cap, h.at_.imp id fun ⟨b, off, e, hc⟩ => ⟨b, off, e, fun j hj => by simpa using hc j hj⟩⟩

theorem below_al (w : World) (o : Obj) : Below w.heap.size w (w.alloc o) := (Below.refl _ _).alloc (Nat.le_refl _) _
theorem Rd.alloc {w : World} {A : Option Addr} {n c : Nat} {cs : List Value} (h : Rd w A n c cs) (o : Obj) : Rd (w.alloc o) A n c cs := h.below (below_al w o)

theorem below_drewN (w : World) (n : Nat) : Below w.heap.size w (w.drewN n) := by
  induction n with
  | zero => exact Below.refl _ _
  | succ n ih => rw [← World.drew_drewN]; exact ih.drew
theorem Below.then_drewN {B : Nat} {a w : World} (h : Below B a w) (n : Nat) : Below B a (w.drewN n) := by
  induction n with
  | zero => exact h
  | succ n ih => rw [← World.drew_drewN]; exact ih.drew
theorem below_then {w w1 w2 : World} (h : Below w.heap.size w w1) (k : Below w1.heap.size w1 w2) : Below w.heap.size w w2 :=
  h.trans (k.mono h.size)

/-- A row of the call's own is read. -/
theorem rd_own {w : World} {base n : Nat} {e : TypeId} {v : Value} {cs : List Value} (h : w.ownsRow base e 1 v n cs) : ∃ A c, v = .slice A n c ∧ cs.length = n ∧ Rd w A n c cs := by
  have hl : cs.length = n := by simpa using h.1
  rcases h.2 with ⟨rfl, rfl⟩ | ⟨g, cap, cur, rfl, hb, hh, hn, hc, hs, ht⟩
  · exact ⟨none, 0, rfl, hl, ⟨Nat.le_refl _, by omega, .inl (List.eq_nil_of_length_eq_zero hl)⟩⟩
  · refine ⟨_, cap, rfl, hl, ⟨hn, by simpa [maxLen] using hc, .inr ⟨g, 0, rfl, fun j hj => ?_⟩⟩⟩
    have := h.cells (g := g) rfl j cs[j] (by simp)
    have ha : (⟨g, 0, none⟩ : Addr).add j = ⟨g, 0 + j, none⟩ := by unfold Addr.add; split <;> simp_all
    rwa [ha] at this

/-- A block whose cells are known is read. -/
theorem rd_block {w : World} {b : Nat} {cells : Array Value} {e : TypeId} {fr : Nat × Nat} (h : w.heap[b]? = some (.cells cells e fr)) (n c : Nat) (cs : List Value) (off : Nat) (hn : n ≤ c) (hc : c ≤ 9223372036854775807)
    (hcs : ∀ j (h : j < cs.length), cells[off + j]? = some cs[j]) : Rd w (some ⟨b, off, none⟩) n c cs :=
  ⟨hn, hc, .inr ⟨b, off, rfl, fun j hj => by simp [World.cell?, h, hcs j hj]⟩⟩

theorem run_slice_string0 {P : Program} (w : World) (src dst e : TypeId) (A : Option Addr) (c : Nat) (hs : P.underlying src = some (.slice e)) (he : P.underlying e = some (.int .u8)) (hd : P.underlying dst = some .string) :
    (convert src dst (.slice A 0 c)).run P w = .ok (.string ByteArray.empty) w := by
  cases A with
  | none => exact run_convert_bytes_nil w src e hs he 0 c dst hd
  | some a =>
    have hl : (loadCells a 0).run P w = .ok (([] : List Int).map (Value.int .u8)).toArray w := by
      simp [loadCells, loadCellsFrom]
    rw [run_convert_bytes_string w src dst e _ 0 c hs he hd, run_bytesToString w _ 0 c [] hl]
    rfl

/-- 'string(b)' of bytes that are read. -/
theorem Rd.str {P : Program} {w : World} {A : Option Addr} {n c : Nat} {xs : List Int} (h : Rd w A n c (iv .u8 xs)) (hn : xs.length = n) {src dst e : TypeId} (hs : P.underlying src = some (.slice e)) (he : P.underlying e = some (.int .u8)) (hd : P.underlying dst = some .string) :
    (convert src dst (.slice A n c)).run P w = .ok (.string (strOfNums xs)) w := by
  subst hn
  rcases h.at_ with h0 | ⟨b, off, rfl, hc⟩
  · have : xs = [] := List.map_eq_nil_iff.1 h0
    subst this
    exact run_slice_string0 w src dst e A c hs he hd
  · exact run_convert_bytes_arg w src e hs he b off xs.length c xs rfl (fun i hi => by
      have := hc i (by simpa using hi)
      rw [this, iv_at]
      simp [List.getD_eq_getElem?_getD, List.getElem?_eq_getElem hi]) dst hd

/-- The same behind one draw, the world written out (as 'go_still_tail' has it). -/
theorem Rd.strR {P : Program} {w : World} {A : Option Addr} {n c : Nat} {xs : List Int} (h : Rd w A n c (iv .u8 xs)) (hn : xs.length = n) {src dst e : TypeId} (hs : P.underlying src = some (.slice e)) (he : P.underlying e = some (.int .u8)) (hd : P.underlying dst = some .string) :
    (convert src dst (.slice A n c)).run P { heap := w.heap, tape := w.tape, drawn := w.drawn + 1, os := w.os, output := w.output } = .ok (.string (strOfNums xs)) { heap := w.heap, tape := w.tape, drawn := w.drawn + 1, os := w.os, output := w.output } :=
  Rd.str (w := w.drewN 1) (rd_drewN 1 h) hn hs he hd
theorem byteNums : ∀ zs : List Int, AllByte zs → (zs.map (fun n => UInt8.ofNat n.toNat)).map (fun b : UInt8 => (b.toNat : Int)) = zs := by
  intro zs hz
  rw [List.map_map]
  conv => rhs; rw [← List.map_id zs]
  refine List.map_congr_left fun z hz' => ?_
  have := hz z hz'
  simp only [Function.comp, UInt8.toNat_ofNat', id]
  omega
theorem strOfNums_inj {xs ys : List Int} (hx : AllByte xs) (hy : AllByte ys) (h : strOfNums xs = strOfNums ys) : xs = ys := by
  have h' : xs.map (fun n => UInt8.ofNat n.toNat) = ys.map (fun n => UInt8.ofNat n.toNat) := by
    rw [← strOfNums_data xs, ← strOfNums_data ys, h]
  rw [← byteNums xs hx, ← byteNums ys hy, h']

/-- The bytes of a text, as whole numbers. -/
def nums (s : ByteArray) : List Int := s.data.toList.map fun b => (b.toNat : Int)
@[simp] theorem nums_length (s : ByteArray) : (nums s).length = s.size := by rw [nums, List.length_map, Array.length_toList]; rfl
theorem nums_byte (s : ByteArray) : AllByte (nums s) := by
  intro x hx
  simp only [nums, List.mem_map] at hx
  obtain ⟨b, _, rfl⟩ := hx
  have := b.toNat_lt
  omega
theorem nums_strOfNums {xs : List Int} (hx : AllByte xs) : nums (strOfNums xs) = xs := by
  unfold nums
  rw [strOfNums_data]
  exact byteNums xs hx
theorem strOfNums_nums (s : ByteArray) : strOfNums (nums s) = s := by
  have h : ∀ l : List UInt8, (l.map fun b => (b.toNat : Int)).map (fun n => UInt8.ofNat n.toNat) = l := by
    intro l
    rw [List.map_map]
    conv => rhs; rw [← List.map_id l]
    refine List.map_congr_left fun z _ => ?_
    simp
  have : (strOfNums (nums s)).data = s.data := by
    apply Array.toList_inj.1
    rw [strOfNums_data, nums, h]
  cases s; cases hs : strOfNums (nums _); simp_all
theorem nums_inj {s t : ByteArray} (h : nums s = nums t) : s = t := by rw [← strOfNums_nums s, h, strOfNums_nums]

theorem toList_beq (s t : ByteArray) : (s.toList == t.toList) = decide (s = t) := by
  rw [ByteArray.toList_eq, ByteArray.toList_eq, Bool.eq_iff_iff, beq_iff_eq, decide_eq_true_eq]
  constructor
  · intro h
    have := Array.toList_inj.1 h
    cases s; cases t; simp_all
  · rintro rfl; rfl
theorem toList_empty (s : ByteArray) : s.toList.isEmpty = decide (s.size = 0) := by
  rw [ByteArray.toList_eq, Bool.eq_iff_iff, List.isEmpty_iff, decide_eq_true_eq, Array.toList_eq_nil_iff]
  cases s with
  | mk d => exact Array.size_eq_zero_iff.symm
theorem toList_nil (s : ByteArray) : s.toList = [] ↔ s.size = 0 := by
  rw [← List.isEmpty_iff, toList_empty, decide_eq_true_eq]
theorem strOfNums_beq {xs ys : List Int} (hx : AllByte xs) (hy : AllByte ys) : ((strOfNums xs).toList == (strOfNums ys).toList) = decide (xs = ys) := by
  rw [toList_beq]
  exact decide_eq_decide.2 ⟨strOfNums_inj hx hy, fun h => by rw [h]⟩
/-! ### A map with whole numbers as keys -/
/-- Block b is a map: its entries, in order, are 'l'; no key twice. -/
structure IMap (w : World) (b : Nat) (l : List (Int × Value)) : Prop where
  nodup : (l.map (·.1)).Nodup
  is : ∃ es clock, w.heap[b]? = some (.map es clock) ∧ es.toList.map (fun e => (e.key, e.val)) = l.map (fun p => (Value.int .i64 p.1, p.2)) ∧ (∀ e ∈ es.toList, e.born < clock) ∧ (es.toList.map (·.born)).Nodup

def look (l : List (Int × Value)) (k : Int) : Option Value := (l.find? (fun p => p.1 == k)).map (·.2)
def put (l : List (Int × Value)) (k : Int) (v : Value) : List (Int × Value) := if l.any (fun p => p.1 == k) then l.map (fun p => if p.1 == k then (k, v) else p) else l ++ [(k, v)]

theorem findNow_look {q : IntKind} : ∀ (es : List MapEntry) (l : List (Int × Value)) (k : Int) (i : Nat), es.map (fun e => (e.key, e.val)) = l.map (fun p => (Value.int .i64 p.1, p.2)) →
    ∃ j, Instr.findNow (.int q) (.int .i64 k) es i = some ((look l k).map fun v => (i + j, v)) ∧ (∀ v, look l k = some v → j < es.length ∧ ∀ (h : j < l.length), l[j] = (k, v))
  | [], [], k, i, _ => ⟨0, by simp [Instr.findNow, look], by simp [look]⟩
  | [], _ :: _, _, _, h => by simp at h
  | _ :: _, [], _, _, h => by simp at h
  | e :: es, (a, v) :: l, k, i, h => by
    simp only [List.map_cons, List.cons.injEq, Prod.mk.injEq] at h
    obtain ⟨⟨hk, hv⟩, ht⟩ := h
    by_cases ha : a = k
    · subst ha
      refine ⟨0, ?_, ?_⟩
      · simp [Instr.findNow, hk, Instr.sameNow, look, hv]
      · intro u hu
        simp [look] at hu
        exact ⟨by simp, fun _ => by simp [hu]⟩
    · obtain ⟨j, h1, h2⟩ := findNow_look (q := q) es l k (i + 1) ht
      refine ⟨j + 1, ?_, ?_⟩
      · have hka : (k == a) = false := by simp; exact fun h => ha h.symm
        have hl : look ((a, v) :: l) k = look l k := by simp [look, ha]
        simp only [Instr.findNow, hk, Instr.sameNow, if_true, hka, h1, hl]
        cases look l k <;> simp
        omega
      · intro u hu
        have hl : look ((a, v) :: l) k = look l k := by simp [look, ha]
        rw [hl] at hu
        obtain ⟨h3, h4⟩ := h2 u hu
        exact ⟨by simpa using h3, fun h => by simpa using h4 (by simpa using h)⟩

theorem checkKey_int {P : Program} (w : World) (b : Bool) (n : Nat) (kt : TypeId) (q : IntKind) (k : Int) (hk : P.underlying kt = some (.int q)) : (Instr.checkKey b (n + 1) kt (.int .i64 k)).run P w = .ok () w := by
  simp [Instr.checkKey, run_underlying hk]

section
variable {P : Program} {w : World} {b : Nat} {l : List (Int × Value)} {t kt e : TypeId} {q : IntKind}
theorem IMap.lookup (h : IMap w b l) (ht : P.underlying t = some (.map kt e)) (hk : P.underlying kt = some (.int q)) {z : Value} (hz : (zeroValue e).run P w = .ok z w) (k : Int) :
    (Instr.lookup t (.map (some b)) (.int .i64 k) false).run P w = .ok ((look l k).getD z) w := by
  obtain ⟨es, clock, hb, hes, _⟩ := h.is
  obtain ⟨j, h1, _⟩ := findNow_look (q := q) es.toList l k 0 hes
  have hg : (getObj b).run P w = .ok (.map es clock) w := by simp [getObj, Sem.run, hb]
  cases hl : look l k with
  | none => simp [Instr.lookup, run_underlying ht, hg, checkKey_int w _ 9999 kt q k hk, Instr.findKey, run_underlying hk, h1, hl, hz]
  | some v => simp [Instr.lookup, run_underlying ht, hg, checkKey_int w _ 9999 kt q k hk, Instr.findKey, run_underlying hk, h1, hl]
theorem IMap.lookup_ok (h : IMap w b l) (ht : P.underlying t = some (.map kt e)) (hk : P.underlying kt = some (.int q)) {z : Value} (hz : (zeroValue e).run P w = .ok z w) (k : Int) :
    (Instr.lookup t (.map (some b)) (.int .i64 k) true).run P w = .ok (.tuple #[(look l k).getD z, .bool (look l k).isSome]) w := by
  obtain ⟨es, clock, hb, hes, _⟩ := h.is
  obtain ⟨j, h1, _⟩ := findNow_look (q := q) es.toList l k 0 hes
  have hg : (getObj b).run P w = .ok (.map es clock) w := by simp [getObj, Sem.run, hb]
  cases hl : look l k with
  | none => simp [Instr.lookup, run_underlying ht, hg, checkKey_int w _ 9999 kt q k hk, Instr.findKey, run_underlying hk, h1, hl, hz]
  | some v => simp [Instr.lookup, run_underlying ht, hg, checkKey_int w _ 9999 kt q k hk, Instr.findKey, run_underlying hk, h1, hl]
theorem IMap.len (h : IMap w b l) (ht : P.underlying t = some (.map kt e)) (ty : TypeId) :
    (Builtin.len_ #[t] ty #[.map (some b)]).run P w = .ok (.int .i64 l.length) w := by
  obtain ⟨es, clock, hb, hes, _⟩ := h.is
  have hg : (getObj b).run P w = .ok (.map es clock) w := by simp [getObj, Sem.run, hb]
  have hl : es.size = l.length := by have := congrArg List.length hes; simpa using this
  simp [Builtin.len_, run_underlying ht, hg, hl, goInt]
end

theorem blk11 (w : World) (o : Obj) : (w.alloc o).heap[w.heap.size]? = some o := heap_alloc_new w o
theorem blk21 (w : World) (o p : Obj) : ((w.alloc o).alloc p).heap[w.heap.size]? = some o := by
  rw [heap_alloc_old]
  · exact heap_alloc_new w o
  · simp
theorem blk22 (w : World) (o p : Obj) : ((w.alloc o).alloc p).heap[w.heap.size + 1]? = some p := by
  have := heap_alloc_new (w.alloc o) p
  simpa using this
theorem blk_cell {w : World} {b : Nat} {cs : Array Value} {e : TypeId} {fr : Nat × Nat} (h : w.heap[b]? = some (.cells cs e fr)) (j : Nat) : w.cell? ⟨b, j, none⟩ = cs[j]? := by
  simp [World.cell?, h]
theorem blk_free {w : World} {b : Nat} {cs : Array Value} {e : TypeId} (h : w.heap[b]? = some (.cells cs e (0, 0))) (j : Nat) : w.frozen? ⟨b, j, none⟩ = false := by
  simp [World.frozen?, h]
theorem blk_set {w : World} {b : Nat} {cs : Array Value} {e : TypeId} {fr : Nat × Nat} (h : w.heap[b]? = some (.cells cs e fr)) (j : Nat) (v : Value) : (w.setCell ⟨b, j, none⟩ v).heap[b]? = some (.cells (cs.setIfInBounds j v) e fr) := by
  simp [World.setCell, Array.getElem?_modify, h]
theorem blk_far {w : World} {b : Nat} {o : Option Obj} (h : w.heap[b]? = o) {p : Addr} (hp : p.block ≠ b) (v : Value) : (w.setCell p v).heap[b]? = o := by
  rw [Below.heap_setCell _ _ _ _ (fun e => hp e.symm)]; exact h
theorem blk_below {w w' : World} {B b : Nat} {o : Option Obj} (h : w.heap[b]? = o) (hB : Below B w w') (hb : b < B) : w'.heap[b]? = o := (hB.block b hb).trans h
theorem blk_row {w : World} {b : Nat} {cs cs' : Array Value} {e : TypeId} {fr : Nat × Nat} (h : w.heap[b]? = some (.cells cs e fr)) : (w.setRow b cs').heap[b]? = some (.cells cs' e fr) := setRow_heap w b cs cs' e fr h
theorem below_setRow {B b : Nat} {a w : World} (h : Below B a w) (hb : B ≤ b) (cs : Array Value) : Below B a (w.setRow b cs) :=
  h.trans ⟨rfl, rfl, rfl, by simp [World.setRow], fun k hk => setRow_other w b k _ (by omega)⟩
/-- 'xs[l:h]' of a slice that isn't cut at its very end. -/
theorem slice_lh {P : Program} {t : TypeId} {s : Nat} (hu : P.underlying t = some (.slice (P.elem t))) (hz : ∀ W, (sizeOf (P.elem t)).run P W = .ok s W) (b off n c l h : Nat) (li hi : Int) (hl : li = l) (hh : hi = h) (h1 : l ≤ h) (h2 : h ≤ c) (hlc : l < c) :
    ∀ W, (Instr.slice t (.slice (some ⟨b, off, none⟩) n c) (some (.int .i64 li)) (some (.int .i64 hi)) none).run P W = .ok (.slice (some ⟨b, off + l * s, none⟩) (h - l) (c - l)) W := by
  intro W
  subst hl; subst hh
  rw [run_slice_lh W t _ n c hu .i64 .i64 l h (by omega) (by omega) (by omega), hz]
  simp only [Result.andThen, sliced, Int.toNat_natCast]
  rw [if_neg (by omega)]
  simp only [Option.map_some, Addr.add]
  split
  · rename_i h0
    simp [h0]
  · rfl
/-- copy, its run known. -/
theorem wpList_copy_run {P : Program} {ops : Array Oper} {rest : List Oper} {o : Oper} {a : Act} {Q : Exit → Act → World → Prop} {w w' : World} (hgd : o.guard = none) (d s : Operand) (t t' : TypeId)
    (ho : o.op = .call { callee := .builtin .copy, args := #[d, s], argTypes := #[t, t'] }) (dv sv v : Value) (hd : a.eval d = dv) (hs : a.eval s = sv)
    (hrun : (Builtin.copy_ #[t, t'] o.type #[dv, sv]).run P w = .ok v w') (h : wpList P ops Q rest (a.put o.dst v) w') : wpList P ops Q (o :: rest) a w := by
  refine wpList_plain hgd fun K hK => ?_
  unfold Oper.wp execOp
  simp only [ho, resolve, invoke, builtin, Sem.run_bind, Sem.run_pure, Result.andThen_ok, List.map_toArray, List.map_cons, List.map_nil, hd, hs, hrun]
  exact hK _ _ h
end Go.Sel
/- More small words of my own: a map with whole numbers as keys is stored into; made maps. No program in sight. -/
set_option linter.unusedSimpArgs false
set_option linter.unusedVariables false
namespace Go.Sel
open Go.RowKit Go.MapKept
open Go.ChangeMaps (setBlock heap_setBlock_same heap_setBlock_other)

theorem look_none {l : List (Int × Value)} {k : Int} : look l k = none ↔ ∀ p ∈ l, p.1 ≠ k := by
  simp [look, List.find?_eq_none]
theorem look_some_any {l : List (Int × Value)} {k : Int} {v : Value} (h : look l k = some v) : l.any (fun p => p.1 == k) = true := by
  simp only [look, Option.map_eq_some_iff] at h
  obtain ⟨p, hp, _⟩ := h
  exact List.any_eq_true.2 ⟨p, List.mem_of_find?_eq_some hp, List.find?_some (p := fun (p : Int × Value) => p.1 == k) hp⟩
theorem look_none_any {l : List (Int × Value)} {k : Int} (h : look l k = none) : l.any (fun p => p.1 == k) = false := by
  rw [List.any_eq_false]
  intro p hp
  simpa using look_none.1 h p hp

theorem put_nodup {l : List (Int × Value)} (k : Int) (v : Value) (h : (l.map (·.1)).Nodup) : ((put l k v).map (·.1)).Nodup := by
  unfold put
  split
  · have : (l.map fun p => if p.1 == k then (k, v) else p).map (·.1) = l.map (·.1) := by
      rw [List.map_map]
      refine List.map_congr_left fun p _ => ?_
      simp only [Function.comp]
      split
      · rename_i h; simp at h; simp [h]
      · rfl
    rw [this]; exact h
  · rename_i hn
    rw [List.map_append, List.nodup_append]
    refine ⟨h, by simp, ?_⟩
    intro a ha b hb
    simp only [List.map_cons, List.map_nil, List.mem_singleton] at hb
    subst hb
    rintro rfl
    obtain ⟨p, hp, rfl⟩ := List.mem_map.1 ha
    exact hn (List.any_eq_true.2 ⟨p, hp, by simp⟩)

/-- 'w'' is 'w' but for block b. -/
structure ButBlock (b : Nat) (w w' : World) : Prop where
  tape : w'.tape = w.tape
  os : w'.os = w.os
  output : w'.output = w.output
  size : w'.heap.size = w.heap.size
  far : ∀ i, i ≠ b → w'.heap[i]? = w.heap[i]?
theorem ButBlock.cell {b : Nat} {w w' : World} (h : ButBlock b w w') {a : Addr} (ha : a.block ≠ b) : w'.cell? a = w.cell? a := by
  simp only [World.cell?, h.far _ ha]
theorem ButBlock.frozen {b : Nat} {w w' : World} (h : ButBlock b w w') {a : Addr} (ha : a.block ≠ b) : w'.frozen? a = w.frozen? a := by
  simp only [World.frozen?, h.far _ ha]
theorem ButBlock.below {b B : Nat} {a w w' : World} (h : ButBlock b w w') (hB : Below B a w) (hb : B ≤ b) : Below B a w' :=
  hB.trans ⟨h.os, h.tape, h.output, Nat.le_of_eq h.size.symm, fun i hi => h.far i (by omega)⟩
theorem ButBlock.imap {b c : Nat} {w w' : World} {l : List (Int × Value)} (h : ButBlock b w w') (hm : IMap w c l) (hc : c ≠ b) : IMap w' c l :=
  ⟨hm.nodup, by rw [h.far c hc]; exact hm.is⟩
theorem ButBlock.rd {b : Nat} {w w' : World} {A : Option Addr} {n c : Nat} {cs : List Value} (h : ButBlock b w w') (hr : Rd w A n c cs) (hA : ∀ a, A = some a → a.block ≠ b) : Rd w' A n c cs :=
  ⟨hr.le, hr.cap, hr.at_.imp id fun ⟨k, off, e, hc⟩ => ⟨k, off, e, fun j hj => by rw [h.cell (a := ⟨k, off + j, none⟩) (show k ≠ b from hA _ e)]; exact hc j hj⟩⟩

theorem IMap.below {w w' : World} {B b : Nat} {l : List (Int × Value)} (h : IMap w b l) (hB : Below B w w') (hb : b < B) : IMap w' b l :=
  ⟨h.nodup, by rw [hB.block b hb]; exact h.is⟩
theorem IMap.lt {w : World} {b : Nat} {l : List (Int × Value)} (h : IMap w b l) : b < w.heap.size := by
  obtain ⟨es, c, hb, _⟩ := h.is
  exact (Array.getElem?_eq_some_iff.1 hb).1
theorem IMap.new (w : World) {t kt e : TypeId} : IMap (w.alloc (.map #[] 0)) w.heap.size [] :=
  ⟨by simp, #[], 0, blk11 w _, rfl, by simp, by simp⟩

section
variable {P : Program} {w : World} {b : Nat} {l : List (Int × Value)} {t kt e : TypeId} {q : IntKind}
theorem findNow_at {q : IntKind} (es : List MapEntry) (l : List (Int × Value)) (k : Int) (h : es.map (fun e => (e.key, e.val)) = l.map (fun p => (Value.int .i64 p.1, p.2))) {v : Value} (hv : look l k = some v) :
    ∃ j, Instr.findNow (.int q) (.int .i64 k) es 0 = some (some (j, v)) ∧ j < es.length ∧ l[j]? = some (k, v) := by
  obtain ⟨j, h1, h2⟩ := findNow_look (q := q) es l k 0 h
  rw [hv, Nat.zero_add] at h1
  obtain ⟨h3, h4⟩ := h2 v hv
  have hl : es.length = l.length := by simpa using congrArg List.length h
  exact ⟨j, h1, h3, by rw [List.getElem?_eq_getElem (by omega), h4 (by omega)]⟩

theorem IMap.store (h : IMap w b l) (ht : P.underlying t = some (.map kt e)) (hk : P.underlying kt = some (.int q)) (k : Int) (v : Value) :
    ∃ w', (Instr.mapUpdate t (.map (some b)) (.int .i64 k) v).run P w = .ok () w' ∧ IMap w' b (put l k v) ∧ ButBlock b w w' := by
  obtain ⟨es, clock, hb, hes, hlt, hnd⟩ := h.is
  have hlen : es.size = l.length := by simpa using congrArg List.length hes
  cases hl : look l k with
  | none =>
    obtain ⟨j, h1, _⟩ := findNow_look (q := q) es.toList l k 0 hes
    refine ⟨setBlock w b (.map (es.push ⟨.int .i64 k, v, clock⟩) (clock + 1)), ?_, ⟨put_nodup k v h.nodup, es.push ⟨.int .i64 k, v, clock⟩, clock + 1, heap_setBlock_same hb _, ?_, ?_, ?_⟩, ⟨rfl, rfl, rfl, by simp [setBlock], fun i hi => heap_setBlock_other hb _ hi⟩⟩
    · simp [Instr.mapUpdate, run_underlying ht, MapKept.run_getObj_map hb, checkKey_int w _ 9999 kt q k hk, Instr.findKey, run_underlying hk, h1, hl, MapKept.run_setObj_map _ hb, Result.andThen, setBlock]
    · rw [put, if_neg (by rw [look_none_any hl]; decide)]
      simp [hes]
    · intro x hx
      simp only [Array.toList_push, List.mem_append, List.mem_singleton] at hx
      rcases hx with hx | rfl
      · have := hlt x hx; omega
      · show clock < clock + 1; omega
    · rw [Array.toList_push, List.map_append, List.nodup_append]
      refine ⟨hnd, by simp, ?_⟩
      intro a ha c hc
      simp only [List.map_cons, List.map_nil, List.mem_singleton] at hc
      subst hc
      obtain ⟨x, hx, rfl⟩ := List.mem_map.1 ha
      have := hlt x hx
      omega
  | some u =>
    obtain ⟨j, h1, h2, h3⟩ := findNow_at (q := q) es.toList l k hes hl
    have hj : j < es.size := by simpa using h2
    have hkey : es[j].key = .int .i64 k := by
      have := congrArg (fun z => z[j]?) hes
      simp only [List.getElem?_map, h3] at this
      rw [List.getElem?_eq_getElem h2] at this
      simp at this
      exact this.1
    have hmod : (es.modify j fun e => { e with key := .int .i64 k, val := v }).toList = es.toList.set j { es[j] with key := .int .i64 k, val := v } := by
      rw [Array.toList_modify, Go.ChangeMaps.modify_eq_set _ _ _ _ (by rw [List.getElem?_eq_getElem h2])]
      simp
    refine ⟨setBlock w b (.map (es.modify j fun e => { e with key := .int .i64 k, val := v }) clock), ?_, ⟨put_nodup k v h.nodup, _, clock, heap_setBlock_same hb _, ?_, ?_, ?_⟩, ⟨rfl, rfl, rfl, by simp [setBlock], fun i hi => heap_setBlock_other hb _ hi⟩⟩
    · simp [Instr.mapUpdate, run_underlying ht, MapKept.run_getObj_map hb, checkKey_int w _ 9999 kt q k hk, Instr.findKey, run_underlying hk, h1, Array.getElem?_eq_getElem hj, hkey, Instr.keyThatStays, Instr.sameBits, MapKept.run_setObj_map _ hb, Result.andThen, setBlock]
    · have hjl : j < l.length := by omega
      rw [put, if_pos (look_some_any hl), hmod, List.map_set, hes]
      apply List.ext_getElem (by simp)
      intro i hi1 hi2
      simp only [List.length_set, List.length_map] at hi1
      have hkj : l[j] = (k, u) := by rw [List.getElem?_eq_getElem hjl] at h3; simpa using h3
      rw [List.getElem_set]
      split
      · rename_i hij
        subst hij
        simp [hkj]
      · rename_i hij
        have : l[i].1 ≠ k := by
          intro he
          have h4 := h.nodup
          rw [List.nodup_iff_pairwise_ne, List.pairwise_iff_getElem] at h4
          rcases Nat.lt_or_gt_of_ne hij with hlt' | hlt'
          · exact h4 j i (by simpa using hjl) (by simpa using hi1) hlt' (by simp [hkj, he])
          · exact h4 i j (by simpa using hi1) (by simpa using hjl) hlt' (by simp [hkj, he])
        simp [this]
    · intro x hx
      rw [hmod] at hx
      rcases List.mem_or_eq_of_mem_set hx with hx | rfl
      · exact hlt x hx
      · exact hlt es[j] (by simp)
    · have : (es.toList.set j { es[j] with key := .int .i64 k, val := v }).map (·.born) = es.toList.map (·.born) := by
        rw [List.map_set]
        apply List.ext_getElem (by simp)
        intro i h1 h2
        rw [List.getElem_set]
        split
        · rename_i hij; subst hij; simp
        · rfl
      rw [hmod, this]; exact hnd
end

/-- 'm[k] = v' at the operation: the world behind it is any that holds the new map and is the old one else. -/
theorem wpList_store {P : Program} {w : World} {ops : Array Oper} {rest : List Oper} {o : Oper} {a : Act} {Q : Exit → Act → World → Prop}
    (hg : o.guard = none) (m x v : Operand) (t : TypeId) (hop : o.op = Op.mapUpdate t m x v) {kt e : TypeId} {q : IntKind}
    (ht : P.underlying t = some (.map kt e)) (hk : P.underlying kt = some (.int q)) {b : Nat} {l : List (Int × Value)} {k : Int} {val : Value}
    (hm : a.eval m = .map (some b)) (hx : a.eval x = .int .i64 k) (hv : a.eval v = val) (h : IMap w b l)
    (hK : ∀ w', IMap w' b (put l k val) → ButBlock b w w' → wpList P ops Q rest (a.put o.dst undef) w') :
    wpList P ops Q (o :: rest) a w := by
  refine wpList_plain hg fun K' hK' => ?_
  obtain ⟨w', hrun, r1, r2⟩ := h.store ht hk k val
  unfold Oper.wp
  simp [execOp, hop, hm, hx, hv, hrun, Result.andThen]
  exact hK' _ _ (hK w' r1 r2)

/-- The map of those that were seen. -/
def seenL (xs : List Int) : List (Int × Value) := xs.map fun k => (k, .bool true)
theorem look_seen (xs : List Int) (k : Int) : (look (seenL xs) k).getD (.bool false) = .bool (xs.contains k) := by
  unfold look seenL
  induction xs with
  | nil => rfl
  | cons x xs ih =>
    by_cases h : x = k
    · subst h; simp
    · have : (x == k) = false := by simpa using h
      have h2 : (k == x) = false := by simp; exact fun e => h e.symm
      simp only [List.map_cons, List.find?_cons, this, List.contains_cons, h2, Bool.false_or]
      exact ih
theorem put_seen (xs : List Int) (k : Int) (h : xs.contains k = false) : put (seenL xs) k (.bool true) = seenL (xs ++ [k]) := by
  have : (seenL xs).any (fun p => p.1 == k) = false := by
    rw [List.any_eq_false]
    intro p hp
    simp only [seenL, List.mem_map] at hp
    obtain ⟨y, hy, rfl⟩ := hp
    intro he
    simp at he
    subst he
    simp [hy] at h
  rw [put, if_neg (by rw [this]; decide)]
  simp [seenL]
end Go.Sel
/- More small words of my own: append of one element onto a slice that the call owns. No program in sight. -/
set_option linter.unusedSimpArgs false
set_option linter.unusedVariables false
namespace Go.Sel
open Go.RowKit

theorem below_grown {B : Nat} {a w w' : World} {row : Option Nat} (h : Below B a w) (hg : w.grownBy w' row) (hb : B ≤ w.heap.size) (hr : ∀ k, row = some k → B ≤ k) : Below B a w' :=
  h.trans ⟨hg.os, hg.tape, hg.output, hg.size, fun k hk => hg.block k (Nat.lt_of_lt_of_le hk hb) fun he => by have := hr k he.symm; omega⟩
theorem own_row {w : World} {base size n : Nat} {e : TypeId} {v : Value} {xs : List Value} (h : w.ownsRow base e size v n xs) : ∀ k, v.ownBlock = some k → base ≤ k := fun k hk => (h.lt k hk).1
theorem own_drewN {w : World} {base size n : Nat} {e : TypeId} {v : Value} {xs : List Value} (h : w.ownsRow base e size v n xs) (m : Nat) : (w.drewN m).ownsRow base e size v n xs := by
  induction m with
  | zero => exact h
  | succ m ih => rw [← World.drew_drewN]; exact ih.drew
/-- A row stays where its block stays. -/
theorem own_same {w w' : World} {base size n : Nat} {e : TypeId} {v : Value} {xs : List Value} (h : w.ownsRow base e size v n xs) (hk : ∀ k, v.ownBlock = some k → w'.heap[k]? = w.heap[k]?) : w'.ownsRow base e size v n xs := by
  refine ⟨h.1, h.2.imp id ?_⟩
  rintro ⟨g, cap, cur, rfl, h1, h2, h3⟩
  exact ⟨g, cap, cur, rfl, h1, (hk g rfl).trans h2, h3⟩
theorem own_below {w w' : World} {base B size n : Nat} {e : TypeId} {v : Value} {xs : List Value} (h : w.ownsRow base e size v n xs) (hB : Below B w w') (hb : w.heap.size ≤ B) : w'.ownsRow base e size v n xs :=
  own_same h fun k hk => hB.block k (Nat.lt_of_lt_of_le (h.lt k hk).2 hb)
theorem own_setCell {w : World} {base size n : Nat} {e : TypeId} {v : Value} {xs : List Value} (h : w.ownsRow base e size v n xs) {p : Addr} (hp : p.block < base) (u : Value) : (w.setCell p u).ownsRow base e size v n xs :=
  own_same h fun k hk => blk_far rfl (by have := own_row h k hk; omega) u

section
variable {P : Program} {ops : Array Oper} {o : Oper} {a : Act} {Q : Exit → Act → World → Prop}
theorem run_push {W : World} (base : Nat) (t ty e : TypeId) (z : Value) (bytes : Nat)
    (ht : P.underlying t = some (.slice e)) (hinfo : (P.info? e).map (fun i => (i.zero, i.size, i.bytes)) = some (some z, 1, bytes)) (hz : z.cells.size = 1) (hb0 : 0 < bytes)
    (v : Value) (n : Nat) (xs : List Value) (y : Value) (h1 : y.oneCell' = true) (HO : W.ownsRow base e 1 v n xs) (hbase : base ≤ W.heap.size) (hl : (n + 1) * bytes ≤ 140737488355328) :
    ∃ g cap w1, (Builtin.append_ #[t, t] ty #[v, .slice (some ⟨W.heap.size, 0, none⟩) 1 1]).run P (W.alloc (.cells #[y] e)) = .ok (.slice (some ⟨g, 0, none⟩) (n + 1) cap) w1 ∧ w1.ownsRow base e 1 (.slice (some ⟨g, 0, none⟩) (n + 1) cap) (n + 1) (xs ++ [y]) ∧ W.grownBy w1 v.ownBlock ∧
      (v.ownBlock = some g ∨ W.heap.size ≤ g) ∧ g < w1.heap.size := by
  obtain ⟨i0, hi, hzz⟩ := Option.map_eq_some_iff.1 hinfo
  simp only [Prod.mk.injEq] at hzz
  obtain ⟨hz0, hz1, hz2⟩ := hzz
  have hlen : n + 1 ≤ 140737488355328 := Nat.le_trans (Nat.le_mul_of_pos_right _ hb0) hl
  obtain ⟨v1, w1, hr, hown, hg, hnil, hat⟩ := run_append_own_at (P := P) (W.alloc (.cells #[y] e)) base t ty e i0 z 1 bytes ht hi hz0 hz1 hz2 hz (by decide) v n xs (HO.alloc _) ⟨W.heap.size, 0, none⟩ 1 1 [y] rfl
    (cell_one_new _ _ _) (fun u hu => by rw [List.mem_singleton.1 hu]; exact h1) (by simp only [maxLen]; omega) hl (by simp; omega)
  obtain ⟨g, cap, rfl, _, hlt⟩ := hown.form (by omega)
  refine ⟨g, cap, w1, hr, hown, World.grownBy.trans (World.grownBy_alloc W _ _) hg, ?_, hlt⟩
  rcases hat with hat | hat
  · exact .inl (by rw [← hat]; rfl)
  · right
    have : g = (W.alloc (.cells #[y] e)).heap.size := by simpa [Value.ownBlock] using hat
    rw [this]; simp

/-- 'append(s, y)' at a step of a region that draws its order: for 'go_region_law (refine step_push ..)'. -/
theorem step_push {Wg : World} (W : World) {K : Act → World → Prop} {E : Prop} (hgd : o.guard = none) (s x : Operand) (t e : TypeId)
    (ho : o.op = .call { callee := .builtin .append, args := #[s, x], argTypes := #[t, t] }) (base : Nat) (z : Value) (bytes : Nat)
    (ht : P.underlying t = some (.slice e)) (hinfo : (P.info? e).map (fun i => (i.zero, i.size, i.bytes)) = some (some z, 1, bytes)) (hz : z.cells.size = 1) (hb0 : 0 < bytes)
    (v : Value) (n : Nat) (xs : List Value) (y : Value) (hs : a.eval s = v) (hx : a.eval x = .slice (some ⟨W.heap.size, 0, none⟩) 1 1) (h1 : y.oneCell' = true)
    (HO : W.ownsRow base e 1 v n xs) (hbase : base ≤ W.heap.size) (hl : (n + 1) * bytes ≤ 140737488355328) (hW : Wg = W.alloc (.cells #[y] e))
    (h : ∀ g cap w1, w1.ownsRow base e 1 (.slice (some ⟨g, 0, none⟩) (n + 1) cap) (n + 1) (xs ++ [y]) → W.grownBy w1 v.ownBlock → (v.ownBlock = some g ∨ W.heap.size ≤ g) → g < w1.heap.size → K (a.put o.dst (.slice (some ⟨g, 0, none⟩) (n + 1) cap)) w1) :
    if Region.wanted o (yielded ops a.tmps) = true then Oper.wp P o a Wg K Q else E := by
  subst hW
  have hw : Region.wanted o (yielded ops a.tmps) = true := by simp [Region.wanted, hgd]
  rw [if_pos hw]
  obtain ⟨g, cap, w1, hr, h2, h3, h4, h5⟩ := run_push (P := P) base t o.type e z bytes ht hinfo hz hb0 v n xs y h1 HO hbase hl
  unfold Oper.wp execOp
  simp only [ho, resolve, invoke, builtin, Sem.run_bind, Sem.run_pure, Result.andThen_ok, List.map_toArray, List.map_cons, List.map_nil, hs, hx, hr]
  exact h g cap w1 h2 h3 h4 h5
/-- The same in a plain region. -/
theorem wpList_push {Wg : World} (W : World) {rest : List Oper} (hgd : o.guard = none) (s x : Operand) (t e : TypeId)
    (ho : o.op = .call { callee := .builtin .append, args := #[s, x], argTypes := #[t, t] }) (base : Nat) (z : Value) (bytes : Nat)
    (ht : P.underlying t = some (.slice e)) (hinfo : (P.info? e).map (fun i => (i.zero, i.size, i.bytes)) = some (some z, 1, bytes)) (hz : z.cells.size = 1) (hb0 : 0 < bytes)
    (v : Value) (n : Nat) (xs : List Value) (y : Value) (hs : a.eval s = v) (hx : a.eval x = .slice (some ⟨W.heap.size, 0, none⟩) 1 1) (h1 : y.oneCell' = true)
    (HO : W.ownsRow base e 1 v n xs) (hbase : base ≤ W.heap.size) (hl : (n + 1) * bytes ≤ 140737488355328) (hW : Wg = W.alloc (.cells #[y] e))
    (h : ∀ g cap w1, w1.ownsRow base e 1 (.slice (some ⟨g, 0, none⟩) (n + 1) cap) (n + 1) (xs ++ [y]) → W.grownBy w1 v.ownBlock → (v.ownBlock = some g ∨ W.heap.size ≤ g) → g < w1.heap.size → wpList P ops Q rest (a.put o.dst (.slice (some ⟨g, 0, none⟩) (n + 1) cap)) w1) :
    wpList P ops Q (o :: rest) a Wg := by
  subst hW
  refine wpList_plain hgd fun K hK => ?_
  obtain ⟨g, cap, w1, hr, h2, h3, h4, h5⟩ := run_push (P := P) base t o.type e z bytes ht hinfo hz hb0 v n xs y h1 HO hbase hl
  unfold Oper.wp execOp
  simp only [ho, resolve, invoke, builtin, Sem.run_bind, Sem.run_pure, Result.andThen_ok, List.map_toArray, List.map_cons, List.map_nil, hs, hx, hr]
  exact hK _ _ (h g cap w1 h2 h3 h4 h5)
end
/-- 'xs[1:]' of a slice with something in it: where the rest stands. -/
theorem slice_1 {P : Program} {t : TypeId} (hu : P.underlying t = some (.slice (P.elem t))) (hz : ∀ W, (sizeOf (P.elem t)).run P W = .ok 1 W) (A : Option Addr) (n c : Nat) (hn : 0 < n) (hc : n ≤ c) :
    ∃ A', (∀ W, (Instr.slice t (.slice A n c) (some (.int .i64 1)) none none).run P W = .ok (.slice A' (n - 1) (c - 1)) W) ∧ ∀ w cs, cs.length = n → Rd w A n c cs → Rd w A' (n - 1) (c - 1) (cs.drop 1) := by
  refine ⟨if c = 1 then A else A.map (·.add 1), fun W => ?_, fun w cs hl hr => ?_⟩
  · rw [run_slice_l W t _ n c hu .i64 1 (by omega) (by omega), hz]
    simp [Result.andThen, sliced]
  · refine ⟨by have := hr.le; omega, by have := hr.cap; omega, ?_⟩
    by_cases h1 : n = 1
    · left
      exact List.drop_eq_nil_of_le (by omega)
    · obtain ⟨b, off, rfl, _, hcell⟩ := hr.form (by omega)
      right
      refine ⟨b, off + 1, ?_, fun j hj => ?_⟩
      · rw [if_neg (by omega)]
        simp [Addr.add]
      · rw [List.length_drop] at hj
        rw [List.getElem_drop, ← hcell (1 + j) (by omega), Nat.add_assoc]
end Go.Sel
