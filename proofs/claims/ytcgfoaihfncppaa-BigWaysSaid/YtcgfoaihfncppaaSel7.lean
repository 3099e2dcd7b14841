/- Small words of my own: blocks whose cells are known; what a walk leaves as it was. No program in sight. -/
import Derived.Test.YtcgfoaihfncppaaSel5
import Derived.OwnWalk
namespace Go.Sel
open Go.RowKit

/-- Block g holds just the cells vs. -/
def Bk (w : World) (g : Nat) (T : TypeId) (vs : List Value) : Prop := w.heap[g]? = some (.cells vs.toArray T (0, 0))
theorem Bk.lt {w : World} {g : Nat} {T : TypeId} {vs : List Value} (h : Bk w g T vs) : g < w.heap.size := (Array.getElem?_eq_some_iff.1 h).1
theorem Bk.cell {w : World} {g : Nat} {T : TypeId} {vs : List Value} (h : Bk w g T vs) (j : Nat) (hj : j < vs.length) : w.cell? ⟨g, j, none⟩ = some vs[j] := by
  rw [blk_cell h j]; simp [hj]
theorem Bk.free {w : World} {g : Nat} {T : TypeId} {vs : List Value} (h : Bk w g T vs) (j : Nat) : w.frozen? ⟨g, j, none⟩ = false := blk_free h j
theorem Bk.set {w : World} {g : Nat} {T : TypeId} {vs : List Value} (h : Bk w g T vs) (j : Nat) (v : Value) : Bk (w.setCell ⟨g, j, none⟩ v) g T (vs.set j v) := by
  have := blk_set h j v
  unfold Bk
  rw [this]; simp
theorem Bk.far {w : World} {g : Nat} {T : TypeId} {vs : List Value} (h : Bk w g T vs) {p : Addr} (hp : p.block ≠ g) (v : Value) : Bk (w.setCell p v) g T vs := blk_far h hp v
theorem Bk.below {w w' : World} {B g : Nat} {T : TypeId} {vs : List Value} (h : Bk w g T vs) (hB : Below B w w') (hb : g < B) : Bk w' g T vs := blk_below h hB hb
theorem Bk.keep {w w' : World} {g : Nat} {T : TypeId} {vs : List Value} (h : Bk w g T vs) (hB : Below w.heap.size w w') : Bk w' g T vs := blk_below h hB h.lt
theorem Bk.new (w : World) (T : TypeId) (vs : List Value) : Bk (w.alloc (.cells vs.toArray T)) w.heap.size T vs := blk11 w _
theorem Bk.rd {w : World} {g : Nat} {T : TypeId} {vs : List Value} (h : Bk w g T vs) (n c : Nat) (hn : n ≤ c) (hc : c ≤ 9223372036854775807) : Rd w (some ⟨g, 0, none⟩) n c vs :=
  rd_block h n c vs 0 hn hc fun j hj => by simp [hj]
theorem Bk.bit {w : World} {g : Nat} {T : TypeId} {ms : List Bool} (h : Bk w g T (bv ms)) (j : Nat) (hj : j < ms.length) : w.cell? ⟨g, j, none⟩ = some (.bool (Gra.bit ms j)) := by
  rw [h.cell j (by simpa using hj), bv_at, Gra.bit_get hj]
theorem bv_set (ms : List Bool) (j : Nat) (b : Bool) : (bv ms).set j (.bool b) = bv (ms.set j b) := by simp [bv, List.map_set]
theorem iv_set (k : IntKind) (xs : List Int) (j : Nat) (x : Int) : (iv k xs).set j (.int k x) = iv k (xs.set j x) := by simp [iv, List.map_set]

theorem keep_cell {w w' : World} {a : Addr} {v : Value} (h : w.cell? a = some v) (hB : Below w.heap.size w w') : w'.cell? a = some v := (hB.cell (World.block_lt_of_cell? w a h)).trans h
theorem new_cell (w : World) (cs : Array Value) (e : TypeId) (j : Nat) (v : Value) (h : cs[j]? = some v) : (w.alloc (.cells cs e)).cell? ⟨w.heap.size, j, none⟩ = some v := (blk_cell (blk11 w _) j).trans h
theorem Rd.upto {w : World} {A : Option Addr} {n c : Nat} {cs : List Value} (h : Rd w A n c cs) (k : Nat) (hk : k ≤ n) : Rd w A k c (cs.take k) :=
  ⟨by have := h.le; omega, h.cap, by
    rcases h.at_ with h0 | ⟨b, off, e, hc⟩
    · exact .inl (by rw [h0]; simp)
    · exact .inr ⟨b, off, e, fun j hj => by rw [List.getElem_take]; exact hc j (by simp at hj; omega)⟩⟩
/-- w' is w but for new blocks and for the blocks of S. -/
structure Fr (S : Nat → Prop) (w w' : World) : Prop where
  os : w'.os = w.os
  tape : w'.tape = w.tape
  output : w'.output = w.output
  size : w.heap.size ≤ w'.heap.size
  block : ∀ k, k < w.heap.size → ¬ S k → w'.heap[k]? = w.heap[k]?
theorem Fr.refl (S : Nat → Prop) (w : World) : Fr S w w := ⟨rfl, rfl, rfl, Nat.le_refl _, fun _ _ _ => rfl⟩
theorem Fr.trans {S : Nat → Prop} {a b c : World} (h : Fr S a b) (k : Fr S b c) : Fr S a c :=
  ⟨k.os.trans h.os, k.tape.trans h.tape, k.output.trans h.output, Nat.le_trans h.size k.size, fun i hi hs => (k.block i (Nat.lt_of_lt_of_le hi h.size) hs).trans (h.block i hi hs)⟩
theorem Fr.mono {S T : Nat → Prop} {a b : World} (h : Fr S a b) (hs : ∀ k, k < a.heap.size → S k → T k) : Fr T a b :=
  ⟨h.os, h.tape, h.output, h.size, fun i hi ht => h.block i hi fun hS => ht (hs i hi hS)⟩
theorem fr_of_below {w w' : World} (h : Below w.heap.size w w') (S : Nat → Prop) : Fr S w w' := ⟨h.os, h.tape, h.output, h.size, fun k hk _ => h.block k hk⟩
theorem Fr.below {S : Nat → Prop} {w w' : World} (h : Fr S w w') {B : Nat} (hB : B ≤ w.heap.size) (hS : ∀ k, S k → B ≤ k) : Below B w w' :=
  ⟨h.os, h.tape, h.output, h.size, fun k hk => h.block k (Nat.lt_of_lt_of_le hk hB) fun hs => by have := hS k hs; omega⟩
theorem Fr.alloc {S : Nat → Prop} {a b : World} (h : Fr S a b) (o : Obj) : Fr S a (b.alloc o) := h.trans (fr_of_below (below_al b o) S)
theorem Fr.setCell {S : Nat → Prop} {a b : World} (h : Fr S a b) {p : Addr} (hp : S p.block ∨ a.heap.size ≤ p.block) (v : Value) : Fr S a (b.setCell p v) :=
  ⟨h.os, h.tape, h.output, by simpa using h.size, fun k hk hs => (Below.heap_setCell _ _ _ _ (fun e => by rcases hp with hp | hp; exact hs (e ▸ hp); omega)).trans (h.block k hk hs)⟩
theorem Fr.drewN {S : Nat → Prop} {a b : World} (h : Fr S a b) (n : Nat) : Fr S a (b.drewN n) := h.trans (fr_of_below (below_drewN b n) S)
theorem Fr.cell {S : Nat → Prop} {a b : World} (h : Fr S a b) {p : Addr} (hs : ¬ S p.block) {v : Value} (hv : a.cell? p = some v) : b.cell? p = a.cell? p := by
  have hk := h.block p.block (World.block_lt_of_cell? a p hv) hs
  simp only [World.cell?, hk]
theorem Fr.far {S : Nat → Prop} {a b : World} (h : Fr S a b) {g : Nat} {T : TypeId} {vs : List Value} (hb : Bk a g T vs) (hs : ¬ S g) : Bk b g T vs := (h.block g hb.lt hs).trans hb
/-- 'make([]T, n)' of one-cell elements. -/
theorem run_makeN {P : Program} (t e : TypeId) (z : Value) (bytes : Nat) (ht : P.underlying t = some (.slice e)) (hinfo : (P.info? e).map (fun i => (i.zero, i.size, i.bytes)) = some (some z, 1, bytes)) (hz : z.cells = #[z]) (n : Nat) (hb : (bytes : Int) * (n : Int) ≤ 281474976710656) (hn : (n : Int) ≤ 9223372036854775807) (w : World) :
    (Instr.makeSlice t (.int .i64 (n : Int)) (.int .i64 (n : Int))).run P w = .ok (.slice (some ⟨w.heap.size, 0, none⟩) n n) (w.alloc (.cells (List.replicate n z).toArray e)) := by
  obtain ⟨i, hi, h1, h2, h3⟩ := info_parts hinfo
  rw [run_make (P := P) w t e i z ht hi h1 .i64 .i64 n n (by omega) (Int.le_refl _) (by rw [h3]; exact hb) hn]
  simp only [Int.toNat_natCast]
  have e' : madeCells z.cells (n * i.size) = (List.replicate n z).toArray := by
    rw [h2, Nat.mul_one, hz]
    apply Array.toList_inj.1
    simp [madeCells, Nat.mod_one, List.map_const']
  rw [e']
end Go.Sel
