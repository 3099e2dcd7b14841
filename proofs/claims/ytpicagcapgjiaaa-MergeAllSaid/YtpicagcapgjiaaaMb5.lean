/- Walks of patch.Apply and of its reference. -/
import Derived.Test.YtpicagcapgjiaaaMb2
import Derived.Test.YtpicagcapgjiaaaMer13
import Derived.Lib.BufferWrite
import Derived.IntWalk
import Derived.Deep.RegionHeld
set_option linter.unusedSimpArgs false
set_option linter.unusedVariables false
namespace Go.Proofs.Ytpicagcapgjiaaa
open Go.RowKit Go.Sel Go.Sel.Gra Go.Sel.Mer Go.Shelf

def z32 : Array Value := (List.replicate 32 (Value.int .u8 0)).toArray
theorem mk32 (w : World) : (Instr.makeSlice 77 (.int .i64 32) (.int .i64 32)).run Try.prog w = .ok (.slice (some ⟨w.heap.size, 0, none⟩) 32 32) (w.alloc (.cells z32 5)) := by kernel_rfl

theorem spl_cells {cs : List Int} (s : ByteArray) (o : Nat) : List.take o (iv .u8 cs) ++ Lib.byteCells s.data.toList ++ List.drop (o + s.size) (iv .u8 cs) = iv .u8 (spl cs o (nums s)) := by
  have e1 : Lib.byteCells s.data.toList = iv .u8 (nums s) := by simp [Lib.byteCells, iv, nums]
  rw [e1]
  simp [iv, spl]

/-- A block's bytes copied into a new one of as many. -/
theorem copy32 (w1 : World) (A : Option Addr) (c : Nat) (cs : List Int) (hr : Rd w1 A 32 c (iv .u8 cs)) (hl : cs.length = 32) :
    ∃ w2, (Builtin.copy_ #[77, 77] 3 #[.slice (some ⟨w1.heap.size, 0, none⟩) 32 32, .slice A 32 c]).run Try.prog (w1.alloc (.cells z32 5)) = .ok (.int .i64 32) w2 ∧
      w2.heap[w1.heap.size]? = some (.cells (iv .u8 cs).toArray 5 (0, 0)) ∧ Below w1.heap.size w1 w2 := by
  obtain ⟨sb, so, rfl, hsb, hcell⟩ := hr.form (by simp; omega)
  have h := run_copy_row (P := Try.prog) (w1.alloc (.cells z32 5)) 77 77 3 5 w1.heap.size 0 32 32 ⟨sb, so, none⟩ 32 c z32 5 (iv .u8 cs) Try.underlying77 (by kernel_rfl) (blk11 w1 _) (by simp [hl])
    (fun j v hj => by
      obtain ⟨hj', hv⟩ := List.getElem?_eq_some_iff.1 hj
      have ha : (⟨sb, so, none⟩ : Addr).add j = ⟨sb, so + j, none⟩ := by unfold Addr.add; split <;> simp_all
      rw [ha, ← hv]
      exact keep_cell (hcell j hj') (below_al _ _)) (by simp [hl, z32]) (one_iv _ _)
  have e : (List.take 0 z32.toList ++ iv .u8 cs ++ List.drop (0 + (iv .u8 cs).length) z32.toList).toArray = (iv .u8 cs).toArray := by simp [hl, z32]
  rw [e] at h
  refine ⟨(w1.alloc (.cells z32 5)).setRow w1.heap.size (iv .u8 cs).toArray, ?_, blk_row (blk11 w1 (.cells z32 5)), below_setRow (below_al w1 _) (Nat.le_refl _) _⟩
  rw [h]
  simp [hl, goInt]
theorem rd_list {w : World} {b : Nat} {l : List Value} {e : TypeId} {fr : Nat × Nat} {cs : List Value} (h : w.heap[b]? = some (.cells l.toArray e fr)) (hl : l = cs) (n : Nat) (hn : n ≤ 9223372036854775807) : Rd w (some ⟨b, 0, none⟩) n n cs := by
  subst hl
  exact rd_block h n n l 0 (Nat.le_refl _) hn fun j hj => by simp
theorem blk1 (w : World) (x : It) : (w.alloc (.cells #[.int .i64 x.b, .int .i64 x.o, .string x.s] 42)).heap[w.heap.size]? = some (.cells #[.int .i64 x.b, .int .i64 x.o, .string x.s] 42 (0, 0)) := blk11 w _

set_option maxRecDepth 100000 in
set_option maxHeartbeats 2000000 in
theorem Apply_no (x : It) (A : Option Addr) (n c : Nat) (w : World) (hn : n ≤ 9223372036854775807) (h : ¬ (n = 32 ∧ prightB x = true)) :
    Calls Try.prog 82 #[.slice A n c, .agg #[.int .i64 x.b, .int .i64 x.o, .string x.s]] w fun e w' => e = .returned (.tuple #[.slice none 0 0, .int .i64 3]) ∧ Below w.heap.size w w' := by
  have HP := Lib.hid (fun wx => pRight_any x wx)
  by_cases hn : n = 32
  · subst hn
    have hp : prightB x = false := by simpa using h
    have q0 : (((32 : Nat) : Int) != 32) = false := by decide
    have HF := Lib.hid hp
    clear h hp
    go_enter Try.func82, Try.ntmps82
    go_wp2_with (go_at_call 35; (with_reducible refine (HP.out _).mono ?_); rintro e w1 ⟨rfl, hB⟩; rw [HF.out]; have HB := Lib.hid ((below_al w (.cells #[.int .i64 x.b, .int .i64 x.o, .string x.s] 42)).trans (hB.mono (by simp))); clear hB)
    go_ret2
    exact ⟨rfl, HB.out⟩
  · have q0 : ((n : Int) != 32) = true := by simp; omega
    clear h
    go_enter Try.func82, Try.ntmps82
    go_wp2
    go_ret2
    exact ⟨rfl, below_al _ _⟩

set_option maxRecDepth 100000 in
set_option maxHeartbeats 4000000 in
theorem Apply_ok (x : It) (A : Option Addr) (c : Nat) (cs : List Int) (w : World) (hr : Rd w A 32 c (iv .u8 cs)) (hl : cs.length = 32) (hp : prightB x = true) :
    Calls Try.prog 82 #[.slice A 32 c, .agg #[.int .i64 x.b, .int .i64 x.o, .string x.s]] w fun e w' => (∃ A', e = .returned (.tuple #[.slice A' 32 32, .int .i64 0]) ∧ Rd w' A' 32 32 (iv .u8 (spl cs x.o.toNat (nums x.s)))) ∧ Below w.heap.size w w' := by
  have HP := Lib.hid (fun wx => pRight_any x wx)
  have hp' := pright_iff.1 hp
  have HT := Lib.hid hp
  obtain ⟨on, hon⟩ : ∃ on : Nat, x.o = (on : Int) := ⟨x.o.toNat, by omega⟩
  have ho : on < 32 := by omega
  have hs : x.s.size ≤ 32 - on := by omega
  have hcap := hr.cap
  obtain ⟨sb, so, rfl, hsb, hcell⟩ := hr.form (by simp; omega)
  have HR := Lib.hid hr
  have HL := Lib.hid hl
  have q0 : (((32 : Nat) : Int) != 32) = false := by decide
  have hmk := mk32
  have hslice := slice_lo (P := Try.prog) (t := 77) (by kernel_rfl) (fun W => by kernel_rfl)
  obtain ⟨xb, xo, xs, xd⟩ := x
  simp only at hon hs
  subst hon
  simp only [Int.toNat_natCast]
  clear hr hl hp hp' hcell
  go_enter Try.func82, Try.ntmps82
  go_wp2_with (first
    | (go_at_call 35; (with_reducible refine (HP.out _).mono ?_); rintro e w1 ⟨rfl, hB⟩; rw [HT.out]; have hbx := blk_below (blk1 w ⟨xb, on, xs, xd⟩) hB (by simp); have HB := Lib.hid ((below_al w (.cells #[.int .i64 xb, .int .i64 on, .string xs] 42)).trans (hB.mono (by simp))); obtain ⟨w2, hc2, hg2, hB2⟩ := copy32 w1 _ c cs (HR.out.below HB.out) HL.out; have hbx2 := blk_below hbx hB2 (Array.getElem?_eq_some_iff.1 hbx).1; have HC := Lib.hid hc2; have HG := Lib.hid hg2; have HX := Lib.hid hbx2; have HB2 := Lib.hid (below_then HB.out hB2); clear hB hbx hc2 hg2 hB2 hbx2)
    | (refine wpList_copy_run rfl _ _ _ _ rfl _ _ _ rfl rfl HC.out ?_))
  have c1 := blk_cell HX.out 1
  have c2 := blk_cell HX.out 2
  simp only [List.getElem?_toArray, List.getElem?_cons_zero, List.getElem?_cons_succ] at c1 c2
  have hsl := hslice w1.heap.size 0 32 32 on (by omega) (by omega)
  clear hslice
  rw [Nat.zero_add] at hsl
  go_still_tail 6, (by kernel_rfl)
  refine wpList_copy_run (w := w2.drew) rfl _ _ _ _ rfl _ _ _ rfl rfl (Lib.run_copy_row_string w2.drew 77 9 _ 5 w1.heap.size on (32 - on) (32 - on) xs _ 5 Try.underlying77 (by kernel_rfl) HG.out (by omega) (by simp [HL.out]; omega)) ?_
  go_wp2
  go_ret2
  exact ⟨⟨_, rfl, rd_list (blk_row (w := w2.drew) HG.out) (by rw [← List.append_assoc]; exact spl_cells xs on) 32 (by omega)⟩, below_setRow HB2.out.drew (by have := HB.out.size; omega) _⟩

set_option maxRecDepth 100000 in
set_option maxHeartbeats 2000000 in
theorem rApply_no (x : It) (A : Option Addr) (n c : Nat) (w : World) (hn : n ≤ 9223372036854775807) (h : ¬ (n = 32 ∧ prightB x = true)) :
    Calls Try.prog 83 #[.slice A n c, .agg #[.int .i64 x.b, .int .i64 x.o, .string x.s]] w fun e w' => e = .returned (.tuple #[.slice none 0 0, .int .i64 3]) ∧ Below w.heap.size w w' := by
  have HP := Lib.hid (fun wx => rpRight_any x wx)
  by_cases hn : n = 32
  · subst hn
    have hp : prightB x = false := by simpa using h
    have q0 : (((32 : Nat) : Int) != 32) = false := by decide
    have HF := Lib.hid hp
    clear h hp
    go_enter Try.func83, Try.ntmps83
    go_wp2_with (go_at_call 67; (with_reducible refine (HP.out _).mono ?_); rintro e w1 ⟨rfl, hB⟩; rw [HF.out]; have HB := Lib.hid ((below_al w (.cells #[.int .i64 x.b, .int .i64 x.o, .string x.s] 42)).trans (hB.mono (by simp))); clear hB)
    go_ret2
    exact ⟨rfl, HB.out⟩
  · have q0 : ((n : Int) != 32) = true := by simp; omega
    clear h
    go_enter Try.func83, Try.ntmps83
    go_wp2
    go_ret2
    exact ⟨rfl, below_al _ _⟩

/-- Block g begins with the bytes ys, and may be written. -/
def RowB (w : World) (g : Nat) (T : TypeId) (ys : List Int) : Prop := ∃ cur, w.heap[g]? = some (.cells cur T (0, 0)) ∧ ∀ j (h : j < ys.length), cur[j]? = some (.int .u8 ys[j])
theorem RowB.lt {w : World} {g : Nat} {T : TypeId} {ys : List Int} (h : RowB w g T ys) : g < w.heap.size := by obtain ⟨cur, h, _⟩ := h; exact (Array.getElem?_eq_some_iff.1 h).1
theorem RowB.below {w w' : World} {g : Nat} {T : TypeId} {ys : List Int} (h : RowB w g T ys) (hb : Below w.heap.size w w') : RowB w' g T ys := by
  have hl := h.lt
  obtain ⟨cur, h1, h2⟩ := h
  exact ⟨cur, blk_below h1 hb hl, h2⟩
theorem RowB.cell {w : World} {g : Nat} {T : TypeId} {ys : List Int} (h : RowB w g T ys) (j : Nat) (hj : j < ys.length) : w.cell? ⟨g, j, none⟩ = some (.int .u8 ys[j]) := by
  obtain ⟨cur, h1, h2⟩ := h
  rw [blk_cell h1, h2 j hj]
theorem RowB.free {w : World} {g : Nat} {T : TypeId} {ys : List Int} (h : RowB w g T ys) (j : Nat) : w.frozen? ⟨g, j, none⟩ = false := by
  obtain ⟨cur, h1, h2⟩ := h
  exact blk_free h1 j
theorem RowB.set {w : World} {g : Nat} {T : TypeId} {ys : List Int} (h : RowB w g T ys) (j : Nat) (hj : j < ys.length) (x : Int) : RowB (w.setCell ⟨g, j, none⟩ (.int .u8 x)) g T (ys.set j x) := by
  obtain ⟨cur, h1, h2⟩ := h
  refine ⟨_, blk_set h1 j _, fun i hi => ?_⟩
  have hi' : i < ys.length := by simpa using hi
  have hs : i < cur.size := (Array.getElem?_eq_some_iff.1 (h2 i hi')).1
  by_cases e : j = i
  · subst e; simp [hs]
  · rw [Array.getElem?_setIfInBounds_ne e, h2 i hi', List.getElem_set_ne e]
theorem RowB.rd {w : World} {g : Nat} {T : TypeId} {ys : List Int} (h : RowB w g T ys) (n c : Nat) (hn : n ≤ c) (hc : c ≤ 9223372036854775807) : Rd w (some ⟨g, 0, none⟩) n c (iv .u8 ys) := by
  obtain ⟨cur, h1, h2⟩ := h
  exact rd_block h1 n c _ 0 hn hc fun j hj => by rw [Nat.zero_add, iv_at]; exact h2 j (by simpa using hj)
theorem rowB_own {w : World} {base n : Nat} {v : Value} {ys : List Int} (h : w.ownsRow base 5 1 v n (iv .u8 ys)) (hn : 0 < n) : ∃ g c, v = .slice (some ⟨g, 0, none⟩) n c ∧ base ≤ g ∧ n ≤ c ∧ c ≤ 9223372036854775807 ∧ RowB w g 5 ys := by
  have hl := h.1
  rcases h.2 with ⟨rfl, h0⟩ | ⟨g, cap, cur, rfl, hb, hh, hnc, hc, hs, ht⟩
  · omega
  · refine ⟨g, cap, rfl, hb, hnc, by simpa [maxLen] using hc, cur, hh, fun j hj => ?_⟩
    have hj' : j < n * 1 := by rw [← hl]; simpa using hj
    have h1 : (cur.toList.take (n * 1))[j]? = (iv .u8 ys)[j]? := by rw [ht]
    rw [List.getElem?_take_of_lt hj', Array.getElem?_toList, List.getElem?_eq_getElem (by rw [iv_length]; exact hj), iv_at] at h1
    exact h1
theorem byte_at (xs : ByteArray) (k : Nat) (h : k < xs.size) : (nums xs)[k]'(by simpa using h) = (xs[k].toNat : Int) := by
  simp [nums]; rfl

set_option maxRecDepth 100000 in
set_option maxHeartbeats 4000000 in
theorem rApply_ok (x : It) (A : Option Addr) (c : Nat) (cs : List Int) (w : World) (hr : Rd w A 32 c (iv .u8 cs)) (hl : cs.length = 32) (hp : prightB x = true) :
    Calls Try.prog 83 #[.slice A 32 c, .agg #[.int .i64 x.b, .int .i64 x.o, .string x.s]] w fun e w' => (∃ A' c', e = .returned (.tuple #[.slice A' 32 c', .int .i64 0]) ∧ Rd w' A' 32 c' (iv .u8 (spl cs x.o.toNat (nums x.s)))) ∧ Below w.heap.size w w' := by
  have HP := Lib.hid (fun wx => rpRight_any x wx)
  have hp' := pright_iff.1 hp
  have HT := Lib.hid hp
  obtain ⟨on, hon⟩ : ∃ on : Nat, x.o = (on : Int) := ⟨x.o.toNat, by omega⟩
  have ho : on < 32 := by omega
  have hs : x.s.size ≤ 32 - on := by omega
  have HR := Lib.hid hr
  have HL := Lib.hid hl
  have q0 : (((32 : Nat) : Int) != 32) = false := by decide
  obtain ⟨xb, xo, xs, xd⟩ := x
  simp only at hon hs
  subst hon
  simp only [Int.toNat_natCast]
  clear hr hl hp hp'
  go_enter Try.func83, Try.ntmps83
  go_wp2_with (first
    | (go_at_call 67; (with_reducible refine (HP.out _).mono ?_); rintro e w1 ⟨rfl, hB⟩; rw [HT.out]; have hbx := blk_below (blk1 w ⟨xb, on, xs, xd⟩) hB (by simp); have HB := Lib.hid ((below_al w (.cells #[.int .i64 xb, .int .i64 on, .string xs] 42)).trans (hB.mono (by simp))); obtain ⟨v2, w2, hc2, hg2, hgr2, _⟩ := run_extend (P := Try.prog) (w := w1.alloc (.cells #[] 5)) w1.heap.size 77 77 5 (.int .u8 0) 1 Try.underlying77 infoU8 rfl _ 0 [] (own_empty w1 5 w1.heap.size (Nat.le_refl _)) A 32 c (iv .u8 cs) ((HR.out.below HB.out).alloc _) (by simpa using HL.out) (one_iv _ _) (by simp only [maxLen]; omega) (by omega) (by simp); have hB2 : Below w1.heap.size w1 w2 := below_grown (below_al w1 _) hgr2 (by simp) (fun k hk => by simp [Value.ownBlock] at hk; omega); have hbx1 := (Array.getElem?_eq_some_iff.1 hbx).1; have hbx2 := blk_below hbx hB2 hbx1; have HC := Lib.hid hc2; have HG := Lib.hid hg2; have HX := Lib.hid hbx2; have HB2 := Lib.hid (below_then HB.out hB2); clear hB hbx hc2 hg2 hB2 hbx2 hgr2)
    | (at_builtin; refine wpList_append_run rfl _ _ _ _ rfl _ _ _ rfl rfl HC.out ?_))
  have hg0 := HG.out
  rw [Nat.zero_add, List.nil_append] at hg0
  obtain ⟨g, cap, rfl, hgb, hcap, hcap2, hrow⟩ := rowB_own hg0 (by omega)
  have HRW : Hid (RowB w2 g 5 (spl cs on ((nums xs).take 0))) := by show RowB _ _ _ _; rw [List.take_zero, spl_nil]; exact hrow
  have c1 := blk_cell HX.out 1
  have c2 := blk_cell HX.out 2
  simp only [List.getElem?_toArray, List.getElem?_cons_zero, List.getElem?_cons_succ] at c1 c2
  have hbg : w.heap.size ≠ g := by have := HB.out.size; have := (Array.getElem?_eq_some_iff.1 HX.out).1; have := hbx1; omega
  clear hg0 hrow
  go_loopw [7] (fun v wr => ∃ k : Nat, k ≤ xs.size ∧ v = .int .i64 k ∧ Hid (RowB wr g 5 (spl cs on ((nums xs).take k))) ∧ Hid (Below w.heap.size w wr) ∧ wr.cell? ⟨w.heap.size, 1, none⟩ = some (.int .i64 on) ∧ wr.cell? ⟨w.heap.size, 2, none⟩ = some (.string xs)) (fun v _ => xs.size - (intOf v).toNat)
  case atStart => exact ⟨0, by omega, rfl, HRW, HB2, c1, c2⟩
  case round =>
    clear c1 c2 HX HRW HG HB2
    obtain ⟨k, hk, rfl, HRk, HBk, c1, c2⟩ := hrel
    by_cases hlt : k < xs.size
    · have hlen : (spl cs on ((nums xs).take k)).length = 32 := by rw [spl_length (by simp [HL.out]; omega)]; exact HL.out
      obtain ⟨z, d1⟩ : ∃ z, wr.cell? ⟨g, on + k, none⟩ = some (.int .u8 z) := ⟨_, HRk.out.cell (on + k) (by omega)⟩
      have d2 := HRk.out.free (on + k)
      have HSN : Hid ((spl cs on ((nums xs).take k)).set (on + k) (xs[k].toNat : Int) = spl cs on ((nums xs).take (k + 1))) := by
        show _ = _
        rw [← byte_at xs k hlt]
        exact spl_snoc (by simpa using hlt) (by simp [HL.out]; omega)
      have HST : Hid (RowB (wr.setCell ⟨g, on + k, none⟩ (.int .u8 (xs[k].toNat : Int))).drew g 5 (spl cs on ((nums xs).take (k + 1)))) := by
        show RowB _ _ _ _
        rw [← HSN.out]
        exact HRk.out.set (on + k) (by omega) _
      have HS : At (fun w' : World => w'.cell? ⟨w.heap.size, 1, none⟩ = some (.int .i64 on) ∧ w'.cell? ⟨w.heap.size, 2, none⟩ = some (.string xs)) wr.drew := ⟨c1, c2⟩
      clear hlen HSN
      go_upto_region 7 with (fail)
      have a1 : IntKind.i64.wrap ((on : Int) + (k : Int)) = (on : Int) + (k : Int) := IntWalk.i64_in _ (by omega)
      have a2 : (0 : Int) ≤ (on : Int) + (k : Int) := by omega
      have a3 : (on : Int) + (k : Int) < 32 := by omega
      have a4 : ((on : Int) + (k : Int)).toNat = on + k := by omega
      refine wp_region_lexD HS [0, 1, 2, 3, 4, 5, 6, 7, 8, 9] (by kernel_rfl) (by kernel_rfl) (fun _ _ d _ _ h => by cases d <;> exact h) ?_
      repeat (refine lexD_take (by kernel_rfl) (by kernel_rfl) HS (fun w9 h9 => by obtain ⟨s0, s1⟩ := h9; go_simp; first | done | rfl) (fun K hK => ?_); go_simp; refine hK _ ?_; clear hK K)
      refine lexD_late (by kernel_rfl) (by kernel_rfl) (fun K hK => ?_)
      go_simp
      refine hK _ _ ?_
      clear hK K a1 a2 a3 a4
      refine lexD_nil ?_
      have c1' : (wr.setCell ⟨g, on + k, none⟩ (.int .u8 (xs[k].toNat : Int))).drew.cell? ⟨w.heap.size, 1, none⟩ = some (.int .i64 on) := (World.cell?_setCell_far wr ⟨g, on + k, none⟩ _ _ (by simpa using Ne.symm hbg)).trans c1
      have c2' : (wr.setCell ⟨g, on + k, none⟩ (.int .u8 (xs[k].toNat : Int))).drew.cell? ⟨w.heap.size, 2, none⟩ = some (.string xs) := (World.cell?_setCell_far wr ⟨g, on + k, none⟩ _ _ (by simpa using Ne.symm hbg)).trans c2
      have HB' : Hid (Below w.heap.size w (wr.setCell ⟨g, on + k, none⟩ (.int .u8 (xs[k].toNat : Int))).drew) := (HBk.out.setCell (by simp; omega) _).drew
      clear c1 c2 d1 d2 HS HBk HRk
      generalize (wr.setCell ⟨g, on + k, none⟩ (.int .u8 (xs[k].toNat : Int))).drew = wn at *
      go_wp2
      go_roundw
      case rel => exact ⟨k + 1, by omega, by go_num, HST, HB', c1', c2'⟩
      case measure => simp [intOf] <;> omega
    · obtain rfl : k = xs.size := by omega
      have hE : (nums xs).take xs.size = nums xs := List.take_of_length_le (by simp)
      rw [hE] at HRk
      clear hE
      go_wp2
      go_ret2
      exact ⟨⟨_, _, rfl, HRk.out.rd 32 cap (by omega) hcap2⟩, HBk.out⟩
end Go.Proofs.Ytpicagcapgjiaaa
