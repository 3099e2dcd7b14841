/- For the rows of big's laws: puts and files that came in. -/
import Derived.Test.YtcgfoaihfncppaaRows
import Derived.Test.YtcgfoaihfncppaaKBg6
import Derived.Test.YtcgfoaihfncppaaKBg1
import Derived.Laws.IdiomArrays
import Derived.Deep.Strs
import Derived.Test.YtcgfoaihfncppaaKSel7
import Derived.Test.YtcgfoaihfncppaaKBgQ
set_option linter.unusedSimpArgs false
set_option linter.unusedVariables false
namespace Go.Proofs.Ytcgfoaihfncppaa
open Go.ChangeShapes Go.WideShapes Go.ChangeAt Go.RowKit Go.Sel

theorem own : ownKnob Try.prog.godebug = none := by kernel_rfl
theorem laidOut : laidOutB Try.prog = true := by kernel_rfl
theorem int_bounds {x : Int} (w : (Lit.int .i64 x).wf = true) : -9223372036854775808 ≤ x ∧ x ≤ 9223372036854775807 := i64_bounds w
theorem u8_bounds {x : Int} (w : (Lit.int .u8 x).wf = true) : 0 ≤ x ∧ x ≤ 255 := by simpa [Lit.wf, IntKind.min, IntKind.max, IntKind.signed, IntKind.bits] using w
theorem u16_bounds {x : Int} (w : (Lit.int .u16 x).wf = true) : 0 ≤ x ∧ x ≤ 65535 := by simpa [Lit.wf, IntKind.min, IntKind.max, IntKind.signed, IntKind.bits] using w
/-- A put that came in. -/
structure Pu where
  p : Int
  b : Int
def Pu.ok (d : Pu) : Prop := (0 ≤ d.p ∧ d.p ≤ 65535) ∧ 0 ≤ d.b ∧ d.b ≤ 255
def pus (L : List Pu) : List Value := L.flatMap fun d => [.int .u16 d.p, .int .u8 d.b]
/-- '.slice A n c' reads as the puts L. -/
structure Pd (w : World) (A : Option Addr) (n c : Nat) (L : List Pu) : Prop where
  len : L.length = n
  rd : Rd w A n c (pus L)
  ok : ∀ d ∈ L, d.ok
section
variable {H : Type} {enc : TypeId × Value → H} {w : World} {base : Nat} {spare : Nat → Bool} {held : Bool}
set_option maxRecDepth 100000 in
theorem read_put {fuel : Nat} {us : List Value} {x : DataW H × List MemPlace} (h : DataW.trod enc Try.prog w base spare held fuel 32 us = some x) :
    ∃ d : Pu, us = [.int .u16 d.p, .int .u8 d.b] ∧ d.ok := by
  obtain ⟨xs, n, _, rfl, hl, hlen, hf⟩ := DataW.trod_struct Try.underlying32 h
  rw [show Program.cellsOf Try.prog 32 = 2 by kernel_rfl] at hl
  have h0 := hf 0 _ rfl
  have h1 := hf 1 _ rfl
  match us, hl with
  | [v0, v1], _ =>
    have g0 : DataW.trod enc Try.prog w base spare held n 22 [v0] = xs[0]? := h0
    have g1 : DataW.trod enc Try.prog w base spare held n 5 [v1] = xs[1]? := h1
    match xs, hlen with
    | [y0, y1], _ =>
      obtain ⟨b, k0, _, w0⟩ := DataW.trod_int Try.underlying22 g0
      obtain ⟨o, k1, _, w1⟩ := DataW.trod_int Try.underlying5 g1
      obtain rfl : v0 = .int .u16 b := by simpa using k0
      obtain rfl : v1 = .int .u8 o := by simpa using k1
      exact ⟨⟨b, o⟩, rfl, u16_bounds w0, u8_bounds w1⟩
theorem puts_of : ∀ (vss : List (List Value)), (∀ us ∈ vss, ∃ d : Pu, us = [.int .u16 d.p, .int .u8 d.b] ∧ d.ok) → ∃ L : List Pu, L.length = vss.length ∧ vss.flatten = pus L ∧ ∀ d ∈ L, d.ok
  | [], _ => ⟨[], rfl, rfl, by simp⟩
  | us :: vss, h => by
    obtain ⟨d, rfl, hd⟩ := h us (by simp)
    obtain ⟨L, h1, h2, h3⟩ := puts_of vss fun u hu => h u (by simp [hu])
    refine ⟨d :: L, by simp [h1], by simp [pus, h2], fun x hx => ?_⟩
    rcases List.mem_cons.1 hx with rfl | hx
    · exact hd
    · exact h3 x hx
set_option maxRecDepth 100000 in
theorem read_puts {fuel : Nat} {v : Value} {x : DataW H × List MemPlace} (h : DataW.trod enc Try.prog w base spare held fuel 30 [v] = some x) :
    ∃ (A : Option Addr) (n c : Nat) (L : List Pu), v = .slice A n c ∧ Pd w A n c L := by
  obtain ⟨A, n, c, vss, rfl, hl, hu, hr⟩ := read_elems Try.underlying30 (by kernel_rfl : Program.cellsOf Try.prog 32 = 2) (by decide) h
  obtain ⟨L, h1, h2, h3⟩ := puts_of vss fun us hus => by
    obtain ⟨_, fuel, y, hy⟩ := hu us hus
    exact read_put hy
  exact ⟨A, n, c, L, rfl, by omega, by rw [← h2]; exact hr, h3⟩
set_option maxRecDepth 100000 in
theorem open_put {r : Reach} {b0 : Nat} {v : Value} {d : DataW H} {p : List MemPlace} (hv : Value.okWide Try.prog w r b0 32 v) (h : DataW.Trod enc Try.prog w base spare held 32 v d p) :
    ∃ x : Pu, v = .agg #[.int .u16 x.p, .int .u8 x.b] ∧ x.ok := by
  obtain ⟨u0, u1, ya, yb, fu, rfl, _, _, ga, gb⟩ := Joins.open_agg2 Try.underlying32 (by kernel_rfl) (by kernel_rfl) hv h
  obtain ⟨a0, k0, _, w0⟩ := DataW.trod_int Try.underlying22 ga
  obtain ⟨a1, k1, _, w1⟩ := DataW.trod_int Try.underlying5 gb
  obtain rfl : u0 = .int .u16 a0 := by simpa using k0
  obtain rfl : u1 = .int .u8 a1 := by simpa using k1
  exact ⟨⟨a0, a1⟩, rfl, u16_bounds w0, u8_bounds w1⟩
theorem trod_array6 {P : Program} {t e : TypeId} {fuel : Nat} {c0 c1 c2 c3 c4 c5 : Value} {x : DataW H × List MemPlace} (ht : P.underlying t = some (.array 6 e)) (hce : P.cellsOf e = 1)
    (h : DataW.trod enc P w base spare held fuel t [c0, c1, c2, c3, c4, c5] = some x) :
    ∃ y0 y1 y2 y3 y4 y5 n, DataW.trod enc P w base spare held n e [c0] = some y0 ∧ DataW.trod enc P w base spare held n e [c1] = some y1 ∧ DataW.trod enc P w base spare held n e [c2] = some y2 ∧ DataW.trod enc P w base spare held n e [c3] = some y3 ∧ DataW.trod enc P w base spare held n e [c4] = some y4 ∧ DataW.trod enc P w base spare held n e [c5] = some y5 := by
  cases fuel with
  | zero => simp [DataW.trod] at h
  | succ n =>
    unfold DataW.trod at h
    rw [ht] at h
    have r3 : List.range 6 = [0, 1, 2, 3, 4, 5] := rfl
    simp [r3, hce] at h
    obtain ⟨_, h⟩ := h
    cases h0 : DataW.trod enc P w base spare held n e [c0] with
    | none => simp [h0] at h
    | some y0 =>
      cases h1 : DataW.trod enc P w base spare held n e [c1] with
      | none => simp [h0, h1] at h
      | some y1 =>
        cases h2 : DataW.trod enc P w base spare held n e [c2] with
        | none => simp [h0, h1, h2] at h
        | some y2 =>
          cases h3 : DataW.trod enc P w base spare held n e [c3] with
          | none => simp [h0, h1, h2, h3] at h
          | some y3 =>
            cases h4 : DataW.trod enc P w base spare held n e [c4] with
            | none => simp [h0, h1, h2, h3, h4] at h
            | some y4 =>
              cases h5 : DataW.trod enc P w base spare held n e [c5] with
              | none => simp [h0, h1, h2, h3, h4, h5] at h
              | some y5 => exact ⟨y0, y1, y2, y3, y4, y5, n, h0, h1, h2, h3, h4, h5⟩
theorem array8 {cs : Array Value} (h : cs.size = 8) : ∃ a b c d e f g i, cs = #[a, b, c, d, e, f, g, i] := by
  obtain ⟨l⟩ := cs
  match l, h with
  | [a, b, c, d, e, f, g, i], _ => exact ⟨a, b, c, d, e, f, g, i, rfl⟩
set_option maxRecDepth 100000 in
theorem open_big {r : Reach} {b0 : Nat} {v : Value} {d : DataW H} {p : List MemPlace} (hv : Value.okWide Try.prog w r b0 36 v) (h : DataW.Trod enc Try.prog w base spare held 36 v d p) :
    ∃ t : List Int, v = bigV t ∧ t.length = 8 := by
  obtain ⟨cs, rfl, hsz⟩ := okWide_struct Try.underlying36 hv
  obtain ⟨c0, c1, c2, c3, c4, c5, c6, c7, rfl⟩ := array8 (hsz.trans (by kernel_rfl))
  obtain ⟨fuel, hf⟩ := h
  obtain ⟨xs, n, _, _, hl, hlen, hf⟩ := DataW.trod_struct Try.underlying36 hf
  have h0 := hf 0 _ rfl
  have h1 := hf 1 _ rfl
  have h2 := hf 2 _ rfl
  have g0 : DataW.trod enc Try.prog w base spare held n 34 [c0, c1, c2, c3, c4, c5] = xs[0]? := h0
  have g1 : DataW.trod enc Try.prog w base spare held n 3 [c6] = xs[1]? := h1
  have g2 : DataW.trod enc Try.prog w base spare held n 3 [c7] = xs[2]? := h2
  match xs, hlen with
  | [y0, y1, y2], _ =>
    obtain ⟨a6, k6, _, _⟩ := DataW.trod_int Try.underlying3 g1
    obtain ⟨a7, k7, _, _⟩ := DataW.trod_int Try.underlying3 g2
    obtain rfl : c6 = .int .i64 a6 := by simpa using k6
    obtain rfl : c7 = .int .i64 a7 := by simpa using k7
    obtain ⟨z0, z1, z2, z3, z4, z5, m, e0, e1, e2, e3, e4, e5⟩ := trod_array6 Try.underlying34 (by kernel_rfl) g0
    obtain ⟨a0, k0, _, _⟩ := DataW.trod_int Try.underlying3 e0
    obtain ⟨a1, k1, _, _⟩ := DataW.trod_int Try.underlying3 e1
    obtain ⟨a2, k2, _, _⟩ := DataW.trod_int Try.underlying3 e2
    obtain ⟨a3, k3, _, _⟩ := DataW.trod_int Try.underlying3 e3
    obtain ⟨a4, k4, _, _⟩ := DataW.trod_int Try.underlying3 e4
    obtain ⟨a5, k5, _, _⟩ := DataW.trod_int Try.underlying3 e5
    obtain rfl : c0 = .int .i64 a0 := by simpa using k0
    obtain rfl : c1 = .int .i64 a1 := by simpa using k1
    obtain rfl : c2 = .int .i64 a2 := by simpa using k2
    obtain rfl : c3 = .int .i64 a3 := by simpa using k3
    obtain rfl : c4 = .int .i64 a4 := by simpa using k4
    obtain rfl : c5 = .int .i64 a5 := by simpa using k5
    exact ⟨[a0, a1, a2, a3, a4, a5, a6, a7], rfl, rfl⟩
end
end Go.Proofs.Ytcgfoaihfncppaa
/- Walks of big's reference: numbers. -/
set_option linter.unusedSimpArgs false
set_option linter.unusedVariables false
namespace Go.Proofs.Ytcgfoaihfncppaa
open Go.RowKit Go.Sel Go.Sel.Gra Go.Sel.Bg Go.Sel.Mer Go.Shelf

theorem iv_take1 (l : List Int) (k : Nat) (h : k < l.length) : iv .i64 (l.take (k + 1)) = iv .i64 (l.take k) ++ [.int .i64 (l[k]'h)] := by
  rw [List.take_succ_eq_append_getElem h]
  simp only [iv, List.map_append, List.map_cons, List.map_nil]
theorem infoInt8 : (Try.prog.info? 3).map (fun i => (i.zero, i.size, i.bytes)) = some (some (.int .i64 0), 1, 8) := by kernel_rfl
set_option maxRecDepth 100000 in
set_option maxHeartbeats 2000000 in
theorem numbers_any (t : List Int) (ht : t.length = 8) (w : World) : Calls Try.prog 40 #[bigV t] w fun e w' => (∃ A c, e = .returned (.slice A 8 c) ∧ Rd w' A 8 c (iv .i64 t)) ∧ Below w.heap.size w w' := by
  have HB0 : Hid (Below w.heap.size w (w.alloc (.cells (iv .i64 t).toArray 36)) ∧ boxB (w.alloc (.cells (iv .i64 t).toArray 36)) w.heap.size t) := Lib.hid ⟨below_al w _, blk11 w _⟩
  have HT : Hid (∀ i, i < 8 → ∃ h : i < t.length, True) := Lib.hid fun i hi => ⟨by omega, trivial⟩
  obtain ⟨a0, a1, a2, a3, a4, a5, a6, a7, rfl⟩ := len8 ht
  clear ht
  simp only [bigV, iv, List.map_cons, List.map_nil] at HB0 ⊢
  go_enter Try.func40, Try.ntmps40
  go_wp2
  go_loopw [3, 4] (fun v i wr => ∃ (k c : Nat) (A : Option Addr), k ≤ 6 ∧ i = .int .i64 k ∧ v = .slice A k c ∧ Hid (wr.ownsRow (w.heap.size + 1) 3 1 (.slice A k c) k (iv .i64 ([a0, a1, a2, a3, a4, a5, a6, a7].take k))) ∧ Hid (boxB wr w.heap.size [a0, a1, a2, a3, a4, a5, a6, a7]) ∧ Hid (Below w.heap.size w wr)) (fun _ i _ => 6 - (Go.RowKit.intOf i).toNat)
  case atStart => exact ⟨0, 0, none, by omega, rfl, rfl, World.ownsRow_nil _ _ _ _, HB0.out.2, HB0.out.1⟩
  case round =>
    clear HB0
    obtain ⟨k, c, A, hk, rfl, rfl, HO, HX, HB⟩ := hrel
    have hl1 := (Array.getElem?_eq_some_iff.1 HX.out).1
    have hs := HB.out.size
    by_cases hlt : k < 6
    · have hkl : k < [a0, a1, a2, a3, a4, a5, a6, a7].length := by simp; omega
      have hc : wr.cell? ⟨w.heap.size, k, none⟩ = some (.int .i64 ([a0, a1, a2, a3, a4, a5, a6, a7][k]'hkl)) := by rw [blk_cell HX.out, List.getElem?_toArray, List.getElem?_eq_getElem (by simpa using hkl), iv_at]
      have HTK : Hid (iv .i64 ([a0, a1, a2, a3, a4, a5, a6, a7].take (k + 1)) = iv .i64 ([a0, a1, a2, a3, a4, a5, a6, a7].take k) ++ [.int .i64 ([a0, a1, a2, a3, a4, a5, a6, a7][k]'hkl)]) := Lib.hid (iv_take1 _ k hkl)
      generalize [a0, a1, a2, a3, a4, a5, a6, a7][k]'hkl = x at *
      go_wp2_with (at_builtin; refine wpList_push wr rfl _ _ 23 3 rfl (w.heap.size + 1) (.int .i64 0) 8 Try.underlying23 infoInt8 rfl (by omega) (.slice A k c) k _ (.int .i64 x) rfl rfl rfl HO.out (by omega) (by omega) rfl ?_; intro g cap w1 ho hg hat hlt1)
      have hbx : boxB w1 w.heap.size [a0, a1, a2, a3, a4, a5, a6, a7] := (hg.block _ hl1 (fun e => by have := own_row HO.out _ e.symm; omega)).trans HX.out
      refine ⟨⟨k + 1, cap, some ⟨g, 0, none⟩, by omega, by go_num, rfl, ?_, hbx, below_grown HB.out hg hs (fun j hj => by have := own_row HO.out j hj; omega)⟩, by simp [Go.RowKit.intOf]; omega⟩
      rw [HTK.out]
      exact ho
    · obtain rfl : k = 6 := by omega
      have d := blk_cell HX.out
      have d6 := d 6
      have d7 := d 7
      simp only [iv, List.map_cons, List.map_nil, List.getElem?_toArray, List.getElem?_cons_zero, List.getElem?_cons_succ] at d6 d7
      obtain ⟨v', w1, hrun, hown, hg, hat⟩ := run_extend (P := Try.prog) (w := wr.alloc (.cells #[.int .i64 a6, .int .i64 a7] 3)) (w.heap.size + 1) 23 23 3 (.int .i64 0) 8 Try.underlying23 infoInt8 rfl (.slice A 6 c) 6 _ (HO.out.alloc _) (some ⟨wr.heap.size, 0, none⟩) 2 2 (iv .i64 [a6, a7]) (rd_block (blk11 wr _) 2 2 _ 0 (Nat.le_refl _) (by omega) (fun j hj => by simp [iv])) rfl (one_iv _ _) (by simp [maxLen]) (by omega) (by simp; omega)
      have HB1 : Hid (Below w.heap.size w w1) := Lib.hid (below_grown (HB.out.alloc hs _) hg (by simp; omega) (fun j hj => by have := own_row HO.out j hj; omega))
      obtain ⟨A2, c2, rfl, _, hr⟩ := rd_ownN (by omega) hown
      have HR := Lib.hid hr
      have HRUN := Lib.hid hrun
      clear d hown hg hat hr hrun
      go_wp2_with (at_builtin; refine wpList_append_run rfl _ _ _ _ rfl _ _ _ rfl rfl HRUN.out ?_)
      go_ret
      exact ⟨⟨A2, c2, rfl, by simpa [iv] using HR.out⟩, HB1.out⟩
end Go.Proofs.Ytcgfoaihfncppaa
/- Big files, plainly: how the pointers turn when one is put. No program in sight. -/
set_option linter.unusedSimpArgs false
set_option linter.unusedVariables false
namespace Go.Sel.Bg
open Go.RowKit Go.Sel

/-- A block of pointers that has one. -/
def pt (s : Nat) (x : Int) : List Int := (List.replicate 32 0).set s x
theorem pt_len (s : Nat) (x : Int) : (pt s x).length = 32 := by simp [pt]
theorem pt_byte (s : Nat) (x : Int) (h0 : 0 ≤ x) (h1 : x ≤ 255) : AllByte (pt s x) := by
  intro y hy
  rcases List.mem_or_eq_of_mem_set hy with h | rfl
  · have := List.eq_of_mem_replicate h
    omega
  · exact ⟨h0, h1⟩
def zrow : List Int := List.replicate 32 0
def notIn (D : List (List Int)) (t : List Int) (b : Int) : Prop := ∀ p, p < 1096 → val D t p ≠ b
structure OkPut (D : List (List Int)) (t : List Int) (n : Nat) (k : Nat) (b : Int) (F : List Int) : Prop where
  hk : k < 1062
  b0 : 0 < b
  b1 : b < n
  f : ∀ x ∈ F, 0 < x ∧ x < n
  nb : notIn D t b
  bF : b ∉ F
  nf : ∀ x ∈ F, notIn D t x
  nd : F.Nodup
  at_ : atK D t k = 0

/-! ### Where a pointer stands -/
def par (p : Nat) : Nat := if p < 40 then 6 else if (p - 40) % 33 = 0 then 7 else 40 + 33 * ((p - 40) / 33)
def slot (p : Nat) : Nat := if p < 40 then p - 8 else if (p - 40) % 33 = 0 then (p - 40) / 33 else (p - 40) % 33 - 1
theorem par_lt {p : Nat} (h : 8 ≤ p) (h' : p < 1096) : par p < p := by
  unfold par
  split
  · omega
  · split <;> omega
theorem slot_lt {p : Nat} (h : 8 ≤ p) (h' : p < 1096) : slot p < 32 := by
  unfold slot
  split
  · omega
  · split <;> omega
theorem par_inj {p q : Nat} (hp : 8 ≤ p) (hp' : p < 1096) (hq : 8 ≤ q) (hq' : q < 1096) (h : par p = par q) (h2 : slot p = slot q) : p = q := by
  unfold par at h
  unfold slot at h2
  split at h <;> split at h <;> (try split at h) <;> (try split at h) <;> simp_all <;> omega
/-- A pointer to a block of pointers. -/
def inP (p : Nat) : Prop := p = 6 ∨ p = 7 ∨ (40 ≤ p ∧ (p - 40) % 33 = 0)
theorem par_in {p : Nat} (h : 8 ≤ p) (h' : p < 1096) : inP (par p) := by
  unfold par inP
  split
  · omega
  · split <;> omega
theorem val_par (D : List (List Int)) (t : List Int) {p : Nat} (h : 8 ≤ p) (h' : p < 1096) : val D t p = if val D t (par p) = 0 then 0 else at2 D (val D t (par p)) (slot p) := by
  by_cases h40 : p < 40
  · have e1 : par p = 6 := by simp [par, h40]
    have e2 : slot p = p - 8 := by simp [slot, h40]
    have e3 : val D t 6 = tp t 6 := by simp [val]
    rw [e1, e2, e3]
    unfold val
    rw [if_neg (by omega), if_pos h40]
    rfl
  · by_cases hm : (p - 40) % 33 = 0
    · have e1 : par p = 7 := by simp [par, h40, hm]
      have e2 : slot p = (p - 40) / 33 := by simp [slot, h40, hm]
      have e3 : val D t 7 = tp t 7 := by simp [val]
      rw [e1, e2, e3]
      unfold val
      rw [if_neg (by omega), if_neg h40, if_pos hm]
      rfl
    · have e1 : par p = 40 + 33 * ((p - 40) / 33) := by simp [par, h40, hm]
      have e2 : slot p = (p - 40) % 33 - 1 := by simp [slot, h40, hm]
      have e3 : val D t (40 + 33 * ((p - 40) / 33)) = vD D t ((p - 40) / 33) := by
        unfold val
        rw [if_neg (by omega), if_neg (by omega), if_pos (by omega)]
        congr 1
        omega
      rw [e1, e2, e3]
      unfold val
      rw [if_neg (by omega), if_neg h40, if_neg hm]
      rfl
theorem val_top (D : List (List Int)) (t : List Int) {p : Nat} (h : p < 8) : val D t p = tp t p := by simp [val, h]

/-! ### One pointer turns -/
def upd (v : Nat → Int) (q : Nat) (x : Int) (p : Nat) : Int := if p = q then x else v p
def okV (n : Nat) (v : Nat → Int) (m : Nat) : Prop := (∀ p, p < m → 0 ≤ v p ∧ (v p).toNat < max 1 n) ∧ ∀ p q, p < m → q < m → v p = v q → v p ≠ 0 → p = q
theorem okV.upd {n m : Nat} {v : Nat → Int} (h : okV n v m) {q : Nat} {x : Int} (h0 : 0 < x) (hn : x < n) (hv : ∀ p, p < m → v p ≠ x) : okV n (upd v q x) m := by
  refine ⟨fun p hp => ?_, fun p r hp hr e hne => ?_⟩
  · unfold Bg.upd
    split
    · omega
    · exact h.1 p hp
  · unfold Bg.upd at e hne
    split at e <;> split at e
    · omega
    · exact absurd e.symm (hv r hr)
    · exact absurd e (hv p hp)
    · rename_i h1 h2
      rw [if_neg h1] at hne
      exact h.2 p r hp hr e hne
theorem okV.congr {n m : Nat} {v v' : Nat → Int} (h : okV n v m) (e : ∀ p, p < m → v' p = v p) : okV n v' m :=
  ⟨fun p hp => by rw [e p hp]; exact h.1 p hp, fun p q hp hq he hne => h.2 p q hp hq (by rw [← e p hp, ← e q hq]; exact he) (by rw [← e p hp]; exact hne)⟩
theorem okU_iff {D : List (List Int)} {t : List Int} {m : Nat} : okU D t m ↔ okV D.length (val D t) m := Iff.rfl

theorem at2_set (D : List (List Int)) (f : Nat) (r : List Int) (b : Int) (i : Nat) (hf : f < D.length) : at2 (D.set f r) b i = if b.toNat = f then r.getD i 0 else at2 D b i := by
  unfold at2
  simp only [List.getD_eq_getElem?_getD, List.getElem?_set]
  by_cases h : f = b.toNat
  · subst h
    simp [hf]
  · have h' : ¬ b.toNat = f := fun e => h e.symm
    simp [h, h']
/-- A block that nothing points to may be turned. -/
theorem val_far {D : List (List Int)} {t : List Int} {f : Nat} {r : List Int} (hf : f < D.length) (h : ∀ p, p < 1096 → inP p → val D t p ≠ 0 → (val D t p).toNat ≠ f) : ∀ p, p < 1096 → val (D.set f r) t p = val D t p := by
  intro p
  induction p using Nat.strongRecOn with
  | ind p ih =>
    intro hp
    by_cases h8 : p < 8
    · rw [val_top _ _ h8, val_top _ _ h8]
    · have h8' : 8 ≤ p := by omega
      have hl := par_lt h8' hp
      rw [val_par _ _ h8' hp, val_par D _ h8' hp, ih _ hl (by omega)]
      split
      · rfl
      · rename_i hne
        rw [at2_set _ _ _ _ _ hf, if_neg (h _ (by omega) (par_in h8' hp) hne)]
/-- One of a file's own eight pointers. -/
theorem val_setT {D : List (List Int)} {t : List Int} {q : Nat} {x : Int} (ht : t.length = 8) (hq : q < 8) (h0 : tp t q = 0) (hz : inP q → ∀ i, i < 32 → at2 D x i = 0) : ∀ p, p < 1096 → val D (t.set q x) p = upd (val D t) q x p := by
  have htp : ∀ p, tp (t.set q x) p = if p = q then x else tp t p := by
    intro p
    unfold tp
    simp only [List.getD_eq_getElem?_getD, List.getElem?_set]
    by_cases e : p = q
    · subst e
      rw [if_pos rfl, if_pos rfl, if_pos (by omega)]
      rfl
    · rw [if_neg (fun h => e h.symm), if_neg e]
  intro p
  induction p using Nat.strongRecOn with
  | ind p ih =>
    intro hp
    by_cases h8 : p < 8
    · rw [val_top _ _ h8, htp]
      unfold Bg.upd
      rw [val_top _ _ h8]
    · have h8' : 8 ≤ p := by omega
      have hl := par_lt h8' hp
      have hpq : p ≠ q := by omega
      rw [val_par _ _ h8' hp, ih _ hl (by omega)]
      conv => rhs; unfold Bg.upd; rw [if_neg hpq, val_par _ _ h8' hp]
      unfold Bg.upd
      by_cases e : par p = q
      · rw [if_pos e]
        have e0 : val D t (par p) = 0 := by rw [e, val_top _ _ hq, h0]
        rw [if_pos e0]
        split
        · rfl
        · exact hz (e ▸ par_in h8' hp) _ (slot_lt h8' hp)
      · rw [if_neg e]
/-- A pointer in a block. -/
def setD (D : List (List Int)) (t : List Int) (q : Nat) (x : Int) : List (List Int) := D.set (val D t (par q)).toNat ((D.getD (val D t (par q)).toNat []).set (slot q) x)
theorem val_setD {D : List (List Int)} {t : List Int} {q : Nat} {x : Int} (hR : Rt D t) (hq : 8 ≤ q) (hq' : q < 1096) (hp0 : val D t (par q) ≠ 0) (h0 : inP q → val D t q = 0 ∧ x ≠ val D t (par q) ∧ 0 ≤ x ∧ ∀ i, i < 32 → at2 D x i = 0) : ∀ p, p < 1096 → val (setD D t q x) t p = upd (val D t) q x p := by
  obtain ⟨hW, hU⟩ := hR
  have hpl := par_lt hq hq'
  have hb := hU.1 (par q) (by omega)
  have hbl : (val D t (par q)).toNat < D.length := by omega
  have hrow : (D.getD (val D t (par q)).toNat []).length = 32 := by
    rw [List.getD_eq_getElem?_getD, List.getElem?_eq_getElem hbl]
    exact hW.2 _ (List.getElem_mem hbl)
  have hsl := slot_lt hq hq'
  intro p
  induction p using Nat.strongRecOn with
  | ind p ih =>
    intro hp
    by_cases h8 : p < 8
    · rw [val_top _ _ h8]
      unfold Bg.upd
      rw [if_neg (by omega), val_top _ _ h8]
    · have h8' : 8 ≤ p := by omega
      have hl := par_lt h8' hp
      rw [val_par _ _ h8' hp, ih _ hl (by omega)]
      by_cases epq : p = q
      · subst epq
        have e1 : upd (val D t) p x (par p) = val D t (par p) := by unfold Bg.upd; rw [if_neg (by omega)]
        rw [e1, if_neg hp0]
        unfold setD
        rw [at2_set _ _ _ _ _ hbl, if_pos rfl]
        unfold Bg.upd
        rw [if_pos rfl, List.getD_eq_getElem?_getD, List.getElem?_set, if_pos rfl, if_pos (by omega)]
        rfl
      · conv => rhs; unfold Bg.upd; rw [if_neg epq, val_par _ _ h8' hp]
        by_cases e : par p = q
        · have e1 : upd (val D t) q x (par p) = x := by unfold Bg.upd; rw [if_pos e]
          have hin := par_in h8' hp
          rw [e] at hin
          obtain ⟨g1, g2, g3, g4⟩ := h0 hin
          rw [e1, e, g1, if_pos rfl]
          split
          · rfl
          · unfold setD
            rw [at2_set _ _ _ _ _ hbl, if_neg (by omega)]
            exact g4 _ (slot_lt h8' hp)
        · have e1 : upd (val D t) q x (par p) = val D t (par p) := by unfold Bg.upd; rw [if_neg e]
          rw [e1]
          split
          · rfl
          · rename_i hne
            unfold setD
            rw [at2_set _ _ _ _ _ hbl]
            split
            · rename_i et
              have hbp := hU.1 (par p) (by omega)
              have ev : val D t (par p) = val D t (par q) := by omega
              have epp := hU.2 (par p) (par q) (by omega) (by omega) ev hne
              have hss : slot p ≠ slot q := fun es => epq (par_inj h8' hp hq hq' epp es)
              rw [List.getD_eq_getElem?_getD, List.getElem?_set, if_neg (fun h => hss h.symm), ev]
              unfold at2
              simp only [List.getD_eq_getElem?_getD]
            · rfl
theorem setD_len (D : List (List Int)) (t : List Int) (q : Nat) (x : Int) : (setD D t q x).length = D.length := by simp [setD]
theorem whole_set {D : List (List Int)} (h : whole D) {f : Nat} {r : List Int} (hr : f < D.length → r.length = 32) : whole (D.set f r) := by
  refine ⟨by simpa using h.1, fun b hb => ?_⟩
  by_cases hf : f < D.length
  · rcases List.mem_or_eq_of_mem_set hb with h1 | rfl
    · exact h.2 b h1
    · exact hr hf
  · rw [List.set_eq_of_length_le (by omega)] at hb
    exact h.2 b hb
theorem whole_setD {D : List (List Int)} (h : whole D) (t : List Int) (q : Nat) (x : Int) : whole (setD D t q x) := by
  refine whole_set h fun hf => ?_
  rw [List.length_set, List.getD_eq_getElem?_getD, List.getElem?_eq_getElem hf]
  exact h.2 _ (List.getElem_mem hf)
end Go.Sel.Bg
/- Big files, plainly: Put. No program in sight. -/
set_option linter.unusedSimpArgs false
set_option linter.unusedVariables false
namespace Go.Sel.Bg
open Go.RowKit Go.Sel

theorem at2_zr {D : List (List Int)} {f : Int} (hf : f.toNat < D.length) (i : Nat) : at2 (D.set f.toNat zrow) f i = 0 := by
  rw [at2_set _ _ _ _ _ hf, if_pos rfl, zrow, List.getD_eq_getElem?_getD, List.getElem?_replicate]
  split <;> rfl
theorem Rt_zr {D : List (List Int)} {t : List Int} {f : Int} (h : Rt D t) (hf : f.toNat < D.length) (h0 : 0 < f) (hn : notIn D t f) : Rt (D.set f.toNat zrow) t ∧ ∀ p, p < 1096 → val (D.set f.toNat zrow) t p = val D t p := by
  have hv : ∀ p, p < 1096 → val (D.set f.toNat zrow) t p = val D t p := val_far hf fun p hp _ hne e => by
    have := h.2.1 p hp
    exact hn p hp (by omega)
  refine ⟨⟨whole_set h.1 fun _ => by simp [zrow], ?_⟩, hv⟩
  rw [okU_iff, List.length_set]
  exact okV.congr h.2 hv
theorem Rt_setT {D : List (List Int)} {t : List Int} {q : Nat} {x : Int} (h : Rt D t) (ht : t.length = 8) (hq : q < 8) (hq0 : tp t q = 0) (h0 : 0 < x) (hx : x < D.length) (hn : notIn D t x) (hz : inP q → ∀ i, i < 32 → at2 D x i = 0) :
    Rt D (t.set q x) ∧ ∀ p, p < 1096 → val D (t.set q x) p = upd (val D t) q x p := by
  have hv := val_setT ht hq hq0 hz
  exact ⟨⟨h.1, okV.congr (okV.upd h.2 h0 hx hn) hv⟩, hv⟩
theorem Rt_setD {D : List (List Int)} {t : List Int} {q : Nat} {x : Int} (h : Rt D t) (hq : 8 ≤ q) (hq' : q < 1096) (hp0 : val D t (par q) ≠ 0) (h0 : 0 < x) (hx : x < D.length) (hn : notIn D t x) (hz : inP q → val D t q = 0 ∧ ∀ i, i < 32 → at2 D x i = 0) :
    Rt (setD D t q x) t ∧ ∀ p, p < 1096 → val (setD D t q x) t p = upd (val D t) q x p := by
  have hv := val_setD h hq hq' hp0 fun hi => ⟨(hz hi).1, fun e => hn (par q) (by have := par_lt hq hq'; omega) e.symm, by omega, (hz hi).2⟩
  refine ⟨⟨whole_setD h.1 _ _ _, ?_⟩, hv⟩
  rw [okU_iff, setD_len]
  exact okV.congr (okV.upd h.2 h0 hx hn) hv

def f0 (F : List Int) : Int := F.getD 0 0
def f1 (F : List Int) : Int := F.getD 1 0
/-- The place of the pointer to the leaf. -/
def lf (k : Nat) : Nat := 40 + 33 * ((k - 38) / 32)
/-- Put: the image, the eight numbers, how many free ones were needed. -/
def putL (D : List (List Int)) (t : List Int) (k : Nat) (b : Int) (F : List Int) : List (List Int) × List Int × Nat :=
  if k < 6 then (D, t.set k b, 0)
  else if k < 38 then (if tp t 6 = 0 then (setD (D.set (f0 F).toNat zrow) (t.set 6 (f0 F)) (posK k) b, t.set 6 (f0 F), 1) else (setD D t (posK k) b, t, 0))
  else if tp t 7 = 0 then (setD (setD ((D.set (f0 F).toNat zrow).set (f1 F).toNat zrow) (t.set 7 (f0 F)) (lf k) (f1 F)) (t.set 7 (f0 F)) (posK k) b, t.set 7 (f0 F), 2)
  else if val D t (lf k) = 0 then (setD (setD (D.set (f0 F).toNat zrow) t (lf k) (f0 F)) t (posK k) b, t, 1)
  else (setD D t (posK k) b, t, 0)
/-- The pointers behind it. -/
def putV (D : List (List Int)) (t : List Int) (k : Nat) (b : Int) (F : List Int) : Nat → Int :=
  if k < 6 then upd (val D t) (posK k) b
  else if k < 38 then (if tp t 6 = 0 then upd (upd (val D t) 6 (f0 F)) (posK k) b else upd (val D t) (posK k) b)
  else if tp t 7 = 0 then upd (upd (upd (val D t) 7 (f0 F)) (lf k) (f1 F)) (posK k) b
  else if val D t (lf k) = 0 then upd (upd (val D t) (lf k) (f0 F)) (posK k) b
  else upd (val D t) (posK k) b
theorem posK_mid {k : Nat} (h6 : ¬ k < 6) (h : k < 38) : posK k = k + 2 ∧ par (posK k) = 6 ∧ slot (posK k) = k - 6 := by
  have e : posK k = k + 2 := by simp [posK, h6, h]
  refine ⟨e, ?_, ?_⟩
  · rw [e]; unfold par; rw [if_pos (by omega)]
  · rw [e]; unfold slot; rw [if_pos (by omega)]; omega
theorem posK_hi {k : Nat} (h : ¬ k < 38) : posK k = lf k + 1 + (k - 38) % 32 ∧ par (posK k) = lf k ∧ slot (posK k) = (k - 38) % 32 ∧ ¬ inP (posK k) := by
  have e : posK k = 40 + 33 * ((k - 38) / 32) + 1 + (k - 38) % 32 := by unfold posK; rw [if_neg (by omega), if_neg h]
  refine ⟨e, ?_, ?_, ?_⟩
  · rw [e]; unfold par lf; rw [if_neg (by omega), if_neg (by omega)]; omega
  · rw [e]; unfold slot; rw [if_neg (by omega), if_neg (by omega)]; omega
  · rw [e]; unfold inP; omega
theorem lf_at {k : Nat} (h : k < 1062) : 8 ≤ lf k ∧ lf k < 1096 ∧ par (lf k) = 7 ∧ slot (lf k) = (k - 38) / 32 ∧ inP (lf k) := by
  unfold lf
  refine ⟨by omega, by omega, ?_, ?_, ?_⟩
  · unfold par; rw [if_neg (by omega), if_pos (by omega)]
  · unfold slot; rw [if_neg (by omega), if_pos (by omega)]; omega
  · unfold inP; omega
theorem notIn_upd {D D' : List (List Int)} {t t' : List Int} {q : Nat} {y x : Int} (hv : ∀ p, p < 1096 → val D' t' p = upd (val D t) q y p) (h : notIn D t x) (hne : x ≠ y) : notIn D' t' x := fun p hp => by
  rw [hv p hp]
  unfold Bg.upd
  split
  · exact fun e => hne e.symm
  · exact h p hp
theorem notIn_same {D D' : List (List Int)} {t t' : List Int} {x : Int} (hv : ∀ p, p < 1096 → val D' t' p = val D t p) (h : notIn D t x) : notIn D' t' x := fun p hp => by rw [hv p hp]; exact h p hp

theorem put_right {D : List (List Int)} {t : List Int} {k : Nat} {b : Int} {F : List Int} (hR : Rt D t) (ht : t.length = 8) (hO : OkPut D t D.length k b F) (hF : 2 ≤ F.length) :
    Rt (putL D t k b F).1 (putL D t k b F).2.1 ∧ ∀ p, p < 1096 → val (putL D t k b F).1 (putL D t k b F).2.1 p = putV D t k b F p := by
  have hk := hO.hk
  have m0 : f0 F ∈ F := by unfold f0; rw [List.getD_eq_getElem?_getD, List.getElem?_eq_getElem (by omega)]; exact List.getElem_mem _
  have m1 : f1 F ∈ F := by unfold f1; rw [List.getD_eq_getElem?_getD, List.getElem?_eq_getElem (by omega)]; exact List.getElem_mem _
  have n01 : f1 F ≠ f0 F := by
    unfold f0 f1
    rw [List.getD_eq_getElem?_getD, List.getD_eq_getElem?_getD, List.getElem?_eq_getElem (show 0 < F.length by omega), List.getElem?_eq_getElem (show 1 < F.length by omega)]
    have := List.pairwise_iff_getElem.1 hO.nd 0 1 (by omega) (by omega) (by omega)
    simpa using fun e => this e.symm
  have nb0 : b ≠ f0 F := fun e => hO.bF (e ▸ m0)
  have nb1 : b ≠ f1 F := fun e => hO.bF (e ▸ m1)
  have g0 := hO.f _ m0
  have g1 := hO.f _ m1
  have z0 := hO.nf _ m0
  have z1 := hO.nf _ m1
  have gb := hO.b0
  have gb' := hO.b1
  have hav : val D t (posK k) = 0 := hO.at_
  unfold putL putV
  by_cases h6 : k < 6
  · have e : posK k = k := by simp [posK, h6]
    rw [if_pos h6, if_pos h6, e]
    rw [e, val_top _ _ (by omega)] at hav
    exact Rt_setT hR ht (by omega) hav gb gb' hO.nb (fun hi => by unfold inP at hi; omega)
  · rw [if_neg h6, if_neg h6]
    by_cases h38 : k < 38
    · obtain ⟨e, ep, es⟩ := posK_mid h6 h38
      have hni : ¬ inP (posK k) := by unfold inP; omega
      rw [if_pos h38, if_pos h38]
      by_cases ht6 : tp t 6 = 0
      · rw [if_pos ht6, if_pos ht6]
        obtain ⟨r1, v1⟩ := Rt_zr hR (f := f0 F) (by omega) g0.1 z0
        obtain ⟨r2, v2⟩ := Rt_setT r1 ht (q := 6) (x := f0 F) (by omega) ht6 g0.1 (by rw [List.length_set]; exact g0.2) (notIn_same v1 z0) (fun _ i _ => at2_zr (by omega) i)
        have nb2 : notIn (D.set (f0 F).toNat zrow) (t.set 6 (f0 F)) b := notIn_upd v2 (notIn_same v1 hO.nb) nb0
        obtain ⟨r3, v3⟩ := Rt_setD r2 (q := posK k) (x := b) (by omega) (by omega) (by rw [ep, v2 6 (by omega)]; unfold Bg.upd; rw [if_pos rfl]; omega) gb (by rw [List.length_set]; exact gb') nb2 (fun hi => absurd hi hni)
        refine ⟨r3, fun p hp => ?_⟩
        rw [v3 p hp]
        unfold Bg.upd
        split
        · rfl
        · rw [v2 p hp]; unfold Bg.upd
          split
          · rfl
          · exact v1 p hp
      · rw [if_neg ht6, if_neg ht6]
        exact Rt_setD hR (by omega) (by omega) (by rw [ep, val_top _ _ (by omega)]; exact ht6) gb gb' hO.nb (fun hi => absurd hi hni)
    · obtain ⟨e, ep, es, hni⟩ := posK_hi h38
      obtain ⟨l8, ll, lp, ls, li⟩ := lf_at hk
      have hpl := posK_lt hk
      rw [if_neg h38, if_neg h38]
      by_cases ht7 : tp t 7 = 0
      · rw [if_pos ht7, if_pos ht7]
        obtain ⟨r1, v1⟩ := Rt_zr hR (f := f0 F) (by omega) g0.1 z0
        obtain ⟨r1', v1'⟩ := Rt_zr r1 (f := f1 F) (by rw [List.length_set]; omega) g1.1 (notIn_same v1 z1)
        have zz0 : ∀ i, at2 ((D.set (f0 F).toNat zrow).set (f1 F).toNat zrow) (f0 F) i = 0 := fun i => by
          rw [at2_set _ _ _ _ _ (by rw [List.length_set]; omega), if_neg (by omega)]; exact at2_zr (by omega) i
        have vv : ∀ p, p < 1096 → val ((D.set (f0 F).toNat zrow).set (f1 F).toNat zrow) t p = val D t p := fun p hp => (v1' p hp).trans (v1 p hp)
        obtain ⟨r2, v2⟩ := Rt_setT r1' ht (q := 7) (x := f0 F) (by omega) ht7 g0.1 (by simpa using g0.2) (notIn_same vv z0) (fun _ i _ => zz0 i)
        have z1' := notIn_upd v2 (notIn_same vv z1) n01
        have hl0 : val D t (lf k) = 0 := by rw [val_par _ _ l8 ll, lp, val_top _ _ (by omega), ht7]; rfl
        obtain ⟨r3, v3⟩ := Rt_setD r2 (q := lf k) (x := f1 F) l8 ll (by rw [lp, v2 7 (by omega)]; unfold Bg.upd; rw [if_pos rfl]; omega) g1.1 (by simpa using g1.2) z1' (fun _ => ⟨by rw [v2 _ ll]; unfold Bg.upd; rw [if_neg (by omega), vv _ ll, hl0], fun i _ => at2_zr (by rw [List.length_set]; omega) i⟩)
        have nb3 := notIn_upd v3 (notIn_upd v2 (notIn_same vv hO.nb) nb0) nb1
        obtain ⟨r4, v4⟩ := Rt_setD r3 (q := posK k) (x := b) (by omega) hpl (by rw [ep, v3 _ ll]; unfold Bg.upd; rw [if_pos rfl]; omega) gb (by simpa [setD_len] using gb') nb3 (fun hi => absurd hi hni)
        refine ⟨r4, fun p hp => ?_⟩
        rw [v4 p hp]
        unfold Bg.upd
        split
        · rfl
        · rw [v3 p hp]; unfold Bg.upd
          split
          · rfl
          · rw [v2 p hp]; unfold Bg.upd
            split
            · rfl
            · exact vv p hp
      · rw [if_neg ht7, if_neg ht7]
        by_cases hl : val D t (lf k) = 0
        · rw [if_pos hl, if_pos hl]
          obtain ⟨r1, v1⟩ := Rt_zr hR (f := f0 F) (by omega) g0.1 z0
          obtain ⟨r3, v3⟩ := Rt_setD r1 (q := lf k) (x := f0 F) l8 ll (by rw [lp, v1 7 (by omega), val_top _ _ (by omega)]; exact ht7) g0.1 (by simpa using g0.2) (notIn_same v1 z0) (fun _ => ⟨by rw [v1 _ ll, hl], fun i _ => at2_zr (by omega) i⟩)
          have nb3 := notIn_upd v3 (notIn_same v1 hO.nb) nb0
          obtain ⟨r4, v4⟩ := Rt_setD r3 (q := posK k) (x := b) (by omega) hpl (by rw [ep, v3 _ ll]; unfold Bg.upd; rw [if_pos rfl]; omega) gb (by simpa [setD_len] using gb') nb3 (fun hi => absurd hi hni)
          refine ⟨r4, fun p hp => ?_⟩
          rw [v4 p hp]
          unfold Bg.upd
          split
          · rfl
          · rw [v3 p hp]; unfold Bg.upd
            split
            · rfl
            · exact v1 p hp
        · rw [if_neg hl, if_neg hl]
          exact Rt_setD hR (by omega) hpl (by rw [ep]; exact hl) gb gb' hO.nb (fun hi => absurd hi hni)
theorem leaf_val {D : List (List Int)} {t : List Int} {k : Nat} (hR : Rt D t) (hk : k < 1062) (h7 : tp t 7 ≠ 0) :
    ∃ an : Nat, tp t 7 = an ∧ 0 < an ∧ an < D.length ∧ (Gra.nth D an).length = 32 ∧ val D t (lf k) = (Gra.nth D an).getD ((k - 38) / 32) 0 := by
  have h := hR.2.1 7 (by omega)
  rw [val_top _ _ (by omega)] at h
  obtain ⟨l8, ll, lp, ls, li⟩ := lf_at hk
  refine ⟨(tp t 7).toNat, by omega, by omega, by omega, ?_, ?_⟩
  · have hlt : (tp t 7).toNat < D.length := by omega
    have : Gra.nth D (tp t 7).toNat = D[(tp t 7).toNat] := by simp [Gra.nth, hlt]
    rw [this]
    exact hR.1.2 _ (List.getElem_mem hlt)
  · rw [val_par _ _ l8 ll, lp, ls, val_top _ _ (by omega), if_neg h7]
    rfl
theorem putL_len (D : List (List Int)) (t : List Int) (k : Nat) (b : Int) (F : List Int) : (putL D t k b F).1.length = D.length ∧ (putL D t k b F).2.1.length = t.length ∧ (putL D t k b F).2.2 ≤ 2 := by
  unfold putL
  (repeat' split) <;> simp [setD_len]
theorem putV_at {D : List (List Int)} {t : List Int} {k : Nat} {b : Int} {F : List Int} (hk : k < 1062) {l : Nat} (hl : l < 1062) : putV D t k b F (posK l) = if l = k then b else atK D t l := by
  have hne : ∀ q, inP q → posK l ≠ q := fun q hq e => by
    subst e
    unfold inP posK at hq
    split at hq
    · omega
    · split at hq <;> omega
  have h6 : posK l ≠ 6 := hne 6 (.inl rfl)
  have h7 : posK l ≠ 7 := hne 7 (.inr (.inl rfl))
  have hf : posK l ≠ lf k := hne _ (lf_at hk).2.2.2.2
  have hkk : posK l = posK k ↔ l = k := ⟨posK_inj hl hk, fun e => by rw [e]⟩
  unfold putV Bg.upd atK
  (repeat' split) <;> simp_all
end Go.Sel.Bg
/- Big files, plainly: when Put is refused. No program in sight. -/
set_option linter.unusedSimpArgs false
set_option linter.unusedVariables false
namespace Go.Sel.Bg
open Go.RowKit Go.Sel

structure RgPut (n : Nat) (k : Nat) (b : Int) (F : List Int) : Prop where
  hk : k < 1062
  b0 : 0 < b
  b1 : b < n
  f : ∀ x ∈ F, 0 < x ∧ x < n
/-- A block that is pointed to. -/
def tkB (D : List (List Int)) (t : List Int) (x : Int) : Bool := (List.range 1096).any fun p => decide (val D t p = x)
theorem tkB_iff {D : List (List Int)} {t : List Int} {x : Int} : tkB D t x = true ↔ ∃ p, p < 1096 ∧ val D t p = x := by
  simp [tkB, List.any_eq_true]
theorem tkB_no {D : List (List Int)} {t : List Int} {x : Int} : tkB D t x = false ↔ notIn D t x := by
  rw [Bool.eq_false_iff]
  exact ⟨fun h p hp e => h (tkB_iff.2 ⟨p, hp, e⟩), fun h h2 => by obtain ⟨p, hp, e⟩ := tkB_iff.1 h2; exact h p hp e⟩
/-- The i-th of the free ones may not be used. -/
def badF (D : List (List Int)) (t : List Int) (F : List Int) (i : Nat) : Bool := tkB D t (F.getD i 0) || decide (F.getD i 0 ∈ F.take i)
def errL (D : List (List Int)) (t : List Int) (k : Nat) (b : Int) (F : List Int) : Int :=
  if (tkB D t b || decide (b ∈ F)) = true then 6 else if ((List.range F.length).any (badF D t F)) = true then 6 else if atK D t k ≠ 0 then 12 else 0
theorem errL_vals (D : List (List Int)) (t : List Int) (k : Nat) (b : Int) (F : List Int) : errL D t k b F = 0 ∨ errL D t k b F = 6 ∨ errL D t k b F = 12 := by
  unfold errL
  (repeat' split) <;> simp
theorem nodup_of {F : List Int} (h : ∀ i, i < F.length → F.getD i 0 ∉ F.take i) : F.Nodup := by
  rw [List.nodup_iff_pairwise_ne, List.pairwise_iff_getElem]
  intro i j hi hj hij e
  refine h j hj ?_
  rw [List.getD_eq_getElem?_getD, List.getElem?_eq_getElem hj, Option.getD_some, ← e]
  exact List.mem_iff_getElem.2 ⟨i, by rw [List.length_take]; omega, by rw [List.getElem_take]⟩
theorem ok_of_err {D : List (List Int)} {t : List Int} {n k : Nat} {b : Int} {F : List Int} (h : RgPut n k b F) (he : errL D t k b F = 0) : OkPut D t n k b F := by
  unfold errL at he
  split at he
  · cases he
  · rename_i h1
    split at he
    · cases he
    · rename_i h2
      split at he
      · cases he
      · rename_i h3
        simp only [Bool.or_eq_true, decide_eq_true_eq, not_or, Bool.not_eq_true] at h1
        have h2' : ∀ i, i < F.length → badF D t F i = false := fun i hi => by
          by_cases hb : badF D t F i = true
          · exact absurd (List.any_eq_true.2 ⟨i, List.mem_range.2 hi, hb⟩) h2
          · simpa using hb
        have h4 : ∀ i, i < F.length → notIn D t (F.getD i 0) ∧ F.getD i 0 ∉ F.take i := fun i hi => by
          have := h2' i hi
          simp only [badF, Bool.or_eq_false_iff, decide_eq_false_iff_not] at this
          exact ⟨tkB_no.1 this.1, this.2⟩
        refine ⟨h.hk, h.b0, h.b1, h.f, tkB_no.1 h1.1, h1.2, fun x hx => ?_, nodup_of fun i hi => (h4 i hi).2, by simpa using h3⟩
        obtain ⟨i, hi, rfl⟩ := List.mem_iff_getElem.1 hx
        have := (h4 i hi).1
        rwa [List.getD_eq_getElem?_getD, List.getElem?_eq_getElem hi, Option.getD_some] at this
theorem TkS.mark {D : List (List Int)} {t : List Int} {l : List (Int × Value)} (h : TkS D t 1096 l) {b : Int} (hb : b ≠ 0) : (Sel.look l b).getD (.bool false) = .bool (tkB D t b) := by
  by_cases ht : tkB D t b = true
  · obtain ⟨p, hp, e⟩ := tkB_iff.1 ht
    subst e
    rw [h.1 p hp hb, ht]
    rfl
  · have ht' : tkB D t b = false := by simpa using ht
    rw [h.2 b (fun p hp e => absurd e ((tkB_no.1 ht') p hp)), ht']
    rfl
end Go.Sel.Bg
/- Big files, plainly: the places that have a block, rising; the blocks of pointers. No program in sight. -/
set_option linter.unusedSimpArgs false
set_option linter.unusedVariables false
namespace Go.Sel.Bg
open Go.RowKit Go.Sel

theorem nodup_len : ∀ {xs L : List Int}, xs.Nodup → (∀ x ∈ xs, x ∈ L) → xs.length ≤ L.length
  | [], _, _, _ => by simp
  | x :: t, L, hn, hs => by
    obtain ⟨h1, h2⟩ := List.nodup_cons.1 hn
    have hx := hs x (by simp)
    have := nodup_len (xs := t) (L := L.erase x) h2 fun y hy => (List.mem_erase_of_ne (fun e => h1 (by rw [← e]; exact hy))).2 (hs y (by simp [hy]))
    have hl := List.length_erase_of_mem hx
    have hp := List.length_pos_of_mem hx
    simp only [List.length_cons]
    omega
/-- The places that have a block. -/
def plN (D : List (List Int)) (t : List Int) : List Nat := (List.range 1062).filter fun k => decide (atK D t k ≠ 0)
def plL (D : List (List Int)) (t : List Int) : List Int := (plN D t).map fun k : Nat => (k : Int)
theorem mem_plN {D : List (List Int)} {t : List Int} {k : Nat} : k ∈ plN D t ↔ k < 1062 ∧ atK D t k ≠ 0 := by simp [plN]
theorem mem_plL {D : List (List Int)} {t : List Int} {x : Int} : x ∈ plL D t ↔ ∃ k : Nat, k < 1062 ∧ atK D t k ≠ 0 ∧ x = k := by
  unfold plL
  rw [List.mem_map]
  exact ⟨fun ⟨k, h, e⟩ => ⟨k, (mem_plN.1 h).1, (mem_plN.1 h).2, e.symm⟩, fun ⟨k, h1, h2, e⟩ => ⟨k, mem_plN.2 ⟨h1, h2⟩, e.symm⟩⟩
theorem plN_rises (D : List (List Int)) (t : List Int) : (plN D t).Pairwise (· < ·) := List.Pairwise.filter _ List.pairwise_lt_range
theorem plL_rises (D : List (List Int)) (t : List Int) : (plL D t).Pairwise (· < ·) := by
  unfold plL
  rw [List.pairwise_map]
  exact (plN_rises D t).imp fun h => by omega
theorem plL_nodup (D : List (List Int)) (t : List Int) : (plL D t).Nodup := (plL_rises D t).imp fun h e => by omega
theorem plN_nodup (D : List (List Int)) (t : List Int) : (plN D t).Nodup := (plN_rises D t).imp fun h e => by omega
/-- There are fewer of them than blocks. -/
theorem plL_len {D : List (List Int)} {t : List Int} (hR : Rt D t) : (plL D t).length ≤ 96 := by
  have h1 : ((plN D t).map (atK D t)).Nodup := by
    rw [List.nodup_iff_pairwise_ne, List.pairwise_map]
    have := plN_rises D t
    have hm : ∀ k ∈ plN D t, k < 1062 ∧ atK D t k ≠ 0 := fun k hk => mem_plN.1 hk
    refine List.Pairwise.imp_of_mem ?_ this
    intro a b ha hb hab e
    have := hR.2.2 (posK a) (posK b) (posK_lt (hm a ha).1) (posK_lt (hm b hb).1) e (hm a ha).2
    have := posK_inj (hm a ha).1 (hm b hb).1 this
    omega
  have h2 := nodup_len h1 (L := (List.range 96).map fun k : Nat => (k : Int)) fun x hx => by
    obtain ⟨k, hk, rfl⟩ := List.mem_map.1 hx
    obtain ⟨hk1, hk2⟩ := mem_plN.1 hk
    have hb := hR.2.1 (posK k) (posK_lt hk1)
    have h96 := hR.1.1
    refine List.mem_map.2 ⟨(atK D t k).toNat, List.mem_range.2 ?_, ?_⟩
    · unfold atK; omega
    · unfold atK; omega
  simp only [plL, List.length_map, List.length_range] at h2 ⊢
  exact h2
/-- The keys of the map of places are just these. -/
theorem keys_plL {D : List (List Int)} {t : List Int} {l : List (Int × Value)} (h : PlS D t 1096 l) (hR : Rt D t) : ∀ x, x ∈ l.map (·.1) ↔ x ∈ plL D t := by
  intro x
  rw [mem_plL]
  constructor
  · intro hx
    obtain ⟨p, hp, rfl⟩ := List.mem_map.1 hx
    by_cases hex : ∃ k : Nat, k < 1062 ∧ atK D t k ≠ 0 ∧ p.1 = k
    · exact hex
    · have := h.2 p.1 (fun k hk _ hne e => hex ⟨k, hk, hne, e⟩)
      exact absurd rfl (look_none.1 this p hp)
  · rintro ⟨k, hk, hne, rfl⟩
    have h1 := h.1 k hk (posK_lt hk) hne
    obtain ⟨p, hp, he⟩ := List.any_eq_true.1 (look_some_any h1)
    exact List.mem_map.2 ⟨p, hp, by simpa using he⟩
/-- The blocks, by their places. -/
def blL (D : List (List Int)) (t : List Int) : List Int := (plN D t).map (atK D t)
end Go.Sel.Bg
