/- For the rows of big's laws: puts and files that came in. -/
import Derived.Test.YtcgfoaihfncppaaRows
import Derived.Test.YtcgfoaihfncppaaKBg6
import Derived.Test.YtcgfoaihfncppaaKBg1
import Derived.Laws.IdiomArrays
import Derived.Deep.Strs
import Derived.Test.YtcgfoaihfncppaaKSel7
set_option linter.unusedSimpArgs false
set_option linter.unusedVariables false
namespace Go.Proofs.Ytcgfoaihfncppaa
open Go.ChangeShapes Go.WideShapes Go.ChangeAt Go.RowKit Go.Sel

theorem own : ownKnob Try.prog.godebug = none := by kernel_rfl
theorem laidOut : laidOutB Try.prog = true := by kernel_rfl
theorem int_bounds {x : Int} (w : (Lit.int .i64 x).wf = true) : -9223372036854775808 ≤ x ∧ x ≤ 9223372036854775807 := i64_bounds w
theorem u8_bounds {x : Int} (w : (Lit.int .u8 x).wf = true) : 0 ≤ x ∧ x ≤ 255 := by simpa [Lit.wf, IntKind.min, IntKind.max, IntKind.signed, IntKind.bits] using w
theorem u16_bounds {x : Int} (w : (Lit.int .u16 x).wf = true) : 0 ≤ x ∧ x ≤ 65535 := by simpa [Lit.wf, IntKind.min, IntKind.max, IntKind.signed, IntKind.bits] using w
/-- A put that came in. -/
structure Pu where
  p : Int
  b : Int
def Pu.ok (d : Pu) : Prop := (0 ≤ d.p ∧ d.p ≤ 65535) ∧ 0 ≤ d.b ∧ d.b ≤ 255
def pus (L : List Pu) : List Value := L.flatMap fun d => [.int .u16 d.p, .int .u8 d.b]
/-- '.slice A n c' reads as the puts L. -/
structure Pd (w : World) (A : Option Addr) (n c : Nat) (L : List Pu) : Prop where
  len : L.length = n
  rd : Rd w A n c (pus L)
  ok : ∀ d ∈ L, d.ok
section
variable {H : Type} {enc : TypeId × Value → H} {w : World} {base : Nat} {spare : Nat → Bool} {held : Bool}
set_option maxRecDepth 100000 in
theorem read_put {fuel : Nat} {us : List Value} {x : DataW H × List MemPlace} (h : DataW.trod enc Try.prog w base spare held fuel 32 us = some x) :
    ∃ d : Pu, us = [.int .u16 d.p, .int .u8 d.b] ∧ d.ok := by
  obtain ⟨xs, n, _, rfl, hl, hlen, hf⟩ := DataW.trod_struct Try.underlying32 h
  rw [show Program.cellsOf Try.prog 32 = 2 by kernel_rfl] at hl
  have h0 := hf 0 _ rfl
  have h1 := hf 1 _ rfl
  match us, hl with
  | [v0, v1], _ =>
    have g0 : DataW.trod enc Try.prog w base spare held n 22 [v0] = xs[0]? := h0
    have g1 : DataW.trod enc Try.prog w base spare held n 5 [v1] = xs[1]? := h1
    match xs, hlen with
    | [y0, y1], _ =>
      obtain ⟨b, k0, _, w0⟩ := DataW.trod_int Try.underlying22 g0
      obtain ⟨o, k1, _, w1⟩ := DataW.trod_int Try.underlying5 g1
      obtain rfl : v0 = .int .u16 b := by simpa using k0
      obtain rfl : v1 = .int .u8 o := by simpa using k1
      exact ⟨⟨b, o⟩, rfl, u16_bounds w0, u8_bounds w1⟩
theorem puts_of : ∀ (vss : List (List Value)), (∀ us ∈ vss, ∃ d : Pu, us = [.int .u16 d.p, .int .u8 d.b] ∧ d.ok) → ∃ L : List Pu, L.length = vss.length ∧ vss.flatten = pus L ∧ ∀ d ∈ L, d.ok
  | [], _ => ⟨[], rfl, rfl, by simp⟩
  | us :: vss, h => by
    obtain ⟨d, rfl, hd⟩ := h us (by simp)
    obtain ⟨L, h1, h2, h3⟩ := puts_of vss fun u hu => h u (by simp [hu])
    refine ⟨d :: L, by simp [h1], by simp [pus, h2], fun x hx => ?_⟩
    rcases List.mem_cons.1 hx with rfl | hx
    · exact hd
    · exact h3 x hx
set_option maxRecDepth 100000 in
theorem read_puts {fuel : Nat} {v : Value} {x : DataW H × List MemPlace} (h : DataW.trod enc Try.prog w base spare held fuel 30 [v] = some x) :
    ∃ (A : Option Addr) (n c : Nat) (L : List Pu), v = .slice A n c ∧ Pd w A n c L := by
  obtain ⟨A, n, c, vss, rfl, hl, hu, hr⟩ := read_elems Try.underlying30 (by kernel_rfl : Program.cellsOf Try.prog 32 = 2) (by decide) h
  obtain ⟨L, h1, h2, h3⟩ := puts_of vss fun us hus => by
    obtain ⟨_, fuel, y, hy⟩ := hu us hus
    exact read_put hy
  exact ⟨A, n, c, L, rfl, by omega, by rw [← h2]; exact hr, h3⟩
set_option maxRecDepth 100000 in
theorem open_put {r : Reach} {b0 : Nat} {v : Value} {d : DataW H} {p : List MemPlace} (hv : Value.okWide Try.prog w r b0 32 v) (h : DataW.Trod enc Try.prog w base spare held 32 v d p) :
    ∃ x : Pu, v = .agg #[.int .u16 x.p, .int .u8 x.b] ∧ x.ok := by
  obtain ⟨u0, u1, ya, yb, fu, rfl, _, _, ga, gb⟩ := Joins.open_agg2 Try.underlying32 (by kernel_rfl) (by kernel_rfl) hv h
  obtain ⟨a0, k0, _, w0⟩ := DataW.trod_int Try.underlying22 ga
  obtain ⟨a1, k1, _, w1⟩ := DataW.trod_int Try.underlying5 gb
  obtain rfl : u0 = .int .u16 a0 := by simpa using k0
  obtain rfl : u1 = .int .u8 a1 := by simpa using k1
  exact ⟨⟨a0, a1⟩, rfl, u16_bounds w0, u8_bounds w1⟩
theorem trod_array6 {P : Program} {t e : TypeId} {fuel : Nat} {c0 c1 c2 c3 c4 c5 : Value} {x : DataW H × List MemPlace} (ht : P.underlying t = some (.array 6 e)) (hce : P.cellsOf e = 1)
    (h : DataW.trod enc P w base spare held fuel t [c0, c1, c2, c3, c4, c5] = some x) :
    ∃ y0 y1 y2 y3 y4 y5 n, DataW.trod enc P w base spare held n e [c0] = some y0 ∧ DataW.trod enc P w base spare held n e [c1] = some y1 ∧ DataW.trod enc P w base spare held n e [c2] = some y2 ∧ DataW.trod enc P w base spare held n e [c3] = some y3 ∧ DataW.trod enc P w base spare held n e [c4] = some y4 ∧ DataW.trod enc P w base spare held n e [c5] = some y5 := by
  cases fuel with
  | zero => simp [DataW.trod] at h
  | succ n =>
    unfold DataW.trod at h
    rw [ht] at h
    have r3 : List.range 6 = [0, 1, 2, 3, 4, 5] := rfl
    simp [r3, hce] at h
    obtain ⟨_, h⟩ := h
    cases h0 : DataW.trod enc P w base spare held n e [c0] with
    | none => simp [h0] at h
    | some y0 =>
      cases h1 : DataW.trod enc P w base spare held n e [c1] with
      | none => simp [h0, h1] at h
      | some y1 =>
        cases h2 : DataW.trod enc P w base spare held n e [c2] with
        | none => simp [h0, h1, h2] at h
        | some y2 =>
          cases h3 : DataW.trod enc P w base spare held n e [c3] with
          | none => simp [h0, h1, h2, h3] at h
          | some y3 =>
            cases h4 : DataW.trod enc P w base spare held n e [c4] with
            | none => simp [h0, h1, h2, h3, h4] at h
            | some y4 =>
              cases h5 : DataW.trod enc P w base spare held n e [c5] with
              | none => simp [h0, h1, h2, h3, h4, h5] at h
              | some y5 => exact ⟨y0, y1, y2, y3, y4, y5, n, h0, h1, h2, h3, h4, h5⟩
theorem array8 {cs : Array Value} (h : cs.size = 8) : ∃ a b c d e f g i, cs = #[a, b, c, d, e, f, g, i] := by
  obtain ⟨l⟩ := cs
  match l, h with
  | [a, b, c, d, e, f, g, i], _ => exact ⟨a, b, c, d, e, f, g, i, rfl⟩
set_option maxRecDepth 100000 in
theorem open_big {r : Reach} {b0 : Nat} {v : Value} {d : DataW H} {p : List MemPlace} (hv : Value.okWide Try.prog w r b0 36 v) (h : DataW.Trod enc Try.prog w base spare held 36 v d p) :
    ∃ t : List Int, v = bigV t ∧ t.length = 8 := by
  obtain ⟨cs, rfl, hsz⟩ := okWide_struct Try.underlying36 hv
  obtain ⟨c0, c1, c2, c3, c4, c5, c6, c7, rfl⟩ := array8 (hsz.trans (by kernel_rfl))
  obtain ⟨fuel, hf⟩ := h
  obtain ⟨xs, n, _, _, hl, hlen, hf⟩ := DataW.trod_struct Try.underlying36 hf
  have h0 := hf 0 _ rfl
  have h1 := hf 1 _ rfl
  have h2 := hf 2 _ rfl
  have g0 : DataW.trod enc Try.prog w base spare held n 34 [c0, c1, c2, c3, c4, c5] = xs[0]? := h0
  have g1 : DataW.trod enc Try.prog w base spare held n 3 [c6] = xs[1]? := h1
  have g2 : DataW.trod enc Try.prog w base spare held n 3 [c7] = xs[2]? := h2
  match xs, hlen with
  | [y0, y1, y2], _ =>
    obtain ⟨a6, k6, _, _⟩ := DataW.trod_int Try.underlying3 g1
    obtain ⟨a7, k7, _, _⟩ := DataW.trod_int Try.underlying3 g2
    obtain rfl : c6 = .int .i64 a6 := by simpa using k6
    obtain rfl : c7 = .int .i64 a7 := by simpa using k7
    obtain ⟨z0, z1, z2, z3, z4, z5, m, e0, e1, e2, e3, e4, e5⟩ := trod_array6 Try.underlying34 (by kernel_rfl) g0
    obtain ⟨a0, k0, _, _⟩ := DataW.trod_int Try.underlying3 e0
    obtain ⟨a1, k1, _, _⟩ := DataW.trod_int Try.underlying3 e1
    obtain ⟨a2, k2, _, _⟩ := DataW.trod_int Try.underlying3 e2
    obtain ⟨a3, k3, _, _⟩ := DataW.trod_int Try.underlying3 e3
    obtain ⟨a4, k4, _, _⟩ := DataW.trod_int Try.underlying3 e4
    obtain ⟨a5, k5, _, _⟩ := DataW.trod_int Try.underlying3 e5
    obtain rfl : c0 = .int .i64 a0 := by simpa using k0
    obtain rfl : c1 = .int .i64 a1 := by simpa using k1
    obtain rfl : c2 = .int .i64 a2 := by simpa using k2
    obtain rfl : c3 = .int .i64 a3 := by simpa using k3
    obtain rfl : c4 = .int .i64 a4 := by simpa using k4
    obtain rfl : c5 = .int .i64 a5 := by simpa using k5
    exact ⟨[a0, a1, a2, a3, a4, a5, a6, a7], rfl, rfl⟩
end
end Go.Proofs.Ytcgfoaihfncppaa
/- Big files, plainly: how the pointers turn when one is put. No program in sight. -/
set_option linter.unusedSimpArgs false
set_option linter.unusedVariables false
namespace Go.Sel.Bg
open Go.RowKit Go.Sel

/-- A block of pointers that has one. -/
def pt (s : Nat) (x : Int) : List Int := (List.replicate 32 0).set s x
theorem pt_len (s : Nat) (x : Int) : (pt s x).length = 32 := by simp [pt]
theorem pt_byte (s : Nat) (x : Int) (h0 : 0 ≤ x) (h1 : x ≤ 255) : AllByte (pt s x) := by
  intro y hy
  rcases List.mem_or_eq_of_mem_set hy with h | rfl
  · have := List.eq_of_mem_replicate h
    omega
  · exact ⟨h0, h1⟩
def zrow : List Int := List.replicate 32 0
def notIn (D : List (List Int)) (t : List Int) (b : Int) : Prop := ∀ p, p < 1096 → val D t p ≠ b
structure OkPut (D : List (List Int)) (t : List Int) (n : Nat) (k : Nat) (b : Int) (F : List Int) : Prop where
  hk : k < 1062
  b0 : 0 < b
  b1 : b < n
  f : ∀ x ∈ F, 0 < x ∧ x < n
  nb : notIn D t b
  bF : b ∉ F
  nf : ∀ x ∈ F, notIn D t x
  nd : F.Nodup
  at_ : atK D t k = 0

/-! ### Where a pointer stands -/
def par (p : Nat) : Nat := if p < 40 then 6 else if (p - 40) % 33 = 0 then 7 else 40 + 33 * ((p - 40) / 33)
def slot (p : Nat) : Nat := if p < 40 then p - 8 else if (p - 40) % 33 = 0 then (p - 40) / 33 else (p - 40) % 33 - 1
theorem par_lt {p : Nat} (h : 8 ≤ p) (h' : p < 1096) : par p < p := by
  unfold par
  split
  · omega
  · split <;> omega
theorem slot_lt {p : Nat} (h : 8 ≤ p) (h' : p < 1096) : slot p < 32 := by
  unfold slot
  split
  · omega
  · split <;> omega
theorem par_inj {p q : Nat} (hp : 8 ≤ p) (hp' : p < 1096) (hq : 8 ≤ q) (hq' : q < 1096) (h : par p = par q) (h2 : slot p = slot q) : p = q := by
  unfold par at h
  unfold slot at h2
  split at h <;> split at h <;> (try split at h) <;> (try split at h) <;> simp_all <;> omega
/-- A pointer to a block of pointers. -/
def inP (p : Nat) : Prop := p = 6 ∨ p = 7 ∨ (40 ≤ p ∧ (p - 40) % 33 = 0)
theorem par_in {p : Nat} (h : 8 ≤ p) (h' : p < 1096) : inP (par p) := by
  unfold par inP
  split
  · omega
  · split <;> omega
theorem val_par (D : List (List Int)) (t : List Int) {p : Nat} (h : 8 ≤ p) (h' : p < 1096) : val D t p = if val D t (par p) = 0 then 0 else at2 D (val D t (par p)) (slot p) := by
  by_cases h40 : p < 40
  · have e1 : par p = 6 := by simp [par, h40]
    have e2 : slot p = p - 8 := by simp [slot, h40]
    have e3 : val D t 6 = tp t 6 := by simp [val]
    rw [e1, e2, e3]
    unfold val
    rw [if_neg (by omega), if_pos h40]
    rfl
  · by_cases hm : (p - 40) % 33 = 0
    · have e1 : par p = 7 := by simp [par, h40, hm]
      have e2 : slot p = (p - 40) / 33 := by simp [slot, h40, hm]
      have e3 : val D t 7 = tp t 7 := by simp [val]
      rw [e1, e2, e3]
      unfold val
      rw [if_neg (by omega), if_neg h40, if_pos hm]
      rfl
    · have e1 : par p = 40 + 33 * ((p - 40) / 33) := by simp [par, h40, hm]
      have e2 : slot p = (p - 40) % 33 - 1 := by simp [slot, h40, hm]
      have e3 : val D t (40 + 33 * ((p - 40) / 33)) = vD D t ((p - 40) / 33) := by
        unfold val
        rw [if_neg (by omega), if_neg (by omega), if_pos (by omega)]
        congr 1
        omega
      rw [e1, e2, e3]
      unfold val
      rw [if_neg (by omega), if_neg h40, if_neg hm]
      rfl
theorem val_top (D : List (List Int)) (t : List Int) {p : Nat} (h : p < 8) : val D t p = tp t p := by simp [val, h]

/-! ### One pointer turns -/
def upd (v : Nat → Int) (q : Nat) (x : Int) (p : Nat) : Int := if p = q then x else v p
def okV (n : Nat) (v : Nat → Int) (m : Nat) : Prop := (∀ p, p < m → 0 ≤ v p ∧ (v p).toNat < max 1 n) ∧ ∀ p q, p < m → q < m → v p = v q → v p ≠ 0 → p = q
theorem okV.upd {n m : Nat} {v : Nat → Int} (h : okV n v m) {q : Nat} {x : Int} (h0 : 0 < x) (hn : x < n) (hv : ∀ p, p < m → v p ≠ x) : okV n (upd v q x) m := by
  refine ⟨fun p hp => ?_, fun p r hp hr e hne => ?_⟩
  · unfold Bg.upd
    split
    · omega
    · exact h.1 p hp
  · unfold Bg.upd at e hne
    split at e <;> split at e
    · omega
    · exact absurd e.symm (hv r hr)
    · exact absurd e (hv p hp)
    · rename_i h1 h2
      rw [if_neg h1] at hne
      exact h.2 p r hp hr e hne
theorem okV.congr {n m : Nat} {v v' : Nat → Int} (h : okV n v m) (e : ∀ p, p < m → v' p = v p) : okV n v' m :=
  ⟨fun p hp => by rw [e p hp]; exact h.1 p hp, fun p q hp hq he hne => h.2 p q hp hq (by rw [← e p hp, ← e q hq]; exact he) (by rw [← e p hp]; exact hne)⟩
theorem okU_iff {D : List (List Int)} {t : List Int} {m : Nat} : okU D t m ↔ okV D.length (val D t) m := Iff.rfl

theorem at2_set (D : List (List Int)) (f : Nat) (r : List Int) (b : Int) (i : Nat) (hf : f < D.length) : at2 (D.set f r) b i = if b.toNat = f then r.getD i 0 else at2 D b i := by
  unfold at2
  simp only [List.getD_eq_getElem?_getD, List.getElem?_set]
  by_cases h : f = b.toNat
  · subst h
    simp [hf]
  · have h' : ¬ b.toNat = f := fun e => h e.symm
    simp [h, h']
/-- A block that nothing points to may be turned. -/
theorem val_far {D : List (List Int)} {t : List Int} {f : Nat} {r : List Int} (hf : f < D.length) (h : ∀ p, p < 1096 → inP p → val D t p ≠ 0 → (val D t p).toNat ≠ f) : ∀ p, p < 1096 → val (D.set f r) t p = val D t p := by
  intro p
  induction p using Nat.strongRecOn with
  | ind p ih =>
    intro hp
    by_cases h8 : p < 8
    · rw [val_top _ _ h8, val_top _ _ h8]
    · have h8' : 8 ≤ p := by omega
      have hl := par_lt h8' hp
      rw [val_par _ _ h8' hp, val_par D _ h8' hp, ih _ hl (by omega)]
      split
      · rfl
      · rename_i hne
        rw [at2_set _ _ _ _ _ hf, if_neg (h _ (by omega) (par_in h8' hp) hne)]
/-- One of a file's own eight pointers. -/
theorem val_setT {D : List (List Int)} {t : List Int} {q : Nat} {x : Int} (ht : t.length = 8) (hq : q < 8) (h0 : tp t q = 0) (hz : inP q → ∀ i, i < 32 → at2 D x i = 0) : ∀ p, p < 1096 → val D (t.set q x) p = upd (val D t) q x p := by
  have htp : ∀ p, tp (t.set q x) p = if p = q then x else tp t p := by
    intro p
    unfold tp
    simp only [List.getD_eq_getElem?_getD, List.getElem?_set]
    by_cases e : p = q
    · subst e
      rw [if_pos rfl, if_pos rfl, if_pos (by omega)]
      rfl
    · rw [if_neg (fun h => e h.symm), if_neg e]
  intro p
  induction p using Nat.strongRecOn with
  | ind p ih =>
    intro hp
    by_cases h8 : p < 8
    · rw [val_top _ _ h8, htp]
      unfold Bg.upd
      rw [val_top _ _ h8]
    · have h8' : 8 ≤ p := by omega
      have hl := par_lt h8' hp
      have hpq : p ≠ q := by omega
      rw [val_par _ _ h8' hp, ih _ hl (by omega)]
      conv => rhs; unfold Bg.upd; rw [if_neg hpq, val_par _ _ h8' hp]
      unfold Bg.upd
      by_cases e : par p = q
      · rw [if_pos e]
        have e0 : val D t (par p) = 0 := by rw [e, val_top _ _ hq, h0]
        rw [if_pos e0]
        split
        · rfl
        · exact hz (e ▸ par_in h8' hp) _ (slot_lt h8' hp)
      · rw [if_neg e]
/-- A pointer in a block. -/
def setD (D : List (List Int)) (t : List Int) (q : Nat) (x : Int) : List (List Int) := D.set (val D t (par q)).toNat ((D.getD (val D t (par q)).toNat []).set (slot q) x)
theorem val_setD {D : List (List Int)} {t : List Int} {q : Nat} {x : Int} (hR : Rt D t) (hq : 8 ≤ q) (hq' : q < 1096) (hp0 : val D t (par q) ≠ 0) (h0 : inP q → val D t q = 0 ∧ x ≠ val D t (par q) ∧ 0 ≤ x ∧ ∀ i, i < 32 → at2 D x i = 0) : ∀ p, p < 1096 → val (setD D t q x) t p = upd (val D t) q x p := by
  obtain ⟨hW, hU⟩ := hR
  have hpl := par_lt hq hq'
  have hb := hU.1 (par q) (by omega)
  have hbl : (val D t (par q)).toNat < D.length := by omega
  have hrow : (D.getD (val D t (par q)).toNat []).length = 32 := by
    rw [List.getD_eq_getElem?_getD, List.getElem?_eq_getElem hbl]
    exact hW.2 _ (List.getElem_mem hbl)
  have hsl := slot_lt hq hq'
  intro p
  induction p using Nat.strongRecOn with
  | ind p ih =>
    intro hp
    by_cases h8 : p < 8
    · rw [val_top _ _ h8]
      unfold Bg.upd
      rw [if_neg (by omega), val_top _ _ h8]
    · have h8' : 8 ≤ p := by omega
      have hl := par_lt h8' hp
      rw [val_par _ _ h8' hp, ih _ hl (by omega)]
      by_cases epq : p = q
      · subst epq
        have e1 : upd (val D t) p x (par p) = val D t (par p) := by unfold Bg.upd; rw [if_neg (by omega)]
        rw [e1, if_neg hp0]
        unfold setD
        rw [at2_set _ _ _ _ _ hbl, if_pos rfl]
        unfold Bg.upd
        rw [if_pos rfl, List.getD_eq_getElem?_getD, List.getElem?_set, if_pos rfl, if_pos (by omega)]
        rfl
      · conv => rhs; unfold Bg.upd; rw [if_neg epq, val_par _ _ h8' hp]
        by_cases e : par p = q
        · have e1 : upd (val D t) q x (par p) = x := by unfold Bg.upd; rw [if_pos e]
          have hin := par_in h8' hp
          rw [e] at hin
          obtain ⟨g1, g2, g3, g4⟩ := h0 hin
          rw [e1, e, g1, if_pos rfl]
          split
          · rfl
          · unfold setD
            rw [at2_set _ _ _ _ _ hbl, if_neg (by omega)]
            exact g4 _ (slot_lt h8' hp)
        · have e1 : upd (val D t) q x (par p) = val D t (par p) := by unfold Bg.upd; rw [if_neg e]
          rw [e1]
          split
          · rfl
          · rename_i hne
            unfold setD
            rw [at2_set _ _ _ _ _ hbl]
            split
            · rename_i et
              have hbp := hU.1 (par p) (by omega)
              have ev : val D t (par p) = val D t (par q) := by omega
              have epp := hU.2 (par p) (par q) (by omega) (by omega) ev hne
              have hss : slot p ≠ slot q := fun es => epq (par_inj h8' hp hq hq' epp es)
              rw [List.getD_eq_getElem?_getD, List.getElem?_set, if_neg (fun h => hss h.symm), ev]
              unfold at2
              simp only [List.getD_eq_getElem?_getD]
            · rfl
theorem setD_len (D : List (List Int)) (t : List Int) (q : Nat) (x : Int) : (setD D t q x).length = D.length := by simp [setD]
theorem whole_set {D : List (List Int)} (h : whole D) {f : Nat} {r : List Int} (hr : f < D.length → r.length = 32) : whole (D.set f r) := by
  refine ⟨by simpa using h.1, fun b hb => ?_⟩
  by_cases hf : f < D.length
  · rcases List.mem_or_eq_of_mem_set hb with h1 | rfl
    · exact h.2 b h1
    · exact hr hf
  · rw [List.set_eq_of_length_le (by omega)] at hb
    exact h.2 b hb
theorem whole_setD {D : List (List Int)} (h : whole D) (t : List Int) (q : Nat) (x : Int) : whole (setD D t q x) := by
  refine whole_set h fun hf => ?_
  rw [List.length_set, List.getD_eq_getElem?_getD, List.getElem?_eq_getElem hf]
  exact h.2 _ (List.getElem_mem hf)
end Go.Sel.Bg
/- Rows of bytes in an array of the call's own, kept where older blocks that hold no bytes are turned. No program in sight. -/
set_option linter.unusedSimpArgs false
set_option linter.unusedVariables false
namespace Go.Sel
open Go.RowKit Go.Sel.Gra
theorem Rd.farB {S : Nat → Prop} {w w' : World} {A : Option Addr} {n c : Nat} {xs : List Int} (h : Rd w A n c (iv .u8 xs)) (hf : Fr S w w') (hS : ∀ b, S b → ∀ j x, w.cell? ⟨b, j, none⟩ ≠ some (.int .u8 x)) : Rd w' A n c (iv .u8 xs) := by
  refine ⟨h.le, h.cap, ?_⟩
  rcases h.at_ with h0 | ⟨b, off, rfl, hc⟩
  · exact .inl h0
  · by_cases hx : xs = []
    · exact .inl (by rw [hx]; rfl)
    · refine .inr ⟨b, off, rfl, fun j hj => ?_⟩
      have hj0 := hc j hj
      rw [iv_at] at hj0
      have hns : ¬ S b := fun hs => hS b hs (off + j) _ hj0
      rw [hf.cell (p := ⟨b, off + j, none⟩) hns hj0, hj0, iv_at]
theorem Wb.fr {S : Nat → Prop} {B : Nat} {w w' : World} {A : Option Addr} {n c : Nat} {D : List (List Int)} (h : Wb B w A n c D) (hf : Fr S w w') (hS : ∀ b, S b → b < B ∧ ∀ j x, w.cell? ⟨b, j, none⟩ ≠ some (.int .u8 x)) : Wb B w' A n c D := by
  obtain ⟨ss, h1, h2, h3, h4, h5, h6⟩ := h
  refine ⟨ss, h1, h2, h3, h4, ?_, fun j hj => ⟨(h6 j hj).1, (h6 j hj).2.1.farB hf (fun b hb => (hS b hb).2), (h6 j hj).2.2⟩⟩
  rcases h5 with h0 | ⟨g, cur, T, e, hg, hb, hc⟩
  · exact .inl h0
  · exact .inr ⟨g, cur, T, e, hg, (hf.block g (Array.getElem?_eq_some_iff.1 hb).1 (fun hs => by have := (hS g hs).1; omega)).trans hb, hc⟩
end Go.Sel
/- Images of the call's own, whose rows may be stored into. No program in sight. -/
set_option linter.unusedSimpArgs false
set_option linter.unusedVariables false
namespace Go.Sel.Bg
open Go.RowKit Go.Sel Go.Sel.Gra

/-- Block gc.1 (whose slice may grow to gc.2) holds a row of 32 bytes. -/
def RowB (B : Nat) (w : World) (gc : Nat × Nat) (row : List Int) : Prop :=
  ∃ cur T, w.heap[gc.1]? = some (.cells cur T (0, 0)) ∧ B ≤ gc.1 ∧ 32 ≤ gc.2 ∧ gc.2 ≤ 9223372036854775807 ∧ (∀ i, i < 32 → cur[i]? = some (.int .u8 (row.getD i 0))) ∧ row.length = 32 ∧ AllByte row
theorem RowB.lt {B : Nat} {w : World} {gc : Nat × Nat} {row : List Int} (h : RowB B w gc row) : gc.1 < w.heap.size := by
  obtain ⟨cur, T, h1, _⟩ := h
  exact (Array.getElem?_eq_some_iff.1 h1).1
theorem RowB.same {B : Nat} {w w' : World} {gc : Nat × Nat} {row : List Int} (h : RowB B w gc row) (e : w'.heap[gc.1]? = w.heap[gc.1]?) : RowB B w' gc row := by
  obtain ⟨cur, T, h1, h2⟩ := h
  exact ⟨cur, T, e.trans h1, h2⟩
theorem RowB.mono {B B' : Nat} {w : World} {gc : Nat × Nat} {row : List Int} (h : RowB B w gc row) (hb : B' ≤ B) : RowB B' w gc row := by
  obtain ⟨cur, T, h1, h2, h3⟩ := h
  exact ⟨cur, T, h1, Nat.le_trans hb h2, h3⟩
theorem RowB.cell {B : Nat} {w : World} {gc : Nat × Nat} {row : List Int} (h : RowB B w gc row) {i : Nat} (hi : i < 32) : w.cell? ⟨gc.1, i, none⟩ = some (.int .u8 (row.getD i 0)) ∧ w.frozen? ⟨gc.1, i, none⟩ = false := by
  obtain ⟨cur, T, h1, h2, h3, h4, h5, _⟩ := h
  exact ⟨by rw [blk_cell h1]; exact h5 i hi, blk_free h1 i⟩
theorem RowB.rd {B : Nat} {w : World} {gc : Nat × Nat} {row : List Int} (h : RowB B w gc row) : Rd w (some ⟨gc.1, 0, none⟩) 32 gc.2 (iv .u8 row) := by
  obtain ⟨cur, T, h1, h2, h3, h4, h5, h6, h7⟩ := h
  refine rd_block h1 32 gc.2 _ 0 h3 h4 fun j hj => ?_
  have hj' : j < row.length := by simpa using hj
  rw [Nat.zero_add, h5 j (by omega), iv_at, List.getD_eq_getElem?_getD, List.getElem?_eq_getElem hj']
  rfl
theorem RowB.set {B : Nat} {w : World} {gc : Nat × Nat} {row : List Int} (h : RowB B w gc row) {i : Nat} (hi : i < 32) {x : Int} (hx : 0 ≤ x ∧ x ≤ 255) : RowB B (w.setCell ⟨gc.1, i, none⟩ (.int .u8 x)) gc (row.set i x) := by
  obtain ⟨cur, T, h1, h2, h3, h4, h5, h6, h7⟩ := h
  refine ⟨_, T, blk_set h1 i _, h2, h3, h4, fun j hj => ?_, by simpa using h6, fun y hy => ?_⟩
  · have hsz : i < cur.size := (Array.getElem?_eq_some_iff.1 (h5 i hi)).1
    rw [List.getD_eq_getElem?_getD, List.getElem?_set]
    by_cases e : i = j
    · subst e
      rw [if_pos rfl, if_pos (by omega)]
      simp [hsz]
    · rw [if_neg e, Array.getElem?_setIfInBounds_ne e, h5 j hj, List.getD_eq_getElem?_getD]
  · rcases List.mem_or_eq_of_mem_set hy with h | rfl
    · exact h7 y h
    · exact hx
/-- '.slice (some g) n c' is an image of the call's own: rows D, in the blocks gs. -/
structure Wr (B : Nat) (w : World) (g n c : Nat) (D : List (List Int)) (gs : List (Nat × Nat)) : Prop where
  len : D.length = n
  glen : gs.length = n
  le : n ≤ c
  cap : c ≤ 9223372036854775807
  low : B ≤ g
  arr : ∃ cur T, w.heap[g]? = some (.cells cur T (0, 0)) ∧ cur.size = c ∧ ∀ j (h : j < gs.length), cur[j]? = some (.slice (some ⟨(gs[j]'h).1, 0, none⟩) 32 (gs[j]'h).2)
  row : ∀ j (h : j < gs.length), RowB B w (gs[j]'h) (nth D j)
  nd : (gs.map (·.1)).Nodup
  ne : g ∉ gs.map (·.1)
section
variable {B : Nat} {w w' : World} {g n c : Nat} {D : List (List Int)} {gs : List (Nat × Nat)}
theorem Wr.lt (h : Wr B w g n c D gs) : g < w.heap.size := by
  obtain ⟨cur, T, h1, _⟩ := h.arr
  exact (Array.getElem?_eq_some_iff.1 h1).1
theorem Wr.same (h : Wr B w g n c D gs) (hg : w'.heap[g]? = w.heap[g]?) (hr : ∀ b, b ∈ gs.map (·.1) → w'.heap[b]? = w.heap[b]?) : Wr B w' g n c D gs := by
  obtain ⟨cur, T, h1, h2⟩ := h.arr
  exact ⟨h.len, h.glen, h.le, h.cap, h.low, ⟨cur, T, hg.trans h1, h2⟩, fun j hj => (h.row j hj).same (hr _ (List.mem_map.2 ⟨_, List.getElem_mem hj, rfl⟩)), h.nd, h.ne⟩
theorem Wr.mem_lt (h : Wr B w g n c D gs) {b : Nat} (hb : b ∈ gs.map (·.1)) : b < w.heap.size ∧ B ≤ b := by
  obtain ⟨x, hx, rfl⟩ := List.mem_map.1 hb
  obtain ⟨j, hj, rfl⟩ := List.mem_iff_getElem.1 hx
  have h1 := h.row j hj
  have h2 := h1.lt
  obtain ⟨cur, T, _, h3, _⟩ := h1
  exact ⟨h2, h3⟩
theorem Wr.below (h : Wr B w g n c D gs) (hb : Below w.heap.size w w') : Wr B w' g n c D gs :=
  h.same (hb.block g h.lt) fun b hb' => hb.block b (h.mem_lt hb').1
theorem Wr.fr {S : Nat → Prop} (h : Wr B w g n c D gs) (hf : Fr S w w') (hS : ∀ b, S b → b < B) : Wr B w' g n c D gs :=
  h.same (hf.block g h.lt fun hs => by have := hS g hs; have := h.low; omega) fun b hb' => hf.block b (h.mem_lt hb').1 fun hs => by have := hS b hs; have := (h.mem_lt hb').2; omega
theorem Wr.mono {B' : Nat} (h : Wr B w g n c D gs) (hb : B' ≤ B) : Wr B' w g n c D gs :=
  ⟨h.len, h.glen, h.le, h.cap, Nat.le_trans hb h.low, h.arr, fun j hj => (h.row j hj).mono hb, h.nd, h.ne⟩
/-- Its cells. -/
theorem Wr.cell (h : Wr B w g n c D gs) {j : Nat} (hj : j < gs.length) : w.cell? ⟨g, j, none⟩ = some (.slice (some ⟨(gs[j]'hj).1, 0, none⟩) 32 (gs[j]'hj).2) ∧ w.frozen? ⟨g, j, none⟩ = false := by
  obtain ⟨cur, T, h1, h2, h3⟩ := h.arr
  exact ⟨by rw [blk_cell h1]; exact h3 j hj, blk_free h1 j⟩
theorem Wr.bp (h : Wr B w g n c D gs) : Bp w (some ⟨g, 0, none⟩) n c D := by
  obtain ⟨cur, T, h1, h2, h3⟩ := h.arr
  refine ⟨gs.map fun x => (some ⟨x.1, 0, none⟩, 32, x.2), h.len, by simpa using h.glen, rd_block h1 n c _ 0 h.le h.cap fun j hj => ?_, fun j hj => ?_⟩
  · have hj' : j < gs.length := by simpa using hj
    rw [Nat.zero_add, h3 j hj']
    simp [sv]
  · have hj' : j < gs.length := by simpa using hj
    have h4 := h.row j hj'
    have h5 := h4.rd
    obtain ⟨_, _, _, _, _, _, _, h6, h7⟩ := h4
    simp only [List.getElem_map]
    exact ⟨h6, h5, h7⟩
/-- A byte is stored. -/
theorem Wr.store (h : Wr B w g n c D gs) {j i : Nat} (hj : j < gs.length) (hi : i < 32) {x : Int} (hx : 0 ≤ x ∧ x ≤ 255) : Wr B (w.setCell ⟨(gs[j]'hj).1, i, none⟩ (.int .u8 x)) g n c (D.set j ((nth D j).set i x)) gs := by
  have hm : (gs[j]'hj).1 ∈ gs.map (·.1) := List.mem_map.2 ⟨_, List.getElem_mem hj, rfl⟩
  have hgj : g ≠ (gs[j]'hj).1 := fun e => h.ne (e ▸ hm)
  have hDj : j < D.length := by have := h.len; have := h.glen; omega
  obtain ⟨cur, T, h1, h2, h3⟩ := h.arr
  refine ⟨by simpa using h.len, h.glen, h.le, h.cap, h.low, ⟨cur, T, (Below.heap_setCell _ _ _ _ hgj).trans h1, h2, h3⟩, fun q hq => ?_, h.nd, h.ne⟩
  by_cases e : j = q
  · subst e
    have e1 : nth (D.set j ((nth D j).set i x)) j = (nth D j).set i x := by simp [nth, List.getD_eq_getElem?_getD, hDj]
    rw [e1]
    exact (h.row j hj).set hi hx
  · have e1 : nth (D.set j ((nth D j).set i x)) q = nth D q := by simp [nth, List.getD_eq_getElem?_getD, List.getElem?_set_ne e]
    rw [e1]
    refine (h.row q hq).same (Below.heap_setCell _ _ _ _ fun e2 => e ?_)
    have hn := h.nd
    rw [List.nodup_iff_pairwise_ne, List.pairwise_map, List.pairwise_iff_getElem] at hn
    rcases Nat.lt_trichotomy j q with hlt | rfl | hgt
    · exact absurd e2.symm (hn j q hj hq hlt)
    · rfl
    · exact absurd e2 (hn q j hq hj hgt)
/-- A row is put in the place of another one. -/
theorem Wr.replace (h : Wr B w g n c D gs) {j : Nat} (hj : j < gs.length) {gc : Nat × Nat} {row : List Int} (hr : RowB B w gc row) (hg : gc.1 ≠ g) (hn : gc.1 ∉ gs.map (·.1)) :
    Wr B (w.setCell ⟨g, j, none⟩ (.slice (some ⟨gc.1, 0, none⟩) 32 gc.2)) g n c (D.set j row) (gs.set j gc) := by
  have hDj : j < D.length := by have := h.len; have := h.glen; omega
  obtain ⟨cur, T, h1, h2, h3⟩ := h.arr
  have hjc : j < cur.size := (Array.getElem?_eq_some_iff.1 (h3 j hj)).1
  refine ⟨by simpa using h.len, by simpa using h.glen, h.le, h.cap, h.low, ⟨_, T, blk_set h1 j _, by simpa using h2, fun q hq => ?_⟩, fun q hq => ?_, ?_, ?_⟩
  · have hq' : q < gs.length := by simpa using hq
    by_cases e : j = q
    · subst e
      simp [hjc]
    · rw [Array.getElem?_setIfInBounds_ne e, h3 q hq']
      simp only [List.getElem_set_ne e]
  · have hq' : q < gs.length := by simpa using hq
    by_cases e : j = q
    · subst e
      have e1 : nth (D.set j row) j = row := by simp [nth, List.getD_eq_getElem?_getD, hDj]
      rw [e1]
      simp only [List.getElem_set_self]
      exact hr.same (Below.heap_setCell _ _ _ _ hg)
    · have e1 : nth (D.set j row) q = nth D q := by simp [nth, List.getD_eq_getElem?_getD, List.getElem?_set_ne e]
      rw [e1]
      simp only [List.getElem_set_ne e]
      refine (h.row q hq').same (Below.heap_setCell _ _ _ _ fun e2 => h.ne ?_)
      have e3 : (gs[q]'hq').1 = g := e2
      rw [← e3]
      exact List.mem_map.2 ⟨_, List.getElem_mem hq', rfl⟩
  · rw [List.map_set]
    have hnd := h.nd
    have hlen : j < (gs.map (·.1)).length := by simpa using hj
    rw [List.nodup_iff_pairwise_ne, List.pairwise_iff_getElem] at hnd ⊢
    intro a b ha hb hab
    have ha' : a < (gs.map (·.1)).length := by simpa using ha
    have hb' : b < (gs.map (·.1)).length := by simpa using hb
    rw [List.getElem_set, List.getElem_set]
    split
    · split
      · omega
      · exact fun e => hn (e ▸ List.getElem_mem hb')
    · split
      · exact fun e => hn (e ▸ List.getElem_mem ha')
      · exact hnd a b ha' hb' hab
  · rw [List.map_set]
    intro hm
    rcases List.mem_or_eq_of_mem_set hm with h5 | h5
    · exact h.ne h5
    · exact hg h5.symm
/-- One more row, where there is room for it. -/
theorem Wr.push (h : Wr B w g n c D gs) (hc : n < c) {gc : Nat × Nat} {row : List Int} (hr : RowB B w gc row) (hg : gc.1 ≠ g) (hn : gc.1 ∉ gs.map (·.1)) :
    Wr B (w.setCell ⟨g, n, none⟩ (.slice (some ⟨gc.1, 0, none⟩) 32 gc.2)) g (n + 1) c (D ++ [row]) (gs ++ [gc]) := by
  obtain ⟨cur, T, h1, h2, h3⟩ := h.arr
  have hl := h.len
  have hgl := h.glen
  refine ⟨by simp [hl], by simp [hgl], hc, h.cap, h.low, ⟨_, T, blk_set h1 n _, by simpa using h2, fun q hq => ?_⟩, fun q hq => ?_, ?_, ?_⟩
  · have hq' : q < n + 1 := by simpa [hgl] using hq
    by_cases e : n = q
    · subst e
      have e2 : (gs ++ [gc])[n]'hq = gc := by
        rw [List.getElem_append_right (by omega)]; simp [hgl]
      rw [e2]
      simp [h2, hc]
    · have hqg : q < gs.length := by omega
      rw [Array.getElem?_setIfInBounds_ne e, h3 q hqg]
      rw [List.getElem_append_left hqg]
  · have hq' : q < n + 1 := by simpa [hgl] using hq
    by_cases e : n = q
    · subst e
      have e2 : (gs ++ [gc])[n]'hq = gc := by
        rw [List.getElem_append_right (by omega)]; simp [hgl]
      have e1 : nth (D ++ [row]) n = row := by simp [nth, List.getD_eq_getElem?_getD, ← hl]
      rw [e1, e2]
      exact hr.same (Below.heap_setCell _ _ _ _ hg)
    · have hqg : q < gs.length := by omega
      have e1 : nth (D ++ [row]) q = nth D q := by simp [nth, List.getD_eq_getElem?_getD, List.getElem?_append_left (show q < D.length by omega)]
      rw [e1, List.getElem_append_left hqg]
      refine (h.row q hqg).same (Below.heap_setCell _ _ _ _ fun e2 => h.ne ?_)
      have e3 : (gs[q]'hqg).1 = g := e2
      rw [← e3]
      exact List.mem_map.2 ⟨_, List.getElem_mem hqg, rfl⟩
  · rw [List.map_append, List.nodup_append]
    refine ⟨h.nd, by simp, fun a ha b hb => ?_⟩
    simp only [List.map_cons, List.map_nil, List.mem_singleton] at hb
    subst hb
    exact fun e => hn (e ▸ ha)
  · rw [List.map_append]
    intro hm
    rcases List.mem_append.1 hm with h5 | h5
    · exact h.ne h5
    · simp only [List.map_cons, List.map_nil, List.mem_singleton] at h5
      exact hg h5.symm
/-- A row of the call's own. -/
theorem row_own {base cap : Nat} {A : Option Addr} {T : TypeId} {row : List Int} (h : w.ownsRow base T 1 (.slice A 32 cap) 32 (iv .u8 row)) (hx : AllByte row) : ∃ g, A = some ⟨g, 0, none⟩ ∧ RowB base w (g, cap) row := by
  rcases h.2 with ⟨h1, _⟩ | ⟨g, cap', cur, e, hb, hh, hn, hc, hs, ht⟩
  · cases h1
  · cases e
    refine ⟨g, rfl, cur, T, hh, hb, hn, by simpa [maxLen] using hc, fun i hi => ?_, by have := h.1; simpa using this, hx⟩
    have hrl : row.length = 32 := by have := h.1; simpa using this
    have h3 : (cur.toList.take (32 * 1))[i]? = (iv .u8 row)[i]? := by rw [ht]
    rw [Nat.mul_one, List.getElem?_take_of_lt hi] at h3
    rw [← Array.getElem?_toList, h3, List.getElem?_eq_getElem (by simp; omega), iv_at, List.getD_eq_getElem?_getD, List.getElem?_eq_getElem (by omega)]
    rfl
end
end Go.Sel.Bg
