/- For the rows of big's laws: puts and files that came in. -/
import Derived.Test.YtcgfoaihfncppaaRows
import Derived.Test.YtcgfoaihfncppaaBg8
import Derived.Test.YtcgfoaihfncppaaSel6
import Derived.Test.YtcgfoaihfncppaaFrame
import Derived.Laws.IdiomArrays
import Derived.Deep.Strs
set_option linter.unusedSimpArgs false
set_option linter.unusedVariables false
namespace Go.Proofs.Ytcgfoaihfncppaa
open Go.ChangeShapes Go.WideShapes Go.ChangeAt Go.RowKit Go.Sel

theorem own : ownKnob Try.prog.godebug = none := by kernel_rfl
theorem laidOut : laidOutB Try.prog = true := by kernel_rfl
theorem int_bounds {x : Int} (w : (Lit.int .i64 x).wf = true) : -9223372036854775808 ≤ x ∧ x ≤ 9223372036854775807 := i64_bounds w
theorem u8_bounds {x : Int} (w : (Lit.int .u8 x).wf = true) : 0 ≤ x ∧ x ≤ 255 := by simpa [Lit.wf, IntKind.min, IntKind.max, IntKind.signed, IntKind.bits] using w
theorem u16_bounds {x : Int} (w : (Lit.int .u16 x).wf = true) : 0 ≤ x ∧ x ≤ 65535 := by simpa [Lit.wf, IntKind.min, IntKind.max, IntKind.signed, IntKind.bits] using w
/-- A put that came in. -/
structure Pu where
  p : Int
  b : Int
def Pu.ok (d : Pu) : Prop := (0 ≤ d.p ∧ d.p ≤ 65535) ∧ 0 ≤ d.b ∧ d.b ≤ 255
def pus (L : List Pu) : List Value := L.flatMap fun d => [.int .u16 d.p, .int .u8 d.b]
/-- '.slice A n c' reads as the puts L. -/
structure Pd (w : World) (A : Option Addr) (n c : Nat) (L : List Pu) : Prop where
  len : L.length = n
  rd : Rd w A n c (pus L)
  ok : ∀ d ∈ L, d.ok
section
variable {H : Type} {enc : TypeId × Value → H} {w : World} {base : Nat} {spare : Nat → Bool} {held : Bool}
set_option maxRecDepth 100000 in
theorem read_put {fuel : Nat} {us : List Value} {x : DataW H × List MemPlace} (h : DataW.trod enc Try.prog w base spare held fuel 32 us = some x) :
    ∃ d : Pu, us = [.int .u16 d.p, .int .u8 d.b] ∧ d.ok := by
  obtain ⟨xs, n, _, rfl, hl, hlen, hf⟩ := DataW.trod_struct Try.underlying32 h
  rw [show Program.cellsOf Try.prog 32 = 2 by kernel_rfl] at hl
  have h0 := hf 0 _ rfl
  have h1 := hf 1 _ rfl
  match us, hl with
  | [v0, v1], _ =>
    have g0 : DataW.trod enc Try.prog w base spare held n 22 [v0] = xs[0]? := h0
    have g1 : DataW.trod enc Try.prog w base spare held n 5 [v1] = xs[1]? := h1
    match xs, hlen with
    | [y0, y1], _ =>
      obtain ⟨b, k0, _, w0⟩ := DataW.trod_int Try.underlying22 g0
      obtain ⟨o, k1, _, w1⟩ := DataW.trod_int Try.underlying5 g1
      obtain rfl : v0 = .int .u16 b := by simpa using k0
      obtain rfl : v1 = .int .u8 o := by simpa using k1
      exact ⟨⟨b, o⟩, rfl, u16_bounds w0, u8_bounds w1⟩
theorem puts_of : ∀ (vss : List (List Value)), (∀ us ∈ vss, ∃ d : Pu, us = [.int .u16 d.p, .int .u8 d.b] ∧ d.ok) → ∃ L : List Pu, L.length = vss.length ∧ vss.flatten = pus L ∧ ∀ d ∈ L, d.ok
  | [], _ => ⟨[], rfl, rfl, by simp⟩
  | us :: vss, h => by
    obtain ⟨d, rfl, hd⟩ := h us (by simp)
    obtain ⟨L, h1, h2, h3⟩ := puts_of vss fun u hu => h u (by simp [hu])
    refine ⟨d :: L, by simp [h1], by simp [pus, h2], fun x hx => ?_⟩
    rcases List.mem_cons.1 hx with rfl | hx
    · exact hd
    · exact h3 x hx
set_option maxRecDepth 100000 in
theorem read_puts {fuel : Nat} {v : Value} {x : DataW H × List MemPlace} (h : DataW.trod enc Try.prog w base spare held fuel 30 [v] = some x) :
    ∃ (A : Option Addr) (n c : Nat) (L : List Pu), v = .slice A n c ∧ Pd w A n c L := by
  obtain ⟨A, n, c, vss, rfl, hl, hu, hr⟩ := read_elems Try.underlying30 (by kernel_rfl : Program.cellsOf Try.prog 32 = 2) (by decide) h
  obtain ⟨L, h1, h2, h3⟩ := puts_of vss fun us hus => by
    obtain ⟨_, fuel, y, hy⟩ := hu us hus
    exact read_put hy
  exact ⟨A, n, c, L, rfl, by omega, by rw [← h2]; exact hr, h3⟩
set_option maxRecDepth 100000 in
theorem open_put {r : Reach} {b0 : Nat} {v : Value} {d : DataW H} {p : List MemPlace} (hv : Value.okWide Try.prog w r b0 32 v) (h : DataW.Trod enc Try.prog w base spare held 32 v d p) :
    ∃ x : Pu, v = .agg #[.int .u16 x.p, .int .u8 x.b] ∧ x.ok := by
  obtain ⟨u0, u1, ya, yb, fu, rfl, _, _, ga, gb⟩ := Joins.open_agg2 Try.underlying32 (by kernel_rfl) (by kernel_rfl) hv h
  obtain ⟨a0, k0, _, w0⟩ := DataW.trod_int Try.underlying22 ga
  obtain ⟨a1, k1, _, w1⟩ := DataW.trod_int Try.underlying5 gb
  obtain rfl : u0 = .int .u16 a0 := by simpa using k0
  obtain rfl : u1 = .int .u8 a1 := by simpa using k1
  exact ⟨⟨a0, a1⟩, rfl, u16_bounds w0, u8_bounds w1⟩
theorem trod_array6 {P : Program} {t e : TypeId} {fuel : Nat} {c0 c1 c2 c3 c4 c5 : Value} {x : DataW H × List MemPlace} (ht : P.underlying t = some (.array 6 e)) (hce : P.cellsOf e = 1)
    (h : DataW.trod enc P w base spare held fuel t [c0, c1, c2, c3, c4, c5] = some x) :
    ∃ y0 y1 y2 y3 y4 y5 n, DataW.trod enc P w base spare held n e [c0] = some y0 ∧ DataW.trod enc P w base spare held n e [c1] = some y1 ∧ DataW.trod enc P w base spare held n e [c2] = some y2 ∧ DataW.trod enc P w base spare held n e [c3] = some y3 ∧ DataW.trod enc P w base spare held n e [c4] = some y4 ∧ DataW.trod enc P w base spare held n e [c5] = some y5 := by
  cases fuel with
  | zero => simp [DataW.trod] at h
  | succ n =>
    unfold DataW.trod at h
    rw [ht] at h
    have r3 : List.range 6 = [0, 1, 2, 3, 4, 5] := rfl
    simp [r3, hce] at h
    obtain ⟨_, h⟩ := h
    cases h0 : DataW.trod enc P w base spare held n e [c0] with
    | none => simp [h0] at h
    | some y0 =>
      cases h1 : DataW.trod enc P w base spare held n e [c1] with
      | none => simp [h0, h1] at h
      | some y1 =>
        cases h2 : DataW.trod enc P w base spare held n e [c2] with
        | none => simp [h0, h1, h2] at h
        | some y2 =>
          cases h3 : DataW.trod enc P w base spare held n e [c3] with
          | none => simp [h0, h1, h2, h3] at h
          | some y3 =>
            cases h4 : DataW.trod enc P w base spare held n e [c4] with
            | none => simp [h0, h1, h2, h3, h4] at h
            | some y4 =>
              cases h5 : DataW.trod enc P w base spare held n e [c5] with
              | none => simp [h0, h1, h2, h3, h4, h5] at h
              | some y5 => exact ⟨y0, y1, y2, y3, y4, y5, n, h0, h1, h2, h3, h4, h5⟩
theorem array8 {cs : Array Value} (h : cs.size = 8) : ∃ a b c d e f g i, cs = #[a, b, c, d, e, f, g, i] := by
  obtain ⟨l⟩ := cs
  match l, h with
  | [a, b, c, d, e, f, g, i], _ => exact ⟨a, b, c, d, e, f, g, i, rfl⟩
set_option maxRecDepth 100000 in
theorem open_big {r : Reach} {b0 : Nat} {v : Value} {d : DataW H} {p : List MemPlace} (hv : Value.okWide Try.prog w r b0 36 v) (h : DataW.Trod enc Try.prog w base spare held 36 v d p) :
    ∃ t : List Int, v = bigV t ∧ t.length = 8 := by
  obtain ⟨cs, rfl, hsz⟩ := okWide_struct Try.underlying36 hv
  obtain ⟨c0, c1, c2, c3, c4, c5, c6, c7, rfl⟩ := array8 (hsz.trans (by kernel_rfl))
  obtain ⟨fuel, hf⟩ := h
  obtain ⟨xs, n, _, _, hl, hlen, hf⟩ := DataW.trod_struct Try.underlying36 hf
  have h0 := hf 0 _ rfl
  have h1 := hf 1 _ rfl
  have h2 := hf 2 _ rfl
  have g0 : DataW.trod enc Try.prog w base spare held n 34 [c0, c1, c2, c3, c4, c5] = xs[0]? := h0
  have g1 : DataW.trod enc Try.prog w base spare held n 3 [c6] = xs[1]? := h1
  have g2 : DataW.trod enc Try.prog w base spare held n 3 [c7] = xs[2]? := h2
  match xs, hlen with
  | [y0, y1, y2], _ =>
    obtain ⟨a6, k6, _, _⟩ := DataW.trod_int Try.underlying3 g1
    obtain ⟨a7, k7, _, _⟩ := DataW.trod_int Try.underlying3 g2
    obtain rfl : c6 = .int .i64 a6 := by simpa using k6
    obtain rfl : c7 = .int .i64 a7 := by simpa using k7
    obtain ⟨z0, z1, z2, z3, z4, z5, m, e0, e1, e2, e3, e4, e5⟩ := trod_array6 Try.underlying34 (by kernel_rfl) g0
    obtain ⟨a0, k0, _, _⟩ := DataW.trod_int Try.underlying3 e0
    obtain ⟨a1, k1, _, _⟩ := DataW.trod_int Try.underlying3 e1
    obtain ⟨a2, k2, _, _⟩ := DataW.trod_int Try.underlying3 e2
    obtain ⟨a3, k3, _, _⟩ := DataW.trod_int Try.underlying3 e3
    obtain ⟨a4, k4, _, _⟩ := DataW.trod_int Try.underlying3 e4
    obtain ⟨a5, k5, _, _⟩ := DataW.trod_int Try.underlying3 e5
    obtain rfl : c0 = .int .i64 a0 := by simpa using k0
    obtain rfl : c1 = .int .i64 a1 := by simpa using k1
    obtain rfl : c2 = .int .i64 a2 := by simpa using k2
    obtain rfl : c3 = .int .i64 a3 := by simpa using k3
    obtain rfl : c4 = .int .i64 a4 := by simpa using k4
    obtain rfl : c5 = .int .i64 a5 := by simpa using k5
    exact ⟨[a0, a1, a2, a3, a4, a5, a6, a7], rfl, rfl⟩
end
end Go.Proofs.Ytcgfoaihfncppaa
