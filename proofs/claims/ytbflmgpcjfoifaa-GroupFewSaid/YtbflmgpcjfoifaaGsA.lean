/- For the rows of group's laws: deeds that came in. -/
import Derived.Test.YtbflmgpcjfoifaaRows
import Derived.Test.YtbflmgpcjfoifaaGr2
import Derived.Test.YtbflmgpcjfoifaaSel6
import Derived.Test.YtbflmgpcjfoifaaFrame
import Derived.Laws.IdiomArrays
import Derived.Deep.Strs
set_option linter.unusedSimpArgs false
set_option linter.unusedVariables false
namespace Go.Proofs.Ytbflmgpcjfoifaa
open Go.ChangeShapes Go.WideShapes Go.ChangeAt Go.RowKit Go.Sel Go.Sel.Gp

theorem own : ownKnob Try.prog.godebug = none := by kernel_rfl
theorem laidOut : laidOutB Try.prog = true := by kernel_rfl
theorem int_bounds {x : Int} (w : (Lit.int .i64 x).wf = true) : -9223372036854775808 ≤ x ∧ x ≤ 9223372036854775807 := i64_bounds w
theorem u8_bounds {x : Int} (w : (Lit.int .u8 x).wf = true) : 0 ≤ x ∧ x ≤ 255 := by simpa [Lit.wf, IntKind.min, IntKind.max, IntKind.signed, IntKind.bits] using w
section
variable {H : Type} {enc : TypeId × Value → H} {w : World} {base : Nat} {spare : Nat → Bool} {held : Bool}
set_option maxRecDepth 100000 in
theorem read_deed {fuel : Nat} {us : List Value} {x : DataW H × List MemPlace} (h : DataW.trod enc Try.prog w base spare held fuel 36 us = some x) :
    ∃ d : D3, us = [.int .i64 d.k, .int .i64 d.n, .int .i64 d.m] ∧ d.m ≤ 9223372036854775807 := by
  obtain ⟨xs, n, _, rfl, hl, hlen, hf⟩ := DataW.trod_struct Try.underlying36 h
  rw [show Program.cellsOf Try.prog 36 = 3 by kernel_rfl] at hl
  have h0 := hf 0 _ rfl
  have h1 := hf 1 _ rfl
  have h2 := hf 2 _ rfl
  match us, hl with
  | [v0, v1, v2], _ =>
    have g0 : DataW.trod enc Try.prog w base spare held n 3 [v0] = xs[0]? := h0
    have g1 : DataW.trod enc Try.prog w base spare held n 3 [v1] = xs[1]? := h1
    have g2 : DataW.trod enc Try.prog w base spare held n 3 [v2] = xs[2]? := h2
    match xs, hlen with
    | [y0, y1, y2], _ =>
      obtain ⟨b, k0, _, _⟩ := DataW.trod_int Try.underlying3 g0
      obtain ⟨o, k1, _, _⟩ := DataW.trod_int Try.underlying3 g1
      obtain ⟨s, k2, _, w2⟩ := DataW.trod_int Try.underlying3 g2
      obtain rfl : v0 = .int .i64 b := by simpa using k0
      obtain rfl : v1 = .int .i64 o := by simpa using k1
      obtain rfl : v2 = .int .i64 s := by simpa using k2
      exact ⟨⟨b, o, s⟩, rfl, (i64_bounds w2).2⟩
theorem deeds_of : ∀ (vss : List (List Value)), (∀ us ∈ vss, ∃ d : D3, us = [.int .i64 d.k, .int .i64 d.n, .int .i64 d.m] ∧ d.m ≤ 9223372036854775807) → ∃ L : List D3, L.length = vss.length ∧ vss.flatten = dvs L ∧ ∀ d ∈ L, d.m ≤ 9223372036854775807
  | [], _ => ⟨[], rfl, rfl, by simp⟩
  | us :: vss, h => by
    obtain ⟨d, rfl, hd⟩ := h us (by simp)
    obtain ⟨L, h1, h2, h3⟩ := deeds_of vss fun u hu => h u (by simp [hu])
    refine ⟨d :: L, by simp [h1], by simp [dvs, h2], fun x hx => ?_⟩
    rcases List.mem_cons.1 hx with rfl | hx
    · exact hd
    · exact h3 x hx
set_option maxRecDepth 100000 in
theorem read_deeds {fuel : Nat} {v : Value} {x : DataW H × List MemPlace} (h : DataW.trod enc Try.prog w base spare held fuel 22 [v] = some x) :
    ∃ (A : Option Addr) (n c : Nat) (L : List D3), v = .slice A n c ∧ Dd w A n c L := by
  obtain ⟨A, n, c, vss, rfl, hl, hu, hr⟩ := read_elems Try.underlying22 (by kernel_rfl : Program.cellsOf Try.prog 36 = 3) (by decide) h
  obtain ⟨L, h1, h2, h3⟩ := deeds_of vss fun us hus => by
    obtain ⟨_, fuel, y, hy⟩ := hu us hus
    exact read_deed hy
  exact ⟨A, n, c, L, rfl, by omega, by rw [← h2]; exact hr, h3⟩
end
end Go.Proofs.Ytbflmgpcjfoifaa
