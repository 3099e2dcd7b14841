/- For the rows of merge's laws: items, patches, blocks that came in. -/
import Derived.Test.YtpicagcapgjiaaaRows
import Derived.Test.YtpicagcapgjiaaaSel6
import Derived.Test.YtpicagcapgjiaaaMerP
import Derived.Laws.IdiomArrays
import Derived.Deep.Strs
set_option linter.unusedSimpArgs false
set_option linter.unusedVariables false
namespace Go.Proofs.Ytpicagcapgjiaaa
open Go.ChangeShapes Go.WideShapes Go.ChangeAt Go.RowKit Go.Sel Go.Sel.Gra Go.Sel.Mer

theorem own : ownKnob Try.prog.godebug = none := by kernel_rfl
theorem laidOut : laidOutB Try.prog = true := by kernel_rfl
theorem int_bounds {x : Int} (w : (Lit.int .i64 x).wf = true) : -9223372036854775808 ≤ x ∧ x ≤ 9223372036854775807 := i64_bounds w
theorem u8_bounds {x : Int} (w : (Lit.int .u8 x).wf = true) : 0 ≤ x ∧ x ≤ 255 := by simpa [Lit.wf, IntKind.min, IntKind.max, IntKind.signed, IntKind.bits] using w
theorem items_of {w : World} : ∀ (vss : List (List Value)), (∀ us ∈ vss, ∃ x A n c, us = itv x (A, n, c) ∧ x.ds.length = n ∧ Rd w A n c (iv .i64 x.ds)) →
    ∃ (L : List It) (ss : List (Option Addr × Nat × Nat)), vss = (L.zip ss).map (fun p => itv p.1 p.2) ∧ L.length = vss.length ∧ ss.length = vss.length ∧ ∀ j (h : j < ss.length), (nthI L j).ds.length = ss[j].2.1 ∧ Rd w ss[j].1 ss[j].2.1 ss[j].2.2 (iv .i64 (nthI L j).ds)
  | [], _ => ⟨[], [], rfl, rfl, rfl, fun j h => by simp at h⟩
  | us :: vss, h => by
    obtain ⟨x, A, n, c, rfl, h1, h2⟩ := h us (by simp)
    obtain ⟨L, ss, rfl, h3, h4, h5⟩ := items_of vss fun u hu => h u (by simp [hu])
    refine ⟨x :: L, (A, n, c) :: ss, rfl, by simpa using h3, by simpa using h4, fun j hj => ?_⟩
    cases j with
    | zero => exact ⟨by simpa [nthI] using h1, by simpa [nthI] using h2⟩
    | succ j => exact h5 j (by simpa using hj)
section
variable {H : Type} {enc : TypeId × Value → H} {w : World} {base : Nat} {spare : Nat → Bool} {held : Bool}
set_option maxRecDepth 100000 in
theorem read_patch {fuel : Nat} {us : List Value} {x : DataW H × List MemPlace} (h : DataW.trod enc Try.prog w base spare held fuel 42 us = some x) :
    ∃ (b o : Int) (s : ByteArray), us = [.int .i64 b, .int .i64 o, .string s] := by
  obtain ⟨xs, n, _, rfl, hl, hlen, hf⟩ := DataW.trod_struct Try.underlying42 h
  rw [show Program.cellsOf Try.prog 42 = 3 by kernel_rfl] at hl
  have h0 := hf 0 _ rfl
  have h1 := hf 1 _ rfl
  have h2 := hf 2 _ rfl
  match us, hl with
  | [v0, v1, v2], _ =>
    have g0 : DataW.trod enc Try.prog w base spare held n 3 [v0] = xs[0]? := h0
    have g1 : DataW.trod enc Try.prog w base spare held n 3 [v1] = xs[1]? := h1
    have g2 : DataW.trod enc Try.prog w base spare held n 9 [v2] = xs[2]? := h2
    match xs, hlen with
    | [y0, y1, y2], _ =>
      obtain ⟨b, k0, _, _⟩ := DataW.trod_int Try.underlying3 g0
      obtain ⟨o, k1, _, _⟩ := DataW.trod_int Try.underlying3 g1
      obtain ⟨s, k2, _, _⟩ := DataW.trod_string Try.underlying9 g2
      obtain rfl : v0 = .int .i64 b := by simpa using k0
      obtain rfl : v1 = .int .i64 o := by simpa using k1
      obtain rfl : v2 = .string s := by simpa using k2
      exact ⟨b, o, s, rfl⟩
set_option maxRecDepth 100000 in
theorem read_item {fuel : Nat} {us : List Value} {x : DataW H × List MemPlace} (h : DataW.trod enc Try.prog w base spare held fuel 44 us = some x) :
    ∃ x A n c, us = itv x (A, n, c) ∧ x.ds.length = n ∧ Rd w A n c (iv .i64 x.ds) := by
  obtain ⟨xs, n, _, rfl, hl, hlen, hf⟩ := DataW.trod_struct Try.underlying44 h
  rw [show Program.cellsOf Try.prog 44 = 4 by kernel_rfl] at hl
  have h0 := hf 0 _ rfl
  have h1 := hf 1 _ rfl
  match us, hl with
  | [v0, v1, v2, v3], _ =>
    have g0 : DataW.trod enc Try.prog w base spare held n 42 [v0, v1, v2] = xs[0]? := h0
    have g1 : DataW.trod enc Try.prog w base spare held n 23 [v3] = xs[1]? := h1
    match xs, hlen with
    | [y0, y1], _ =>
      obtain ⟨b, o, s, k0⟩ := read_patch g0
      obtain ⟨A, m, c, ds, rfl, l1, r1, _⟩ := read_ints Try.underlying23 Try.underlying3 (by kernel_rfl) g1
      injection k0 with e0 k0; injection k0 with e1 k0; injection k0 with e2 _
      subst e0 e1 e2
      exact ⟨⟨b, o, s, ds⟩, A, m, c, rfl, l1, r1⟩
set_option maxRecDepth 100000 in
theorem read_items {fuel : Nat} {v : Value} {x : DataW H × List MemPlace} (h : DataW.trod enc Try.prog w base spare held fuel 33 [v] = some x) :
    ∃ (A : Option Addr) (n c : Nat) (L : List It), v = .slice A n c ∧ Ip w A n c L := by
  obtain ⟨A, n, c, vss, rfl, hl, hu, hr⟩ := read_elems Try.underlying33 (by kernel_rfl : Program.cellsOf Try.prog 44 = 4) (by decide) h
  obtain ⟨L, ss, rfl, h3, h4, h5⟩ := items_of vss fun us hus => by
    obtain ⟨_, fuel, y, hy⟩ := hu us hus
    exact read_item hy
  exact ⟨A, n, c, L, rfl, ss, h3.trans hl, h4.trans hl, hr, h5⟩
end
end Go.Proofs.Ytpicagcapgjiaaa
