/- For the rows of laws over blocks: slices of bytes that came in, within the form's reach. -/
import Derived.Test.YtpicagcapgjiaaaMerA
import Derived.Test.YtpicagcapgjiaaaMb1
import Derived.SizedLaws
set_option linter.unusedSimpArgs false
set_option linter.unusedVariables false
namespace Go.Proofs.Ytpicagcapgjiaaa
open Go.ChangeShapes Go.WideShapes Go.ChangeAt Go.RowKit Go.Sel Go.Sel.Gra Go.Sel.Mer

theorem weights_all {H : Type} {P : Program} {e : TypeId} : ∀ {l : List (DataW H)} {d : DataW H}, d ∈ l → ∀ n ∈ d.weights P e, n ∈ DataW.weightsAll P e l
  | d' :: r, d, hd, n, hn => by
    simp only [DataW.weightsAll, List.mem_append]
    rcases List.mem_cons.1 hd with rfl | h
    · exact Or.inl hn
    · exact Or.inr (weights_all h n hn)
section
variable {H : Type} {enc : TypeId × Value → H} {P : Program} {w : World} {base : Nat} {spare : Nat → Bool} {held : Bool}
/-- A slice of one-cell elements that came in, with what they weigh. -/
theorem read_rowsW {t e : TypeId} {fuel : Nat} {v : Value} {x : DataW H × List MemPlace} (ht : P.underlying t = some (.slice e)) (hc : P.cellsOf e = 1)
    (h : DataW.trod enc P w base spare held fuel t [v] = some x) (R : Nat) (hw : ∀ m ∈ x.1.weights P t, m ≤ R) : ∃ (A : Option Addr) (n c : Nat) (vs : List Value), v = .slice A n c ∧ vs.length = n ∧ Rd w A n c vs ∧ ∀ u ∈ vs, ∃ fuel y, DataW.trod enc P w base spare held fuel e [u] = some y ∧ ∀ m ∈ y.1.weights P e, m ≤ R := by
  rcases DataW.trod_slice ht h with ⟨hcs, _⟩ | ⟨a, len, cap, elems, rest, n, _, hcs, hx, hb, hl, hm, hlen, hel, _, _⟩
  · obtain rfl : v = .slice none 0 0 := by simpa using hcs
    exact ⟨none, 0, 0, [], rfl, rfl, Rd.nil (by omega), fun u h => by cases h⟩
  · obtain rfl : v = .slice (some a) len cap := by simpa using hcs
    have each : ∀ i, i < len → ∃ u, w.cell? (a.add i) = some u ∧ ∃ y, DataW.trod enc P w base spare held n e [u] = some y ∧ ∀ m ∈ y.1.weights P e, m ≤ R := by
      intro i hi
      have h1 := hel i hi
      rw [hc, Nat.mul_one, List.getElem?_eq_getElem (by omega)] at h1
      obtain ⟨us, h2, h3⟩ := Option.bind_eq_some_iff.1 h1
      have h4 := World.cells?_some h2
      match us, h4.2.1 with
      | [u], _ =>
        have h5 := h4.2.2 0 (by omega)
        refine ⟨u, by simpa [Addr.add] using h5, _, h3, fun m hm' => hw m ?_⟩
        subst hx
        simp only [DataW.weights, ht, List.mem_cons, List.mem_append]
        refine .inr (.inl (weights_all (d := elems[i].1) ?_ m hm'))
        exact List.mem_map.2 ⟨elems[i], List.getElem_mem _, rfl⟩
    have hf : ∃ f : Nat → Value, ∀ i, i < len → w.cell? (a.add i) = some (f i) ∧ ∃ y, DataW.trod enc P w base spare held n e [f i] = some y ∧ ∀ m ∈ y.1.weights P e, m ≤ R := by
      refine ⟨fun i => if hi : i < len then Classical.choose (each i hi) else undef, fun i hi => ?_⟩
      simp only [hi, dif_pos]
      exact Classical.choose_spec (each i hi)
    obtain ⟨f, hf⟩ := hf
    refine ⟨some a, len, cap, (List.range len).map f, rfl, by simp, rd_of_cells hl (by simpa [maxLen] using hm) fun j hj => ?_, fun u hu => ?_⟩
    · have hj' : j < len := by simpa using hj
      rw [(hf j hj').1]; simp
    · obtain ⟨i, hi, rfl⟩ := List.mem_map.1 hu
      exact ⟨n, (hf i (List.mem_range.1 hi)).2⟩
theorem row_weight {t e : TypeId} {fuel : Nat} {A : Option Addr} {n c : Nat} {x : DataW H × List MemPlace} (ht : P.underlying t = some (.slice e)) (hb : 0 < P.bytesOf e)
    (h : DataW.trod enc P w base spare held fuel t [.slice A n c] = some x) {R : Nat} (hw : ∀ m ∈ x.1.weights P t, m ≤ R) : n ≤ R := by
  rcases DataW.trod_slice ht h with ⟨hcs, _⟩ | ⟨a, len, cap, elems, rest, n', _, hcs, hx, _, hl, hm, hlen, hel, _, _⟩
  · simp at hcs; omega
  · have e3 : n = len := by simp at hcs; omega
    subst e3
    have h1 := hw ((elems.length + rest.length) * P.bytesOf e) (by subst hx; simp [DataW.weights, ht])
    have h2 : elems.length + rest.length ≤ (elems.length + rest.length) * P.bytesOf e := Nat.le_mul_of_pos_right _ hb
    omega
theorem rowsB_of {w : World} {R : Nat} : ∀ (vs : List Value), (∀ u ∈ vs, ∃ (A : Option Addr) (n c : Nat) (xs : List Int), u = .slice A n c ∧ xs.length = n ∧ Rd w A n c (iv .u8 xs) ∧ (∀ x ∈ xs, (Lit.int .u8 x).wf = true) ∧ n ≤ R) →
    ∃ (ss : List (Option Addr × Nat × Nat)) (D : List (List Int)), vs = ss.map sv ∧ ss.length = D.length ∧ ∀ j (h : j < ss.length), (nth D j).length = ss[j].2.1 ∧ Rd w ss[j].1 ss[j].2.1 ss[j].2.2 (iv .u8 (nth D j)) ∧ AllByte (nth D j) ∧ (nth D j).length ≤ R
  | [], _ => ⟨[], [], rfl, rfl, fun j h => by simp at h⟩
  | u :: vs, h => by
    obtain ⟨A, n, c, xs, rfl, h1, h2, h3, h7⟩ := h u (by simp)
    obtain ⟨ss, D, rfl, h4, h6⟩ := rowsB_of vs fun u hu => h u (by simp [hu])
    refine ⟨(A, n, c) :: ss, xs :: D, rfl, by simp [h4], ?_⟩
    intro j hj
    cases j with
    | zero => exact ⟨by simpa [nth] using h1, by simpa [nth] using h2, fun x hx => u8_bounds (h3 x (by simpa [nth] using hx)), by rw [show nth (xs :: D) 0 = xs from rfl, h1]; exact h7⟩
    | succ j => exact h6 j (by simpa using hj)
set_option maxRecDepth 100000 in
theorem read_blocksZ {fuel : Nat} {v : Value} {x : DataW H × List MemPlace} (h : DataW.trod enc Try.prog w base spare held fuel 52 [v] = some x) (hw : ∀ m ∈ x.1.weights Try.prog 52, m ≤ 140737488351232) :
    ∃ (A : Option Addr) (n c : Nat) (D : List (List Int)), v = .slice A n c ∧ Bp w A n c D ∧ ∀ i, i < n → (nth D i).length ≤ 140737488351232 := by
  obtain ⟨A, n, c, vs, rfl, hl, hr, hu⟩ := read_rowsW Try.underlying52 (by kernel_rfl) h _ hw
  obtain ⟨ss, D, rfl, h4, h6⟩ := rowsB_of (R := 140737488351232) vs fun u hu' => by
    obtain ⟨fuel, y, hy, hwy⟩ := hu u hu'
    obtain ⟨A', n', c', xs, e1, e2, e3, e4⟩ := read_ints Try.underlying77 Try.underlying5 (by kernel_rfl) hy
    subst e1
    exact ⟨A', n', c', xs, rfl, e2, e3, e4, row_weight Try.underlying77 (by rw [show Program.bytesOf Try.prog 5 = 1 by kernel_rfl]; decide) hy hwy⟩
  have hl' : ss.length = n := by simpa using hl
  exact ⟨A, n, c, D, rfl, ⟨ss, by omega, hl', hr, fun j hj => ⟨(h6 j hj).1, (h6 j hj).2.1, (h6 j hj).2.2.1⟩⟩, fun i hi => (h6 i (by omega)).2.2.2⟩
end
end Go.Proofs.Ytpicagcapgjiaaa
