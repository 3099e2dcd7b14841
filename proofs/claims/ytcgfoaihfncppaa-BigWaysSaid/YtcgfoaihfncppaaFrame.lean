/- What every law's row asks behind the walk, once: old memory is as it was, so the arguments read as they read. -/
import Derived.WalkKit
import Derived.ProofKit
import Derived.OpenShut
import Derived.Carry
import Derived.Lay
import Derived.Lib.SmallJoins
import Derived.Test.YtcgfoaihfncppaaSel
namespace Go.Sel
open Go.ChangeShapes Go.WideShapes Go.ChangeAt Go.RowKit

theorem trodAll_below {H : Type} {enc : TypeId × Value → H} {P : Program} (hl : laidOutB P = true) {W W' : World} (hb : Below W.heap.size W W') :
    ∀ {ts : List TypeId} {vs : List Value} {ds : List (DataW H)} {ps : List MemPlace}, (ts.all fun t => P.readableRec t && decide (t < P.types.size)) = true →
      DataW.TrodAll enc P W 0 (fun _ => true) true ts vs ds ps → (∀ x ∈ ps, x.block < W.heap.size) → DataW.TrodAll enc P W' 0 (fun b => decide (b < W.heap.size)) true ts vs ds ps
  | [], vs, ds, ps, _, h, _ => by
    obtain ⟨rfl, rfl, rfl⟩ := trodAll_nil h
    exact trodAll_mk0
  | t :: ts, vs, ds, ps, ht, h, hp => by
    obtain ⟨v, vs', d, ds', p, q, rfl, rfl, rfl, h1, h2⟩ := trodAll_cons h
    rw [List.all_cons, Bool.and_eq_true, Bool.and_eq_true, decide_eq_true_eq] at ht
    exact trodAll_cons_mk (Below.trod hl ht.1.1 ht.1.2 h1 hb fun x hx => hp x (List.mem_append_left _ hx)) (trodAll_below hl hb ht.2 h2 fun x hx => hp x (List.mem_append_right _ hx))

/-- A law's row, behind its walk. -/
theorem law_post {H : Type} {enc : TypeId × Value → H} {P : Program} (hl : laidOutB P = true) {f : Func} {s : ChangeSpec} {apart : Bool} {W W' : World} {args : Array Value} {ds gs : List (DataW H)} {before : List MemPlace}
    (hread : (f.params.toList.all fun t => P.readableRec t && decide (t < P.types.size)) = true) (hW : DataW.Whole enc P f.params.toList s.vars apart W args.toList ds gs before) (hv : s.vars = [])
    (hs : (s.fn H (ds ++ [])).vars = []) (hres : (s.fn H (ds ++ [])).results = [.lit (.bool true)]) (hargs : (s.fn H (ds ++ [])).args = ds)
    {t : TypeId} (hr : f.resultTypes = #[t]) (ht : P.underlying t = some .bool) (hb : Below W.heap.size W W') :
    s.post enc P f apart true false false W args (.bool true) W' := by
  have hlt := hW.lt
  have hW' := hW
  obtain ⟨p, q, hA, hV, rfl, hz, hn⟩ := hW
  rw [hv] at hV
  obtain ⟨rfl, rfl⟩ := trodVars_none hV
  refine ⟨ds, [], _, [], p, [], hW', ?_, ?_, ?_, hb.frame _, fun h => by cases h⟩
  · rw [hres, hr]
    exact trodAll_mk1 (shut_bool ht _)
  · rw [hargs]
    exact trodAll_below hl hb hread hA fun x hx => hlt x (List.mem_append_left _ hx)
  · rw [hv, hs]
    rfl

theorem spot_none {w : World} {a : Addr} {v : Value} (h : w.cell? a = some v) : a.spot = none := by
  unfold World.cell? at h
  split at h
  · split at h
    · cases h
    · rename_i hs
      cases hsp : a.spot with
      | none => rfl
      | some s => rw [hsp] at hs; exact absurd rfl hs
  · cases h
theorem rd_of_cells {w : World} {a : Addr} {n c : Nat} {cs : List Value} (hn : n ≤ c) (hc : c ≤ 9223372036854775807) (h : ∀ j (hj : j < cs.length), w.cell? (a.add j) = some cs[j]) : Rd w (some a) n c cs := by
  refine ⟨hn, hc, ?_⟩
  by_cases h0 : cs = []
  · exact .inl h0
  · right
    have hp : 0 < cs.length := List.length_pos_iff.2 h0
    have h1 := h 0 hp
    have hs : a.spot = none := spot_none (by simpa [Addr.add] using h1)
    refine ⟨a.block, a.off, by cases a; simp_all, fun j hj => ?_⟩
    have := h j hj
    have e : a.add j = ⟨a.block, a.off + j, none⟩ := by
      unfold Addr.add
      split
      · rename_i h2; subst h2; cases a; simp_all
      · rfl
    rwa [e] at this

section
variable {H : Type} {enc : TypeId × Value → H} {P : Program} {w : World} {base : Nat} {spare : Nat → Bool} {held : Bool}
/-- A slice of whole numbers that came in. -/
theorem read_ints {t e : TypeId} {k : IntKind} {fuel : Nat} {v : Value} {x : DataW H × List MemPlace} (ht : P.underlying t = some (.slice e)) (he : P.underlying e = some (.int k)) (hc : P.cellsOf e = 1)
    (h : DataW.trod enc P w base spare held fuel t [v] = some x) : ∃ (A : Option Addr) (n c : Nat) (xs : List Int), v = .slice A n c ∧ xs.length = n ∧ Rd w A n c (iv k xs) ∧ ∀ x ∈ xs, (Lit.int k x).wf = true := by
  rcases open_ints ht he hc h with ⟨hcs, _⟩ | ⟨a, len, cap, zs, hcs, _, hl, hm, hz, _, hcell, hwz⟩
  · obtain rfl : v = .slice none 0 0 := by simpa using hcs
    exact ⟨none, 0, 0, [], rfl, rfl, Rd.nil (by omega), by simp⟩
  · obtain rfl : v = .slice (some a) len cap := by simpa using hcs
    have hlz : len ≤ zs.length := by rw [hz]; split <;> omega
    refine ⟨some a, len, cap, zs.take len, rfl, by simp; omega, rd_of_cells hl (by simpa [maxLen] using hm) fun j hj => ?_, fun x hx => hwz x (List.mem_of_mem_take hx)⟩
    have hj' : j < len := by simp at hj; omega
    rw [hcell j (by omega), iv_at, List.getElem_take]
    simp [List.getD_eq_getElem?_getD, List.getElem?_eq_getElem (show j < zs.length by omega)]
theorem flat_get {α : Type} {c : Nat} : ∀ (vss : List (List α)), (∀ us ∈ vss, us.length = c) → ∀ i j, j < c → vss.flatten[i * c + j]? = (vss[i]?).bind (·[j]?)
  | [], _, i, j, _ => by simp
  | us :: vss, h, i, j, hj => by
    have hl : us.length = c := h us (by simp)
    cases i with
    | zero => simp [List.getElem?_append, hl, hj]
    | succ i =>
      have e : (i + 1) * c + j = us.length + (i * c + j) := by rw [hl, Nat.succ_mul]; omega
      rw [List.flatten_cons, e, List.getElem?_append_right (by omega), Nat.add_sub_cancel_left, flat_get vss (fun us hu => h us (by simp [hu])) i j hj]
      simp
theorem flat_length {α : Type} {c : Nat} : ∀ (vss : List (List α)), (∀ us ∈ vss, us.length = c) → vss.flatten.length = vss.length * c
  | [], _ => by simp
  | us :: vss, h => by
    rw [List.flatten_cons, List.length_append, flat_length vss (fun us hu => h us (by simp [hu])), h us (by simp), List.length_cons, Nat.succ_mul]
    omega
theorem add_add {a : Addr} (h : a.spot = none) (i j : Nat) : (a.add i).add j = a.add (i + j) := by
  cases a with
  | mk b o s =>
    simp only at h
    subst h
    unfold Addr.add
    by_cases hi : i = 0
    · subst hi; simp
    · by_cases hj : j = 0
      · subst hj; simp [hi]
      · simp [hi, hj, Nat.add_assoc]
/-- A slice that came in: each element's cells are read. -/
theorem read_elems {t e : TypeId} {c fuel : Nat} {v : Value} {x : DataW H × List MemPlace} (ht : P.underlying t = some (.slice e)) (hc : P.cellsOf e = c) (h0 : 0 < c)
    (h : DataW.trod enc P w base spare held fuel t [v] = some x) : ∃ (A : Option Addr) (n cap : Nat) (vss : List (List Value)), v = .slice A n cap ∧ vss.length = n ∧ (∀ us ∈ vss, us.length = c ∧ ∃ fuel y, DataW.trod enc P w base spare held fuel e us = some y) ∧ Rd w A n cap vss.flatten := by
  rcases DataW.trod_slice ht h with ⟨hcs, _⟩ | ⟨a, len, cap, elems, rest, n, _, hcs, _, hb, hl, hm, hlen, hel, _, _⟩
  · obtain rfl : v = .slice none 0 0 := by simpa using hcs
    exact ⟨none, 0, 0, [], rfl, rfl, fun us h => (by cases h), Rd.nil (by omega)⟩
  · obtain rfl : v = .slice (some a) len cap := by simpa using hcs
    have each : ∀ i, i < len → ∃ us, us.length = c ∧ (∀ j, j < c → w.cell? ((a.add (i * c)).add j) = us[j]?) ∧ ∃ y, DataW.trod enc P w base spare held n e us = some y := by
      intro i hi
      have h1 := hel i hi
      rw [hc, List.getElem?_eq_getElem (by omega)] at h1
      obtain ⟨us, h2, h3⟩ := Option.bind_eq_some_iff.1 h1
      have h4 := World.cells?_some h2
      exact ⟨us, h4.2.1, h4.2.2, _, h3⟩
    have hf : ∃ f : Nat → List Value, ∀ i, i < len → (f i).length = c ∧ (∀ j, j < c → w.cell? ((a.add (i * c)).add j) = (f i)[j]?) ∧ ∃ y, DataW.trod enc P w base spare held n e (f i) = some y := by
      refine ⟨fun i => if hi : i < len then Classical.choose (each i hi) else [], fun i hi => ?_⟩
      simp only [hi, dif_pos]
      exact Classical.choose_spec (each i hi)
    obtain ⟨f, hf⟩ := hf
    have hu : ∀ us ∈ (List.range len).map f, us.length = c := by
      intro us hus
      obtain ⟨i, hi, rfl⟩ := List.mem_map.1 hus
      exact (hf i (List.mem_range.1 hi)).1
    refine ⟨some a, len, cap, (List.range len).map f, rfl, by simp, ?_, ?_⟩
    · intro us hus
      obtain ⟨i, hi, rfl⟩ := List.mem_map.1 hus
      exact ⟨(hf i (List.mem_range.1 hi)).1, n, (hf i (List.mem_range.1 hi)).2.2⟩
    · refine rd_of_cells hl (by simpa [maxLen] using hm) fun j hj => ?_
      have hj' := hj
      rw [flat_length _ hu, List.length_map, List.length_range] at hj'
      have hdiv : j / c < len := by rw [Nat.div_lt_iff_lt_mul h0]; exact hj'
      have hmod : j % c < c := Nat.mod_lt _ h0
      have hlen0 : 0 < len := Nat.lt_of_le_of_lt (Nat.zero_le _) hdiv
      have hspot : a.spot = none := by
        have := (hf 0 hlen0).2.1 0 h0
        rw [Nat.zero_mul] at this
        have h5 : (f 0)[0]? ≠ none := by
          have := (hf 0 hlen0).1
          rw [List.getElem?_eq_getElem (by rw [this]; exact h0)]
          simp
        obtain ⟨u, hu0⟩ := Option.ne_none_iff_exists'.1 h5
        rw [hu0] at this
        exact spot_none (by simpa [Addr.add] using this)
      have h6 := (hf (j / c) hdiv).2.1 (j % c) hmod
      rw [add_add hspot, Nat.div_add_mod' j c] at h6
      have h7 := flat_get _ hu (j / c) (j % c) hmod
      rw [Nat.div_add_mod' j c, List.getElem?_map, List.getElem?_range hdiv] at h7
      simp only [Option.map_some, Option.bind_some] at h7
      rw [h6, ← h7, List.getElem?_eq_getElem hj]
/-- A slice of one-cell elements that came in. -/
theorem read_rows {t e : TypeId} {fuel : Nat} {v : Value} {x : DataW H × List MemPlace} (ht : P.underlying t = some (.slice e)) (hc : P.cellsOf e = 1)
    (h : DataW.trod enc P w base spare held fuel t [v] = some x) : ∃ (A : Option Addr) (n c : Nat) (vs : List Value), v = .slice A n c ∧ vs.length = n ∧ Rd w A n c vs ∧ ∀ u ∈ vs, ∃ fuel y, DataW.trod enc P w base spare held fuel e [u] = some y := by
  obtain ⟨A, n, c, vss, rfl, hl, hu, hr⟩ := read_elems ht hc (by omega) h
  refine ⟨A, n, c, vss.flatten, rfl, ?_, hr, ?_⟩
  · rw [flat_length vss (fun us h => (hu us h).1), hl, Nat.mul_one]
  · intro u h
    obtain ⟨us, h1, h2⟩ := List.mem_flatten.1 h
    obtain ⟨h3, h4⟩ := hu us h1
    match us, h3 with
    | [a], _ =>
      obtain rfl : u = a := by simpa using h2
      exact h4
end
end Go.Sel
