/- Items: what slices of them read as. No program in sight. -/
import Derived.Test.YtcgfoaihfncppaaSel6
set_option linter.unusedSimpArgs false
set_option linter.unusedVariables false
namespace Go.Sel.Mer
open Go.RowKit Go.Sel Go.Sel.Gra

/-- An item: its patch's block, place and bytes; its deps. -/
structure It where
  b : Int
  o : Int
  s : ByteArray
  ds : List Int
def zIt : It := ⟨0, 0, ByteArray.empty, []⟩
def nthI (L : List It) (i : Nat) : It := L.getD i zIt
theorem nthI_get {L : List It} {i : Nat} (h : i < L.length) : nthI L i = L[i] := by simp [nthI, List.getD_eq_getElem?_getD, h]
def depsL (L : List It) : List (List Int) := L.map (·.ds)
@[simp] theorem depsL_length (L : List It) : (depsL L).length = L.length := by simp [depsL]
theorem nth_depsL {L : List It} {i : Nat} (h : i < L.length) : nth (depsL L) i = (nthI L i).ds := by
  rw [nthI_get h]; simp [nth, depsL, List.getD_eq_getElem?_getD, h]
/-- A patch that may be. -/
def prightB (x : It) : Bool := decide (0 ≤ x.b) && decide (x.b < 96) && decide (0 ≤ x.o) && decide (x.o < 32) && decide (1 ≤ x.s.size) && decide ((x.s.size : Int) ≤ 32 - x.o)
theorem pright_iff {x : It} : prightB x = true ↔ 0 ≤ x.b ∧ x.b < 96 ∧ 0 ≤ x.o ∧ x.o < 32 ∧ 1 ≤ x.s.size ∧ (x.s.size : Int) ≤ 32 - x.o := by
  simp [prightB, and_assoc]
/-- Items that are right. -/
def mrightB (L : List It) : Bool := decide (L.length ≤ 64) && L.all prightB && rightD (depsL L)
theorem mright_iff {L : List It} : mrightB L = true ↔ L.length ≤ 64 ∧ (∀ x ∈ L, prightB x = true) ∧ rightD (depsL L) = true := by
  simp [mrightB, and_assoc, List.all_eq_true]

/-- The cells of an item whose deps' slice is q. -/
def itv (x : It) (q : Option Addr × Nat × Nat) : List Value := [.int .i64 x.b, .int .i64 x.o, .string x.s, sv q]
@[simp] theorem itv_length (x : It) (q : Option Addr × Nat × Nat) : (itv x q).length = 4 := rfl
def itvs (L : List It) (ss : List (Option Addr × Nat × Nat)) : List Value := ((L.zip ss).map fun p => itv p.1 p.2).flatten
theorem itvs_all (L : List It) (ss : List (Option Addr × Nat × Nat)) : ∀ us ∈ (L.zip ss).map fun p => itv p.1 p.2, us.length = 4 := by
  intro us h
  obtain ⟨p, _, rfl⟩ := List.mem_map.1 h
  rfl
theorem itvs_length {L : List It} {ss : List (Option Addr × Nat × Nat)} (h : ss.length = L.length) : (itvs L ss).length = L.length * 4 := by
  rw [itvs, flat_length _ (itvs_all L ss)]; simp [h]
theorem itvs_snoc {L : List It} {ss : List (Option Addr × Nat × Nat)} (h : ss.length = L.length) (x : It) (q : Option Addr × Nat × Nat) : itvs (L ++ [x]) (ss ++ [q]) = itvs L ss ++ itv x q := by
  rw [itvs, itvs, List.zip_append h.symm]; simp
theorem itvs_at {L : List It} {ss : List (Option Addr × Nat × Nat)} (h : ss.length = L.length) {i : Nat} (hi : i < L.length) {t : Nat} (ht : t < 4) : (itvs L ss)[i * 4 + t]? = (itv L[i] (ss[i]'(by omega)))[t]? := by
  rw [itvs, flat_get _ (itvs_all L ss) i t ht]
  rw [List.getElem?_map, List.getElem?_eq_getElem (by simp [h, hi])]
  simp

/-- '.slice A n c' reads as the items L, whose deps' slices are ss. -/
structure IpS (w : World) (A : Option Addr) (n c : Nat) (L : List It) (ss : List (Option Addr × Nat × Nat)) : Prop where
  len : L.length = n
  slen : ss.length = n
  rd : Rd w A n c (itvs L ss)
  deps : ∀ j (h : j < ss.length), (nthI L j).ds.length = ss[j].2.1 ∧ Rd w ss[j].1 ss[j].2.1 ss[j].2.2 (iv .i64 (nthI L j).ds)
def Ip (w : World) (A : Option Addr) (n c : Nat) (L : List It) : Prop := ∃ ss, IpS w A n c L ss
section
variable {w w' : World} {A : Option Addr} {n c : Nat} {L : List It} {ss : List (Option Addr × Nat × Nat)}
theorem IpS.below (h : IpS w A n c L ss) (hb : Below w.heap.size w w') : IpS w' A n c L ss := ⟨h.len, h.slen, h.rd.below hb, fun j hj => ⟨(h.deps j hj).1, (h.deps j hj).2.below hb⟩⟩
theorem Ip.len (h : Ip w A n c L) : L.length = n := by obtain ⟨ss, h⟩ := h; exact h.len
theorem Ip.le (h : Ip w A n c L) : n ≤ c := by obtain ⟨ss, h⟩ := h; exact h.rd.le
theorem Ip.cap (h : Ip w A n c L) : c ≤ 9223372036854775807 := by obtain ⟨ss, h⟩ := h; exact h.rd.cap
theorem Ip.below (h : Ip w A n c L) (hb : Below w.heap.size w w') : Ip w' A n c L := by obtain ⟨ss, h⟩ := h; exact ⟨ss, h.below hb⟩
theorem Ip.nil (h : c ≤ 9223372036854775807) : Ip w A 0 c [] := ⟨[], rfl, rfl, Rd.nil h, fun j h => by simp at h⟩
/-- The i-th item's cells. -/
theorem IpS.at_ (h : IpS w A n c L ss) {i : Nat} (hi : i < n) :
    ∃ b off, A = some ⟨b, off, none⟩ ∧ b < w.heap.size ∧ w.cell? ⟨b, off + i * 4, none⟩ = some (.int .i64 (nthI L i).b) ∧ w.cell? ⟨b, off + i * 4 + 1, none⟩ = some (.int .i64 (nthI L i).o) ∧
      w.cell? ⟨b, off + i * 4 + 2, none⟩ = some (.string (nthI L i).s) ∧ w.cell? ⟨b, off + i * 4 + 3, none⟩ = some (sv (ss[i]'(by rw [h.slen]; exact hi))) := by
  obtain ⟨h1, h2, h3, h4⟩ := h
  have hl := itvs_length (L := L) (ss := ss) (by omega)
  obtain ⟨b, off, rfl, hb, hc⟩ := h3.form (by omega)
  have hi1 : i < L.length := by omega
  have hs : i < ss.length := by omega
  have hat : ∀ t (ht : t < 4), w.cell? ⟨b, off + i * 4 + t, none⟩ = some ((itv L[i] ss[i])[t]) := fun t ht => by
    have h5 := hc (i * 4 + t) (by omega)
    have h6 := itvs_at (L := L) (ss := ss) (by omega) hi1 ht
    rw [List.getElem?_eq_getElem (by omega), List.getElem?_eq_getElem (by simpa using ht)] at h6
    rw [Nat.add_assoc, h5]; exact h6
  rw [nthI_get hi1]
  exact ⟨b, off, rfl, hb, hat 0 (by omega), hat 1 (by omega), hat 2 (by omega), hat 3 (by omega)⟩
/-- The i-th item: its cells, and what its deps read as. -/
theorem Ip.at_ (h : Ip w A n c L) {i : Nat} (hi : i < n) :
    ∃ b off A' n' c', A = some ⟨b, off, none⟩ ∧ b < w.heap.size ∧ w.cell? ⟨b, off + i * 4, none⟩ = some (.int .i64 (nthI L i).b) ∧ w.cell? ⟨b, off + i * 4 + 1, none⟩ = some (.int .i64 (nthI L i).o) ∧
      w.cell? ⟨b, off + i * 4 + 2, none⟩ = some (.string (nthI L i).s) ∧ w.cell? ⟨b, off + i * 4 + 3, none⟩ = some (.slice A' n' c') ∧ (nthI L i).ds.length = n' ∧ Rd w A' n' c' (iv .i64 (nthI L i).ds) := by
  obtain ⟨ss, h⟩ := h
  obtain ⟨b, off, h1, h2, h3, h4, h5, h6⟩ := h.at_ hi
  have h7 := h.deps i (by rw [h.slen]; exact hi)
  exact ⟨b, off, _, _, _, h1, h2, h3, h4, h5, h6, h7.1, h7.2⟩
/-- Its deps. -/
theorem Ip.upto (h : Ip w A n c L) {k : Nat} (hk : k ≤ n) : Ip w A k c (L.take k) := by
  obtain ⟨ss, h1, h2, h3, h4⟩ := h
  refine ⟨ss.take k, by rw [List.length_take]; omega, by rw [List.length_take]; omega, ⟨by have := h3.le; omega, h3.cap, ?_⟩, fun j hj => ?_⟩
  · have e : itvs (L.take k) (ss.take k) = (itvs L ss).take (k * 4) := by
      apply List.ext_getElem?
      intro j
      by_cases hj : j < k * 4
      · have hd : j / 4 < k := by omega
        have ej : j = j / 4 * 4 + j % 4 := by omega
        rw [List.getElem?_take_of_lt hj]
        generalize j / 4 = p at *
        generalize hq : j % 4 = q at *
        have hq4 : q < 4 := by omega
        subst ej
        rw [itvs_at (by simp; omega) (by simp; omega) hq4, itvs_at (by omega) (by omega) hq4]
        simp
      · rw [List.getElem?_eq_none (by rw [itvs_length (by simp; omega)]; simp; omega), List.getElem?_eq_none (by simp; omega)]
    rw [e]
    rcases h3.at_ with h0 | ⟨b, off, rfl, hc⟩
    · left; rw [h0]; simp
    · right
      exact ⟨b, off, rfl, fun j hj => by simp at hj; rw [List.getElem_take]; exact hc j (by omega)⟩
  · have hj' : j < k ∧ j < ss.length := by simp at hj; omega
    have h5 := h4 j hj'.2
    have e : nthI (L.take k) j = nthI L j := by
      rw [nthI_get (by simp; omega), nthI_get (by omega), List.getElem_take]
    rw [e]; simpa using h5
end
/-- A row of items of the call's own is read. -/
theorem rd_ownN {w : World} {base n size : Nat} {e : TypeId} {v : Value} {cs : List Value} (hs0 : 0 < size) (h : w.ownsRow base e size v n cs) : ∃ A c, v = .slice A n c ∧ cs.length = n * size ∧ Rd w A n c cs := by
  have hl : cs.length = n * size := h.1
  rcases h.2 with ⟨rfl, h0⟩ | ⟨g, cap, cur, rfl, hb, hh, hn, hc, hs, ht⟩
  · subst h0
    exact ⟨none, 0, rfl, hl, ⟨Nat.le_refl _, by omega, .inl (List.eq_nil_of_length_eq_zero (by simpa using hl))⟩⟩
  · refine ⟨_, cap, rfl, hl, ⟨hn, by simpa [maxLen] using hc, .inr ⟨g, 0, rfl, fun j hj => ?_⟩⟩⟩
    have := h.cells (g := g) rfl j cs[j] (by simp)
    have ha : (⟨g, 0, none⟩ : Addr).add j = ⟨g, 0 + j, none⟩ := by unfold Addr.add; split <;> simp_all
    rwa [ha] at this
section
variable {P : Program} {ops : Array Oper} {o : Oper} {a : Act} {Q : Exit → Act → World → Prop}
/-- 'append(s, y)' of a struct of several cells, in a plain region. -/
theorem wpList_pushN {Wg : World} (W : World) {rest : List Oper} (hgd : o.guard = none) (s x : Operand) (t e : TypeId)
    (ho : o.op = .call { callee := .builtin .append, args := #[s, x], argTypes := #[t, t] }) (base : Nat) (z : Value) (size bytes : Nat)
    (ht : P.underlying t = some (.slice e)) (hinfo : (P.info? e).map (fun i => (i.zero, i.size, i.bytes)) = some (some z, size, bytes)) (hz : z.cells.size = size) (hs0 : 0 < size) (hb0 : 0 < bytes)
    (v : Value) (n : Nat) (xs ys : List Value) (hs : a.eval s = v) (hx : a.eval x = .slice (some ⟨W.heap.size, 0, none⟩) 1 1) (hys : ys.length = size) (h1 : ∀ u ∈ ys, u.oneCell' = true)
    (HO : W.ownsRow base e size v n xs) (hbase : base ≤ W.heap.size) (hl : (n + 1) * bytes ≤ 140737488355328) (hW : Wg = W.alloc (.cells ys.toArray e))
    (h : ∀ g cap w1, w1.ownsRow base e size (.slice (some ⟨g, 0, none⟩) (n + 1) cap) (n + 1) (xs ++ ys) → W.grownBy w1 v.ownBlock → (v.ownBlock = some g ∨ W.heap.size ≤ g) → g < w1.heap.size → wpList P ops Q rest (a.put o.dst (.slice (some ⟨g, 0, none⟩) (n + 1) cap)) w1) :
    wpList P ops Q (o :: rest) a Wg := by
  subst hW
  refine wpList_plain hgd fun K hK => ?_
  obtain ⟨i0, hi, hzz⟩ := Option.map_eq_some_iff.1 hinfo
  simp only [Prod.mk.injEq] at hzz
  obtain ⟨hz0, hz1, hz2⟩ := hzz
  have hlen : n + 1 ≤ 140737488355328 := Nat.le_trans (Nat.le_mul_of_pos_right _ hb0) hl
  obtain ⟨v1, w1, hr, hown, hg, hnil, hat⟩ := run_append_own_at (P := P) (W.alloc (.cells ys.toArray e)) base t o.type e i0 z size bytes ht hi hz0 hz1 hz2 hz hs0 v n xs (HO.alloc _) ⟨W.heap.size, 0, none⟩ 1 1 ys (by rw [hys]; simp)
    (fun j u hu => by
      have hj := (List.getElem?_eq_some_iff.1 hu).1
      rw [Addr.add_lit, Nat.zero_add, blk_cell (heap_alloc_new W _) j]; simpa using hu) h1 (by simp only [maxLen]; omega) hl (by simp; omega)
  obtain ⟨g, cap, rfl, _, hlt⟩ := hown.form (by omega)
  unfold Oper.wp execOp
  simp only [ho, resolve, invoke, builtin, Sem.run_bind, Sem.run_pure, Result.andThen_ok, List.map_toArray, List.map_cons, List.map_nil, hs, hx, hr]
  refine hK _ _ (h g cap w1 hown (World.grownBy.trans (World.grownBy_alloc W _ _) hg) ?_ hlt)
  rcases hat with hat | hat
  · exact .inl (by rw [← hat]; rfl)
  · right
    have : g = (W.alloc (.cells ys.toArray e)).heap.size := by simpa [Value.ownBlock] using hat
    rw [this]; simp
end
end Go.Sel.Mer
