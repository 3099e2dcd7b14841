/- The reference's groups in memory. -/
import Derived.Test.YtbflmgpcjfoifaaProg
import Derived.Test.YtbflmgpcjfoifaaGpP
import Derived.Test.YtbflmgpcjfoifaaSelB
import Derived.Test.YtbflmgpcjfoifaaFrame
set_option linter.unusedSimpArgs false
set_option linter.unusedVariables false
namespace Go.Proofs.Ytbflmgpcjfoifaa
open Go.RowKit Go.Sel Go.Sel.Gp

abbrev Q3 := Option Addr × Nat × Nat
/-- A slice reads as the numbers xs; their block is one of F, of whole numbers. -/
def RowI (F : Nat → Prop) (w : World) (q : Q3) (xs : List Int) : Prop :=
  xs.length = q.2.1 ∧ q.2.1 ≤ q.2.2 ∧ q.2.2 ≤ 9223372036854775807 ∧ (xs = [] ∨ ∃ b off cur fr, q.1 = some ⟨b, off, none⟩ ∧ F b ∧ w.heap[b]? = some (.cells cur 3 fr) ∧ ∀ j (h : j < xs.length), cur[off + j]? = some (.int .i64 xs[j]))
theorem RowI.rd {F : Nat → Prop} {w : World} {q : Q3} {xs : List Int} (h : RowI F w q xs) : Rd w q.1 q.2.1 q.2.2 (iv .i64 xs) := by
  refine ⟨h.2.1, h.2.2.1, ?_⟩
  rcases h.2.2.2 with rfl | ⟨b, off, cur, fr, e, _, hb, hc⟩
  · exact .inl rfl
  · exact .inr ⟨b, off, e, fun j hj => by rw [iv_at, blk_cell hb]; exact hc j (by simpa using hj)⟩
theorem RowI.keep {F F' : Nat → Prop} {w w' : World} {q : Q3} {xs : List Int} (h : RowI F w q xs) (hF : ∀ b, F b → F' b) (hk : ∀ b cur fr, F b → w.heap[b]? = some (.cells cur 3 fr) → w'.heap[b]? = w.heap[b]?) : RowI F' w' q xs := by
  refine ⟨h.1, h.2.1, h.2.2.1, h.2.2.2.imp id ?_⟩
  rintro ⟨b, off, cur, fr, e, hb, hw, hc⟩
  exact ⟨b, off, cur, fr, e, hF b hb, (hk b cur fr hb hw).trans hw, hc⟩
theorem RowI.nil {F : Nat → Prop} {w : World} : RowI F w (none, 0, 0) [] := ⟨rfl, Nat.le_refl _, by simp, .inl rfl⟩
theorem RowI.own {F : Nat → Prop} {w : World} {base n : Nat} {v : Value} {xs : List Int} (h : w.ownsRow base 3 1 v n (iv .i64 xs)) (hF : ∀ b, base ≤ b → F b) : ∃ A c, v = .slice A n c ∧ RowI F w (A, n, c) xs := by
  obtain ⟨A, c, rfl, hl, hr⟩ := rd_own h
  refine ⟨A, c, rfl, by simpa using hl, hr.le, hr.cap, ?_⟩
  rcases h.2 with ⟨e, h0⟩ | ⟨g, cap, cur, e, hb, hh, hn, hc, hs, ht⟩
  · left; subst h0; exact List.eq_nil_of_length_eq_zero (by simpa using hl)
  · right
    injection e with e1 e2 e3
    subst e1 e3
    refine ⟨g, 0, cur, (0, 0), rfl, hF g hb, hh, fun j hj => ?_⟩
    have h1 : (cur.toList.take (n * 1))[j]? = (iv .i64 xs)[j]? := by rw [ht]
    have hl' : xs.length = n := by simpa using hl
    rw [List.getElem?_take_of_lt (by omega), Array.getElem?_toList, List.getElem?_eq_getElem (by simpa using hj), iv_at] at h1
    rw [Nat.zero_add]; exact h1

/-- The cells of a group. -/
def gv (g : G) (q : Q3 × Q3) : List Value := [.int .i64 g.n, .int .u8 g.st, sv q.1, sv q.2]
def gvs (S : List G) (ss : List (Q3 × Q3)) : List Value := ((S.zip ss).map fun p => gv p.1 p.2).flatten
theorem gvs_all (S : List G) (ss : List (Q3 × Q3)) : ∀ us ∈ (S.zip ss).map fun p => gv p.1 p.2, us.length = 4 := by
  intro us h
  obtain ⟨p, _, rfl⟩ := List.mem_map.1 h
  rfl
theorem gvs_length {S : List G} {ss : List (Q3 × Q3)} (h : ss.length = S.length) : (gvs S ss).length = S.length * 4 := by rw [gvs, flat_length _ (gvs_all S ss)]; simp [h]
theorem gvs_at {S : List G} {ss : List (Q3 × Q3)} (h : ss.length = S.length) {i t : Nat} (hi : i < S.length) (ht : t < 4) : (gvs S ss)[i * 4 + t]? = (gv S[i] (ss[i]'(by omega)))[t]? := by
  rw [gvs, flat_get _ (gvs_all S ss) i t ht, List.getElem?_map, List.getElem?_eq_getElem (by simp [h, hi])]
  simp
theorem gvs_append {S T : List G} {ss tt : List (Q3 × Q3)} (h : ss.length = S.length) : gvs (S ++ T) (ss ++ tt) = gvs S ss ++ gvs T tt := by
  rw [gvs, gvs, gvs, List.zip_append h.symm, List.map_append, List.flatten_append]

/-- The reference's groups: at block rb, their slice, their rows; F: their blocks. -/
structure GRx (F : Nat → Prop) (w : World) (rb : Nat) (lA : Option Addr) (n c : Nat) (S : List G) (ss : List (Q3 × Q3)) (next : Int) : Prop where
  hd : Bk w rb 74 [.slice lA n c, .int .i64 next]
  fh : F rb
  flt : ∀ b, F b → b < w.heap.size
  len : S.length = n
  slen : ss.length = n
  le : n ≤ c
  cap : c ≤ 9223372036854775807
  at_ : n = 0 ∨ ∃ lb cur, lA = some ⟨lb, 0, none⟩ ∧ F lb ∧ w.heap[lb]? = some (.cells cur 76 (0, 0)) ∧ ∀ j, j < n * 4 → cur[j]? = (gvs S ss)[j]?
  rows : ∀ j (h : j < ss.length), RowI F w ss[j].1 (nthG S j).ps ∧ RowI F w ss[j].2 (nthG S j).ah
section
variable {F : Nat → Prop} {w w' : World} {rb : Nat} {lA : Option Addr} {n c : Nat} {S : List G} {ss : List (Q3 × Q3)} {next : Int}
theorem GRx.keep (h : GRx F w rb lA n c S ss next) (hs : w.heap.size ≤ w'.heap.size) (hk : ∀ b, F b → w'.heap[b]? = w.heap[b]?) : GRx F w' rb lA n c S ss next :=
  ⟨(hk _ h.fh).trans h.hd, h.fh, fun b hb => Nat.lt_of_lt_of_le (h.flt b hb) hs, h.len, h.slen, h.le, h.cap,
    h.at_.imp id fun ⟨lb, cur, h1, h2, h3, h4⟩ => ⟨lb, cur, h1, h2, (hk _ h2).trans h3, h4⟩,
    fun j hj => ⟨(h.rows j hj).1.keep (fun _ h => h) (fun b _ _ hb _ => hk b hb), (h.rows j hj).2.keep (fun _ h => h) (fun b _ _ hb _ => hk b hb)⟩⟩
theorem GRx.below (h : GRx F w rb lA n c S ss next) (hb : Below w.heap.size w w') : GRx F w' rb lA n c S ss next := h.keep hb.size fun b hf => hb.block b (h.flt b hf)
theorem GRx.lt (h : GRx F w rb lA n c S ss next) : rb < w.heap.size := h.hd.lt
theorem GRx.h0 (h : GRx F w rb lA n c S ss next) : w.cell? ⟨rb, 0, none⟩ = some (.slice lA n c) := h.hd.cell 0 (by simp)
theorem GRx.h1 (h : GRx F w rb lA n c S ss next) : w.cell? ⟨rb, 1, none⟩ = some (.int .i64 next) := h.hd.cell 1 (by simp)
/-- The i-th group's cells. -/
theorem GRx.get (h : GRx F w rb lA n c S ss next) {i : Nat} (hi : i < n) :
    ∃ lb p q, lA = some ⟨lb, 0, none⟩ ∧ F lb ∧ lb < w.heap.size ∧ lb ≠ rb ∧ ss[i]? = some (p, q) ∧ w.cell? ⟨lb, i * 4, none⟩ = some (.int .i64 (nthG S i).n) ∧ w.cell? ⟨lb, i * 4 + 1, none⟩ = some (.int .u8 (nthG S i).st) ∧ w.cell? ⟨lb, i * 4 + 2, none⟩ = some (sv p) ∧ w.cell? ⟨lb, i * 4 + 3, none⟩ = some (sv q) ∧
      (∀ t, w.frozen? ⟨lb, t, none⟩ = false) ∧ RowI F w p (nthG S i).ps ∧ RowI F w q (nthG S i).ah := by
  have h1 := h.len
  have h2 := h.slen
  rcases h.at_ with h0 | ⟨lb, cur, e, hf, hb, hc⟩
  · omega
  · have hi1 : i < S.length := by omega
    have hs : i < ss.length := by omega
    have hat : ∀ t, (ht : t < 4) → w.cell? ⟨lb, i * 4 + t, none⟩ = (gv S[i] ss[i])[t]? := fun t ht => by
      rw [blk_cell hb, hc _ (by omega), gvs_at (by omega) hi1 ht]
    have hne : lb ≠ rb := by
      intro e'
      subst e'
      have := h.hd
      unfold Bk at this
      rw [hb] at this
      injection this with this
      injection this with _ h3 _
      exact absurd h3 (by decide)
    have hr := h.rows i hs
    rw [nthG_get hi1] at hr ⊢
    exact ⟨lb, ss[i].1, ss[i].2, e, hf, (Array.getElem?_eq_some_iff.1 hb).1, hne, by rw [List.getElem?_eq_getElem hs], hat 0 (by omega), hat 1 (by omega), hat 2 (by omega), hat 3 (by omega), fun t => blk_free hb t, hr.1, hr.2⟩
theorem GRx.mono {F' : Nat → Prop} (h : GRx F w rb lA n c S ss next) (hF : ∀ b, F b → F' b) (hl : ∀ b, F' b → b < w.heap.size) : GRx F' w rb lA n c S ss next :=
  ⟨h.hd, hF _ h.fh, hl, h.len, h.slen, h.le, h.cap, h.at_.imp id fun ⟨lb, cur, h1, h2, h3⟩ => ⟨lb, cur, h1, hF _ h2, h3⟩,
    fun j hj => ⟨(h.rows j hj).1.keep hF (fun _ _ _ _ _ => rfl), (h.rows j hj).2.keep hF (fun _ _ _ _ _ => rfl)⟩⟩
/-- A cell of the i-th group is stored into. -/
theorem GRx.set (h : GRx F w rb lA n c S ss next) {i t lb : Nat} (hi : i < n) (ht : t < 4) (hA : lA = some ⟨lb, 0, none⟩) (g : G) (q : Q3 × Q3) (u : Value) (hu : gv g q = (gv (nthG S i) (ss.getD i ((none, 0, 0), (none, 0, 0)))).set t u) (h1 : RowI F w q.1 g.ps) (h2 : RowI F w q.2 g.ah) :
    GRx F (w.setCell ⟨lb, i * 4 + t, none⟩ u) rb lA n c (S.set i g) (ss.set i q) next := by
  have hS := h.len
  have hs := h.slen
  obtain ⟨lb', p', q', e, hf, hlt, hne, _⟩ := h.get hi
  rw [hA] at e
  injection e with e; injection e with e
  subst e
  rcases h.at_ with h0 | ⟨lb', cur, e, _, hb, hc⟩
  · omega
  rw [hA] at e
  injection e with e; injection e with e
  subst e
  have hrow : ∀ {q : Q3} {xs : List Int}, RowI F w q xs → RowI F (w.setCell ⟨lb, i * 4 + t, none⟩ u) q xs := fun {q xs} hr => hr.keep (fun _ h => h) fun b cur' fr _ hb' => by
    refine Below.heap_setCell _ _ _ _ fun e => ?_
    subst e
    rw [hb] at hb'
    injection hb' with hb'
    injection hb' with _ h3 _
    exact absurd h3 (by decide)
  refine ⟨h.hd.far (by simpa using hne) u, h.fh, fun b hb => by simpa using h.flt b hb, by simpa using hS, by simpa using hs, h.le, h.cap, .inr ⟨lb, _, hA, hf, blk_set hb _ _, fun j hj => ?_⟩, fun j hj => ?_⟩
  · have hjd : j / 4 < S.length := by omega
    have ej : j = j / 4 * 4 + j % 4 := by omega
    have hsz : j < cur.size := by
      have := hc j hj
      rw [List.getElem?_eq_getElem (by rw [gvs_length (by omega)]; omega)] at this
      exact (Array.getElem?_eq_some_iff.1 this).1
    generalize hd : j / 4 = d at *
    generalize hm : j % 4 = m at *
    have hm4 : m < 4 := by omega
    subst ej
    rw [gvs_at (S := S.set i g) (ss := ss.set i q) (by simp; omega) (by simpa using hjd) hm4]
    by_cases hid : i = d
    · subst hid
      simp only [List.getElem_set_self]
      rw [hu, List.getElem?_set]
      by_cases htm : t = m
      · subst htm
        rw [if_pos rfl, if_pos (by simp [gv]; omega)]
        simp [hsz]
      · rw [if_neg htm, Array.getElem?_setIfInBounds_ne (by omega), hc _ hj, gvs_at (by omega) hjd hm4, nthG_get hjd]
        simp [List.getD_eq_getElem?_getD, show i < ss.length by omega]
    · rw [Array.getElem?_setIfInBounds_ne (by omega), hc _ hj, gvs_at (by omega) hjd hm4]
      simp [List.getElem_set_ne hid]
  · have hj' : j < ss.length := by simpa using hj
    rw [nthG_set (by omega)]
    by_cases e : i = j
    · subst e
      rw [if_pos rfl]
      simp only [List.getElem_set_self]
      exact ⟨hrow h1, hrow h2⟩
    · rw [if_neg e]
      simp only [List.getElem_set_ne e]
      exact ⟨hrow (h.rows j hj').1, hrow (h.rows j hj').2⟩
end
/-- The reference's groups at block rb. -/
def GR (F : Nat → Prop) (w : World) (rb : Nat) (S : List G) (next : Int) : Prop := ∃ lA n c ss, GRx F w rb lA n c S ss next
theorem GR.keep {F : Nat → Prop} {w w' : World} {rb : Nat} {S : List G} {next : Int} (h : GR F w rb S next) (hs : w.heap.size ≤ w'.heap.size) (hk : ∀ b, F b → w'.heap[b]? = w.heap[b]?) : GR F w' rb S next := by
  obtain ⟨lA, n, c, ss, h⟩ := h
  exact ⟨lA, n, c, ss, h.keep hs hk⟩
theorem GR.below {F : Nat → Prop} {w w' : World} {rb : Nat} {S : List G} {next : Int} (h : GR F w rb S next) (hb : Below w.heap.size w w') : GR F w' rb S next := by
  obtain ⟨lA, n, c, ss, h⟩ := h
  exact ⟨lA, n, c, ss, h.below hb⟩
theorem GR.flt {F : Nat → Prop} {w : World} {rb : Nat} {S : List G} {next : Int} (h : GR F w rb S next) (b : Nat) (hb : F b) : b < w.heap.size := by
  obtain ⟨lA, n, c, ss, h⟩ := h
  exact h.flt b hb
/-- What an operation on it leaves: it stands, its blocks are the old ones and new ones, all else is as it was. -/
def GRn (F : Nat → Prop) (w w' : World) (rb : Nat) (S : List G) (next : Int) : Prop := ∃ F', GR F' w' rb S next ∧ Fr F w w' ∧ ∀ b, F' b → F b ∨ w.heap.size ≤ b
end Go.Proofs.Ytbflmgpcjfoifaa
