/- Big files: what a look at a file's first pointers has noted, and the memory that holds it. No program in sight. -/
import Derived.Test.YtcgfoaihfncppaaBgP
import Derived.Test.YtcgfoaihfncppaaMb1
import Derived.Test.YtcgfoaihfncppaaMerP
set_option linter.unusedSimpArgs false
set_option linter.unusedVariables false
namespace Go.Sel.Bg
open Go.RowKit Go.Sel Go.Sel.Gra Go.Sel.Mer

theorem look_set (l : List (Int × Value)) (k : Int) (v : Value) (x : Int) : Sel.look (Sel.put l k v) x = if k = x then some v else Sel.look l x := by
  have hmap : ∀ l : List (Int × Value), Sel.look (l.map (fun p => if p.1 == k then (k, v) else p)) x = if k = x then (Sel.look l x).map (fun _ => v) else Sel.look l x := by
    intro l
    unfold Sel.look
    induction l with
    | nil => simp
    | cons p l ih =>
      by_cases hp : p.1 = k
      · by_cases hx : k = x
        · subst hx; simp [hp]
        · have hpx : ¬ p.1 = x := fun e => hx (hp.symm.trans e)
          simp only [List.map_cons, hp, beq_self_eq_true, if_true, List.find?_cons]
          have h1 : (k == x) = false := by simpa using hx
          simp only [h1]
          rw [ih, if_neg hx]
      · have h1 : (p.1 == k) = false := by simpa using hp
        simp only [List.map_cons, h1, Bool.false_eq_true, if_false, List.find?_cons]
        by_cases hx : p.1 = x
        · have hkx : ¬ k = x := fun e => hp (hx.trans e.symm)
          simp [hx, hkx]
        · have h2 : (p.1 == x) = false := by simpa using hx
          simp only [h2]
          exact ih
  unfold Sel.put
  by_cases h : l.any (fun p => p.1 == k) = true
  · rw [if_pos h, hmap]
    by_cases hx : k = x
    · subst hx
      simp only [if_true]
      obtain ⟨p, hp, he⟩ := List.any_eq_true.1 h
      cases hl : Sel.look l k with
      | none => exact absurd (by simpa using he) (look_none.1 hl p hp)
      | some u => rfl
    · simp [hx]
  · rw [if_neg h]
    unfold Sel.look
    rw [List.find?_append]
    by_cases hx : k = x
    · subst hx
      have hn : List.find? (fun p => p.1 == k) l = none := by
        rw [List.find?_eq_none]
        intro p hp he
        exact h (List.any_eq_true.2 ⟨p, hp, he⟩)
      simp [hn]
    · have h1 : (k == x) = false := by simpa using hx
      simp [hx, h1]

section
variable (D : List (List Int)) (t : List Int)
/-- What is taken by the first m pointers; the places that these say. -/
def TkS (m : Nat) (l : List (Int × Value)) : Prop := (∀ p, p < m → val D t p ≠ 0 → Sel.look l (val D t p) = some (.bool true)) ∧ ∀ b : Int, (∀ p, p < m → val D t p = b → b = 0) → Sel.look l b = none
def PlS (m : Nat) (l : List (Int × Value)) : Prop :=
  (∀ k : Nat, k < 1062 → posK k < m → atK D t k ≠ 0 → Sel.look l k = some (.int .i64 (atK D t k))) ∧ ∀ x : Int, (∀ k : Nat, k < 1062 → posK k < m → atK D t k ≠ 0 → x ≠ k) → Sel.look l x = none
end
variable {D : List (List Int)} {t : List Int} {m : Nat} {l : List (Int × Value)}
theorem TkS.nil : TkS D t 0 [] := ⟨fun _ h => by omega, fun _ _ => rfl⟩
theorem PlS.nil : PlS D t 0 [] := ⟨fun _ _ h => by omega, fun _ _ => rfl⟩
theorem TkS.zero (h : TkS D t m l) (hv : val D t m = 0) : TkS D t (m + 1) l := by
  refine ⟨fun p hp hne => ?_, fun b hb => h.2 b fun p hp => hb p (by omega)⟩
  by_cases e : p = m
  · subst e; exact absurd hv hne
  · exact h.1 p (by omega) hne
theorem TkS.step (h : TkS D t m l) (hv : val D t m ≠ 0) : TkS D t (m + 1) (Sel.put l (val D t m) (.bool true)) := by
  refine ⟨fun p hp hne => ?_, fun b hb => ?_⟩
  · rw [look_set]
    split
    · rfl
    · rename_i hn
      exact h.1 p (by by_cases e : p = m; (· subst e; exact absurd rfl hn); omega) hne
  · rw [look_set, if_neg (fun e => hv (by have := hb m (by omega) e; omega))]
    exact h.2 b fun p hp => hb p (by omega)
theorem TkS.free (h : TkS D t m l) (hU : okU D t (m + 1)) (hv : val D t m ≠ 0) : Sel.look l (val D t m) = none := by
  refine h.2 _ fun p hp e => ?_
  exact absurd (hU.2 p m (by omega) (by omega) e (by rw [e]; exact hv)) (by omega)
theorem PlS.none (h : PlS D t m l) (hv : val D t m = 0 ∨ ∀ k, k < 1062 → posK k ≠ m) : PlS D t (m + 1) l := by
  have key : ∀ k, k < 1062 → posK k < m + 1 → atK D t k ≠ 0 → posK k < m := fun k hk hp hne => by
    by_cases e : posK k = m
    · rcases hv with hv | hv
      · exact absurd (by rw [atK, e]; exact hv) hne
      · exact absurd e (hv k hk)
    · omega
  exact ⟨fun k hk hp hne => h.1 k hk (key k hk hp hne) hne, fun x hx => h.2 x fun k hk hp hne => hx k hk (by omega) hne⟩
theorem PlS.step {k : Nat} (h : PlS D t m l) (hk : k < 1062) (hp : posK k = m) (hv : val D t m ≠ 0) : PlS D t (m + 1) (Sel.put l k (.int .i64 (val D t m))) := by
  have hat : atK D t k = val D t m := by rw [atK, hp]
  refine ⟨fun j hj hpj hne => ?_, fun x hx => ?_⟩
  · rw [look_set]
    by_cases e : (k : Int) = j
    · rw [if_pos e]
      have e' : k = j := by omega
      subst e'
      rw [hat]
    · rw [if_neg e]
      refine h.1 j hj ?_ hne
      by_cases ej : posK j = m
      · exact absurd (posK_inj hk hj (hp.trans ej.symm)) (by omega)
      · omega
  · rw [look_set, if_neg (fun e => hx k hk (by omega) (by rw [hat]; exact hv) e.symm)]
    exact h.2 x fun j hj hpj hne => hx j hj (by omega) hne
/-- Behind all: where a block lies; what is taken. -/
theorem PlS.at_ (h : PlS D t 1096 l) {k : Nat} (hk : k < 1062) : (Sel.look l k).getD (.int .i64 0) = .int .i64 (atK D t k) := by
  by_cases hne : atK D t k = 0
  · rw [h.2 k fun j hj _ hn e => hn (by have e' : k = j := by omega
                                        subst e'; exact hne), hne]
    rfl
  · rw [h.1 k hk (posK_lt hk) hne]
    rfl

/-! ### The view -/
def innC (inn : List (Int × Int)) : List Value := inn.flatMap fun x => [.int .i64 x.1, .int .i64 x.2]
theorem innC_len (inn : List (Int × Int)) : (innC inn).length = inn.length * 2 := by
  induction inn with
  | nil => rfl
  | cons x l ih => simp only [innC, List.flatMap_cons, List.length_append, List.length_cons, List.length_nil] at ih ⊢; omega
theorem innC_snoc (inn : List (Int × Int)) (b d : Int) : innC (inn ++ [(b, d)]) = innC inn ++ [.int .i64 b, .int .i64 d] := by simp [innC]
def vcells (A : Option Addr) (n c : Nat) (t : List Int) (mp : Nat) (vi : Value) (mt : Nat) : List Value := .slice A n c :: (iv .i64 t ++ [.map (some mp), vi, .map (some mt)])
structure Vw (w0 w : World) (A : Option Addr) (n c : Nat) (D : List (List Int)) (t : List Int) (vb mp mt : Nat) (m k : Nat) (inn : List (Int × Int)) (vi : Value) : Prop where
  hB : Below w0.heap.size w0 w
  blk : w.heap[vb]? = some (.cells (vcells A n c t mp vi mt).toArray 84 (0, 0))
  gv : w0.heap.size ≤ vb
  gp : w0.heap.size ≤ mp
  gt : w0.heap.size ≤ mt
  ne : mp ≠ mt
  own : w.ownsRow w0.heap.size 92 2 vi inn.length (innC inn)
  pl : ∃ l, IMap w mp l ∧ PlS D t k l
  tk : ∃ l, IMap w mt l ∧ TkS D t m l
section
variable {w0 w w' : World} {A : Option Addr} {n c : Nat} {vb mp mt k : Nat} {inn : List (Int × Int)} {vi : Value}
theorem imap_cells {b : Nat} {cs : Array Value} {T : TypeId} {fr : Nat × Nat} (h : IMap w b l) (hc : w.heap[b]? = some (.cells cs T fr)) : False := by
  obtain ⟨es, cl, hb, _⟩ := h.is
  rw [hb] at hc
  cases hc
theorem imap_at (h : IMap w mp l) (hs : w'.heap[mp]? = w.heap[mp]?) : IMap w' mp l := ⟨h.nodup, by rw [hs]; exact h.is⟩
theorem own_block {base size : Nat} {e : TypeId} {v : Value} {xs : List Value} (h : w.ownsRow base e size v n xs) (g : Nat) (hk : v.ownBlock = some g) : ∃ cur, w.heap[g]? = some (.cells cur e (0, 0)) := by
  rcases h.2 with ⟨rfl, _⟩ | ⟨g', cap, cur, rfl, _, hh, _⟩
  · cases hk
  · cases hk; exact ⟨cur, hh⟩
theorem Vw.vne_p (h : Vw w0 w A n c D t vb mp mt m k inn vi) : vb ≠ mp := fun e => by obtain ⟨l, hl, _⟩ := h.pl; exact imap_cells hl (e ▸ h.blk)
theorem Vw.vne_t (h : Vw w0 w A n c D t vb mp mt m k inn vi) : vb ≠ mt := fun e => by obtain ⟨l, hl, _⟩ := h.tk; exact imap_cells hl (e ▸ h.blk)
theorem Vw.ine_v (h : Vw w0 w A n c D t vb mp mt m k inn vi) : vi.ownBlock ≠ some vb := fun e => by obtain ⟨cur, hc⟩ := own_block h.own _ e; rw [h.blk] at hc; cases hc
theorem Vw.ine_p (h : Vw w0 w A n c D t vb mp mt m k inn vi) : vi.ownBlock ≠ some mp := fun e => by obtain ⟨cur, hc⟩ := own_block h.own _ e; obtain ⟨l, hl, _⟩ := h.pl; exact imap_cells hl hc
theorem Vw.ine_t (h : Vw w0 w A n c D t vb mp mt m k inn vi) : vi.ownBlock ≠ some mt := fun e => by obtain ⟨cur, hc⟩ := own_block h.own _ e; obtain ⟨l, hl, _⟩ := h.tk; exact imap_cells hl hc
theorem Vw.taken (h : Vw w0 w A n c D t vb mp mt m k inn vi) {l' : List (Int × Value)} (hb : ButBlock mt w w') (hl : IMap w' mt l') (ht : TkS D t (m + 1) l') : Vw w0 w' A n c D t vb mp mt (m + 1) k inn vi := by
  obtain ⟨l, h1, h2⟩ := h.pl
  exact ⟨hb.below h.hB h.gt, (hb.far _ h.vne_t).trans h.blk, h.gv, h.gp, h.gt, h.ne, own_same h.own fun j hj => hb.far _ fun e => h.ine_t (e ▸ hj), ⟨l, hb.imap h1 h.ne, h2⟩, l', hl, ht⟩
theorem Vw.placed (h : Vw w0 w A n c D t vb mp mt m k inn vi) {l' : List (Int × Value)} (hb : ButBlock mp w w') (hl : IMap w' mp l') (ht : PlS D t (k + 1) l') : Vw w0 w' A n c D t vb mp mt m (k + 1) inn vi := by
  obtain ⟨l, h1, h2⟩ := h.tk
  exact ⟨hb.below h.hB h.gp, (hb.far _ h.vne_p).trans h.blk, h.gv, h.gp, h.gt, h.ne, own_same h.own fun j hj => hb.far _ fun e => h.ine_p (e ▸ hj), ⟨l', hl, ht⟩, l, hb.imap h1 (Ne.symm h.ne), h2⟩
theorem Vw.noplace (h : Vw w0 w A n c D t vb mp mt m k inn vi) (hv : val D t k = 0 ∨ ∀ j, j < 1062 → posK j ≠ k) : Vw w0 w A n c D t vb mp mt m (k + 1) inn vi := by
  obtain ⟨l, h1, h2⟩ := h.pl
  exact ⟨h.hB, h.blk, h.gv, h.gp, h.gt, h.ne, h.own, ⟨l, h1, h2.none hv⟩, h.tk⟩
theorem Vw.pushed (h : Vw w0 w A n c D t vb mp mt m k inn vi) (ht : t.length = 8) {b d : Int} {g cap : Nat} {w1 : World} (ho : w1.ownsRow w0.heap.size 92 2 (.slice (some ⟨g, 0, none⟩) (inn.length + 1) cap) (inn.length + 1) (innC inn ++ [.int .i64 b, .int .i64 d]))
    (hg : w.grownBy w1 vi.ownBlock) : Vw w0 (w1.setCell ⟨vb, 10, none⟩ (.slice (some ⟨g, 0, none⟩) (inn.length + 1) cap)) A n c D t vb mp mt m k (inn ++ [(b, d)]) (.slice (some ⟨g, 0, none⟩) (inn.length + 1) cap) := by
  have hlt : ∀ {i : Nat} {o : Obj}, w.heap[i]? = some o → i < w.heap.size := fun h => (Array.getElem?_eq_some_iff.1 h).1
  have hkeep : ∀ {i : Nat} {o : Obj}, w.heap[i]? = some o → vi.ownBlock ≠ some i → w1.heap[i]? = some o := fun h1 h2 => (hg.block _ (hlt h1) fun e => h2 e.symm).trans h1
  have hv1 := hkeep h.blk h.ine_v
  have hgv : g ≠ vb := fun e => by
    obtain ⟨cur, hc⟩ := own_block ho g rfl
    rw [e, hv1] at hc; cases hc
  have hset : ∀ i, i ≠ vb → (w1.setCell ⟨vb, 10, none⟩ (.slice (some ⟨g, 0, none⟩) (inn.length + 1) cap)).heap[i]? = w1.heap[i]? := fun i hi => Below.heap_setCell _ _ _ _ hi
  have hpl : ∀ {q : Nat} {l : List (Int × Value)}, IMap w q l → vi.ownBlock ≠ some q → vb ≠ q → IMap (w1.setCell ⟨vb, 10, none⟩ (.slice (some ⟨g, 0, none⟩) (inn.length + 1) cap)) q l := fun hq hne hvq => by
    refine imap_at hq ?_
    rw [hset _ (Ne.symm hvq)]
    exact hg.block _ hq.lt fun e => hne e.symm
  refine ⟨(below_grown h.hB hg h.hB.size (own_row h.own)).setCell h.gv _, ?_, h.gv, h.gp, h.gt, h.ne, ?_, ?_, ?_⟩
  · rw [blk_set hv1 10]
    congr 2
    apply Array.toList_inj.1
    simp only [vcells, List.setIfInBounds_toArray, List.set_cons_succ]
    have e8 : (iv .i64 t).length = 8 := by simpa using ht
    rw [List.set_append_right _ _ (by omega), e8]
    rfl
  · rw [innC_snoc]
    have : (inn ++ [(b, d)]).length = inn.length + 1 := by simp
    rw [this]
    refine own_same ho fun j hj => ?_
    cases hj
    exact hset _ hgv
  · obtain ⟨l, h1, h2⟩ := h.pl
    exact ⟨l, hpl h1 h.ine_p h.vne_p, h2⟩
  · obtain ⟨l, h1, h2⟩ := h.tk
    exact ⟨l, hpl h1 h.ine_t h.vne_t, h2⟩
/-- Its cells. -/
theorem Vw.cell (h : Vw w0 w A n c D t vb mp mt m k inn vi) (ht : t.length = 8) : w.cell? ⟨vb, 0, none⟩ = some (.slice A n c) ∧ w.cell? ⟨vb, 9, none⟩ = some (.map (some mp)) ∧ w.cell? ⟨vb, 10, none⟩ = some vi ∧ w.cell? ⟨vb, 11, none⟩ = some (.map (some mt)) ∧
    (∀ j (hj : j < t.length), w.cell? ⟨vb, j + 1, none⟩ = some (.int .i64 t[j])) ∧ ∀ j, w.frozen? ⟨vb, j, none⟩ = false := by
  have hc := blk_cell h.blk
  have e8 : (iv .i64 t).length = 8 := by simpa using ht
  refine ⟨?_, ?_, ?_, ?_, fun j hj => ?_, blk_free h.blk⟩
  · rw [hc]; rfl
  · rw [hc]; simp only [vcells, List.getElem?_toArray, List.getElem?_cons_succ]; rw [List.getElem?_append_right (by omega), e8]; rfl
  · rw [hc]; simp only [vcells, List.getElem?_toArray, List.getElem?_cons_succ]; rw [List.getElem?_append_right (by omega), e8]; rfl
  · rw [hc]; simp only [vcells, List.getElem?_toArray, List.getElem?_cons_succ]; rw [List.getElem?_append_right (by omega), e8]; rfl
  · rw [hc]; simp only [vcells, List.getElem?_toArray, List.getElem?_cons_succ]; rw [List.getElem?_append_left (by omega)]; simp [iv, hj]
end
end Go.Sel.Bg
