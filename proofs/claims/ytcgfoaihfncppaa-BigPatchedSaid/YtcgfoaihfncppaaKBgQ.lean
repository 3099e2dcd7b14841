/- Big files: what a look at a file's first pointers has noted, and the memory that holds it. No program in sight. -/
import Derived.Test.YtcgfoaihfncppaaKSel7
import Derived.Test.YtcgfoaihfncppaaKBg1
import Derived.StillTailTactics
set_option linter.unusedSimpArgs false
set_option linter.unusedVariables false
namespace Go.Sel.Bg
open Go.RowKit Go.Sel Go.Sel.Gra Go.Sel.Mer

theorem look_set (l : List (Int × Value)) (k : Int) (v : Value) (x : Int) : Sel.look (Sel.put l k v) x = if k = x then some v else Sel.look l x := by
  have hmap : ∀ l : List (Int × Value), Sel.look (l.map (fun p => if p.1 == k then (k, v) else p)) x = if k = x then (Sel.look l x).map (fun _ => v) else Sel.look l x := by
    intro l
    unfold Sel.look
    induction l with
    | nil => simp
    | cons p l ih =>
      by_cases hp : p.1 = k
      · by_cases hx : k = x
        · subst hx; simp [hp]
        · have hpx : ¬ p.1 = x := fun e => hx (hp.symm.trans e)
          simp only [List.map_cons, hp, beq_self_eq_true, if_true, List.find?_cons]
          have h1 : (k == x) = false := by simpa using hx
          simp only [h1]
          rw [ih, if_neg hx]
      · have h1 : (p.1 == k) = false := by simpa using hp
        simp only [List.map_cons, h1, Bool.false_eq_true, if_false, List.find?_cons]
        by_cases hx : p.1 = x
        · have hkx : ¬ k = x := fun e => hp (hx.trans e.symm)
          simp [hx, hkx]
        · have h2 : (p.1 == x) = false := by simpa using hx
          simp only [h2]
          exact ih
  unfold Sel.put
  by_cases h : l.any (fun p => p.1 == k) = true
  · rw [if_pos h, hmap]
    by_cases hx : k = x
    · subst hx
      simp only [if_true]
      obtain ⟨p, hp, he⟩ := List.any_eq_true.1 h
      cases hl : Sel.look l k with
      | none => exact absurd (by simpa using he) (look_none.1 hl p hp)
      | some u => rfl
    · simp [hx]
  · rw [if_neg h]
    unfold Sel.look
    rw [List.find?_append]
    by_cases hx : k = x
    · subst hx
      have hn : List.find? (fun p => p.1 == k) l = none := by
        rw [List.find?_eq_none]
        intro p hp he
        exact h (List.any_eq_true.2 ⟨p, hp, he⟩)
      simp [hn]
    · have h1 : (k == x) = false := by simpa using hx
      simp [hx, h1]

section
variable (D : List (List Int)) (t : List Int)
/-- What is taken by the first m pointers; the places that these say. -/
def TkS (m : Nat) (l : List (Int × Value)) : Prop := (∀ p, p < m → val D t p ≠ 0 → Sel.look l (val D t p) = some (.bool true)) ∧ ∀ b : Int, (∀ p, p < m → val D t p = b → b = 0) → Sel.look l b = none
def PlS (m : Nat) (l : List (Int × Value)) : Prop :=
  (∀ k : Nat, k < 1062 → posK k < m → atK D t k ≠ 0 → Sel.look l k = some (.int .i64 (atK D t k))) ∧ ∀ x : Int, (∀ k : Nat, k < 1062 → posK k < m → atK D t k ≠ 0 → x ≠ k) → Sel.look l x = none
end
variable {D : List (List Int)} {t : List Int} {m : Nat} {l : List (Int × Value)}
theorem TkS.nil : TkS D t 0 [] := ⟨fun _ h => by omega, fun _ _ => rfl⟩
theorem PlS.nil : PlS D t 0 [] := ⟨fun _ _ h => by omega, fun _ _ => rfl⟩
theorem TkS.zero (h : TkS D t m l) (hv : val D t m = 0) : TkS D t (m + 1) l := by
  refine ⟨fun p hp hne => ?_, fun b hb => h.2 b fun p hp => hb p (by omega)⟩
  by_cases e : p = m
  · subst e; exact absurd hv hne
  · exact h.1 p (by omega) hne
theorem TkS.step (h : TkS D t m l) (hv : val D t m ≠ 0) : TkS D t (m + 1) (Sel.put l (val D t m) (.bool true)) := by
  refine ⟨fun p hp hne => ?_, fun b hb => ?_⟩
  · rw [look_set]
    split
    · rfl
    · rename_i hn
      exact h.1 p (by by_cases e : p = m; (· subst e; exact absurd rfl hn); omega) hne
  · rw [look_set, if_neg (fun e => hv (by have := hb m (by omega) e; omega))]
    exact h.2 b fun p hp => hb p (by omega)
theorem TkS.free (h : TkS D t m l) (hU : okU D t (m + 1)) (hv : val D t m ≠ 0) : Sel.look l (val D t m) = none := by
  refine h.2 _ fun p hp e => ?_
  exact absurd (hU.2 p m (by omega) (by omega) e (by rw [e]; exact hv)) (by omega)
theorem PlS.none (h : PlS D t m l) (hv : val D t m = 0 ∨ ∀ k, k < 1062 → posK k ≠ m) : PlS D t (m + 1) l := by
  have key : ∀ k, k < 1062 → posK k < m + 1 → atK D t k ≠ 0 → posK k < m := fun k hk hp hne => by
    by_cases e : posK k = m
    · rcases hv with hv | hv
      · exact absurd (by rw [atK, e]; exact hv) hne
      · exact absurd e (hv k hk)
    · omega
  exact ⟨fun k hk hp hne => h.1 k hk (key k hk hp hne) hne, fun x hx => h.2 x fun k hk hp hne => hx k hk (by omega) hne⟩
theorem PlS.step {k : Nat} (h : PlS D t m l) (hk : k < 1062) (hp : posK k = m) (hv : val D t m ≠ 0) : PlS D t (m + 1) (Sel.put l k (.int .i64 (val D t m))) := by
  have hat : atK D t k = val D t m := by rw [atK, hp]
  refine ⟨fun j hj hpj hne => ?_, fun x hx => ?_⟩
  · rw [look_set]
    by_cases e : (k : Int) = j
    · rw [if_pos e]
      have e' : k = j := by omega
      subst e'
      rw [hat]
    · rw [if_neg e]
      refine h.1 j hj ?_ hne
      by_cases ej : posK j = m
      · exact absurd (posK_inj hk hj (hp.trans ej.symm)) (by omega)
      · omega
  · rw [look_set, if_neg (fun e => hx k hk (by omega) (by rw [hat]; exact hv) e.symm)]
    exact h.2 x fun j hj hpj hne => hx j hj (by omega) hne
/-- Behind all: where a block lies; what is taken. -/
theorem PlS.at_ (h : PlS D t 1096 l) {k : Nat} (hk : k < 1062) : (Sel.look l k).getD (.int .i64 0) = .int .i64 (atK D t k) := by
  by_cases hne : atK D t k = 0
  · rw [h.2 k fun j hj _ hn e => hn (by have e' : k = j := by omega
                                        subst e'; exact hne), hne]
    rfl
  · rw [h.1 k hk (posK_lt hk) hne]
    rfl

/-! ### The view -/
def innC (inn : List (Int × Int)) : List Value := inn.flatMap fun x => [.int .i64 x.1, .int .i64 x.2]
theorem innC_len (inn : List (Int × Int)) : (innC inn).length = inn.length * 2 := by
  induction inn with
  | nil => rfl
  | cons x l ih => simp only [innC, List.flatMap_cons, List.length_append, List.length_cons, List.length_nil] at ih ⊢; omega
theorem innC_snoc (inn : List (Int × Int)) (b d : Int) : innC (inn ++ [(b, d)]) = innC inn ++ [.int .i64 b, .int .i64 d] := by simp [innC]
def vcells (A : Option Addr) (n c : Nat) (t : List Int) (mp : Nat) (vi : Value) (mt : Nat) : List Value := .slice A n c :: (iv .i64 t ++ [.map (some mp), vi, .map (some mt)])
structure Vw (w0 w : World) (A : Option Addr) (n c : Nat) (D : List (List Int)) (t : List Int) (vb mp mt : Nat) (m k : Nat) (inn : List (Int × Int)) (vi : Value) : Prop where
  hB : Below w0.heap.size w0 w
  blk : w.heap[vb]? = some (.cells (vcells A n c t mp vi mt).toArray 84 (0, 0))
  gv : w0.heap.size ≤ vb
  gp : w0.heap.size ≤ mp
  gt : w0.heap.size ≤ mt
  ne : mp ≠ mt
  own : w.ownsRow w0.heap.size 92 2 vi inn.length (innC inn)
  pl : ∃ l, IMap w mp l ∧ PlS D t k l
  tk : ∃ l, IMap w mt l ∧ TkS D t m l
section
variable {w0 w w' : World} {A : Option Addr} {n c : Nat} {vb mp mt k : Nat} {inn : List (Int × Int)} {vi : Value}
theorem imap_cells {b : Nat} {cs : Array Value} {T : TypeId} {fr : Nat × Nat} (h : IMap w b l) (hc : w.heap[b]? = some (.cells cs T fr)) : False := by
  obtain ⟨es, cl, hb, _⟩ := h.is
  rw [hb] at hc
  cases hc
theorem imap_at (h : IMap w mp l) (hs : w'.heap[mp]? = w.heap[mp]?) : IMap w' mp l := ⟨h.nodup, by rw [hs]; exact h.is⟩
theorem own_block {base size : Nat} {e : TypeId} {v : Value} {xs : List Value} (h : w.ownsRow base e size v n xs) (g : Nat) (hk : v.ownBlock = some g) : ∃ cur, w.heap[g]? = some (.cells cur e (0, 0)) := by
  rcases h.2 with ⟨rfl, _⟩ | ⟨g', cap, cur, rfl, _, hh, _⟩
  · cases hk
  · cases hk; exact ⟨cur, hh⟩
theorem Vw.vne_p (h : Vw w0 w A n c D t vb mp mt m k inn vi) : vb ≠ mp := fun e => by obtain ⟨l, hl, _⟩ := h.pl; exact imap_cells hl (e ▸ h.blk)
theorem Vw.vne_t (h : Vw w0 w A n c D t vb mp mt m k inn vi) : vb ≠ mt := fun e => by obtain ⟨l, hl, _⟩ := h.tk; exact imap_cells hl (e ▸ h.blk)
theorem Vw.ine_v (h : Vw w0 w A n c D t vb mp mt m k inn vi) : vi.ownBlock ≠ some vb := fun e => by obtain ⟨cur, hc⟩ := own_block h.own _ e; rw [h.blk] at hc; cases hc
theorem Vw.ine_p (h : Vw w0 w A n c D t vb mp mt m k inn vi) : vi.ownBlock ≠ some mp := fun e => by obtain ⟨cur, hc⟩ := own_block h.own _ e; obtain ⟨l, hl, _⟩ := h.pl; exact imap_cells hl hc
theorem Vw.ine_t (h : Vw w0 w A n c D t vb mp mt m k inn vi) : vi.ownBlock ≠ some mt := fun e => by obtain ⟨cur, hc⟩ := own_block h.own _ e; obtain ⟨l, hl, _⟩ := h.tk; exact imap_cells hl hc
theorem Vw.taken (h : Vw w0 w A n c D t vb mp mt m k inn vi) {l' : List (Int × Value)} (hb : ButBlock mt w w') (hl : IMap w' mt l') (ht : TkS D t (m + 1) l') : Vw w0 w' A n c D t vb mp mt (m + 1) k inn vi := by
  obtain ⟨l, h1, h2⟩ := h.pl
  exact ⟨hb.below h.hB h.gt, (hb.far _ h.vne_t).trans h.blk, h.gv, h.gp, h.gt, h.ne, own_same h.own fun j hj => hb.far _ fun e => h.ine_t (e ▸ hj), ⟨l, hb.imap h1 h.ne, h2⟩, l', hl, ht⟩
theorem Vw.placed (h : Vw w0 w A n c D t vb mp mt m k inn vi) {l' : List (Int × Value)} (hb : ButBlock mp w w') (hl : IMap w' mp l') (ht : PlS D t (k + 1) l') : Vw w0 w' A n c D t vb mp mt m (k + 1) inn vi := by
  obtain ⟨l, h1, h2⟩ := h.tk
  exact ⟨hb.below h.hB h.gp, (hb.far _ h.vne_p).trans h.blk, h.gv, h.gp, h.gt, h.ne, own_same h.own fun j hj => hb.far _ fun e => h.ine_p (e ▸ hj), ⟨l', hl, ht⟩, l, hb.imap h1 (Ne.symm h.ne), h2⟩
theorem Vw.noplace (h : Vw w0 w A n c D t vb mp mt m k inn vi) (hv : val D t k = 0 ∨ ∀ j, j < 1062 → posK j ≠ k) : Vw w0 w A n c D t vb mp mt m (k + 1) inn vi := by
  obtain ⟨l, h1, h2⟩ := h.pl
  exact ⟨h.hB, h.blk, h.gv, h.gp, h.gt, h.ne, h.own, ⟨l, h1, h2.none hv⟩, h.tk⟩
theorem Vw.pushed (h : Vw w0 w A n c D t vb mp mt m k inn vi) (ht : t.length = 8) {b d : Int} {g cap : Nat} {w1 : World} (ho : w1.ownsRow w0.heap.size 92 2 (.slice (some ⟨g, 0, none⟩) (inn.length + 1) cap) (inn.length + 1) (innC inn ++ [.int .i64 b, .int .i64 d]))
    (hg : w.grownBy w1 vi.ownBlock) : Vw w0 (w1.setCell ⟨vb, 10, none⟩ (.slice (some ⟨g, 0, none⟩) (inn.length + 1) cap)) A n c D t vb mp mt m k (inn ++ [(b, d)]) (.slice (some ⟨g, 0, none⟩) (inn.length + 1) cap) := by
  have hlt : ∀ {i : Nat} {o : Obj}, w.heap[i]? = some o → i < w.heap.size := fun h => (Array.getElem?_eq_some_iff.1 h).1
  have hkeep : ∀ {i : Nat} {o : Obj}, w.heap[i]? = some o → vi.ownBlock ≠ some i → w1.heap[i]? = some o := fun h1 h2 => (hg.block _ (hlt h1) fun e => h2 e.symm).trans h1
  have hv1 := hkeep h.blk h.ine_v
  have hgv : g ≠ vb := fun e => by
    obtain ⟨cur, hc⟩ := own_block ho g rfl
    rw [e, hv1] at hc; cases hc
  have hset : ∀ i, i ≠ vb → (w1.setCell ⟨vb, 10, none⟩ (.slice (some ⟨g, 0, none⟩) (inn.length + 1) cap)).heap[i]? = w1.heap[i]? := fun i hi => Below.heap_setCell _ _ _ _ hi
  have hpl : ∀ {q : Nat} {l : List (Int × Value)}, IMap w q l → vi.ownBlock ≠ some q → vb ≠ q → IMap (w1.setCell ⟨vb, 10, none⟩ (.slice (some ⟨g, 0, none⟩) (inn.length + 1) cap)) q l := fun hq hne hvq => by
    refine imap_at hq ?_
    rw [hset _ (Ne.symm hvq)]
    exact hg.block _ hq.lt fun e => hne e.symm
  refine ⟨(below_grown h.hB hg h.hB.size (own_row h.own)).setCell h.gv _, ?_, h.gv, h.gp, h.gt, h.ne, ?_, ?_, ?_⟩
  · rw [blk_set hv1 10]
    congr 2
    apply Array.toList_inj.1
    simp only [vcells, List.setIfInBounds_toArray, List.set_cons_succ]
    have e8 : (iv .i64 t).length = 8 := by simpa using ht
    rw [List.set_append_right _ _ (by omega), e8]
    rfl
  · rw [innC_snoc]
    have : (inn ++ [(b, d)]).length = inn.length + 1 := by simp
    rw [this]
    refine own_same ho fun j hj => ?_
    cases hj
    exact hset _ hgv
  · obtain ⟨l, h1, h2⟩ := h.pl
    exact ⟨l, hpl h1 h.ine_p h.vne_p, h2⟩
  · obtain ⟨l, h1, h2⟩ := h.tk
    exact ⟨l, hpl h1 h.ine_t h.vne_t, h2⟩
/-- Its cells. -/
theorem Vw.cell (h : Vw w0 w A n c D t vb mp mt m k inn vi) (ht : t.length = 8) : w.cell? ⟨vb, 0, none⟩ = some (.slice A n c) ∧ w.cell? ⟨vb, 9, none⟩ = some (.map (some mp)) ∧ w.cell? ⟨vb, 10, none⟩ = some vi ∧ w.cell? ⟨vb, 11, none⟩ = some (.map (some mt)) ∧
    (∀ j (hj : j < t.length), w.cell? ⟨vb, j + 1, none⟩ = some (.int .i64 t[j])) ∧ ∀ j, w.frozen? ⟨vb, j, none⟩ = false := by
  have hc := blk_cell h.blk
  have e8 : (iv .i64 t).length = 8 := by simpa using ht
  refine ⟨?_, ?_, ?_, ?_, fun j hj => ?_, blk_free h.blk⟩
  · rw [hc]; rfl
  · rw [hc]; simp only [vcells, List.getElem?_toArray, List.getElem?_cons_succ]; rw [List.getElem?_append_right (by omega), e8]; rfl
  · rw [hc]; simp only [vcells, List.getElem?_toArray, List.getElem?_cons_succ]; rw [List.getElem?_append_right (by omega), e8]; rfl
  · rw [hc]; simp only [vcells, List.getElem?_toArray, List.getElem?_cons_succ]; rw [List.getElem?_append_right (by omega), e8]; rfl
  · rw [hc]; simp only [vcells, List.getElem?_toArray, List.getElem?_cons_succ]; rw [List.getElem?_append_left (by omega)]; simp [iv, hj]
end
end Go.Sel.Bg
/- Walks of big: point, leaf. -/
set_option linter.unusedSimpArgs false
set_option linter.unusedVariables false
namespace Go.Proofs.Ytcgfoaihfncppaa
open Go.RowKit Go.Sel Go.Sel.Gra Go.Sel.Bg Go.Sel.Mer Go.Shelf

theorem zeroB (w : World) : (zeroValue 4).run Try.prog w = .ok (.bool false) w := by kernel_rfl
theorem zeroI (w : World) : (zeroValue 3).run Try.prog w = .ok (.int .i64 0) w := by kernel_rfl
theorem infoInner : (Try.prog.info? 92).map (fun i => (i.zero, i.size, i.bytes)) = some (some (.agg #[.int .i64 0, .int .i64 0]), 2, 16) := by kernel_rfl

set_option maxRecDepth 100000 in
set_option maxHeartbeats 2000000 in
/-- A look at the next pointer. -/
theorem point_any (w0 w : World) (A : Option Addr) (n c : Nat) (D : List (List Int)) (t : List Int) (vb mp mt m k : Nat) (inn : List (Int × Int)) (vi : Value) (ht : t.length = 8) (hD : Bp w0 A n c D) (hn : n ≤ 96)
    (hU : okU D t 1096) (hm : m < 1096) (hV : Vw w0 w A n c D t vb mp mt m k inn vi) :
    Calls Try.prog 62 #[.pointer (some ⟨vb, 0, none⟩), .int .i64 (val D t m)] w fun e w' => e = .returned (.bool (decide (val D t m ≠ 0))) ∧ Vw w0 w' A n c D t vb mp mt (m + 1) k inn vi := by
  have hln := hD.len
  have hr := hU.1 m hm
  have hc0 := hD.cap
  have hc1 := hD.le
  obtain ⟨l, hI, hT⟩ := hV.tk
  obtain ⟨c0, c9, c10, c11, ct, cz⟩ := hV.cell ht
  clear c9 c10 ct cz
  by_cases h0 : val D t m = 0
  · have HV : Hid (Vw w0 w A n c D t vb mp mt (m + 1) k inn vi) := Lib.hid (by obtain ⟨q1, q2, q3, q4, q5, q6, q7, q8, q9⟩ := hV; exact ⟨q1, q2, q3, q4, q5, q6, q7, q8, l, hI, hT.zero h0⟩)
    rw [h0]
    clear hV hr hT h0 hU hD hI hm ht hc0 hc1 hln hn c0 c11
    go_enter Try.func62, Try.ntmps62
    go_wp2
    go_ret
    exact ⟨rfl, HV.out⟩
  · have hlk := hI.lookup (P := Try.prog) Try.underlying82 Try.underlying3 (zeroB w) (val D t m)
    rw [hT.free ⟨fun p hp => hU.1 p (by omega), fun p q hp hq => hU.2 p q (by omega) (by omega)⟩ h0] at hlk
    simp only [Option.getD_none] at hlk
    obtain ⟨w1, hrun, hm1, hb1⟩ := hI.store (P := Try.prog) Try.underlying82 Try.underlying3 (val D t m) (.bool true)
    have HV : Hid (Vw w0 w1 A n c D t vb mp mt (m + 1) k inn vi) := Lib.hid (hV.taken hb1 hm1 (hT.step h0))
    have HE : Hid (decide (val D t m ≠ 0) = true) := Lib.hid (by simpa using h0)
    generalize val D t m = x at *
    clear hV hT hm1 hb1 hI
    have q1 : (0 : Int) < x := by omega
    have q2 : x < (n : Int) := by omega
    clear hr
    go_enter Try.func62, Try.ntmps62
    go_wp2_with (go_at_call 37; (with_reducible refine (must_ok 3 w).mono ?_); rintro e w2 ⟨rfl, rfl⟩)
    go_ret
    exact ⟨ret_bool HE.out.symm, HV.out⟩

set_option maxRecDepth 100000 in
set_option maxHeartbeats 4000000 in
/-- A look at a block's pointers. -/
theorem leaf_any (w0 w : World) (A : Option Addr) (n c : Nat) (D : List (List Int)) (t : List Int) (vb mp mt m : Nat) (inn : List (Int × Int)) (vi : Value) (ht : t.length = 8) (hD : Bp w0 A n c D) (hn : n ≤ 96) (hW : whole D)
    (hU : okU D t 1096) (hm : m + 32 ≤ 1096) (hV : Vw w0 w A n c D t vb mp mt m m inn vi) (hi : inn.length ≤ 100) (b fr : Nat) (d : Int) (hb : b < n) (hrow : ∀ i, i < 32 → val D t (m + i) = at2 D b i) (hpos : ∀ i, i < 32 → posK (fr + i) = m + i ∧ fr + i < 1062) :
    Calls Try.prog 63 #[.pointer (some ⟨vb, 0, none⟩), .int .i64 b, .int .i64 fr, .int .i64 d] w fun e w' => e = .returned (.tuple #[]) ∧ ∃ vi', Vw w0 w' A n c D t vb mp mt (m + 32) (m + 32) (inn ++ [((b : Int), d)]) vi' := by
  have HD := Lib.hid hD
  have HU := Lib.hid hU
  have HROW := Lib.hid hrow
  have HPOS := Lib.hid hpos
  have HV := Lib.hid hV
  have hc0 := hD.cap
  have hc1 := hD.le
  obtain ⟨ib, io, A', n', c', rfl, hib, hcell, hl', hR', hby⟩ := hD.at_ hb
  have h32 : n' = 32 := by
    rw [← hl']
    refine hW.2 _ ?_
    have hbl : b < D.length := by rw [hD.len]; exact hb
    have : nth D b = D[b] := by simp [nth, hbl]
    rw [this]
    exact List.getElem_mem hbl
  subst h32
  have HR := Lib.hid hR'
  have HL := Lib.hid hl'
  have HBY := Lib.hid hby
  have hcc := hR'.cap
  have hcl := hR'.le
  have hcw : w.cell? ⟨ib, io + b, none⟩ = some (.slice A' 32 c') := keep_cell hcell (hV.hB)
  obtain ⟨c0, c9, c10, c11, ct, cz⟩ := hV.cell ht
  have HO := Lib.hid hV.own
  have hbs := hV.hB.size
  have HF : Hid (posK (fr + 0) = m + 0 ∧ fr + 0 < 1062) := Lib.hid (hpos 0 (by omega))
  clear hR' hl' hby hU hrow hpos hV hD hW ct c9 c11
  go_enter Try.func63, Try.ntmps63
  have hne : ib ≠ vb := by have := HV.out.gv; omega
  have hne2 : vb ≠ ib := Ne.symm hne
  go_wp2_with (refine wpList_pushN w rfl _ _ 81 92 rfl w0.heap.size (.agg #[.int .i64 0, .int .i64 0]) 2 16 Try.underlying81 infoInner rfl (by omega) (by omega) vi inn.length _ [.int .i64 b, .int .i64 d] rfl rfl rfl (by simp [Value.oneCell']) HO.out hbs (by omega) rfl ?_; intro g cap w1 ho hg hat hlt1; have HV1 := Lib.hid (HV.out.pushed ht ho hg); have e1 : ∀ j, w1.cell? ⟨vb, j, none⟩ = w.cell? ⟨vb, j, none⟩ := (fun j => World.cell?_of_block (hg.block vb (by have := (Array.getElem?_eq_some_iff.1 HV.out.blk).1; omega) (fun e => HV.out.ine_v e.symm))); have e2 : w1.cell? ⟨ib, io + b, none⟩ = w.cell? ⟨ib, io + b, none⟩ := World.cell?_of_block (hg.block ib (by omega) (fun e => by have := own_row HO.out ib e.symm; omega)); have ez : w1.frozen? ⟨vb, 10, none⟩ = false := (World.frozen?_of_block (a := ⟨vb, 10, none⟩) (hg.block vb (by have := (Array.getElem?_eq_some_iff.1 HV.out.blk).1; omega) (fun e => HV.out.ine_v e.symm))).trans (cz 10); clear ho hg hat cz)
  clear HO HV c0 c10 hcw e1 e2 ez hne hne2
  generalize Value.slice (some ⟨g, 0, none⟩) (inn.length + 1) cap = vi' at *
  go_loopw [8, 9, 30] (fun _ _ v wr => ∃ i : Nat, i ≤ 32 ∧ v = .int .i64 i ∧ Hid (Vw w0 wr (some ⟨ib, io, none⟩) n c D t vb mp mt (m + i) (m + i) (inn ++ [((b : Int), d)]) vi')) (fun _ _ v _ => 32 - (Go.RowKit.intOf v).toNat)
  case atStart => exact ⟨0, by omega, rfl, HV1⟩
  case round =>
    clear HV1
    obtain ⟨i, hi32, rfl, HV⟩ := hrel
    by_cases hlt : i < 32
    · obtain ⟨rb, ro, rfl, hrb, hrc⟩ := HR.out.form (by simp; have := HL.out; omega)
      have hil : i < (nth D b).length := by rw [HL.out]; exact hlt
      have hcx := hrc i (by simpa using hil)
      rw [iv_at] at hcx
      have hcy := keep_cell hcx HV.out.hB
      have hby := HBY.out _ (List.getElem_mem hil)
      have HEQ : Hid (val D t (m + i) = (nth D b)[i]) := by
        show _ = _
        rw [HROW.out i hlt]
        have hil' : i < (D.getD b []).length := hil
        simp only [at2, nth, Int.toNat_natCast]
        rw [List.getD_eq_getElem?_getD, List.getElem?_eq_getElem hil']
        rfl
      have HP := Lib.hid (point_any w0 wr (some ⟨ib, io, none⟩) n c D t vb mp mt (m + i) (m + i) (inn ++ [((b : Int), d)]) vi' ht HD.out hn HU.out (by omega) HV.out)
      have HPO := Lib.hid (HPOS.out i hlt)
      rw [HEQ.out] at HP
      clear hrc hcx
      generalize (nth D b)[i] = x at *
      clear HV
      have hfi := HPO.out.2
      by_cases hx : x = 0
      · have HZ : Hid (val D t (m + i) = 0) := Lib.hid (HEQ.out.trans hx)
        subst hx
        go_wp2_with (go_at_call 62; (with_reducible refine HP.out.mono ?_); rintro e w2 ⟨rfl, hV2⟩; have HV2 := Lib.hid hV2; clear hV2)
        exact ⟨⟨i + 1, by omega, by go_num, HV2.out.noplace (.inl HZ.out)⟩, by simp [Go.RowKit.intOf]; omega⟩
      · have HZ : Hid (val D t (m + i) ≠ 0) := Lib.hid (by rw [HEQ.out]; exact hx)
        have hx2 : decide (x ≠ 0) = true := by simpa using hx
        rw [hx2] at HP
        go_wp2_with (go_at_call 62; (with_reducible refine HP.out.mono ?_); rintro e w2 ⟨rfl, hV2⟩; obtain ⟨c0, c9, c10, c11, ct, cz⟩ := hV2.cell ht; obtain ⟨l, hl, hpl⟩ := hV2.pl; obtain ⟨w3, hrun, hm1, hb1⟩ := hl.store (P := Try.prog) Try.underlying80 Try.underlying3 ((fr : Int) + i) (.int .i64 x); have HV3 : Hid (Vw w0 w3 (some ⟨ib, io, none⟩) n c D t vb mp mt (m + i + 1) (m + i + 1) (inn ++ [((b : Int), d)]) vi') := (by have q1 := hpl.step HPO.out.2 HPO.out.1 HZ.out; rw [HEQ.out] at q1; exact hV2.placed hb1 hm1 (by simpa using q1)); clear hV2 hl hpl hm1 hb1 c0 c10 c11 ct cz)
        exact ⟨⟨i + 1, by omega, by go_num, HV3.out⟩, by simp [Go.RowKit.intOf]; omega⟩
    · obtain rfl : i = 32 := by omega
      go_wp2
      go_end0
      exact ⟨rfl, _, HV.out⟩
end Go.Proofs.Ytcgfoaihfncppaa
/- Walks of big: top, file, IndexFunc and ContainsFunc over blocks. -/
set_option linter.unusedSimpArgs false
set_option linter.unusedVariables false
namespace Go.Proofs.Ytcgfoaihfncppaa
open Go.RowKit Go.Sel Go.Sel.Gra Go.Sel.Bg Go.Sel.Mer Go.Shelf

theorem len8 {t : List Int} (h : t.length = 8) : ∃ a b c d e f g i, t = [a, b, c, d, e, f, g, i] := by
  match t, h with
  | [a, b, c, d, e, f, g, i], _ => exact ⟨a, b, c, d, e, f, g, i, rfl⟩
theorem setCell_at {w : World} {b j : Nat} {cs : Array Value} {v : Value} {T : TypeId} (h : w.heap[b]? = some (.cells cs T (0, 0))) (hv : cs[j]? = some v) : w.setCell ⟨b, j, none⟩ v = w := by
  have e : (w.setCell ⟨b, j, none⟩ v).heap = w.heap := by
    refine Array.ext_getElem? fun i => ?_
    by_cases hi : i = b
    · subst hi
      rw [blk_set h j v, h]
      congr 2
      refine Array.ext_getElem? fun k => ?_
      obtain ⟨hj, hg⟩ := Array.getElem?_eq_some_iff.1 hv
      by_cases e : j = k
      · subst e; simp [hj, hg]
      · rw [Array.getElem?_setIfInBounds_ne e]
    · exact Below.heap_setCell _ _ _ _ hi
  cases w
  simp_all [World.setCell]
def bigV (t : List Int) : Value := .agg (iv .i64 t).toArray

set_option maxRecDepth 100000 in
set_option maxHeartbeats 2000000 in
theorem top_any (t : List Int) (ht : t.length = 8) (w : World) : Calls Try.prog 39 #[bigV t] w fun e w' => e = .returned (bigV t) ∧ Below w.heap.size w w' := by
  obtain ⟨a0, a1, a2, a3, a4, a5, a6, a7, rfl⟩ := len8 ht
  simp only [bigV, iv, List.map_cons, List.map_nil]
  have hg1 : ((w.alloc (.cells #[.int .i64 a0, .int .i64 a1, .int .i64 a2, .int .i64 a3, .int .i64 a4, .int .i64 a5, .int .i64 a6, .int .i64 a7] 36)).alloc (.cells #[.int .i64 0, .int .i64 0, .int .i64 0, .int .i64 0, .int .i64 0, .int .i64 0, .int .i64 0, .int .i64 0] 66)).heap[w.heap.size]? = some (.cells #[.int .i64 a0, .int .i64 a1, .int .i64 a2, .int .i64 a3, .int .i64 a4, .int .i64 a5, .int .i64 a6, .int .i64 a7] 36 (0, 0)) := blk21 _ _ _
  have hg2 : ((w.alloc (.cells #[.int .i64 a0, .int .i64 a1, .int .i64 a2, .int .i64 a3, .int .i64 a4, .int .i64 a5, .int .i64 a6, .int .i64 a7] 36)).alloc (.cells #[.int .i64 0, .int .i64 0, .int .i64 0, .int .i64 0, .int .i64 0, .int .i64 0, .int .i64 0, .int .i64 0] 66)).heap[w.heap.size + 1]? = some (.cells #[.int .i64 0, .int .i64 0, .int .i64 0, .int .i64 0, .int .i64 0, .int .i64 0, .int .i64 0, .int .i64 0] 66 (0, 0)) := by
    have := blk11 (w.alloc (.cells #[.int .i64 a0, .int .i64 a1, .int .i64 a2, .int .i64 a3, .int .i64 a4, .int .i64 a5, .int .i64 a6, .int .i64 a7] 36)) (.cells #[.int .i64 0, .int .i64 0, .int .i64 0, .int .i64 0, .int .i64 0, .int .i64 0, .int .i64 0, .int .i64 0] 66)
    simpa using this
  have HG1 := Lib.hid hg1
  have HG2 := Lib.hid hg2
  have hB : Hid (Below w.heap.size w ((w.alloc (.cells #[.int .i64 a0, .int .i64 a1, .int .i64 a2, .int .i64 a3, .int .i64 a4, .int .i64 a5, .int .i64 a6, .int .i64 a7] 36)).alloc (.cells #[.int .i64 0, .int .i64 0, .int .i64 0, .int .i64 0, .int .i64 0, .int .i64 0, .int .i64 0, .int .i64 0] 66))) := Lib.hid ((below_al w _).alloc (by simp) _)
  clear hg1 hg2
  go_enter Try.func39, Try.ntmps39
  go_wp2
  generalize (w.alloc (.cells #[.int .i64 a0, .int .i64 a1, .int .i64 a2, .int .i64 a3, .int .i64 a4, .int .i64 a5, .int .i64 a6, .int .i64 a7] 36)).alloc (.cells #[.int .i64 0, .int .i64 0, .int .i64 0, .int .i64 0, .int .i64 0, .int .i64 0, .int .i64 0, .int .i64 0] 66) = W at *
  go_still_tail 3, (by kernel_rfl)
  refine wpList_copy_run (w := W.drew) rfl _ _ _ _ rfl (.slice (some ⟨w.heap.size + 1, 0, none⟩) 8 8) (.slice (some ⟨w.heap.size, 0, none⟩) 6 6) _ (by rfl) (by rfl) (run_copy_row (P := Try.prog) W.drew 23 23 _ 3 (w.heap.size + 1) 0 8 8 ⟨w.heap.size, 0, none⟩ 6 6 _ 66 (iv .i64 [a0, a1, a2, a3, a4, a5]) Try.underlying23 (by kernel_rfl) HG2.out rfl (fun j v hj => ?_) (by simp) (one_iv _ _)) ?_
  · rw [Addr.add_lit, Nat.zero_add, blk_cell (w := W.drew) HG1.out]
    have hj' := (List.getElem?_eq_some_iff.1 hj).1
    simp only [iv, List.map_cons, List.map_nil, List.length_cons, List.length_nil] at hj hj'
    rw [← hj]
    rcases (show j = 0 ∨ j = 1 ∨ j = 2 ∨ j = 3 ∨ j = 4 ∨ j = 5 by omega) with rfl | rfl | rfl | rfl | rfl | rfl <;> rfl
  have HG3 := Lib.hid (blk_row (w := W.drew) (cs' := (List.take 0 #[Value.int .i64 0, .int .i64 0, .int .i64 0, .int .i64 0, .int .i64 0, .int .i64 0, .int .i64 0, .int .i64 0].toList ++ iv .i64 [a0, a1, a2, a3, a4, a5] ++ List.drop (0 + (iv .i64 [a0, a1, a2, a3, a4, a5]).length) #[Value.int .i64 0, .int .i64 0, .int .i64 0, .int .i64 0, .int .i64 0, .int .i64 0, .int .i64 0, .int .i64 0].toList).toArray) HG2.out)
  have HB2 : Hid (Below w.heap.size w (W.drew.setRow (w.heap.size + 1) (List.take 0 #[Value.int .i64 0, .int .i64 0, .int .i64 0, .int .i64 0, .int .i64 0, .int .i64 0, .int .i64 0, .int .i64 0].toList ++ iv .i64 [a0, a1, a2, a3, a4, a5] ++ List.drop (0 + (iv .i64 [a0, a1, a2, a3, a4, a5]).length) #[Value.int .i64 0, .int .i64 0, .int .i64 0, .int .i64 0, .int .i64 0, .int .i64 0, .int .i64 0, .int .i64 0].toList).toArray)) := Lib.hid (below_setRow hB.out.drew (by omega) _)
  have HG4 : Hid ((W.drew.setRow (w.heap.size + 1) (List.take 0 #[Value.int .i64 0, .int .i64 0, .int .i64 0, .int .i64 0, .int .i64 0, .int .i64 0, .int .i64 0, .int .i64 0].toList ++ iv .i64 [a0, a1, a2, a3, a4, a5] ++ List.drop (0 + (iv .i64 [a0, a1, a2, a3, a4, a5]).length) #[Value.int .i64 0, .int .i64 0, .int .i64 0, .int .i64 0, .int .i64 0, .int .i64 0, .int .i64 0, .int .i64 0].toList).toArray).heap[w.heap.size]? = some (.cells #[.int .i64 a0, .int .i64 a1, .int .i64 a2, .int .i64 a3, .int .i64 a4, .int .i64 a5, .int .i64 a6, .int .i64 a7] 36 (0, 0))) := Lib.hid ((setRow_other _ _ _ _ (by omega)).trans HG1.out)
  generalize W.drew.setRow (w.heap.size + 1) _ = W2 at *
  have c6 := blk_cell HG4.out 6
  have c7 := blk_cell HG4.out 7
  have d := blk_cell HG3.out
  have d0 := d 0
  have d1 := d 1
  have d2 := d 2
  have d3 := d 3
  have d4 := d 4
  have d5 := d 5
  have d6 := d 6
  have d7 := d 7
  simp only [iv, List.map_cons, List.map_nil, List.take_zero, List.nil_append, List.length_cons, List.length_nil, Nat.reduceAdd, List.drop_succ_cons, List.drop_zero, List.cons_append, List.getElem?_toArray, List.getElem?_cons_zero, List.getElem?_cons_succ] at c6 c7 d0 d1 d2 d3 d4 d5 d6 d7
  have z := blk_free HG3.out
  clear d
  go_wp2
  have HG5 := blk_set (blk_set HG3.out 6 (.int .i64 a6)) 7 (.int .i64 a7)
  simp only [iv, List.map_cons, List.map_nil, List.take_zero, List.nil_append, List.length_cons, List.length_nil, Nat.reduceAdd, List.drop_succ_cons, List.drop_zero, List.cons_append, List.setIfInBounds_toArray, List.set_cons_succ, List.set_cons_zero] at HG5
  have HB5 : Below w.heap.size w ((W2.setCell ⟨w.heap.size + 1, 6, none⟩ (.int .i64 a6)).setCell ⟨w.heap.size + 1, 7, none⟩ (.int .i64 a7)) := (HB2.out.setCell (by simp) _).setCell (by simp) _
  clear HG1 HG2 HG3 HG4 c6 c7 d0 d1 d2 d3 d4 d5 d6 d7 z HB2
  generalize (W2.setCell ⟨w.heap.size + 1, 6, none⟩ (.int .i64 a6)).setCell ⟨w.heap.size + 1, 7, none⟩ (.int .i64 a7) = W3 at *
  have hs := fun j v (h : _) => setCell_at (j := j) (v := v) HG5 h
  rw [hs 0 (.int .i64 a0) rfl, hs 1 (.int .i64 a1) rfl, hs 2 (.int .i64 a2) rfl, hs 3 (.int .i64 a3) rfl, hs 4 (.int .i64 a4) rfl, hs 5 (.int .i64 a5) rfl, hs 6 (.int .i64 a6) rfl, hs 7 (.int .i64 a7) rfl]
  refine bodyPost_ret (v := .agg #[.int .i64 a0, .int .i64 a1, .int .i64 a2, .int .i64 a3, .int .i64 a4, .int .i64 a5, .int .i64 a6, .int .i64 a7]) ?_ rfl ?_
  · have d := blk_cell HG5
    have d0 := d 0
    have d1 := d 1
    have d2 := d 2
    have d3 := d 3
    have d4 := d 4
    have d5 := d 5
    have d6 := d 6
    have d7 := d 7
    simp only [List.getElem?_toArray, List.getElem?_cons_zero, List.getElem?_cons_succ] at d0 d1 d2 d3 d4 d5 d6 d7
    simp [results, Try.results39, go_sem, d0, d1, d2, d3, d4, d5, d6, d7]
  · exact ⟨rfl, HB5⟩

set_option maxRecDepth 100000 in
set_option maxHeartbeats 2000000 in
theorem file_any (t : List Int) (ht : t.length = 8) (w : World) : Calls Try.prog 33 #[bigV t] w fun e w' => e = .returned (bigV t) ∧ Below w.heap.size w w' := by
  obtain ⟨a0, a1, a2, a3, a4, a5, a6, a7, rfl⟩ := len8 ht
  simp only [bigV, iv, List.map_cons, List.map_nil]
  have hg1 : ((w.alloc (.cells #[.int .i64 a0, .int .i64 a1, .int .i64 a2, .int .i64 a3, .int .i64 a4, .int .i64 a5, .int .i64 a6, .int .i64 a7] 66)).alloc (.cells #[.int .i64 0, .int .i64 0, .int .i64 0, .int .i64 0, .int .i64 0, .int .i64 0, .int .i64 0, .int .i64 0] 36)).heap[w.heap.size]? = some (.cells #[.int .i64 a0, .int .i64 a1, .int .i64 a2, .int .i64 a3, .int .i64 a4, .int .i64 a5, .int .i64 a6, .int .i64 a7] 66 (0, 0)) := blk21 _ _ _
  have hg2 : ((w.alloc (.cells #[.int .i64 a0, .int .i64 a1, .int .i64 a2, .int .i64 a3, .int .i64 a4, .int .i64 a5, .int .i64 a6, .int .i64 a7] 66)).alloc (.cells #[.int .i64 0, .int .i64 0, .int .i64 0, .int .i64 0, .int .i64 0, .int .i64 0, .int .i64 0, .int .i64 0] 36)).heap[w.heap.size + 1]? = some (.cells #[.int .i64 0, .int .i64 0, .int .i64 0, .int .i64 0, .int .i64 0, .int .i64 0, .int .i64 0, .int .i64 0] 36 (0, 0)) := by
    have := blk11 (w.alloc (.cells #[.int .i64 a0, .int .i64 a1, .int .i64 a2, .int .i64 a3, .int .i64 a4, .int .i64 a5, .int .i64 a6, .int .i64 a7] 66)) (.cells #[.int .i64 0, .int .i64 0, .int .i64 0, .int .i64 0, .int .i64 0, .int .i64 0, .int .i64 0, .int .i64 0] 36)
    simpa using this
  have HG1 := Lib.hid hg1
  have HG2 := Lib.hid hg2
  have hB : Hid (Below w.heap.size w ((w.alloc (.cells #[.int .i64 a0, .int .i64 a1, .int .i64 a2, .int .i64 a3, .int .i64 a4, .int .i64 a5, .int .i64 a6, .int .i64 a7] 66)).alloc (.cells #[.int .i64 0, .int .i64 0, .int .i64 0, .int .i64 0, .int .i64 0, .int .i64 0, .int .i64 0, .int .i64 0] 36))) := Lib.hid ((below_al w _).alloc (by simp) _)
  clear hg1 hg2
  go_enter Try.func33, Try.ntmps33
  go_wp2
  generalize (w.alloc (.cells #[.int .i64 a0, .int .i64 a1, .int .i64 a2, .int .i64 a3, .int .i64 a4, .int .i64 a5, .int .i64 a6, .int .i64 a7] 66)).alloc (.cells #[.int .i64 0, .int .i64 0, .int .i64 0, .int .i64 0, .int .i64 0, .int .i64 0, .int .i64 0, .int .i64 0] 36) = W at *
  go_still_tail 3, (by kernel_rfl)
  refine wpList_copy_run (w := W.drew) rfl _ _ _ _ rfl (.slice (some ⟨w.heap.size + 1, 0, none⟩) 6 6) (.slice (some ⟨w.heap.size, 0, none⟩) 8 8) _ (by rfl) (by rfl) (run_copy_row (P := Try.prog) W.drew 23 23 _ 3 (w.heap.size + 1) 0 6 6 ⟨w.heap.size, 0, none⟩ 8 8 _ 36 (iv .i64 [a0, a1, a2, a3, a4, a5]) Try.underlying23 (by kernel_rfl) HG2.out rfl (fun j v hj => ?_) (by simp) (one_iv _ _)) ?_
  · rw [Addr.add_lit, Nat.zero_add, blk_cell (w := W.drew) HG1.out]
    have hj' := (List.getElem?_eq_some_iff.1 hj).1
    simp only [iv, List.map_cons, List.map_nil, List.length_cons, List.length_nil] at hj hj'
    rw [← hj]
    rcases (show j = 0 ∨ j = 1 ∨ j = 2 ∨ j = 3 ∨ j = 4 ∨ j = 5 by omega) with rfl | rfl | rfl | rfl | rfl | rfl <;> rfl
  have HG3 := Lib.hid (blk_row (w := W.drew) (cs' := (List.take 0 #[Value.int .i64 0, .int .i64 0, .int .i64 0, .int .i64 0, .int .i64 0, .int .i64 0, .int .i64 0, .int .i64 0].toList ++ iv .i64 [a0, a1, a2, a3, a4, a5] ++ List.drop (0 + (iv .i64 [a0, a1, a2, a3, a4, a5]).length) #[Value.int .i64 0, .int .i64 0, .int .i64 0, .int .i64 0, .int .i64 0, .int .i64 0, .int .i64 0, .int .i64 0].toList).toArray) HG2.out)
  have HB2 : Hid (Below w.heap.size w (W.drew.setRow (w.heap.size + 1) (List.take 0 #[Value.int .i64 0, .int .i64 0, .int .i64 0, .int .i64 0, .int .i64 0, .int .i64 0, .int .i64 0, .int .i64 0].toList ++ iv .i64 [a0, a1, a2, a3, a4, a5] ++ List.drop (0 + (iv .i64 [a0, a1, a2, a3, a4, a5]).length) #[Value.int .i64 0, .int .i64 0, .int .i64 0, .int .i64 0, .int .i64 0, .int .i64 0, .int .i64 0, .int .i64 0].toList).toArray)) := Lib.hid (below_setRow hB.out.drew (by omega) _)
  have HG4 : Hid ((W.drew.setRow (w.heap.size + 1) (List.take 0 #[Value.int .i64 0, .int .i64 0, .int .i64 0, .int .i64 0, .int .i64 0, .int .i64 0, .int .i64 0, .int .i64 0].toList ++ iv .i64 [a0, a1, a2, a3, a4, a5] ++ List.drop (0 + (iv .i64 [a0, a1, a2, a3, a4, a5]).length) #[Value.int .i64 0, .int .i64 0, .int .i64 0, .int .i64 0, .int .i64 0, .int .i64 0, .int .i64 0, .int .i64 0].toList).toArray).heap[w.heap.size]? = some (.cells #[.int .i64 a0, .int .i64 a1, .int .i64 a2, .int .i64 a3, .int .i64 a4, .int .i64 a5, .int .i64 a6, .int .i64 a7] 66 (0, 0))) := Lib.hid ((setRow_other _ _ _ _ (by omega)).trans HG1.out)
  generalize W.drew.setRow (w.heap.size + 1) _ = W2 at *
  have c6 := blk_cell HG4.out 6
  have c7 := blk_cell HG4.out 7
  have d := blk_cell HG3.out
  have d0 := d 0
  have d1 := d 1
  have d2 := d 2
  have d3 := d 3
  have d4 := d 4
  have d5 := d 5
  have d6 := d 6
  have d7 := d 7
  simp only [iv, List.map_cons, List.map_nil, List.take_zero, List.nil_append, List.length_cons, List.length_nil, Nat.reduceAdd, List.drop_succ_cons, List.drop_zero, List.cons_append, List.getElem?_toArray, List.getElem?_cons_zero, List.getElem?_cons_succ] at c6 c7 d0 d1 d2 d3 d4 d5 d6 d7
  have z := blk_free HG3.out
  clear d
  go_wp2
  have HG5 := blk_set (blk_set HG3.out 6 (.int .i64 a6)) 7 (.int .i64 a7)
  simp only [iv, List.map_cons, List.map_nil, List.take_zero, List.nil_append, List.length_cons, List.length_nil, Nat.reduceAdd, List.drop_succ_cons, List.drop_zero, List.cons_append, List.setIfInBounds_toArray, List.set_cons_succ, List.set_cons_zero] at HG5
  have HB5 : Below w.heap.size w ((W2.setCell ⟨w.heap.size + 1, 6, none⟩ (.int .i64 a6)).setCell ⟨w.heap.size + 1, 7, none⟩ (.int .i64 a7)) := (HB2.out.setCell (by simp) _).setCell (by simp) _
  clear HG1 HG2 HG3 HG4 c6 c7 d0 d1 d2 d3 d4 d5 d6 d7 z HB2
  generalize (W2.setCell ⟨w.heap.size + 1, 6, none⟩ (.int .i64 a6)).setCell ⟨w.heap.size + 1, 7, none⟩ (.int .i64 a7) = W3 at *
  have hs := fun j v (h : _) => setCell_at (j := j) (v := v) HG5 h
  rw [hs 0 (.int .i64 a0) rfl, hs 1 (.int .i64 a1) rfl, hs 2 (.int .i64 a2) rfl, hs 3 (.int .i64 a3) rfl, hs 4 (.int .i64 a4) rfl, hs 5 (.int .i64 a5) rfl, hs 6 (.int .i64 a6) rfl, hs 7 (.int .i64 a7) rfl]
  refine bodyPost_ret (v := .agg #[.int .i64 a0, .int .i64 a1, .int .i64 a2, .int .i64 a3, .int .i64 a4, .int .i64 a5, .int .i64 a6, .int .i64 a7]) ?_ rfl ?_
  · have d := blk_cell HG5
    have d0 := d 0
    have d1 := d 1
    have d2 := d 2
    have d3 := d 3
    have d4 := d 4
    have d5 := d 5
    have d6 := d 6
    have d7 := d 7
    simp only [List.getElem?_toArray, List.getElem?_cons_zero, List.getElem?_cons_succ] at d0 d1 d2 d3 d4 d5 d6 d7
    simp [results, Try.results33, go_sem, d0, d1, d2, d3, d4, d5, d6, d7]
  · exact ⟨rfl, HB5⟩

end Go.Proofs.Ytcgfoaihfncppaa
