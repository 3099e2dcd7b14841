/- The memory of Groups: groups, what is near each, the last of each block; what its steps do to it. -/
import Derived.Test.YtpicagcapgjiaaaProg
import Derived.Test.YtpicagcapgjiaaaSel2
import Derived.Test.YtpicagcapgjiaaaSel7
import Derived.Test.YtpicagcapgjiaaaMerQ
import Derived.Laws.OwnMore
set_option linter.unusedSimpArgs false
set_option linter.unusedVariables false
namespace Go.Proofs.Ytpicagcapgjiaaa
open Go.RowKit Go.Sel Go.Sel.Gra Go.Sel.Mer

theorem own_typed {w : World} {base : Nat} {e : TypeId} {size n : Nat} {v : Value} {xs : List Value} (h : w.ownsRow base e size v n xs) (k : Nat) (hk : v.ownBlock = some k) : base ≤ k ∧ ∃ cur, w.heap[k]? = some (.cells cur e (0, 0)) := by
  rcases h.2 with ⟨rfl, _⟩ | ⟨g, cap, cur, rfl, hb, hg, _⟩
  · simp [Value.ownBlock] at hk
  · have : g = k := by simpa [Value.ownBlock] using hk
    subst this
    exact ⟨hb, cur, hg⟩
theorem own_setCell' {w : World} {base size n : Nat} {e : TypeId} {v : Value} {xs : List Value} (h : w.ownsRow base e size v n xs) {nb : Nat} (hp : nb < base) {u : Value} : (w.setCell ⟨nb, 0, none⟩ u).ownsRow base e size v n xs := own_setCell h (p := ⟨nb, 0, none⟩) hp u
theorem imap_obj {w : World} {b : Nat} {l : List (Int × Value)} (h : IMap w b l) : ∃ es c, w.heap[b]? = some (.map es c) := by
  obtain ⟨es, c, hb, _⟩ := h.is
  exact ⟨es, c, hb⟩
theorem imap_same {w w' : World} {b : Nat} {l : List (Int × Value)} (h : IMap w b l) (hs : w'.heap[b]? = w.heap[b]?) : IMap w' b l := ⟨h.nodup, by rw [hs]; exact h.is⟩
/-- Block k is a row of cells of type e. -/
def IsC (w : World) (k : Nat) (e : TypeId) : Prop := ∃ cur, w.heap[k]? = some (.cells cur e (0, 0))
def IsM (w : World) (k : Nat) : Prop := ∃ es c, w.heap[k]? = some (.map es c)
theorem IsC.one {w : World} {k : Nat} {e e' : TypeId} (h : IsC w k e) (h' : IsC w k e') : e = e' := by
  obtain ⟨c, h⟩ := h; obtain ⟨c', h'⟩ := h'
  rw [h] at h'; injection h' with h'; injection h' with _ h'
theorem IsC.notM {w : World} {k : Nat} {e : TypeId} (h : IsC w k e) (h' : IsM w k) : False := by
  obtain ⟨c, h⟩ := h; obtain ⟨es, c', h'⟩ := h'
  rw [h] at h'; cases h'
theorem IsC.lt {w : World} {k : Nat} {e : TypeId} (h : IsC w k e) : k < w.heap.size := by
  obtain ⟨c, h⟩ := h; exact (Array.getElem?_eq_some_iff.1 h).1
theorem IsM.lt {w : World} {k : Nat} (h : IsM w k) : k < w.heap.size := by
  obtain ⟨es, c, h⟩ := h; exact (Array.getElem?_eq_some_iff.1 h).1
theorem Bk.isC {w : World} {g : Nat} {T : TypeId} {vs : List Value} (h : Bk w g T vs) : IsC w g T := ⟨_, h⟩

/-- The groups' rows. -/
structure OutR (B G : Nat) (rows : Nat → List Int) (vo : Value) (os : List Value) (w : World) : Prop where
  own : w.ownsRow B 23 1 vo G os
  row : ∀ g, g < G → ∃ v, os[g]? = some v ∧ w.ownsRow B 3 1 v (rows g).length (iv .i64 (rows g))
  apart : ∀ (g g' : Nat) (v v' : Value) (k : Nat), g ≠ g' → os[g]? = some v → os[g']? = some v' → v.ownBlock = some k → v'.ownBlock ≠ some k
/-- What is near each group. -/
structure NearR (B G : Nat) (near : Nat → Int → Bool) (vn : Value) (ns : List Value) (w : World) : Prop where
  own : w.ownsRow B 98 1 vn G ns
  map : ∀ g, g < G → ∃ (m : Nat) (lm : List (Int × Value)), ns[g]? = some (.map (some m)) ∧ B ≤ m ∧ IMap w m lm ∧ ∀ d : Int, Sel.look lm d = if near g d then some (.bool true) else none
  apart : ∀ (g g' m : Nat), g ≠ g' → ns[g]? = some (.map (some m)) → ns[g']? ≠ some (.map (some m))
theorem look_put (l : List (Int × Value)) (k : Int) (v : Value) (x : Int) : Sel.look (Sel.put l k v) x = if k = x then some v else Sel.look l x := by
  unfold Sel.look Sel.put
  by_cases hany : l.any (fun p => p.1 == k) = true
  · rw [if_pos hany]
    induction l with
    | nil => simp at hany
    | cons p l ih =>
      by_cases hp : p.1 = k
      · by_cases hx : k = x
        · subst hx; simp [hp]
        · have h1 : (k == x) = false := by simpa using hx
          simp only [List.map_cons, hp, beq_self_eq_true, if_true, List.find?_cons, h1]
          rw [if_neg hx]
          by_cases hl : l.any (fun p => p.1 == k) = true
          · have := ih hl
            rw [if_neg hx] at this
            exact this
          · have hm : l.map (fun p => if p.1 == k then (k, v) else p) = l := by
              conv => rhs; rw [← List.map_id l]
              refine List.map_congr_left fun q hq => ?_
              have : (q.1 == k) = false := by
                rw [Bool.eq_false_iff]; intro h; exact hl (List.any_eq_true.2 ⟨q, hq, h⟩)
              simp [this]
            rw [hm]
      · have h0 : (p.1 == k) = false := by simpa using hp
        have hl : l.any (fun p => p.1 == k) = true := by simpa [h0] using hany
        have := ih hl
        simp only [List.map_cons, h0, List.find?_cons]
        by_cases hx : p.1 = x
        · have h2 : (p.1 == x) = true := by simpa using hx
          have h3 : ¬ k = x := fun e => hp (hx.trans e.symm)
          simp [h2, h3]
        · have h2 : (p.1 == x) = false := by simpa using hx
          simpa [h2] using this
  · rw [if_neg hany]
    have hno : ∀ p ∈ l, p.1 ≠ k := fun p hp e => hany (List.any_eq_true.2 ⟨p, hp, by simpa using e⟩)
    by_cases hx : k = x
    · subst hx
      rw [if_pos rfl, List.find?_append, List.find?_eq_none.2 (fun p hp => by simpa using hno p hp)]
      simp
    · have h1 : (k == x) = false := by simpa using hx
      rw [if_neg hx, List.find?_append]
      simp [h1]
theorem OutR.len {B G : Nat} {rows : Nat → List Int} {vo : Value} {os : List Value} {w : World} (h : OutR B G rows vo os w) : os.length = G := by simpa using h.own.1
theorem NearR.len {B G : Nat} {near : Nat → Int → Bool} {vn : Value} {ns : List Value} {w : World} (h : NearR B G near vn ns w) : ns.length = G := by simpa using h.own.1
theorem OutR.keep {B G : Nat} {rows : Nat → List Int} {vo : Value} {os : List Value} {w w' : World} {S : Nat → Prop} (h : OutR B G rows vo os w) (F : Fr S w w') (h1 : ∀ k, B ≤ k → IsC w k 23 → ¬ S k) (h2 : ∀ k, B ≤ k → IsC w k 3 → ¬ S k) : OutR B G rows vo os w' := by
  refine ⟨own_same h.own fun k hk => ?_, fun g hg => ?_, h.apart⟩
  · obtain ⟨hb, hc⟩ := own_typed h.own k hk
    exact F.block k (IsC.lt hc) (h1 k hb hc)
  · obtain ⟨v, hv, ho⟩ := h.row g hg
    refine ⟨v, hv, own_same ho fun k hk => ?_⟩
    obtain ⟨hb, hc⟩ := own_typed ho k hk
    exact F.block k (IsC.lt hc) (h2 k hb hc)
theorem NearR.keep {B G : Nat} {near : Nat → Int → Bool} {vn : Value} {ns : List Value} {w w' : World} {S : Nat → Prop} (h : NearR B G near vn ns w) (F : Fr S w w') (h1 : ∀ k, B ≤ k → IsC w k 98 → ¬ S k) (h2 : ∀ k, B ≤ k → IsM w k → ¬ S k) : NearR B G near vn ns w' := by
  refine ⟨own_same h.own fun k hk => ?_, fun g hg => ?_, h.apart⟩
  · obtain ⟨hb, hc⟩ := own_typed h.own k hk
    exact F.block k (IsC.lt hc) (h1 k hb hc)
  · obtain ⟨m, lm, hm, hb, hi, hl⟩ := h.map g hg
    exact ⟨m, lm, hm, hb, imap_same hi (F.block m (IsM.lt (imap_obj hi)) (h2 m hb (imap_obj hi))), hl⟩

/-- The memory of Groups between two steps. -/
structure GW (B nb bl ob n : Nat) (vo vn : Value) (G : Nat) (rows : Nat → List Int) (near : Nat → Int → Bool) (last : Int → Option Int) (w : World) : Prop where
  lt : nb < B ∧ bl < B ∧ ob < B ∧ nb ≠ bl ∧ nb ≠ ob ∧ bl ≠ ob ∧ B ≤ w.heap.size
  box : Bk w nb 96 [vn]
  ofb : ∃ cs : List Value, cs.length = n ∧ Bk w ob 3 cs
  lst : ∃ lm : List (Int × Value), IMap w bl lm ∧ ∀ b : Int, Sel.look lm b = (last b).map (.int .i64)
  out : ∃ os, OutR B G rows vo os w
  nr : ∃ ns, NearR B G near vn ns w
section
variable {B nb bl ob n : Nat} {vo vn : Value} {G : Nat} {rows : Nat → List Int} {near : Nat → Int → Bool} {last : Int → Option Int} {w w' : World}
theorem GW.below (h : GW B nb bl ob n vo vn G rows near last w) (hb : Below w.heap.size w w') : GW B nb bl ob n vo vn G rows near last w' := by
  have F := fr_of_below hb (fun _ => False)
  obtain ⟨cs, h1, h2⟩ := h.ofb
  obtain ⟨lm, h3, h4⟩ := h.lst
  obtain ⟨os, h5⟩ := h.out
  obtain ⟨ns, h6⟩ := h.nr
  exact ⟨by have := h.lt; have := hb.size; omega, h.box.keep hb, ⟨cs, h1, h2.keep hb⟩, ⟨lm, imap_same h3 (hb.block bl (IsM.lt (imap_obj h3))), h4⟩, ⟨os, h5.keep F (fun _ _ _ h => h) (fun _ _ _ h => h)⟩, ⟨ns, h6.keep F (fun _ _ _ h => h) (fun _ _ _ h => h)⟩⟩
/-- An item is appended to the group g. -/
theorem GW.append {g i : Nat} {v v' : Value} {os : List Value} (h : GW B nb bl ob n vo vn G rows near last w) (ho : OutR B G rows vo os w) (hg : g < G) (hv : os[g]? = some v)
    (F : Fr (fun k => v.ownBlock = some k ∨ vo.ownBlock = some k) w w') (h1 : w'.ownsRow B 3 1 v' ((rows g).length + 1) (iv .i64 (rows g ++ [(i : Int)]))) (h2 : w'.ownsRow B 23 1 vo G (os.set g v')) (h3 : v'.ownBlock = v.ownBlock ∨ ∃ k, v'.ownBlock = some k ∧ w.heap.size ≤ k) :
    GW B nb bl ob n vo vn G (fun j => if j = g then rows g ++ [(i : Int)] else rows j) near last w' := by
  obtain ⟨v0, hv0, hown⟩ := ho.row g hg
  obtain rfl : v0 = v := by rw [hv] at hv0; exact (Option.some.inj hv0).symm
  have tv : ∀ k, v0.ownBlock = some k → B ≤ k ∧ IsC w k 3 := fun k hk => own_typed hown k hk
  have tq : ∀ k, vo.ownBlock = some k → B ≤ k ∧ IsC w k 23 := fun k hk => own_typed ho.own k hk
  obtain ⟨cs, h4, h5⟩ := h.ofb
  obtain ⟨lm, h6, h7⟩ := h.lst
  obtain ⟨ns, h8⟩ := h.nr
  have hlt := h.lt
  have hos := ho.len
  refine ⟨by have := F.size; omega, F.far h.box ?_, ⟨cs, h4, F.far h5 ?_⟩, ⟨lm, imap_same h6 (F.block bl (IsM.lt (imap_obj h6)) ?_), h7⟩, ⟨os.set g v', h2, ?_, ?_⟩, ⟨ns, h8.keep F ?_ ?_⟩⟩
  · rintro (hk | hk)
    · have := (tv _ hk).1; omega
    · have := (tq _ hk).1; omega
  · rintro (hk | hk)
    · have := (tv _ hk).1; omega
    · have := (tq _ hk).1; omega
  · rintro (hk | hk)
    · have := (tv _ hk).1; omega
    · have := (tq _ hk).1; omega
  · intro j hj
    by_cases e : j = g
    · subst e
      refine ⟨v', by rw [List.getElem?_set_self (by omega)], ?_⟩
      rw [if_pos rfl, List.length_append]
      exact h1
    · obtain ⟨u, hu, hw⟩ := ho.row j hj
      refine ⟨u, by rw [List.getElem?_set_ne (Ne.symm e)]; exact hu, ?_⟩
      rw [if_neg e]
      refine own_same hw fun k hk => F.block k (IsC.lt (own_typed hw k hk).2) ?_
      rintro (hk' | hk')
      · exact ho.apart j g u v0 k e hu hv hk hk'
      · have := IsC.one (own_typed hw k hk).2 (tq k hk').2
        exact absurd this (by decide)
  · intro a b u u' k hab hu hu' hk
    have key : ∀ j x, j ≠ g → os[j]? = some x → ∀ q, x.ownBlock = some q → v'.ownBlock ≠ some q := by
      intro j x hj hx q hq hv'
      have hjG : j < G := by have := (List.getElem?_eq_some_iff.1 hx).1; omega
      obtain ⟨x0, hx0, hox⟩ := ho.row j hjG
      obtain rfl : x0 = x := by rw [hx] at hx0; exact (Option.some.inj hx0).symm
      rcases h3 with h3 | ⟨k2, h3, h3'⟩
      · rw [h3] at hv'
        exact ho.apart j g x0 v0 q hj hx hv hq hv'
      · rw [h3] at hv'
        have := Option.some.inj hv'
        subst this
        have := IsC.lt (own_typed hox _ hq).2
        omega
    by_cases ea : a = g
    · subst ea
      rw [List.getElem?_set_self (by omega)] at hu
      obtain rfl := Option.some.inj hu
      rw [List.getElem?_set_ne hab] at hu'
      exact fun hk' => key b u' (Ne.symm hab) hu' k hk' hk
    · rw [List.getElem?_set_ne (Ne.symm ea)] at hu
      by_cases eb : b = g
      · subst eb
        rw [List.getElem?_set_self (by omega)] at hu'
        obtain rfl := Option.some.inj hu'
        exact key a u ea hu k hk
      · rw [List.getElem?_set_ne (Ne.symm eb)] at hu'
        exact ho.apart a b u u' k hab hu hu' hk
  · rintro k hb hc (hk | hk)
    · exact absurd (IsC.one hc (tv k hk).2) (by decide)
    · exact absurd (IsC.one hc (tq k hk).2) (by decide)
  · rintro k hb hc (hk | hk)
    · exact IsC.notM (tv k hk).2 hc
    · exact IsC.notM (tq k hk).2 hc
/-- A number is put near the group g. -/
theorem GW.mark {g m : Nat} {d : Int} {lm : List (Int × Value)} {ns : List Value} (h : GW B nb bl ob n vo vn G rows near last w) (hn : NearR B G near vn ns w) (hg : g < G) (hm : ns[g]? = some (.map (some m))) (hi : IMap w m lm)
    (hl : ∀ d : Int, Sel.look lm d = if near g d then some (.bool true) else none) (hB : ButBlock m w w') (hi' : IMap w' m (put lm d (.bool true))) : 
    GW B nb bl ob n vo vn G rows (fun j x => near j x || (decide (j = g) && decide (x = d))) last w' := by
  have F : Fr (· = m) w w' := ⟨hB.os, hB.tape, hB.output, Nat.le_of_eq hB.size.symm, fun k _ hk => hB.far k hk⟩
  obtain ⟨m0, lm0, hm0, hmB, hi0, _⟩ := hn.map g hg
  obtain rfl : m0 = m := by rw [hm] at hm0; injection hm0 with e; injection e with e; injection e with e; exact e.symm
  have hM : IsM w m0 := imap_obj hi
  obtain ⟨cs, h4, h5⟩ := h.ofb
  obtain ⟨l2, h6, h7⟩ := h.lst
  obtain ⟨os, h8⟩ := h.out
  have hlt := h.lt
  refine ⟨by have := hB.size; omega, F.far h.box (by omega), ⟨cs, h4, F.far h5 (by omega)⟩, ⟨l2, imap_same h6 (F.block bl (IsM.lt (imap_obj h6)) (by omega)), h7⟩, ⟨os, h8.keep F ?_ ?_⟩, ⟨ns, ?_, ?_, hn.apart⟩⟩
  · rintro k _ hc rfl; exact IsC.notM hc hM
  · rintro k _ hc rfl; exact IsC.notM hc hM
  · exact own_same hn.own fun k hk => F.block k (IsC.lt (own_typed hn.own k hk).2) (fun e => by subst e; exact IsC.notM (own_typed hn.own _ hk).2 hM)
  · intro j hj
    by_cases e : j = g
    · subst e
      refine ⟨m0, _, hm, hmB, hi', fun x => ?_⟩
      rw [look_put, hl]
      by_cases ex : x = d
      · simp [ex]
      · have : ¬ d = x := fun h => ex h.symm
        simp [ex, this]
    · obtain ⟨q, lq, hq, hqB, hqi, hql⟩ := hn.map j hj
      refine ⟨q, lq, hq, hqB, imap_same hqi (F.block q (IsM.lt (imap_obj hqi)) (fun e' => ?_)), fun x => by rw [hql]; simp [e]⟩
      subst e'
      exact hn.apart j g q e hq hm
theorem own_unique {w : World} {b b' : Nat} {e e' : TypeId} {s n : Nat} {v : Value} {xs ys : List Value} (h : w.ownsRow b e s v n xs) (h' : w.ownsRow b' e' s v n ys) : xs = ys := by
  rcases h.2 with ⟨rfl, hn⟩ | ⟨g, cap, cur, rfl, _, hg, _, _, _, ht⟩
  · subst hn
    have hx : xs = [] := List.eq_nil_of_length_eq_zero (by simpa using h.1)
    subst hx
    rcases h'.2 with ⟨_, h1⟩ | ⟨g, cap, cur, h1, _⟩
    · have := h'.1; rw [h1] at this; exact (List.eq_nil_of_length_eq_zero (by simpa using this)).symm
    · cases h1
  · rcases h'.2 with ⟨h1, _⟩ | ⟨g', cap', cur', h1, _, hg', _, _, _, ht'⟩
    · cases h1
    · injection h1 with h1; injection h1 with h1; injection h1 with h1; subst h1
      rw [hg] at hg'; injection hg' with hg'; injection hg' with hg'; subst hg'
      rw [← ht, ← ht']
theorem OutR.pushed {vo' : Value} {os : List Value} (ho : OutR B G rows vo os w) {S : Nat → Prop} (F : Fr S w w') (hS : ∀ k, B ≤ k → IsC w k 3 → ¬ S k) (h1 : w'.ownsRow B 23 1 vo' (G + 1) (os ++ [.slice none 0 0])) :
    OutR B (G + 1) (fun j => if j = G then [] else rows j) vo' (os ++ [.slice none 0 0]) w' := by
  have hos := ho.len
  refine ⟨h1, ?_, ?_⟩
  · intro j hj
    by_cases e : j = G
    · subst e
      refine ⟨.slice none 0 0, by rw [← hos]; simp, ?_⟩
      rw [if_pos rfl]
      exact World.ownsRow_nil _ _ _ _
    · obtain ⟨v, hv, hw⟩ := ho.row j (by omega)
      refine ⟨v, by rw [List.getElem?_append_left (by omega)]; exact hv, ?_⟩
      rw [if_neg e]
      exact own_same hw fun k hk => F.block k (IsC.lt (own_typed hw k hk).2) (hS k (own_typed hw k hk).1 (own_typed hw k hk).2)
  · intro a b u u' k hab hu hu' hk
    by_cases ea : a < os.length
    · rw [List.getElem?_append_left ea] at hu
      by_cases eb : b < os.length
      · rw [List.getElem?_append_left eb] at hu'
        exact ho.apart a b u u' k hab hu hu' hk
      · rw [List.getElem?_append_right (by omega)] at hu'
        have : u' = .slice none 0 0 := by
          have h0 := (List.getElem?_eq_some_iff.1 hu').1
          have : b - os.length = 0 := by simp at h0; omega
          rw [this] at hu'; simpa using hu'.symm
        subst this
        simp [Value.ownBlock]
    · rw [List.getElem?_append_right (by omega)] at hu
      have : u = .slice none 0 0 := by
        have h0 := (List.getElem?_eq_some_iff.1 hu).1
        have : a - os.length = 0 := by simp at h0; omega
        rw [this] at hu; simpa using hu.symm
      subst this
      simp [Value.ownBlock] at hk
/-- A new group, with nothing near it. -/
theorem GW.newGroup {m : Nat} {vo' vn' : Value} {os ns : List Value} (h : GW B nb bl ob n vo vn G rows near last w) (ho : OutR B G rows vo os w) (hn : NearR B G near vn ns w)
    (F : Fr (fun k => vo.ownBlock = some k ∨ vn.ownBlock = some k ∨ k = nb) w w') (h1 : w'.ownsRow B 23 1 vo' (G + 1) (os ++ [.slice none 0 0])) (h2 : w'.ownsRow B 98 1 vn' (G + 1) (ns ++ [.map (some m)]))
    (hm : w.heap.size ≤ m) (hi : IMap w' m []) (hb : Bk w' nb 96 [vn']) :
    GW B nb bl ob n vo' vn' (G + 1) (fun j => if j = G then [] else rows j) (fun j x => decide (j ≠ G) && near j x) last w' ∧ OutR B (G + 1) (fun j => if j = G then [] else rows j) vo' (os ++ [.slice none 0 0]) w' := by
  have tqo : ∀ k, vo.ownBlock = some k → B ≤ k ∧ IsC w k 23 := fun k hk => own_typed ho.own k hk
  have tqn : ∀ k, vn.ownBlock = some k → B ≤ k ∧ IsC w k 98 := fun k hk => own_typed hn.own k hk
  obtain ⟨cs, h4, h5⟩ := h.ofb
  obtain ⟨l2, h6, h7⟩ := h.lst
  have hlt := h.lt
  have hos := ho.len
  have hns := hn.len
  have hOut : OutR B (G + 1) (fun j => if j = G then [] else rows j) vo' (os ++ [.slice none 0 0]) w' := by
    refine ho.pushed F ?_ h1
    rintro k hb hc (hq | hq | hq)
    · exact absurd (IsC.one hc (tqo k hq).2) (by decide)
    · exact absurd (IsC.one hc (tqn k hq).2) (by decide)
    · omega
  refine ⟨⟨by have := F.size; omega, hb, ⟨cs, h4, F.far h5 ?_⟩, ⟨l2, imap_same h6 (F.block bl (IsM.lt (imap_obj h6)) ?_), h7⟩, ⟨_, hOut⟩, ⟨_, h2, ?_, ?_⟩⟩, hOut⟩
  · rintro (hk | hk | hk)
    · have := (tqo _ hk).1; omega
    · have := (tqn _ hk).1; omega
    · omega
  · rintro (hk | hk | hk)
    · have := (tqo _ hk).1; omega
    · have := (tqn _ hk).1; omega
    · omega
  · intro j hj
    by_cases e : j = G
    · subst e
      refine ⟨m, [], by rw [← hns]; simp, by omega, hi, fun d => by simp [Sel.look]⟩
    · obtain ⟨q, lq, hq, hqB, hqi, hql⟩ := hn.map j (by omega)
      refine ⟨q, lq, by rw [List.getElem?_append_left (by omega)]; exact hq, hqB, imap_same hqi (F.block q (IsM.lt (imap_obj hqi)) ?_), fun x => by rw [hql]; simp [e]⟩
      rintro (hk | hk | hk)
      · exact IsC.notM (tqo _ hk).2 (imap_obj hqi)
      · exact IsC.notM (tqn _ hk).2 (imap_obj hqi)
      · omega
  · intro a b q hab ha hb
    have old : ∀ j, j < ns.length → ns[j]? = some (.map (some q)) → q < w.heap.size := fun j hj hq => by
      obtain ⟨q0, lq, hq0, _, hqi, _⟩ := hn.map j (by omega)
      rw [hq] at hq0; injection hq0 with e; injection e with e; injection e with e; subst e
      exact IsM.lt (imap_obj hqi)
    have at_new : ∀ j, ¬ j < ns.length → (ns ++ [Value.map (some m)])[j]? = some (.map (some q)) → q = m ∧ j = ns.length := fun j hj hq => by
      rw [List.getElem?_append_right (by omega)] at hq
      have h0 := (List.getElem?_eq_some_iff.1 hq).1
      have h1 : j - ns.length = 0 := by simp at h0; omega
      rw [h1] at hq
      simp at hq
      exact ⟨hq.symm, by omega⟩
    by_cases ea : a < ns.length
    · rw [List.getElem?_append_left ea] at ha
      by_cases eb : b < ns.length
      · rw [List.getElem?_append_left eb] at hb
        exact hn.apart a b q hab ha hb
      · have := old a ea ha
        have := (at_new b eb hb).1
        omega
    · by_cases eb : b < ns.length
      · rw [List.getElem?_append_left eb] at hb
        have := old b eb hb
        have := (at_new a ea ha).1
        omega
      · have := (at_new a ea ha).2
        have := (at_new b eb hb).2
        omega
/-- The item's group is noted, as the last of its block. -/
theorem GW.noted {b g : Int} {lm : List (Int × Value)} {cs' : List Value} (h : GW B nb bl ob n vo vn G rows near last w) (F : Fr (fun k => k = ob ∨ k = bl) w w') (h1 : cs'.length = n) (h2 : Bk w' ob 3 cs') (h3 : IMap w bl lm) (h4 : ∀ b : Int, Sel.look lm b = (last b).map (.int .i64))
    (h5 : IMap w' bl (Sel.put lm b (.int .i64 g))) : GW B nb bl ob n vo vn G rows near (fun x => if b = x then some g else last x) w' := by
  obtain ⟨os, ho⟩ := h.out
  obtain ⟨ns, hn⟩ := h.nr
  have hlt := h.lt
  refine ⟨by have := F.size; omega, F.far h.box (by omega), ⟨cs', h1, h2⟩, ⟨_, h5, fun x => ?_⟩, ⟨os, ho.keep F ?_ ?_⟩, ⟨ns, hn.keep F ?_ ?_⟩⟩
  · rw [look_put, h4]
    split <;> rfl
  all_goals
    rintro k hk _ (e | e) <;> omega
end

theorem bk_grown {w w1 : World} {g : Nat} {T : TypeId} {vs : List Value} {row : Option Nat} (h : Bk w g T vs) (hg : w.grownBy w1 row) (hne : row ≠ some g) : Bk w1 g T vs := (hg.block g h.lt (fun e => hne e.symm)).trans h
/-- The new group's region, whatever the order: its end. -/
theorem r15_end {B nb bl ob n G : Nat} {vo vn : Value} {rows : Nat → List Int} {near : Nat → Int → Bool} {last : Int → Option Int} {ws Wg w1 Wg2 w2 : World} {vo' vn' : Value} {os ns : List Value} {m : Nat} (h : GW B nb bl ob n vo vn G rows near last ws) (ho : OutR B G rows vo os ws) (hn : NearR B G near vn ns ws)
    (b1 : Below ws.heap.size ws Wg) (g1 : Wg.grownBy w1 vo.ownBlock) (h1 : w1.ownsRow B 23 1 vo' (G + 1) (os ++ [.slice none 0 0])) (h1' : vo.ownBlock = vo'.ownBlock ∨ ∃ k, vo'.ownBlock = some k ∧ ws.heap.size ≤ k) (b2 : Below w1.heap.size w1 Wg2) (g2 : Wg2.grownBy w2 vn.ownBlock)
    (h2 : w2.ownsRow B 98 1 vn' (G + 1) (ns ++ [.map (some m)])) (hm : ws.heap.size ≤ m) (hmap : Wg.heap[m]? = some (.map #[] 0) ∨ Wg2.heap[m]? = some (.map #[] 0)) :
    GW B nb bl ob n vo' vn' (G + 1) (fun j => if j = G then [] else rows j) (fun j x => decide (j ≠ G) && near j x) last (w2.setCell ⟨nb, 0, none⟩ vn') ∧ OutR B (G + 1) (fun j => if j = G then [] else rows j) vo' (os ++ [.slice none 0 0]) (w2.setCell ⟨nb, 0, none⟩ vn') ∧ Fr (fun k => vo.ownBlock = some k ∨ vn.ownBlock = some k ∨ k = nb) ws (w2.setCell ⟨nb, 0, none⟩ vn') := by
  have tqo : ∀ k, vo.ownBlock = some k → B ≤ k ∧ IsC ws k 23 := fun k hk => own_typed ho.own k hk
  have tqn : ∀ k, vn.ownBlock = some k → B ≤ k ∧ IsC ws k 98 := fun k hk => own_typed hn.own k hk
  have hlt := h.lt
  have s1 := b1.size
  have s2 := g1.size
  have s3 := b2.size
  have s4 := g2.size
  have hM : Wg2.heap[m]? = some (.map #[] 0) := by
    rcases hmap with hm1 | hm1
    · have l1 := (Array.getElem?_eq_some_iff.1 hm1).1
      rw [b2.block m (by omega), g1.block m l1 (fun e => by have := IsC.lt (tqo m e.symm).2; omega)]
      exact hm1
    · exact hm1
  have hMl := (Array.getElem?_eq_some_iff.1 hM).1
  have hM2 : w2.heap[m]? = some (.map #[] 0) := (g2.block m hMl (fun e => by have := IsC.lt (tqn m e.symm).2; omega)).trans hM
  have F2 : Fr (fun k => vo.ownBlock = some k ∨ vn.ownBlock = some k ∨ k = nb) ws w2 := by
    refine ⟨((g2.os.trans b2.os).trans g1.os).trans b1.os, ((g2.tape.trans b2.tape).trans g1.tape).trans b1.tape, ((g2.output.trans b2.output).trans g1.output).trans b1.output, by omega, fun k hk hs => ?_⟩
    rw [g2.block k (by omega) (fun e => hs (.inr (.inl e.symm))), b2.block k (by omega), g1.block k (by omega) (fun e => hs (.inl e.symm)), b1.block k hk]
  have F : Fr (fun k => vo.ownBlock = some k ∨ vn.ownBlock = some k ∨ k = nb) ws (w2.setCell ⟨nb, 0, none⟩ vn') := F2.setCell (.inl (.inr (.inr rfl))) _
  have hbk : Bk w2 nb 96 [vn] := bk_grown (Bk.keep (bk_grown (h.box.keep b1) g1 (fun e => by have := (tqo nb e).1; omega)) b2) g2 (fun e => by have := (tqn nb e).1; omega)
  have fo : w2.ownsRow B 23 1 vo' (G + 1) (os ++ [.slice none 0 0]) := by
    refine own_same h1 fun k hk => ?_
    have hk1 := own_typed h1 k hk
    have lk := IsC.lt hk1.2
    rw [g2.block k (by omega) (fun e => ?_), b2.block k lk]
    have hkn := tqn k e.symm
    have lkn := IsC.lt hkn.2
    rcases h1' with e1 | ⟨q, e1, e2⟩
    · rw [← e1] at hk
      exact absurd (IsC.one (tqo k hk).2 hkn.2) (by decide)
    · rw [e1] at hk
      have := Option.some.inj hk
      omega
  have hN : IMap (w2.setCell ⟨nb, 0, none⟩ vn') m [] ∧ Bk (w2.setCell ⟨nb, 0, none⟩ vn') nb 96 [vn'] := ⟨?_, ?_⟩
  · obtain ⟨q1, q2⟩ := GW.newGroup (m := m) h ho hn F (own_setCell' fo (by omega)) (own_setCell' h2 (by omega)) hm hN.1 hN.2
    exact ⟨q1, q2, F⟩
  · refine ⟨by simp, #[], 0, ?_, rfl, by simp, by simp⟩
    rw [Below.heap_setCell _ _ _ _ (show m ≠ nb by omega)]
    exact hM2
  · have := hbk.set 0 vn'
    simpa using this

/-- An item is appended to its group's row: the region's end. -/
theorem r16_end {B nb bl ob n G g i go cap : Nat} {vg vg' vn : Value} {rows : Nat → List Int} {near : Nat → Int → Bool} {last : Int → Option Int} {wc Wg w1 : World} {os : List Value} (h : GW B nb bl ob n (.slice (some ⟨go, 0, none⟩) G cap) vn G rows near last wc) (ho : OutR B G rows (.slice (some ⟨go, 0, none⟩) G cap) os wc)
    (hg : g < G) (hv : os[g]? = some vg) (hrow : wc.ownsRow B 3 1 vg (rows g).length (iv .i64 (rows g))) (b1 : Below wc.heap.size wc Wg) (g1 : Wg.grownBy w1 vg.ownBlock) (h1 : w1.ownsRow B 3 1 vg' ((rows g).length + 1) (iv .i64 (rows g) ++ [.int .i64 (i : Int)])) (h1' : vg.ownBlock = vg'.ownBlock ∨ ∃ k, vg'.ownBlock = some k ∧ wc.heap.size ≤ k) :
    GW B nb bl ob n (.slice (some ⟨go, 0, none⟩) G cap) vn G (fun j => if j = g then rows g ++ [(i : Int)] else rows j) near last (w1.setCell ⟨go, g, none⟩ vg') ∧ Fr (fun k => vg.ownBlock = some k ∨ (Value.slice (some ⟨go, 0, none⟩) G cap).ownBlock = some k) wc (w1.setCell ⟨go, g, none⟩ vg') := by
  have tqv : ∀ k, vg.ownBlock = some k → B ≤ k ∧ IsC wc k 3 := fun k hk => own_typed hrow k hk
  have tqo := own_typed ho.own go rfl
  have s1 := b1.size
  have s2 := g1.size
  have F2 : Fr (fun k => vg.ownBlock = some k ∨ (Value.slice (some ⟨go, 0, none⟩) G cap).ownBlock = some k) wc w1 :=
    ⟨g1.os.trans b1.os, g1.tape.trans b1.tape, g1.output.trans b1.output, by omega, fun k hk hs => by rw [g1.block k (by omega) (fun e => hs (.inl e.symm)), b1.block k hk]⟩
  have F : Fr (fun k => vg.ownBlock = some k ∨ (Value.slice (some ⟨go, 0, none⟩) G cap).ownBlock = some k) wc (w1.setCell ⟨go, g, none⟩ vg') := F2.setCell (p := ⟨go, g, none⟩) (.inl (.inr rfl)) _
  have hne : ¬ vg.ownBlock = some go := fun e => absurd (IsC.one (tqv go e).2 tqo.2) (by decide)
  have ho1 : w1.ownsRow B 23 1 (.slice (some ⟨go, 0, none⟩) G cap) G os := own_same ho.own fun k hk => by
    have : go = k := by simpa [Value.ownBlock] using hk
    subst this
    rw [g1.block go (by have := IsC.lt tqo.2; omega) (fun e => hne e.symm), b1.block go (IsC.lt tqo.2)]
  have h2 := ho1.stored g vg'
  have e1 : iv .i64 (rows g) ++ [.int .i64 (i : Int)] = iv .i64 (rows g ++ [(i : Int)]) := by simp [iv]
  rw [e1] at h1
  have hgo : ¬ vg'.ownBlock = some go := fun e => by
    rcases h1' with h3 | ⟨q, h3, h4⟩
    · rw [← h3] at e; exact hne e
    · rw [h3] at e
      have := Option.some.inj e
      have := IsC.lt tqo.2
      omega
  refine ⟨GW.append h ho hg hv F (own_same h1 fun k hk => Below.heap_setCell _ _ _ _ (fun e => hgo (by rw [hk, e]))) h2.1 (h1'.imp Eq.symm id), F⟩

theorem rd_bb {m : Nat} {w w' : World} {A : Option Addr} {n c : Nat} {cs : List Value} (h : Rd w A n c cs) (hB : ButBlock m w w') (hM : IsM w m) : Rd w' A n c cs := by
  refine ⟨h.le, h.cap, h.at_.imp id ?_⟩
  rintro ⟨b, off, e, hc⟩
  refine ⟨b, off, e, fun j hj => ?_⟩
  have hcj := hc j hj
  rw [hB.cell (a := ⟨b, off + j, none⟩) (fun e2 => ?_)]
  · exact hcj
  · obtain ⟨es, ck, hm⟩ := hM
    have e3 : b = m := e2
    subst e3
    simp [World.cell?, hm] at hcj
theorem bk_bb {m g : Nat} {w w' : World} {T : TypeId} {vs : List Value} (h : Bk w g T vs) (hB : ButBlock m w w') (hM : IsM w m) : Bk w' g T vs :=
  (hB.far g (fun e => by subst e; exact IsC.notM (Bk.isC h) hM)).trans h

def tri : Value → Option Addr × Nat × Nat
  | .slice A n c => (A, n, c)
  | _ => (none, 0, 0)
theorem out_dp {B G : Nat} {rows : Nat → List Int} {vo : Value} {os : List Value} {w : World} (h : OutR B G rows vo os w) : ∃ A c, vo = .slice A G c ∧ Dp w A G c ((List.range G).map rows) := by
  obtain ⟨A, c, rfl, hl, hr⟩ := rd_own h.own
  have hrow : ∀ j (hj : j < os.length), ∃ A' n' c', os[j] = .slice A' n' c' ∧ (rows j).length = n' ∧ Rd w A' n' c' (iv .i64 (rows j)) := fun j hj => by
    obtain ⟨v, hv, ho⟩ := h.row j (by omega)
    obtain ⟨A', c', rfl, hl', hr'⟩ := rd_own ho
    rw [List.getElem?_eq_getElem hj] at hv
    exact ⟨A', _, c', Option.some.inj hv, rfl, hr'⟩
  have e : (os.map tri).map sv = os := by
    rw [List.map_map]
    conv => rhs; rw [← List.map_id os]
    refine List.map_congr_left fun v hv => ?_
    obtain ⟨j, hj, rfl⟩ := List.mem_iff_getElem.1 hv
    obtain ⟨A', n', c', h1, _⟩ := hrow j hj
    rw [h1]; rfl
  refine ⟨A, c, rfl, Dp.mk_ (os.map tri) (by simp) (by simpa using hl) (by rw [e]; exact hr) fun j hj => ?_⟩
  have hj' : j < os.length := by simpa using hj
  obtain ⟨A', n', c', h1, h2, h3⟩ := hrow j hj'
  have e2 : nth ((List.range G).map rows) j = rows j := by
    have : j < G := by omega
    simp [nth, List.getD_eq_getElem?_getD, this]
  have e3 : (os.map tri)[j] = (A', n', c') := by rw [List.getElem_map, h1]; rfl
  rw [e2, e3]
  exact ⟨h2, h3⟩

/-! ### The closure that asks what is near -/
theorem imap_drewN {w : World} {b : Nat} {l : List (Int × Value)} (h : IMap w b l) (m : Nat) : IMap (w.drewN m) b l := imap_same h (by rfl)
theorem zeroB (w : World) : (zeroValue 4).run Try.prog w = .ok (.bool false) w := by kernel_rfl
theorem zeroI (w : World) : (zeroValue 3).run Try.prog w = .ok (.int .i64 0) w := by kernel_rfl
end Go.Proofs.Ytpicagcapgjiaaa
