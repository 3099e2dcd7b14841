/- Rows of groups: one grows, one is sorted; each: what its function value keeps. -/
import Derived.Test.YtpicagcapgjiaaaMerW
set_option linter.unusedSimpArgs false
set_option linter.unusedVariables false
namespace Go.Proofs.Ytpicagcapgjiaaa
open Go.RowKit Go.Sel Go.Sel.Gra Go.Sel.Mer

/-- A number is appended to one row. -/
theorem out_append {B G g go cap : Nat} {x : Int} {vg vg' : Value} {rows : Nat → List Int} {wc Wg w1 : World} {os : List Value} (ho : OutR B G rows (.slice (some ⟨go, 0, none⟩) G cap) os wc) (hg : g < G) (hv : os[g]? = some vg)
    (b1 : Below wc.heap.size wc Wg) (g1 : Wg.grownBy w1 vg.ownBlock) (h1 : w1.ownsRow B 3 1 vg' ((rows g).length + 1) (iv .i64 (rows g) ++ [.int .i64 x])) (h1' : vg.ownBlock = vg'.ownBlock ∨ ∃ k, vg'.ownBlock = some k ∧ wc.heap.size ≤ k) :
    OutR B G (fun j => if j = g then rows g ++ [x] else rows j) (.slice (some ⟨go, 0, none⟩) G cap) (os.set g vg') (w1.setCell ⟨go, g, none⟩ vg') ∧ Fr (fun k => vg.ownBlock = some k ∨ k = go) wc (w1.setCell ⟨go, g, none⟩ vg') := by
  obtain ⟨v0, hv0, hrow⟩ := ho.row g hg
  obtain rfl : v0 = vg := by rw [hv] at hv0; exact (Option.some.inj hv0).symm
  have tqv : ∀ k, v0.ownBlock = some k → B ≤ k ∧ IsC wc k 3 := fun k hk => own_typed hrow k hk
  have tqo := own_typed ho.own go rfl
  have s1 := b1.size
  have s2 := g1.size
  have hos := ho.len
  have F2 : Fr (fun k => v0.ownBlock = some k ∨ k = go) wc w1 :=
    ⟨g1.os.trans b1.os, g1.tape.trans b1.tape, g1.output.trans b1.output, by omega, fun k hk hs => by rw [g1.block k (by omega) (fun e => hs (.inl e.symm)), b1.block k hk]⟩
  have F : Fr (fun k => v0.ownBlock = some k ∨ k = go) wc (w1.setCell ⟨go, g, none⟩ vg') := F2.setCell (p := ⟨go, g, none⟩) (.inl (.inr rfl)) _
  have hne : ¬ v0.ownBlock = some go := fun e => absurd (IsC.one (tqv go e).2 tqo.2) (by decide)
  have ho1 : w1.ownsRow B 23 1 (.slice (some ⟨go, 0, none⟩) G cap) G os := own_same ho.own fun k hk => by
    have : go = k := by simpa [Value.ownBlock] using hk
    subst this
    rw [g1.block go (by have := IsC.lt tqo.2; omega) (fun e => hne e.symm), b1.block go (IsC.lt tqo.2)]
  have h2 := (ho1.stored g vg').1
  have e1 : iv .i64 (rows g) ++ [.int .i64 x] = iv .i64 (rows g ++ [x]) := by simp [iv]
  rw [e1] at h1
  have hgo : ¬ vg'.ownBlock = some go := fun e => by
    rcases h1' with h3 | ⟨q, h3, h4⟩
    · rw [← h3] at e; exact hne e
    · rw [h3] at e
      have := Option.some.inj e
      have := IsC.lt tqo.2
      omega
  have h1s : (w1.setCell ⟨go, g, none⟩ vg').ownsRow B 3 1 vg' ((rows g).length + 1) (iv .i64 (rows g ++ [x])) := own_same h1 fun k hk => Below.heap_setCell _ _ _ _ (fun e => hgo (by rw [hk, e]))
  refine ⟨⟨h2, ?_, ?_⟩, F⟩
  · intro j hj
    by_cases e : j = g
    · subst e
      refine ⟨vg', by rw [List.getElem?_set_self (by omega)], ?_⟩
      rw [if_pos rfl, List.length_append]
      exact h1s
    · obtain ⟨u, hu, hw⟩ := ho.row j hj
      refine ⟨u, by rw [List.getElem?_set_ne (Ne.symm e)]; exact hu, ?_⟩
      rw [if_neg e]
      refine own_same hw fun k hk => F.block k (IsC.lt (own_typed hw k hk).2) ?_
      rintro (hk' | hk')
      · exact ho.apart j g u v0 k e hu hv hk hk'
      · subst hk'
        have := IsC.one (own_typed hw _ hk).2 tqo.2
        exact absurd this (by decide)
  · intro a b u u' k hab hu hu' hk
    have key : ∀ j y, j ≠ g → os[j]? = some y → ∀ q, y.ownBlock = some q → vg'.ownBlock ≠ some q := by
      intro j y hj hy q hq hv'
      have hjG : j < G := by have := (List.getElem?_eq_some_iff.1 hy).1; omega
      obtain ⟨y0, hy0, hoy⟩ := ho.row j hjG
      obtain rfl : y0 = y := by rw [hy] at hy0; exact (Option.some.inj hy0).symm
      rcases h1' with h3 | ⟨k2, h3, h3'⟩
      · rw [← h3] at hv'
        exact ho.apart j g y0 v0 q hj hy hv hq hv'
      · rw [h3] at hv'
        have := Option.some.inj hv'
        subst this
        have := IsC.lt (own_typed hoy _ hq).2
        omega
    by_cases ea : a = g
    · subst ea
      rw [List.getElem?_set_self (by omega)] at hu
      obtain rfl := Option.some.inj hu
      rw [List.getElem?_set_ne hab] at hu'
      exact fun hk' => key b u' (Ne.symm hab) hu' k hk' hk
    · rw [List.getElem?_set_ne (Ne.symm ea)] at hu
      by_cases eb : b = g
      · subst eb
        rw [List.getElem?_set_self (by omega)] at hu'
        obtain rfl := Option.some.inj hu'
        exact key a u ea hu k hk
      · rw [List.getElem?_set_ne (Ne.symm eb)] at hu'
        exact ho.apart a b u u' k hab hu hu' hk
/-- A row is turned in its place. -/
theorem out_turned {B G g : Nat} {vg vo : Value} {rows : Nat → List Int} {ys : List Int} {wc w1 : World} {os : List Value} (ho : OutR B G rows vo os wc) (hg : g < G) (hv : os[g]? = some vg)
    (F : Fr (fun k => vg.ownBlock = some k) wc w1) (h1 : w1.ownsRow B 3 1 vg (rows g).length (iv .i64 ys)) (hl : ys.length = (rows g).length) :
    OutR B G (fun j => if j = g then ys else rows j) vo os w1 := by
  obtain ⟨v0, hv0, hrow⟩ := ho.row g hg
  obtain rfl : v0 = vg := by rw [hv] at hv0; exact (Option.some.inj hv0).symm
  have tqv : ∀ k, v0.ownBlock = some k → B ≤ k ∧ IsC wc k 3 := fun k hk => own_typed hrow k hk
  refine ⟨own_same ho.own fun k hk => F.block k (IsC.lt (own_typed ho.own k hk).2) (fun e => ?_), ?_, ho.apart⟩
  · exact absurd (IsC.one (own_typed ho.own k hk).2 (tqv k e).2) (by decide)
  · intro j hj
    by_cases e : j = g
    · subst e
      refine ⟨v0, hv, ?_⟩
      rw [if_pos rfl, hl]
      exact h1
    · obtain ⟨u, hu, hw⟩ := ho.row j hj
      refine ⟨u, hu, ?_⟩
      rw [if_neg e]
      exact own_same hw fun k hk => F.block k (IsC.lt (own_typed hw k hk).2) (fun hk' => ho.apart j g u v0 k e hu hv hk hk')
theorem OutR.after {B G : Nat} {rows : Nat → List Int} {vo : Value} {os : List Value} {w w' : World} (h : OutR B G rows vo os w) (hb : Below w.heap.size w w') : OutR B G rows vo os w' := h.keep (fr_of_below hb (fun _ => False)) (fun _ _ _ h => h) (fun _ _ _ h => h)
/-- '.slice A n c' reads as the rows D, whose slices are ss. -/
def DpS (w : World) (A : Option Addr) (n c : Nat) (D : List (List Int)) (ss : List (Option Addr × Nat × Nat)) : Prop :=
  D.length = n ∧ ss.length = n ∧ Rd w A n c (ss.map sv) ∧ ∀ j (h : j < ss.length), (nth D j).length = ss[j].2.1 ∧ Rd w ss[j].1 ss[j].2.1 ss[j].2.2 (iv .i64 (nth D j))
theorem dp_s {w : World} {A : Option Addr} {n c : Nat} {D : List (List Int)} (h : Dp w A n c D) : ∃ ss, DpS w A n c D ss := by
  obtain ⟨h1, ss, h2, h3, h4⟩ := h; exact ⟨ss, h1, h2, h3, h4⟩
theorem DpS.dp {w : World} {A : Option Addr} {n c : Nat} {D : List (List Int)} {ss : List (Option Addr × Nat × Nat)} (h : DpS w A n c D ss) : Dp w A n c D := ⟨h.1, ss, h.2.1, h.2.2.1, h.2.2.2⟩
theorem DpS.below {w w' : World} {A : Option Addr} {n c : Nat} {D : List (List Int)} {ss : List (Option Addr × Nat × Nat)} (h : DpS w A n c D ss) (hb : Below w.heap.size w w') : DpS w' A n c D ss :=
  ⟨h.1, h.2.1, h.2.2.1.below hb, fun j hj => ⟨(h.2.2.2 j hj).1, (h.2.2.2 j hj).2.below hb⟩⟩
theorem DpS.at_ {w : World} {A : Option Addr} {n c : Nat} {D : List (List Int)} {ss : List (Option Addr × Nat × Nat)} (h : DpS w A n c D ss) {i : Nat} (hi : i < n) :
    ∃ b off A' n' c', A = some ⟨b, off, none⟩ ∧ w.cell? ⟨b, off + i, none⟩ = some (.slice A' n' c') ∧ ss[i]? = some (A', n', c') ∧ (nth D i).length = n' ∧ Rd w A' n' c' (iv .i64 (nth D i)) := by
  obtain ⟨h1, h2, h3, h4⟩ := h
  obtain ⟨b, off, rfl, _, hc⟩ := h3.form (by simp; omega)
  have hs : i < ss.length := by omega
  have := hc i (by simpa using hs)
  simp only [List.getElem_map, sv] at this
  exact ⟨b, off, _, _, _, rfl, this, List.getElem?_eq_getElem hs, (h4 i hs).1, (h4 i hs).2⟩
/-- W is as w from block B on, as far as w goes. -/
def Agree (B : Nat) (w W : World) : Prop := ∀ k, B ≤ k → k < w.heap.size → W.heap[k]? = w.heap[k]?
theorem Agree.refl (B : Nat) (w : World) : Agree B w w := fun _ _ _ => rfl
theorem agree_fr {B g : Nat} {w W : World} (F : Fr (· = g) w W) (hg : g < B) : Agree B w W := fun k hk hl => F.block k hl (by omega)
theorem OutR.agree {B B' G : Nat} {rows : Nat → List Int} {vo : Value} {os : List Value} {w w' : World} (h : OutR B G rows vo os w) (hA : Agree B' w w') (hB : B' ≤ B) : OutR B G rows vo os w' := by
  refine ⟨own_same h.own fun k hk => ?_, fun g hg => ?_, h.apart⟩
  · obtain ⟨hb, hc⟩ := own_typed h.own k hk
    exact hA k (by omega) (IsC.lt hc)
  · obtain ⟨v, hv, ho⟩ := h.row g hg
    refine ⟨v, hv, own_same ho fun k hk => ?_⟩
    obtain ⟨hb, hc⟩ := own_typed ho k hk
    exact hA k (by omega) (IsC.lt hc)
theorem out_dps {B G : Nat} {rows : Nat → List Int} {vo : Value} {os : List Value} {w : World} (h : OutR B G rows vo os w) : ∃ A c ss, vo = .slice A G c ∧ ∀ B' W, B' ≤ B → Agree B' w W → DpS W A G c ((List.range G).map rows) ss := by
  obtain ⟨A, c, hv, hl, hr⟩ := rd_own h.own
  refine ⟨A, c, os.map tri, hv, fun B' W hB hA => ?_⟩
  have hW := h.agree hA hB
  obtain ⟨A2, c2, hv2, hl2, hr2⟩ := rd_own hW.own
  rw [hv] at hv2
  injection hv2 with q1 _ q3
  subst q1; subst q3
  have hrow : ∀ j (hj : j < os.length), ∃ A' n' c', os[j] = .slice A' n' c' ∧ (rows j).length = n' ∧ Rd W A' n' c' (iv .i64 (rows j)) := fun j hj => by
    obtain ⟨v, hv, ho⟩ := hW.row j (by omega)
    obtain ⟨A', c', rfl, hl', hr'⟩ := rd_own ho
    rw [List.getElem?_eq_getElem hj] at hv
    exact ⟨A', _, c', Option.some.inj hv, rfl, hr'⟩
  have e : (os.map tri).map sv = os := by
    rw [List.map_map]
    conv => rhs; rw [← List.map_id os]
    refine List.map_congr_left fun v hv => ?_
    obtain ⟨j, hj, rfl⟩ := List.mem_iff_getElem.1 hv
    obtain ⟨A', n', c', h1, _⟩ := hrow j hj
    rw [h1]; rfl
  refine ⟨by simp, by simpa using hl, by rw [e]; exact hr2, fun j hj => ?_⟩
  have hj' : j < os.length := by simpa using hj
  obtain ⟨A', n', c', h1, h2, h3⟩ := hrow j hj'
  have e2 : nth ((List.range G).map rows) j = rows j := by
    have : j < G := by omega
    simp [nth, List.getD_eq_getElem?_getD, this]
  have e3 : (os.map tri)[j] = (A', n', c') := by rw [List.getElem_map, h1]; rfl
  rw [e2, e3]
  exact ⟨h2, h3⟩
end Go.Proofs.Ytpicagcapgjiaaa
