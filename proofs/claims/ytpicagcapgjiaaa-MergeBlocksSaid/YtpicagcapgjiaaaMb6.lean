/- Walks of merge's reference: Copy. -/
import Derived.Test.YtpicagcapgjiaaaMb5
import Derived.Test.YtpicagcapgjiaaaMerW
set_option linter.unusedSimpArgs false
set_option linter.unusedVariables false
namespace Go.Proofs.Ytpicagcapgjiaaa
open Go.RowKit Go.Sel Go.Sel.Gra Go.Sel.Mer Go.Shelf

/-- The first k rows, copied one behind another. -/
structure CpS (B : Nat) (w : World) (v : Value) (k : Nat) (D : List (List Int)) (ss : List (Option Addr × Nat × Nat)) : Prop where
  own : w.ownsRow B 77 1 v k (ss.map sv)
  slen : ss.length = k
  rows : ∀ j (h : j < ss.length), w.ownsRow B 5 1 (sv ss[j]) ss[j].2.1 (iv .u8 (nth D j))
theorem CpS.push {B : Nat} {w w1 w2 : World} {v v' : Value} {k : Nat} {D : List (List Int)} {ss : List (Option Addr × Nat × Nat)} (h : CpS B w v k D ss) (hB : Below w.heap.size w w1) (q : Option Addr × Nat × Nat)
    (hq : w1.ownsRow B 5 1 (sv q) q.2.1 (iv .u8 (nth D k))) (ho : w2.ownsRow B 77 1 v' (k + 1) (ss.map sv ++ [sv q])) (hg : w1.grownBy w2 v.ownBlock) : CpS B w2 v' (k + 1) D (ss ++ [q]) := by
  have hs := h.slen
  have hv := own_below h.own hB (Nat.le_refl _)
  have keep : ∀ {u : Value} {n : Nat} {xs : List Value}, w1.ownsRow B 5 1 u n xs → w2.ownsRow B 5 1 u n xs := fun {u n xs} ho' => own_same ho' fun g hk => by
    have h1 := own_typed ho' g hk
    refine hg.block g (IsC.lt h1.2) ?_
    intro e
    exact absurd (IsC.one h1.2 (own_typed hv g e.symm).2) (by decide)
  refine ⟨by simpa using ho, by simp [hs], fun j hj => ?_⟩
  by_cases hj' : j < ss.length
  · rw [List.getElem_append_left hj']
    exact keep (own_below (h.rows j hj') hB (Nat.le_refl _))
  · obtain rfl : j = ss.length := by simp at hj; omega
    simp only [List.getElem_concat_length]
    rw [hs]
    exact keep hq
theorem CpS.wb {B : Nat} {w : World} {v : Value} {k : Nat} {D : List (List Int)} {ss : List (Option Addr × Nat × Nat)} (h : CpS B w v k D ss) (hk : D.length = k) (hx : ∀ j, j < k → AllByte (nth D j)) : ∃ A c, v = .slice A k c ∧ Wb B w A k c D := by
  have hrow : ∀ j (hj : j < ss.length), (nth D j).length = ss[j].2.1 ∧ Rd w ss[j].1 ss[j].2.1 ss[j].2.2 (iv .u8 (nth D j)) ∧ AllByte (nth D j) := fun j hj => by
    obtain ⟨A, c, e, hl, hr⟩ := rd_own (h.rows j hj)
    simp only [sv] at e
    injection e with e1 e2 e3
    subst e1 e3
    exact ⟨by simpa using hl, hr, hx j (by have := h.slen; omega)⟩
  rcases h.own.2 with ⟨rfl, h0⟩ | ⟨g, cap, cur, rfl, hb, hh, hn, hc, hs, ht⟩
  · subst h0
    exact ⟨none, 0, rfl, ss, hk, h.slen, Nat.le_refl _, by omega, .inl rfl, hrow⟩
  · refine ⟨_, cap, rfl, ss, hk, h.slen, hn, by simpa [maxLen] using hc, .inr ⟨g, cur, _, rfl, hb, hh, fun j hj => ?_⟩, hrow⟩
    have hsl := h.slen
    have h1 : (cur.toList.take (k * 1))[j]? = (ss.map sv)[j]? := by rw [ht]
    rw [List.getElem?_take_of_lt (by omega), Array.getElem?_toList, List.getElem?_map, List.getElem?_eq_getElem hj] at h1
    exact h1

set_option maxRecDepth 100000 in
set_option maxHeartbeats 4000000 in
theorem Copy_any (A : Option Addr) (n c : Nat) (D : List (List Int)) (w : World) (hD : Bp w A n c D) (hn : n ≤ 1000) (hs : ∀ i, i < n → (nth D i).length ≤ 140737488351232) :
    Calls Try.prog 41 #[.slice A n c] w fun e w' => (∃ A' c', e = .returned (.slice A' n c') ∧ Wb w.heap.size w' A' n c' D) ∧ Below w.heap.size w w' := by
  have HD := Lib.hid hD
  have HN := Lib.hid hD.len
  have HS := Lib.hid hs
  have HX : Hid (∀ j, j < n → AllByte (nth D j)) := fun j hj => hD.byte hj
  have l1 := hD.le
  have l2 := hD.cap
  clear hD hs
  go_enter Try.func41, Try.ntmps41
  go_wp2
  go_loopw [3, 4] (fun v i wr => ∃ k : Nat, k ≤ n ∧ i = .int .i64 k ∧ Hid (∃ ss, CpS w.heap.size wr v k D ss) ∧ Hid (Below w.heap.size w wr)) (fun _ i _ => n - (intOf i).toNat)
  case atStart => exact ⟨0, by omega, rfl, ⟨[], World.ownsRow_nil _ _ _ _, rfl, fun j hj => by simp at hj⟩, Below.refl _ _⟩
  case round =>
    obtain ⟨k, hk, rfl, HC, HB⟩ := hrel
    by_cases hlt : k < n
    · obtain ⟨b, off, A', n', c', rfl, hb, hc, hl, hr, hx⟩ := (HD.out.below HB.out).at_ hlt
      have hsz : n' ≤ 140737488351232 := by rw [← hl]; exact HS.out k hlt
      obtain ⟨ss, hcp⟩ := HC.out
      have hsl := hcp.slen
      obtain ⟨v2, w1, hc1, hg1, hgr1, _⟩ := run_extend (P := Try.prog) (w := wr.alloc (.cells #[] 5)) w.heap.size 77 77 5 (.int .u8 0) 1 Try.underlying77 infoU8 rfl _ 0 [] (own_empty wr 5 w.heap.size HB.out.size) A' n' c' (iv .u8 (nth D k)) (hr.alloc _) (by simpa using hl) (one_iv _ _) (by simp only [maxLen]; omega) (by omega) (by simp; have := HB.out.size; omega)
      have hB1 : Below wr.heap.size wr w1 := below_grown (below_al wr _) hgr1 (by simp) (fun k hk => by simp [Value.ownBlock] at hk; omega)
      rw [Nat.zero_add, List.nil_append] at hg1
      obtain ⟨A2, c2, rfl, _, _⟩ := rd_own hg1
      have hv1 := own_below hcp.own hB1 (Nat.le_refl _)
      have HRUN := Lib.hid hc1
      have HQ := Lib.hid hg1
      have HB1 := Lib.hid hB1
      have HBT := Lib.hid (below_then HB.out hB1)
      have HCP := Lib.hid hcp
      have HV := Lib.hid hv1
      clear hc1 hg1 hgr1 hB1 hcp hv1 hx hl hr hsz HC
      go_wp2_with (first
        | (at_builtin; refine wpList_append_run rfl (.tmp 12) (.tmp 16) _ _ rfl _ _ _ rfl rfl HRUN.out ?_; clear HRUN hc)
        | (at_builtin; refine wpList_push w1 rfl (.tmp 11) (.tmp 18) 52 77 rfl w.heap.size (.slice none 0 0) 24 Try.underlying52 infoBytes rfl (by omega) _ k _ (.slice A2 n' c2) rfl rfl rfl HV.out HBT.out.size (by omega) rfl ?_; intro g cap w2 ho hg hat hlt1; have HO := Lib.hid ho; have HG := Lib.hid hg; have HB2 := Lib.hid (below_grown HBT.out hg HBT.out.size (own_row HV.out)); clear ho hg hat))
      go_roundw
      case rel => exact ⟨k + 1, by omega, by go_num, ⟨_, HCP.out.push HB1.out (A2, n', c2) HQ.out HO.out HG.out⟩, HB2⟩
      case measure => simp [intOf] <;> omega
    · obtain rfl : k = n := by omega
      go_wp2
      go_ret
      obtain ⟨ss, hcp⟩ := HC.out
      obtain ⟨A', c', rfl, hw⟩ := hcp.wb HN.out HX.out
      exact ⟨⟨_, _, rfl, hw⟩, HB.out⟩
end Go.Proofs.Ytpicagcapgjiaaa
