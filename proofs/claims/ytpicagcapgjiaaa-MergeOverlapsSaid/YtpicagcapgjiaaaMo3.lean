/- Patches that came in; items built one behind another, with deps of the call's own. -/
import Derived.Test.YtpicagcapgjiaaaMo2
import Derived.Test.YtpicagcapgjiaaaMer8
import Derived.Test.YtpicagcapgjiaaaMerW
set_option linter.unusedSimpArgs false
set_option linter.unusedVariables false
namespace Go.Proofs.Ytpicagcapgjiaaa
open Go.RowKit Go.Sel Go.Sel.Gra Go.Sel.Mer Go.Shelf

def pvs (L : List It) : List Value := (L.map fun x => [Value.int .i64 x.b, .int .i64 x.o, .string x.s]).flatten
theorem pvs_all (L : List It) : ∀ us ∈ L.map fun x => [Value.int .i64 x.b, .int .i64 x.o, .string x.s], us.length = 3 := by
  intro us h
  obtain ⟨x, _, rfl⟩ := List.mem_map.1 h
  rfl
theorem pvs_length (L : List It) : (pvs L).length = L.length * 3 := by rw [pvs, flat_length _ (pvs_all L)]; simp
theorem pvs_at {L : List It} {i t : Nat} (hi : i < L.length) (ht : t < 3) : (pvs L)[i * 3 + t]? = [Value.int .i64 L[i].b, .int .i64 L[i].o, .string L[i].s][t]? := by
  rw [pvs, flat_get _ (pvs_all L) i t ht, List.getElem?_map, List.getElem?_eq_getElem hi]
  rfl
/-- '.slice A n c' reads as the patches L. -/
structure Pp (w : World) (A : Option Addr) (n c : Nat) (L : List It) : Prop where
  len : L.length = n
  rd : Rd w A n c (pvs L)
section
variable {w w' : World} {A : Option Addr} {n c : Nat} {L : List It}
theorem Pp.below (h : Pp w A n c L) (hb : Below w.heap.size w w') : Pp w' A n c L := ⟨h.len, h.rd.below hb⟩
theorem Pp.le (h : Pp w A n c L) : n ≤ c := h.rd.le
theorem Pp.cap (h : Pp w A n c L) : c ≤ 9223372036854775807 := h.rd.cap
theorem Pp.at_ (h : Pp w A n c L) {i : Nat} (hi : i < n) :
    ∃ b off, A = some ⟨b, off, none⟩ ∧ b < w.heap.size ∧ w.cell? ⟨b, off + i * 3, none⟩ = some (.int .i64 (nthI L i).b) ∧ w.cell? ⟨b, off + i * 3 + 1, none⟩ = some (.int .i64 (nthI L i).o) ∧ w.cell? ⟨b, off + i * 3 + 2, none⟩ = some (.string (nthI L i).s) := by
  have hl := h.len
  obtain ⟨b, off, rfl, hb, hc⟩ := h.rd.form (by rw [pvs_length]; omega)
  have hi1 : i < L.length := by omega
  have hat : ∀ t (ht : t < 3), w.cell? ⟨b, off + i * 3 + t, none⟩ = some ([Value.int .i64 L[i].b, .int .i64 L[i].o, .string L[i].s][t]) := fun t ht => by
    have h5 := hc (i * 3 + t) (by rw [pvs_length]; omega)
    have h6 := pvs_at hi1 ht
    rw [List.getElem?_eq_getElem (by rw [pvs_length]; omega), List.getElem?_eq_getElem (by simpa using ht)] at h6
    rw [Nat.add_assoc, h5]; exact h6
  rw [nthI_get hi1]
  exact ⟨b, off, rfl, hb, hat 0 (by omega), hat 1 (by omega), hat 2 (by omega)⟩
theorem Pp.upto (h : Pp w A n c L) {k : Nat} (hk : k ≤ n) : Pp w A k c (L.take k) := by
  have hl := h.len
  have e : pvs (L.take k) = (pvs L).take (k * 3) := by
    apply List.ext_getElem?
    intro j
    by_cases hj : j < k * 3
    · have hd : j / 3 < k := by omega
      have ej : j = j / 3 * 3 + j % 3 := by omega
      rw [List.getElem?_take_of_lt hj]
      generalize j / 3 = p at *
      generalize hq : j % 3 = q at *
      have hq4 : q < 3 := by omega
      subst ej
      rw [pvs_at (by simp; omega) hq4, pvs_at (by omega) hq4]
      simp
    · rw [List.getElem?_eq_none (by rw [pvs_length]; simp; omega), List.getElem?_eq_none (by simp; omega)]
  refine ⟨by simp; omega, by have := h.rd.le; omega, h.rd.cap, ?_⟩
  rw [e]
  rcases h.rd.at_ with h0 | ⟨b, off, rfl, hc⟩
  · left; rw [h0]; simp
  · right
    exact ⟨b, off, rfl, fun j hj => by simp at hj; rw [List.getElem_take]; exact hc j (by omega)⟩
end
/-- The first k items of Overlaps, built one behind another. -/
structure OvS (B : Nat) (w : World) (v : Value) (k : Nat) (L : List It) (ss : List (Option Addr × Nat × Nat)) : Prop where
  own : w.ownsRow B 44 4 v k (itvs ((List.range k).map (ovI L)) ss)
  slen : ss.length = k
  rows : ∀ j (h : j < ss.length), w.ownsRow B 3 1 (sv ss[j]) ss[j].2.1 (iv .i64 (ovK L j j))
theorem OvS.below {B : Nat} {w w1 : World} {v : Value} {k : Nat} {L : List It} {ss : List (Option Addr × Nat × Nat)} (h : OvS B w v k L ss) (hB : Below w.heap.size w w1) : OvS B w1 v k L ss :=
  ⟨own_below h.own hB (Nat.le_refl _), h.slen, fun j hj => own_below (h.rows j hj) hB (Nat.le_refl _)⟩
theorem OvS.push {B : Nat} {w1 w2 : World} {v v' : Value} {k : Nat} {L : List It} {ss : List (Option Addr × Nat × Nat)} (h : OvS B w1 v k L ss) (q : Option Addr × Nat × Nat)
    (hq : w1.ownsRow B 3 1 (sv q) q.2.1 (iv .i64 (ovK L k k))) (ho : w2.ownsRow B 44 4 v' (k + 1) (itvs ((List.range k).map (ovI L)) ss ++ itv (ovI L k) q)) (hg : w1.grownBy w2 v.ownBlock) : OvS B w2 v' (k + 1) L (ss ++ [q]) := by
  have hs := h.slen
  have keep : ∀ {u : Value} {n : Nat} {xs : List Value}, w1.ownsRow B 3 1 u n xs → w2.ownsRow B 3 1 u n xs := fun {u n xs} ho' => own_same ho' fun g hk => by
    have h1 := own_typed ho' g hk
    refine hg.block g (IsC.lt h1.2) ?_
    intro e
    exact absurd (IsC.one h1.2 (own_typed h.own g e.symm).2) (by decide)
  refine ⟨?_, by simp [hs], fun j hj => ?_⟩
  · rw [List.range_succ, List.map_append, List.map_cons, List.map_nil, itvs_snoc (by simp [hs])]
    exact ho
  · by_cases hj' : j < ss.length
    · rw [List.getElem_append_left hj']
      exact keep (h.rows j hj')
    · obtain rfl : j = ss.length := by simp at hj; omega
      simp only [List.getElem_concat_length]
      rw [hs]
      exact keep hq
theorem OvS.ip {B : Nat} {w : World} {v : Value} {k : Nat} {L : List It} {ss : List (Option Addr × Nat × Nat)} (h : OvS B w v k L ss) : ∃ A c, v = .slice A k c ∧ Ip w A k c ((List.range k).map (ovI L)) := by
  obtain ⟨A, c, rfl, hl, hr⟩ := rd_ownN (by omega) h.own
  refine ⟨A, c, rfl, ss, by simp, h.slen, hr, fun j hj => ?_⟩
  obtain ⟨A', c', e, hl', hr'⟩ := rd_own (h.rows j hj)
  simp only [sv] at e
  injection e with e1 e2 e3
  subst e1 e3
  have hjk : j < k := by have := h.slen; omega
  have e4 : (nthI ((List.range k).map (ovI L)) j).ds = ovK L j j := by
    rw [nthI_get (by simpa using hjk)]
    simp [ovI]
  rw [e4]
  exact ⟨by simpa using hl', hr'⟩
theorem OvS.nil (B : Nat) (w : World) (L : List It) : OvS B w (.slice none 0 0) 0 L [] := ⟨by simpa [itvs] using World.ownsRow_nil _ _ _ _, rfl, fun j hj => by simp at hj⟩

set_option maxHeartbeats 1000000 in
theorem Overlaps1_any (x : It) (w : World) :
    Calls Try.prog 78 #[.agg #[.int .i64 x.b, .int .i64 x.o, .string x.s]] w fun e w' => e = .returned (.bool (!prightB x)) ∧ Below w.heap.size w w' := by
  have HP := Lib.hid (fun wx => pRight_any x wx)
  generalize prightB x = r at *
  go_enter Try.func78, Try.ntmps78
  go_wp2_with (go_at_call 35; (with_reducible refine (HP.out _).mono ?_); rintro e w1 ⟨rfl, hB⟩; have HB := Lib.hid ((below_al w (.cells #[.int .i64 x.b, .int .i64 x.o, .string x.s] 42)).trans (hB.mono (by simp))); clear hB)
  go_ret
  exact ⟨rfl, HB.out⟩

set_option maxHeartbeats 2000000 in
theorem IndexFuncP_any (A : Option Addr) (n c : Nat) (L : List It) (w : World) (hL : Pp w A n c L) :
    Calls Try.prog 106 #[.slice A n c, .func (.func 78) #[] #[]] w fun e w' => (∃ i : Int, e = .returned (.int .i64 i) ∧ decide (0 ≤ i) = !L.all prightB) ∧ Below w.heap.size w w' := by
  have HL := Lib.hid hL
  have HN := Lib.hid hL.len
  have l1 := hL.le
  have l2 := hL.cap
  clear hL
  go_enter Try.func106, Try.ntmps106
  go_wp2
  go_loopw [8] (fun v wr => ∃ k : Nat, k ≤ n ∧ v = .int .i64 k ∧ Hid (∀ j, j < k → prightB (nthI L j) = true) ∧ Hid (Below w.heap.size w wr)) (fun v _ => n - (intOf v).toNat)
  case atStart => exact ⟨0, by omega, rfl, fun j hj => by omega, Below.refl _ _⟩
  case round =>
    obtain ⟨k, hk, rfl, HJ, HB⟩ := hrel
    by_cases hlt : k < n
    · obtain ⟨b, off, rfl, hb, c0, c1, c2⟩ := (HL.out.below HB.out).at_ hlt
      have HP := Lib.hid (fun wx => Overlaps1_any (nthI L k) wx)
      cases hq : prightB (nthI L k) with
      | true =>
        have HQ := Lib.hid hq
        rw [hq] at HP
        clear hq
        generalize hx : nthI L k = x at *
        have HX := Lib.hid hx
        clear hx
        go_wp2_with (go_at_call 78; (with_reducible refine (HP.out _).mono ?_); rintro e w2 ⟨rfl, hB⟩; have HB2 := Lib.hid (below_then HB.out hB); clear hB)
        go_roundw
        case rel => exact ⟨k + 1, by omega, by go_num, fun j hj => by
          by_cases e : j = k
          · subst e; rw [HX.out]; exact HQ.out
          · exact HJ.out j (by omega), HB2⟩
        case measure => simp [intOf] <;> omega
      | false =>
        have HF : Hid (L.all prightB = false) := by
          show _ = _
          rw [List.all_eq_false]
          refine ⟨nthI L k, ?_, by simp [hq]⟩
          rw [nthI_get (by have := HN.out; omega)]
          exact List.getElem_mem _
        rw [hq] at HP
        clear hq
        generalize nthI L k = x at *
        go_wp2_with (go_at_call 78; (with_reducible refine (HP.out _).mono ?_); rintro e w2 ⟨rfl, hB⟩; have HB2 := Lib.hid (below_then HB.out hB); clear hB)
        go_ret
        exact ⟨⟨k, rfl, by rw [HF.out]; simp⟩, HB2.out⟩
    · obtain rfl : k = n := by omega
      have HT : Hid (L.all prightB = true) := by
        show _ = _
        rw [List.all_eq_true]
        intro x hx
        obtain ⟨j, hj, rfl⟩ := List.mem_iff_getElem.1 hx
        have := HJ.out j (by have := HN.out; omega)
        rwa [nthI_get hj] at this
      go_wp2
      go_ret
      exact ⟨⟨-1, rfl, by rw [HT.out]; simp⟩, HB.out⟩
set_option maxHeartbeats 1000000 in
theorem ContainsFuncP_any (A : Option Addr) (n c : Nat) (L : List It) (w : World) (hL : Pp w A n c L) :
    Calls Try.prog 77 #[.slice A n c, .func (.func 78) #[] #[]] w fun e w' => e = .returned (.bool (!L.all prightB)) ∧ Below w.heap.size w w' := by
  have HC := Lib.hid (IndexFuncP_any A n c L w hL)
  clear hL
  go_enter Try.func77, Try.ntmps77
  go_wp2_with (go_at_call 106; refine HC.out.mono ?_; rintro e w' ⟨⟨i, rfl, hi⟩, hB⟩; have HI := Lib.hid hi; have HB := Lib.hid hB; clear hi hB)
  go_ret
  exact ⟨ret_bool HI.out, HB.out⟩
end Go.Proofs.Ytpicagcapgjiaaa
