/- Walks of merge: copied. -/
import Derived.Test.YtpicagcapgjiaaaMb2
set_option linter.unusedSimpArgs false
set_option linter.unusedVariables false
namespace Go.Proofs.Ytpicagcapgjiaaa
open Go.RowKit Go.Sel Go.Sel.Gra Go.Sel.Mer Go.Shelf

/-- The first k rows, and empty ones. -/
def upB (D : List (List Int)) (n k : Nat) : List (List Int) := D.take k ++ List.replicate (n - k) []
theorem upB_length {D : List (List Int)} {n k : Nat} (h : D.length = n) (hk : k ≤ n) : (upB D n k).length = n := by simp [upB]; omega
theorem upB_all {D : List (List Int)} {n : Nat} (h : D.length = n) : upB D n n = D := by simp [upB, ← h]
theorem upB_set {D : List (List Int)} {n k : Nat} (h : D.length = n) (hk : k < n) : (upB D n k).set k (nth D k) = upB D n (k + 1) := by
  have e : nth D k = D[k] := by simp [nth, List.getD_eq_getElem?_getD, show k < D.length by omega]
  apply List.ext_getElem?
  intro j
  unfold upB
  rw [e, List.getElem?_set]
  have hl : (D.take k).length = k := by simp; omega
  have hl1 : (D.take (k + 1)).length = k + 1 := by simp; omega
  by_cases hj : k = j
  · subst hj
    rw [if_pos rfl, if_pos (by simp; omega), List.getElem?_append_left (by omega), List.getElem?_take_of_lt (by omega), List.getElem?_eq_getElem (by omega)]
  · rw [if_neg hj]
    by_cases h1 : j < k
    · rw [List.getElem?_append_left (by omega), List.getElem?_append_left (by omega), List.getElem?_take_of_lt h1, List.getElem?_take_of_lt (by omega)]
    · rw [List.getElem?_append_right (by omega), List.getElem?_append_right (by omega), hl, hl1, List.getElem?_replicate, List.getElem?_replicate]
      by_cases h2 : j < n
      · rw [if_pos (by omega), if_pos (by omega)]
      · rw [if_neg (by omega), if_neg (by omega)]

set_option maxRecDepth 100000 in
set_option maxHeartbeats 2000000 in
theorem copied_any (A : Option Addr) (n c : Nat) (D : List (List Int)) (w : World) (hD : Bp w A n c D) (hn : n ≤ 1000) (hs : ∀ i, i < n → (nth D i).length ≤ 140737488351232) :
    Calls Try.prog 81 #[.slice A n c] w fun e w' => (∃ A' c', e = .returned (.slice A' n c') ∧ Wb w.heap.size w' A' n c' D) ∧ Below w.heap.size w w' := by
  have HD := Lib.hid hD
  have HN := Lib.hid hD.len
  have HS := Lib.hid hs
  have l1 := hD.le
  have l2 := hD.cap
  have hmk := fun (w : World) => run_makeN (P := Try.prog) 52 77 (.slice none 0 0) 24 Try.underlying52 infoBytes rfl n (by omega) (by omega) w
  clear hD hs
  go_enter Try.func81, Try.ntmps81
  go_wp2
  go_loopw [11] (fun v wr => ∃ k : Nat, k ≤ n ∧ v = .int .i64 k ∧ Hid (Wb w.heap.size wr (some ⟨w.heap.size, 0, none⟩) n n (upB D n k)) ∧ Hid (Below w.heap.size w wr)) (fun v _ => n - (intOf v).toNat)
  case atStart =>
    refine ⟨0, by omega, rfl, ⟨List.replicate n (none, 0, 0), upB_length HN.out (by omega), by simp, Nat.le_refl _, by omega, .inr ⟨w.heap.size, _, _, rfl, Nat.le_refl _, blk11 w _, fun j hj => ?_⟩, fun j hj => ?_⟩, below_al _ _⟩
    · have : j < n := by simpa using hj
      simp [sv, this]
    · have : j < n := by simpa using hj
      simp [upB, nth, List.getD_eq_getElem?_getD, this, iv, Rd.nil, AllByte]
  case round =>
    obtain ⟨k, hk, rfl, HW, HB⟩ := hrel
    by_cases hlt : k < n
    · obtain ⟨b, off, A', n', c', rfl, hb, hc, hl, hr, hx⟩ := (HD.out.below HB.out).at_ hlt
      have hsz : n' ≤ 140737488351232 := by rw [← hl]; exact HS.out k hlt
      have HX := Lib.hid hx
      have HL := Lib.hid hl
      have HR := Lib.hid hr
      have HZ : Hid (n' ≤ 140737488355328) := by show _ ≤ _; omega
      clear hx hl hr hsz
      go_wp2_with (go_at_call 109; (with_reducible refine (CloneB_any A' n' c' (nth D k) _ HR.out HL.out HZ.out).mono ?_); rintro e w2 ⟨⟨A2, c2, rfl, hr2⟩, hB⟩; obtain ⟨g2, _, _, _, e2, hg2, hz2, hc2, hf2, _⟩ := (HW.out.below hB).at_ hlt; injection e2 with e2; injection e2 with e2; subst e2; have HR2 := Lib.hid hr2; have HW2 := Lib.hid (HW.out.below hB); have HB2 := Lib.hid (below_then HB.out hB); clear hB hr2)
      go_roundw
      case rel => exact ⟨k + 1, by omega, by go_num, by rw [← upB_set HN.out hlt]; exact HW2.out.set hlt HR2.out HL.out HX.out rfl, HW2.out.below_set hlt rfl HB2.out _⟩
      case measure => simp [intOf] <;> omega
    · obtain rfl : k = n := by omega
      go_wp2
      go_ret
      have h := HW.out
      rw [upB_all HN.out] at h
      exact ⟨⟨_, _, rfl, h⟩, HB.out⟩
end Go.Proofs.Ytpicagcapgjiaaa
