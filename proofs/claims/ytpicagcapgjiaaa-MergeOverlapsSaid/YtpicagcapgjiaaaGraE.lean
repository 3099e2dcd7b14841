/- Walks of graph's reference: Right, those, Close, Closed. -/
import Derived.Test.YtpicagcapgjiaaaGraL
import Derived.Test.YtpicagcapgjiaaaGra7
set_option linter.unusedSimpArgs false
set_option linter.unusedVariables false
namespace Go.Proofs.Ytpicagcapgjiaaa
open Go.RowKit Go.Sel Go.Sel.Gra Go.Shelf

attribute [local go_sem] Oper.semAt_some

def RowOK (D : List (List Int)) (i : Nat) : Prop := (nth D i).length ≤ 256 ∧ ∀ d ∈ nth D i, 0 ≤ d ∧ d < (i : Int)
theorem right_of_rows {D : List (List Int)} (h : D.length ≤ 256) (k : ∀ i, i < D.length → RowOK D i) : rightD D = true := right_iff.2 ⟨h, k⟩
theorem not_right_row {D : List (List Int)} {i : Nat} (hi : i < D.length) (h : ¬ RowOK D i) : rightD D = false := by
  cases hr : rightD D with
  | false => rfl
  | true => exact absurd ((right_iff.1 hr).2 i hi) h
theorem not_right_len {D : List (List Int)} (h : 256 < D.length) : rightD D = false := by
  cases hr : rightD D with
  | false => rfl
  | true => have := (right_iff.1 hr).1; omega

set_option maxRecDepth 100000 in
set_option maxHeartbeats 4000000 in
theorem rRight_any (A : Option Addr) (n c : Nat) (D : List (List Int)) (w : World) (hD : Dp w A n c D) :
    Calls Try.prog 68 #[.slice A n c] w fun e w' => e = .returned (.bool (rightD D)) ∧ w' = w := by
  have HD := Lib.hid hD
  have hl := Lib.hid hD.len
  have l1 := hD.le
  have l2 := hD.cap
  clear hD
  go_enter Try.func68, Try.ntmps68
  rcases (show 256 < n ∨ n ≤ 256 by omega) with hn | hn
  · have HF : Hid (rightD D = false) := not_right_len (by rw [hl.out]; exact hn)
    go_wp2
    go_ret
    exact ⟨ret_bool HF.out.symm, rfl⟩
  · go_wp2
    go_loopw [3, 4] (fun i _ wr => ∃ k : Nat, k ≤ n ∧ i = .int .i64 k ∧ wr = w ∧ Hid (∀ j, j < k → RowOK D j)) (fun i _ _ => n - (intOf i).toNat)
    case atStart => exact ⟨0, by omega, by go_num, rfl, fun j h => by omega⟩
    case round =>
      obtain ⟨k, hk, rfl, rfl, HO⟩ := hrel
      by_cases hlt : k < n
      · obtain ⟨b, off, A', n', c', rfl, hc, hn', hrd⟩ := HD.out.at_ hlt
        have hl1 := hrd.le
        have hl2 := hrd.cap
        have HNL := Lib.hid hn'
        have HRD := Lib.hid hrd
        have hkD : Hid (k < D.length) := by show _ < _; rw [hl.out]; exact hlt
        clear hn' hrd
        rcases (show 256 < n' ∨ n' ≤ 256 by omega) with hn2 | hn2
        · have HF : Hid (rightD D = false) := not_right_row hkD.out (fun h => by have := h.1; have := HNL.out; omega)
          go_wp2
          go_ret
          exact ⟨ret_bool HF.out.symm, rfl⟩
        · go_wp2
          go_loopw [4] (fun i w3 => ∃ t : Nat, t ≤ n' ∧ i = .int .i64 t ∧ w3 = wr ∧ Hid (∀ j (h : j < (nth D k).length), j < t → 0 ≤ (nth D k)[j] ∧ (nth D k)[j] < (k : Int))) (fun i _ => n' - (intOf i).toNat)
          case atStart => exact ⟨0, by omega, by go_num, rfl, fun j _ h => by omega⟩
          case round =>
            obtain ⟨t, ht, rfl, rfl, HI⟩ := hrel
            by_cases hlt2 : t < n'
            · obtain ⟨b', off', rfl, _, hcc⟩ := HRD.out.form (by have := HNL.out; simp; omega)
              have htl : t < (nth D k).length := by have := HNL.out; omega
              have hck := hcc t (by simpa using htl)
              rw [iv_at] at hck
              have HX : Hid ((nth D k)[t] ∈ nth D k) := List.getElem_mem htl
              have HN : Hid (0 ≤ (nth D k)[t] ∧ (nth D k)[t] < (k : Int) → ∀ j (h : j < (nth D k).length), j < t + 1 → 0 ≤ (nth D k)[j] ∧ (nth D k)[j] < (k : Int)) := fun h j hj hjt => by
                by_cases e : j = t
                · subst e; exact h
                · exact HI.out j hj (by omega)
              clear hcc
              generalize (nth D k)[t] = x at HX HN hck
              rcases (show x < 0 ∨ (0 ≤ x ∧ (k : Int) ≤ x) ∨ (0 ≤ x ∧ x < (k : Int)) by omega) with h | ⟨h, h'⟩ | ⟨h, h'⟩
              · have HF : Hid (rightD D = false) := not_right_row hkD.out (fun hr => by have := hr.2 x HX.out; omega)
                have q1 : decide (x < 0) = true := by simpa using h
                go_wp2
                go_ret
                exact ⟨ret_bool HF.out.symm, rfl⟩
              · have HF : Hid (rightD D = false) := not_right_row hkD.out (fun hr => by have := hr.2 x HX.out; omega)
                have q1 : decide (x < 0) = false := by simp; omega
                have q2 : decide ((k : Int) ≤ x) = true := by simpa using h'
                go_wp2
                go_ret
                exact ⟨ret_bool HF.out.symm, rfl⟩
              · have HN2 := Lib.hid (HN.out ⟨h, h'⟩)
                have q1 : decide (x < 0) = false := by simp; omega
                have q2 : decide ((k : Int) ≤ x) = false := by simp; omega
                go_wp2
                go_roundw
                case rel => exact ⟨t + 1, by omega, by go_num, trivial, HN2⟩
                case measure => simp [intOf]; omega
            · obtain rfl : t = n' := by omega
              go_wp2
              go_roundw
              case rel =>
                refine ⟨k + 1, by omega, by go_num, trivial, fun j hj => ?_⟩
                by_cases e : j = k
                · subst e
                  refine ⟨by have := HNL.out; omega, fun d hd => ?_⟩
                  obtain ⟨q, hq, rfl⟩ := List.mem_iff_getElem.1 hd
                  exact HI.out q hq (by have := HNL.out; omega)
                · exact HO.out j (by omega)
              case measure => simp [intOf]; omega
      · have HT : Hid (rightD D = true) := right_of_rows (by rw [hl.out]; exact hn) (fun i hi => HO.out i (by have := hl.out; omega))
        go_wp2
        go_ret
        exact ⟨ret_bool HT.out.symm, rfl⟩

def thoseK (ms : List Bool) (k : Nat) : List Int := ((List.range k).filter fun j => bit ms j).map fun j : Nat => (j : Int)
theorem thoseK_in {ms : List Bool} {k : Nat} (h : bit ms k = true) : thoseK ms (k + 1) = thoseK ms k ++ [(k : Int)] := by simp [thoseK, List.range_succ, h]
theorem thoseK_out {ms : List Bool} {k : Nat} (h : bit ms k = false) : thoseK ms (k + 1) = thoseK ms k := by simp [thoseK, List.range_succ, h]
theorem thoseK_length (ms : List Bool) (k : Nat) : (thoseK ms k).length ≤ k := by
  rw [thoseK, List.length_map]
  exact Nat.le_trans (List.length_filter_le _ _) (by simp)

set_option maxHeartbeats 2000000 in
theorem rThose_any (A : Option Addr) (n c : Nat) (ms : List Bool) (w : World) (ha : Rd w A n c (bv ms)) (hm : ms.length = n) (hn : n ≤ 1000) :
    Calls Try.prog 137 #[.slice A n c] w fun e w' => (∃ A' c', e = .returned (.slice A' (thoseL ms).length c') ∧ Rd w' A' (thoseL ms).length c' (iv .i64 (thoseL ms))) ∧ Below w.heap.size w w' := by
  have HA := Lib.hid ha
  have HM := Lib.hid hm
  have l1 := ha.le
  have l2 := ha.cap
  have HTL : Hid (thoseL ms = thoseK ms n) := by show _ = _; rw [← hm]; rfl
  clear ha hm
  go_enter Try.func137, Try.ntmps137
  go_wp2
  go_loopw [3, 4] (fun v i wr => ∃ k : Nat, k ≤ n ∧ i = .int .i64 k ∧ Hid (wr.ownsRow w.heap.size 3 1 v (thoseK ms k).length (iv .i64 (thoseK ms k))) ∧ Hid (Below w.heap.size w wr)) (fun _ i _ => n - (intOf i).toNat)
  case atStart => exact ⟨0, by omega, by go_num, World.ownsRow_nil _ _ _ _, Below.refl _ _⟩
  case round =>
    obtain ⟨k, hk, rfl, HO, HW⟩ := hrel
    have hlen := thoseK_length ms k
    by_cases hlt : k < n
    · have hxl : k < ms.length := by have := HM.out; omega
      obtain ⟨b, off, rfl, _, hc⟩ := (HA.out.below HW.out).form (by simp; omega)
      have hck := hc k (by simpa using hxl)
      rw [bv_at, ← bit_get hxl] at hck
      clear hc
      cases hb : bit ms k with
      | true =>
        rw [hb] at hck
        have HK := Lib.hid (thoseK_in hb)
        clear hb
        go_wp2_with (at_builtin; refine wpList_push wr rfl (.tmp 15) (.tmp 17) 23 3 rfl w.heap.size (.int .i64 0) 8 Try.underlying23 infoInt rfl (by omega) _ (thoseK ms k).length _ (.int .i64 (k : Int)) rfl rfl rfl HO.out HW.out.size (by omega) rfl ?_; intro g cap w6 ho hg hat hlt1; have HO6 := Lib.hid ho; have HW6 := Lib.hid (below_grown HW.out hg HW.out.size (own_row HO.out)); clear ho hg hat)
        go_roundw
        case rel =>
          refine ⟨k + 1, by omega, by go_num, ?_, HW6⟩
          rw [HK.out, List.length_append, List.length_singleton, iv, List.map_append]
          exact HO6
        case measure => simp [intOf]; omega
      | false =>
        rw [hb] at hck
        have HK := Lib.hid (thoseK_out hb)
        clear hb
        go_wp2
        go_roundw
        case rel => exact ⟨k + 1, by omega, by go_num, by rw [HK.out]; exact HO, HW⟩
        case measure => simp [intOf]; omega
    · obtain rfl : k = n := by omega
      go_wp2
      go_ret
      obtain ⟨A5, c5, rfl, hl5, hr5⟩ := rd_own HO.out
      rw [HTL.out]
      exact ⟨⟨A5, c5, rfl, hr5⟩, HW.out⟩
end Go.Proofs.Ytpicagcapgjiaaa
