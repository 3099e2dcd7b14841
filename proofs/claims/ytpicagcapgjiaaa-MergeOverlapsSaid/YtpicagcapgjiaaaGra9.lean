/- Walks of graph: Depth. -/
import Derived.Test.YtpicagcapgjiaaaGra4
import Derived.Deep.CutBlock
import Derived.Deep.DeepCutAuto
set_option linter.unusedSimpArgs false
set_option linter.unusedVariables false
namespace Go.Proofs.Ytpicagcapgjiaaa
open Go.RowKit Go.Sel Go.Sel.Gra Go.Shelf

def partI (r : List Int) (n : Nat) : List Int := r ++ List.replicate (n - r.length) 0
theorem partI_length {r : List Int} {n : Nat} (h : r.length ≤ n) : (partI r n).length = n := by simp [partI]; omega
theorem partI_snoc {r : List Int} {n : Nat} {x : Int} (h : r.length < n) : (partI r n).set r.length x = partI (r ++ [x]) n := by
  have e : n - r.length = (n - (r.length + 1)) + 1 := by omega
  simp only [partI, List.length_append, List.length_singleton]
  rw [e, List.replicate_succ]
  simp
theorem partI_nil (n : Nat) : partI [] n = List.replicate n 0 := by simp [partI]
theorem partI_full {r : List Int} {n : Nat} (h : r.length = n) : partI r n = r := by simp [partI, h]
theorem partI_set0 {r : List Int} {n : Nat} (h : r.length < n) : (partI r n).set r.length 0 = partI r n := by
  have e : n - r.length = (n - (r.length + 1)) + 1 := by omega
  simp only [partI]
  rw [e, List.replicate_succ]
  simp
theorem partI_at {r : List Int} {n k : Nat} {x : Int} (hk : r.length = k) (hkn : k < n) {d : Nat} (hd : d < k) (h : d < ((partI r n).set k x).length) : ((partI r n).set k x)[d] = r.getD d 0 := by
  rw [List.getElem_set_ne (by omega)]
  simp [partI, List.getElem_append_left (show d < r.length by omega), List.getD_eq_getElem?_getD, List.getElem?_eq_getElem (show d < r.length by omega)]
theorem mkI (an : Nat) (hn : an < 1000) (w : World) : (Instr.makeSlice 23 (.int .i64 ((an : Int) + 1)) (.int .i64 ((an : Int) + 1))).run Try.prog w = .ok (.slice (some ⟨w.heap.size, 0, none⟩) (an + 1) (an + 1)) (w.alloc (.cells (iv .i64 (partI [] (an + 1))).toArray 3)) := by
  have := run_makeN 23 3 (.int .i64 0) 8 Try.underlying23 infoInt rfl (an + 1) (by omega) (by omega) w
  rw [show ((an + 1 : Nat) : Int) = (an : Int) + 1 by omega] at this
  rw [this, partI_nil]; simp [iv]
def rowMax (r l : List Int) : Int := l.foldl (fun m d => max m (r.getD d.toNat 0)) 0
theorem rowMax_snoc {r l : List Int} {j : Nat} (h : j < l.length) : rowMax r (l.take (j + 1)) = max (rowMax r (l.take j)) (r.getD l[j].toNat 0) := by
  rw [rowMax, List.take_succ_eq_append_getElem h, List.foldl_append]; rfl
theorem rowMax_bound {D : List (List Int)} (hr : rightD D = true) {k j : Nat} : 0 ≤ rowMax (deepL D k) ((nth D k).take j) ∧ rowMax (deepL D k) ((nth D k).take j) ≤ k := by
  have h1 := (foldl_max_le (l := (nth D k).take j) (f := fun d => (deepL D k).getD d.toNat 0) (z := 0) (b := _)).1 (Int.le_refl _)
  refine ⟨h1.1, ?_⟩
  unfold rowMax
  rw [foldl_max_le (f := fun d => (deepL D k).getD d.toNat 0)]
  refine ⟨by omega, fun d hd => ?_⟩
  have := right_mem hr (List.mem_of_mem_take hd)
  rw [deepL_at (by omega)]
  have := deep_most hr d.toNat
  omega
theorem deepL_snoc {D : List (List Int)} {k : Nat} : deepL D (k + 1) = deepL D k ++ [rowMax (deepL D k) (nth D k) + 1] := rfl

set_option maxHeartbeats 4000000 in
theorem Depth_any (A : Option Addr) (n c : Nat) (D : List (List Int)) (a : Int) (w : World) (hD : Dp w A n c D) :
    Calls Try.prog 60 #[.slice A n c, .int .i64 a] w fun e w' => e = .returned (.int .i64 (depthI D a)) ∧ Below w.heap.size w w' := by
  have hl := hD.len
  have l1 := hD.le
  have l2 := hD.cap
  have HD := Lib.hid hD
  have HL := Lib.hid hl
  clear hD
  by_cases hin : 0 ≤ a ∧ a < (n : Int)
  · obtain ⟨a0, a1⟩ := hin
    obtain ⟨an, rfl⟩ := Int.eq_ofNat_of_zero_le a0
    cases hr : rightD D with
    | false =>
      have HR := Lib.hid hr
      have HE : Hid (depthI D an = 0) := by show _ = _; simp [depthI, hr]
      rw [HE.out]
      clear hl hr
      go_enter Try.func60, Try.ntmps60
      go_wp2_with (go_at_call 16; (with_reducible refine (Right_any A n c D _ HD.out).mono ?_); rw [HR.out]; rintro e w1 ⟨rfl, hB⟩; have HB1 := Lib.hid hB; clear hB)
      go_ret
      exact ⟨rfl, HB1.out⟩
    | true =>
      have h256 := (right_iff.1 hr).1
      have ha' : an < n := by omega
      have hn : an < 1000 := by omega
      have HR := Lib.hid hr
      have HE : Hid (depthI D an = (deepL D (an + 1)).getD an 0) := by show _ = _; rw [deepL_at (Nat.lt_succ_self _)]; simp [depthI, hr, hl]; omega
      rw [HE.out]
      have hmk := mkI an hn
      have t1 : decide ((an : Int) < 0) = false := by simp
      have t2 : decide (n ≤ an) = false := by simp; omega
      clear hl hr h256
      go_enter Try.func60, Try.ntmps60
      go_upto_block 0 with (go_at_call 16; (with_reducible refine (Right_any A n c D _ HD.out).mono ?_); rw [HR.out]; rintro e w1 ⟨rfl, hB⟩; have HB1 := Lib.hid hB; clear hB)
      have HBK : Hid (Bk (w1.alloc (.cells (iv .i64 (partI [] (an + 1))).toArray 3)) w1.heap.size 3 (iv .i64 (partI (deepL D 0) (an + 1)))) := Bk.new _ _ _
      have HW : Hid (Below w.heap.size w (w1.alloc (.cells (iv .i64 (partI [] (an + 1))).toArray 3))) := below_then HB1.out (below_al _ _)
      have hsz := HB1.out.size
      clear hmk HB1
      generalize w1.alloc (.cells (iv .i64 (partI [] (an + 1))).toArray 3) = w2 at *
      generalize w1.heap.size = g at *
      go_wp2_with (fail)
      go_loopw [6, 8, 27] (fun _ _ v wr => ∃ k : Nat, k ≤ an + 1 ∧ v = .int .i64 k ∧ Hid (Bk wr g 3 (iv .i64 (partI (deepL D k) (an + 1)))) ∧ Hid (Below w.heap.size w wr)) (fun _ _ v _ => an + 1 - (intOf v).toNat)
      case atStart => exact ⟨0, by omega, by go_num, HBK, HW⟩
      case round =>
        rename World => w3
        obtain ⟨k, hk, rfl, HK, HWr⟩ := hrel
        by_cases hlt : k < an + 1
        · have hkn : k < n := by omega
          obtain ⟨b, off, A', n', c', rfl, hc, hn', hrd⟩ := (HD.out.below HWr.out).at_ hkn
          have hl1 := hrd.le
          have hl2 := hrd.cap
          have HNL := Lib.hid hn'
          have HRW : Hid (Rd w A' n' c' (iv .i64 (nth D k))) := by
            obtain ⟨b', off', A2, n2, c2, e, hc2, _, hrd2⟩ := HD.out.at_ hkn
            cases e
            have hlt := World.block_lt_of_cell? _ _ hc2
            have : w3.cell? ⟨b, off + k, none⟩ = some (.slice A2 n2 c2) := (HWr.out.cell hlt).trans hc2
            rw [hc] at this
            cases this
            exact hrd2
          have HK0 : Hid (Bk w3 g 3 (iv .i64 ((partI (deepL D k) (an + 1)).set k (rowMax (deepL D k) ((nth D k).take 0))))) := by
            show Bk _ _ _ _
            have : (partI (deepL D k) (an + 1)).set k 0 = partI (deepL D k) (an + 1) := by
              have := partI_set0 (r := deepL D k) (n := an + 1) (by simpa using hlt)
              rwa [deepL_length] at this
            have e : rowMax (deepL D k) ((nth D k).take 0) = 0 := rfl
            rw [e, this]; exact HK.out
          clear hn' hrd
          go_wp2_with (fail)
          go_loopw [8, 35] (fun _ v wr => ∃ j : Nat, j ≤ n' ∧ v = .int .i64 j ∧ Hid (Bk wr g 3 (iv .i64 ((partI (deepL D k) (an + 1)).set k (rowMax (deepL D k) ((nth D k).take j))))) ∧ Hid (Below w.heap.size w wr)) (fun _ v _ => n' - (intOf v).toNat)
          case atStart => exact ⟨0, by omega, by go_num, HK0, HWr⟩
          case round =>
            obtain ⟨j, hj, rfl, HJ, HW2⟩ := hrel
            have hlen : ((partI (deepL D k) (an + 1)).set k (rowMax (deepL D k) ((nth D k).take j))).length = an + 1 := by rw [List.length_set]; exact partI_length (by simp; omega)
            have hck := HJ.out.cell k (by simp [hlen]; exact hlt)
            rw [iv_at, List.getElem_set_self] at hck
            have hfk := HJ.out.free k
            obtain ⟨m0, m1⟩ := rowMax_bound HR.out (k := k) (j := j)
            by_cases hjl : j < n'
            · have hxl : j < (nth D k).length := by have := HNL.out; omega
              obtain ⟨b2, off2, rfl, _, hc2⟩ := (HRW.out.below HW2.out).form (by simp; omega)
              have hcj := hc2 j (by simpa using hxl)
              rw [iv_at] at hcj
              clear hc2
              obtain ⟨d0, d1, _⟩ := right_mem HR.out (List.getElem_mem hxl)
              have HSN := Lib.hid (rowMax_snoc (r := deepL D k) hxl)
              generalize (nth D k)[j] = d at *
              obtain ⟨dn, rfl⟩ := Int.eq_ofNat_of_zero_le d0
              have hdk : dn < k := by omega
              have hcd := HJ.out.cell dn (by simp [hlen]; omega)
              rw [iv_at, partI_at (by simp) hlt hdk] at hcd
              simp only [Int.toNat_natCast] at HSN
              have HMX : Hid (∀ m v : Int, max m v = if m < v then v else m) := fun m v => by split <;> omega
              rw [HMX.out] at HSN
              generalize (deepL D k).getD dn 0 = v at *
              generalize hmm : rowMax (deepL D k) ((nth D k).take j) = m at *
              have HJ1 : Hid (∀ q, Bk ((wr.drewN q).setCell ⟨g, k, none⟩ (.int .i64 (if m < v then v else m))) g 3 (iv .i64 ((partI (deepL D k) (an + 1)).set k (rowMax (deepL D k) ((nth D k).take (j + 1)))))) := fun q => by
                have h1 : Bk (wr.drewN q) g 3 (iv .i64 ((partI (deepL D k) (an + 1)).set k m)) := by have := HJ.out; unfold Bk at *; simpa using this
                have h2 := h1.set k (.int .i64 (if m < v then v else m))
                rw [iv_set, List.set_set] at h2
                rw [HSN.out]; exact h2
              have HW3 : Hid (∀ q, Below w.heap.size w ((wr.drewN q).setCell ⟨g, k, none⟩ (.int .i64 (if m < v then v else m)))) := fun q => (Below.then_drewN HW2.out q).setCell hsz _
              clear hmm hlen
              go_wp2_with (fail)
              go_region
              all_goals
                go_wp2_with (fail)
                go_roundw
                case rel => exact ⟨j + 1, by omega, by go_num, HJ1.out 1, HW3.out 1⟩
                case measure => simp [intOf] <;> omega
            · have hjn : j = n' := by omega
              have HTK : Hid ((nth D k).take j = nth D k) := List.take_of_length_le (by have := HNL.out; omega)
              rw [HTK.out] at HJ hck m0 m1
              have HSD : Hid (deepL D (k + 1) = deepL D k ++ [rowMax (deepL D k) (nth D k) + 1]) := deepL_snoc
              generalize hmm : rowMax (deepL D k) (nth D k) = m at *
              have hw64 : wrap64 (m + 1) = m + 1 := by unfold wrap64; omega
              have HJ2 : Hid (Bk (wr.setCell ⟨g, k, none⟩ (.int .i64 (m + 1))) g 3 (iv .i64 (partI (deepL D (k + 1)) (an + 1)))) := by
                have h2 := HJ.out.set k (.int .i64 (m + 1))
                rw [iv_set, List.set_set] at h2
                have h3 := partI_snoc (r := deepL D k) (n := an + 1) (x := m + 1) (by simpa using hlt)
                rw [deepL_length, ← HSD.out] at h3
                rw [h3] at h2
                exact h2
              have HW3 : Hid (Below w.heap.size w (wr.setCell ⟨g, k, none⟩ (.int .i64 (m + 1)))) := HW2.out.setCell hsz _
              clear hmm hlen
              go_wp2_with (fail)
              go_roundw
              case rel => exact ⟨k + 1, by omega, by go_num, HJ2, HW3⟩
              case measure => simp [intOf] <;> omega
        · have hkn : k = an + 1 := by omega
          subst hkn
          have HF : Hid (partI (deepL D (an + 1)) (an + 1) = deepL D (an + 1)) := partI_full (by simp)
          rw [HF.out] at HK
          have hca := HK.out.cell an (by simp)
          rw [iv_at] at hca
          have HG : Hid ((deepL D (an + 1))[an]'(by simp) = (deepL D (an + 1)).getD an 0) := by show _ = _; simp [List.getD_eq_getElem?_getD]
          rw [HG.out] at hca
          generalize hdd : (deepL D (an + 1)).getD an 0 = dd at *
          have HDD := Lib.hid hdd
          clear hdd
          go_wp2_with (fail)
          go_ret
          exact ⟨ret_int HDD.out.symm, HWr.out⟩
  · have HE : Hid (depthI D a = 0) := by
      show _ = _
      have : ¬ (0 ≤ a ∧ a < (D.length : Int)) := by rw [hl]; exact hin
      simp only [depthI, Bool.and_eq_true, decide_eq_true_eq]
      rw [if_neg (fun h => this h.1)]
    rw [HE.out]
    have hcase : a < 0 ∨ (0 ≤ a ∧ (n : Int) ≤ a) := by omega
    clear hl hin
    rcases hcase with h1 | ⟨h1, h2⟩
    all_goals
      go_enter Try.func60, Try.ntmps60
      go_wp2
      go_ret
      exact ⟨rfl, Below.refl _ _⟩
end Go.Proofs.Ytpicagcapgjiaaa
