/- Walks of graph's reference: Before, Above, Depth. -/
import Derived.Test.YtefgkomcmknigaaGraJ
import Derived.Test.YtefgkomcmknigaaGra8
import Derived.Test.YtefgkomcmknigaaGra9
set_option linter.unusedSimpArgs false
set_option linter.unusedVariables false
namespace Go.Proofs.Ytefgkomcmknigaa
open Go.RowKit Go.Sel Go.Sel.Gra Go.Shelf

attribute [local go_sem] Oper.semAt_some

theorem before_ref {D : List (List Int)} {a b : Int} (h : a ≠ b) (h0 : 0 ≤ b) (h1 : b < (D.length : Int)) : decide (a ∈ closeL D [b]) = beforeB D a b := by
  obtain ⟨bn, rfl⟩ := Int.eq_ofNat_of_zero_le h0
  rw [Bool.eq_iff_iff, decide_eq_true_eq, before_iff]
  constructor
  · intro ha
    obtain ⟨hr, j, rfl, hj⟩ := closeL_mem ha
    refine ⟨hr, by omega, by omega, ?_⟩
    rcases (mem_closeL hr).1 ha with ⟨_, hm⟩ | ⟨i, hi, hm, hA⟩
    · exact absurd (List.mem_singleton.1 hm) h
    · have : (i : Int) = bn := List.mem_singleton.1 hm
      have : i = bn := by omega
      subst this
      simpa using hA
  · rintro ⟨hr, ha, _, hA⟩
    obtain ⟨an, rfl⟩ := Int.eq_ofNat_of_zero_le ha
    exact (mem_closeL hr).2 (.inr ⟨bn, by omega, by simp, by simpa using hA⟩)
theorem before_not {D : List (List Int)} {a b : Int} (h : a = b ∨ b < 0 ∨ (D.length : Int) ≤ b) : beforeB D a b = false := by
  cases hb : beforeB D a b with
  | false => rfl
  | true =>
    obtain ⟨hr, h0, h1, hA⟩ := before_iff.1 hb
    have := hA.lt hr
    omega

set_option maxHeartbeats 4000000 in
theorem rBefore_any (A : Option Addr) (n c : Nat) (D : List (List Int)) (a b : Int) (w : World) (hD : Dp w A n c D) :
    Calls Try.prog 21 #[.slice A n c, .int .i64 a, .int .i64 b] w fun e w' => e = .returned (.bool (beforeB D a b)) ∧ Below w.heap.size w w' := by
  have hl := hD.len
  have l1 := hD.le
  have l2 := hD.cap
  have HD := Lib.hid hD
  clear hD
  by_cases hab : a = b
  · have HE : Hid (beforeB D a b = false) := before_not (.inl hab)
    have q0 : (a != b) = false := by simp [hab]
    clear hab hl
    go_enter Try.func21, Try.ntmps21
    go_wp2
    go_ret
    exact ⟨ret_bool HE.out.symm, Below.refl _ _⟩
  · have q0 : (a != b) = true := by simpa using hab
    rcases (show b < 0 ∨ (0 ≤ b ∧ (n : Int) ≤ b) ∨ (0 ≤ b ∧ b < (n : Int)) by omega) with h | ⟨h, h'⟩ | ⟨h, h'⟩
    · have HE : Hid (beforeB D a b = false) := before_not (.inr (.inl h))
      have q1 : decide (0 ≤ b) = false := by simp; omega
      clear hab hl
      go_enter Try.func21, Try.ntmps21
      go_wp2
      go_ret
      exact ⟨ret_bool HE.out.symm, Below.refl _ _⟩
    · have HE : Hid (beforeB D a b = false) := before_not (.inr (.inr (by rw [hl]; exact h')))
      have q1 : decide (0 ≤ b) = true := by simpa using h
      have q2 : decide (b < (n : Int)) = false := by simp; omega
      clear hab hl
      go_enter Try.func21, Try.ntmps21
      go_wp2
      go_ret
      exact ⟨ret_bool HE.out.symm, Below.refl _ _⟩
    · have HE : Hid (decide (a ∈ closeL D [b]) = beforeB D a b) := before_ref hab h (by rw [hl]; exact h')
      have q1 : decide (0 ≤ b) = true := by simpa using h
      have q2 : decide (b < (n : Int)) = true := by simpa using h'
      have hR2 : Rd (w.alloc (.cells #[.int .i64 b] 3)) (some ⟨w.heap.size, 0, none⟩) 1 1 (iv .i64 [b]) := (Bk.new w 3 [.int .i64 b]).rd 1 1 (by omega) (by omega)
      have HR2 := Lib.hid hR2
      have HD2 := Lib.hid (HD.out.below (below_al w (.cells #[.int .i64 b] 3)))
      clear hab hl hR2
      go_enter Try.func21, Try.ntmps21
      go_wp2_with (first
        | (go_at_call 33; (with_reducible refine (rClose_any _ _ _ D _ _ _ [b] _ HD2.out HR2.out rfl).mono ?_); rintro e w5 ⟨⟨A5, c5, rfl, hr⟩, hB⟩; have HR5 := Lib.hid hr; have HB5 := Lib.hid (below_then (below_al w _) hB); clear hB hr)
        | (go_at_call 18; (with_reducible refine (Has_any _ _ _ (closeL D [b]) _ _ HR5.out rfl).mono ?_); rw [HE.out]; rintro e w6 ⟨rfl, hw⟩; have hw := hw.symm; subst hw))
      go_ret
      exact ⟨rfl, HB5.out⟩

def aboveK (D : List (List Int)) (a : Int) (k : Nat) : List Int := ((List.range k).filter fun i : Nat => beforeB D a (i : Int)).map fun i : Nat => (i : Int)
theorem aboveK_in {D : List (List Int)} {a : Int} {k : Nat} (h : beforeB D a (k : Int) = true) : aboveK D a (k + 1) = aboveK D a k ++ [(k : Int)] := by simp [aboveK, List.range_succ, h]
theorem aboveK_out {D : List (List Int)} {a : Int} {k : Nat} (h : beforeB D a (k : Int) = false) : aboveK D a (k + 1) = aboveK D a k := by simp [aboveK, List.range_succ, h]
theorem aboveK_length (D : List (List Int)) (a : Int) (k : Nat) : (aboveK D a k).length ≤ k := by
  rw [aboveK, List.length_map]
  exact Nat.le_trans (List.length_filter_le _ _) (by simp)
theorem aboveK_sorted (D : List (List Int)) (a : Int) (k : Nat) : (aboveK D a k).Pairwise (· < ·) := by
  rw [aboveK, List.pairwise_map]
  exact (List.Pairwise.filter _ (List.pairwise_lt_range)).imp (fun h => by omega)
theorem above_ref (D : List (List Int)) (a : Int) : aboveL D a = aboveK D a D.length := by
  have hs : (aboveL D a).Pairwise (· < ·) := by
    rw [aboveL]
    split
    · exact thoseL_sorted _
    · exact List.Pairwise.nil
  have hnat : ∀ x ∈ aboveL D a, ∃ j : Nat, x = j := fun x hx => by
    rw [aboveL] at hx
    split at hx
    · obtain ⟨j, h, _⟩ := mem_thoseL.1 hx
      exact ⟨j, h⟩
    · simp at hx
  refine sorted_ext hs (aboveK_sorted _ _ _) (fun x => ?_)
  constructor
  · intro hx
    obtain ⟨j, rfl⟩ := hnat x hx
    have hb := mem_aboveL.1 hx
    obtain ⟨hr, h0, h1, hA⟩ := before_iff.1 hb
    have := hA.lt hr
    rw [aboveK, List.mem_map]
    exact ⟨j, List.mem_filter.2 ⟨by simp at this ⊢; omega, hb⟩, rfl⟩
  · intro hx
    rw [aboveK, List.mem_map] at hx
    obtain ⟨j, hj, rfl⟩ := hx
    exact mem_aboveL.2 (List.mem_filter.1 hj).2
theorem aboveK_not {D : List (List Int)} (h : rightD D = false) (a : Int) : aboveL D a = [] := by simp [aboveL, h]

set_option maxHeartbeats 4000000 in
theorem rAbove_any (A : Option Addr) (n c : Nat) (D : List (List Int)) (a : Int) (w : World) (hD : Dp w A n c D) :
    Calls Try.prog 24 #[.slice A n c, .int .i64 a] w fun e w' => (∃ A' c', e = .returned (.slice A' (aboveL D a).length c') ∧ Rd w' A' (aboveL D a).length c' (iv .i64 (aboveL D a))) ∧ Below w.heap.size w w' := by
  have hl := hD.len
  have l1 := hD.le
  have l2 := hD.cap
  have HD := Lib.hid hD
  clear hD
  cases hr : rightD D with
  | false =>
    have HR := Lib.hid hr
    have HE := Lib.hid (aboveK_not hr a)
    rw [HE.out]
    clear hl hr
    go_enter Try.func24, Try.ntmps24
    go_wp2
    go_loopw [5, 6] (fun v i wr => v = .slice none 0 0 ∧ i = .int .i64 0 ∧ wr = w) (fun _ _ _ => 0)
    case atStart => exact ⟨rfl, rfl, rfl⟩
    case round =>
      obtain ⟨rfl, rfl, rfl⟩ := hrel
      go_wp2_with (go_at_call 30; (with_reducible refine (rRight_any A n c D _ HD.out).mono ?_); rw [HR.out]; rintro e w1 ⟨rfl, hw⟩; have hw := hw.symm; subst hw)
      go_ret
      exact ⟨⟨none, 0, rfl, Rd.nil (by omega)⟩, Below.refl _ _⟩
  | true =>
    have h256 := (right_iff.1 hr).1
    have hn : n ≤ 256 := by omega
    have HR := Lib.hid hr
    have HE : Hid (aboveL D a = aboveK D a n) := by show _ = _; rw [above_ref, hl]
    rw [HE.out]
    clear hl hr h256 HE
    go_enter Try.func24, Try.ntmps24
    go_wp2
    go_loopw [5, 6] (fun v i wr => ∃ k : Nat, k ≤ n ∧ i = .int .i64 k ∧ Hid (wr.ownsRow w.heap.size 3 1 v (aboveK D a k).length (iv .i64 (aboveK D a k))) ∧ Hid (Below w.heap.size w wr)) (fun _ i _ => n - (intOf i).toNat)
    case atStart => exact ⟨0, by omega, by go_num, World.ownsRow_nil _ _ _ _, Below.refl _ _⟩
    case round =>
      obtain ⟨k, hk, rfl, HO, HW⟩ := hrel
      have hlen := aboveK_length D a k
      by_cases hlt : k < n
      · cases hb : beforeB D a (k : Int) with
        | true =>
          have HBF := Lib.hid hb
          have HK := Lib.hid (aboveK_in hb)
          clear hb
          go_wp2_with (first
            | (go_at_call 30; (with_reducible refine (rRight_any A n c D _ (HD.out.below HW.out)).mono ?_); rw [HR.out]; rintro e w1 ⟨rfl, hw⟩; have hw := hw.symm; subst hw)
            | (go_at_call 21; (with_reducible refine (rBefore_any A n c D a (k : Int) _ (HD.out.below HW.out)).mono ?_); rw [HBF.out]; rintro e w2 ⟨rfl, hB⟩; have HW2 := Lib.hid (HW.out.trans (hB.mono HW.out.size)); have HO2 : Hid (w2.ownsRow w.heap.size 3 1 _ (aboveK D a k).length (iv .i64 (aboveK D a k))) := own_same HO.out (fun r hr => hB.block r (HO.out.lt r hr).2); clear hB)
            | (at_builtin; refine wpList_push w2 rfl (.tmp 21) (.tmp 23) 27 3 rfl w.heap.size (.int .i64 0) 8 Try.underlying27 infoInt rfl (by omega) _ (aboveK D a k).length _ (.int .i64 (k : Int)) rfl rfl rfl HO2.out HW2.out.size (by omega) rfl ?_; intro g cap w6 ho hg hat hlt1; have HO6 := Lib.hid ho; have HW6 := Lib.hid (below_grown HW2.out hg HW2.out.size (own_row HO2.out)); clear ho hg hat))
          go_roundw
          case rel =>
            refine ⟨k + 1, by omega, by go_num, ?_, HW6⟩
            rw [HK.out, List.length_append, List.length_singleton, iv, List.map_append]
            exact HO6
          case measure => simp [intOf]; omega
        | false =>
          have HBF := Lib.hid hb
          have HK := Lib.hid (aboveK_out hb)
          clear hb
          go_wp2_with (first
            | (go_at_call 30; (with_reducible refine (rRight_any A n c D _ (HD.out.below HW.out)).mono ?_); rw [HR.out]; rintro e w1 ⟨rfl, hw⟩; have hw := hw.symm; subst hw)
            | (go_at_call 21; (with_reducible refine (rBefore_any A n c D a (k : Int) _ (HD.out.below HW.out)).mono ?_); rw [HBF.out]; rintro e w2 ⟨rfl, hB⟩; have HW2 := Lib.hid (HW.out.trans (hB.mono HW.out.size)); have HO2 : Hid (w2.ownsRow w.heap.size 3 1 _ (aboveK D a k).length (iv .i64 (aboveK D a k))) := own_same HO.out (fun r hr => hB.block r (HO.out.lt r hr).2); clear hB))
          go_roundw
          case rel => exact ⟨k + 1, by omega, by go_num, by rw [HK.out]; exact HO2, HW2⟩
          case measure => simp [intOf]; omega
      · obtain rfl : k = n := by omega
        go_wp2_with (go_at_call 30; (with_reducible refine (rRight_any A _ c D _ (HD.out.below HW.out)).mono ?_); rw [HR.out]; rintro e w1 ⟨rfl, hw⟩; have hw := hw.symm; subst hw)
        go_ret
        obtain ⟨A5, c5, rfl, hl5, hr5⟩ := rd_own HO.out
        exact ⟨⟨A5, c5, rfl, hr5⟩, HW.out⟩

theorem mkIn (n : Nat) (hn : n ≤ 1000) (w : World) : (Instr.makeSlice 27 (.int .i64 (n : Int)) (.int .i64 (n : Int))).run Try.prog w = .ok (.slice (some ⟨w.heap.size, 0, none⟩) n n) (w.alloc (.cells (iv .i64 (partI [] n)).toArray 3)) := by
  have := run_makeN 27 3 (.int .i64 0) 8 Try.underlying27 infoInt rfl n (by omega) (by omega) w
  rw [this, partI_nil]; simp [iv]

set_option maxRecDepth 100000 in
set_option maxHeartbeats 8000000 in
theorem rDepth_any (A : Option Addr) (n c : Nat) (D : List (List Int)) (a : Int) (w : World) (hD : Dp w A n c D) :
    Calls Try.prog 25 #[.slice A n c, .int .i64 a] w fun e w' => e = .returned (.int .i64 (depthI D a)) ∧ Below w.heap.size w w' := by
  have hl := hD.len
  have l1 := hD.le
  have l2 := hD.cap
  have HD := Lib.hid hD
  have HL := Lib.hid hl
  clear hD
  cases hr : rightD D with
  | false =>
    have HR := Lib.hid hr
    have HE : Hid (depthI D a = 0) := by show _ = _; simp [depthI, hr]
    rw [HE.out]
    clear hl hr
    go_enter Try.func25, Try.ntmps25
    go_wp2_with (go_at_call 30; (with_reducible refine (rRight_any A n c D _ HD.out).mono ?_); rw [HR.out]; rintro e w1 ⟨rfl, hw⟩; have hw := hw.symm; subst hw)
    go_ret
    exact ⟨rfl, Below.refl _ _⟩
  | true =>
    have h256 := (right_iff.1 hr).1
    have hn : n ≤ 1000 := by omega
    have HR := Lib.hid hr
    rcases (show a < 0 ∨ (0 ≤ a ∧ (n : Int) ≤ a) ∨ (0 ≤ a ∧ a < (n : Int)) by omega) with h | ⟨h, h'⟩ | ⟨h, h'⟩
    · have HE : Hid (depthI D a = 0) := by show _ = _; rw [depthI, if_neg (by simp; omega)]
      have q1 : decide (a < 0) = true := by simpa using h
      rw [HE.out]
      clear hl hr h256
      go_enter Try.func25, Try.ntmps25
      go_wp2_with (go_at_call 30; (with_reducible refine (rRight_any A n c D _ HD.out).mono ?_); rw [HR.out]; rintro e w1 ⟨rfl, hw⟩; have hw := hw.symm; subst hw)
      go_ret
      exact ⟨rfl, Below.refl _ _⟩
    · have HE : Hid (depthI D a = 0) := by show _ = _; rw [depthI, if_neg (by simp; omega)]
      have q1 : decide (a < 0) = false := by simp; omega
      have q2 : decide ((n : Int) ≤ a) = true := by simpa using h'
      rw [HE.out]
      clear hl hr h256
      go_enter Try.func25, Try.ntmps25
      go_wp2_with (go_at_call 30; (with_reducible refine (rRight_any A n c D _ HD.out).mono ?_); rw [HR.out]; rintro e w1 ⟨rfl, hw⟩; have hw := hw.symm; subst hw)
      go_ret
      exact ⟨rfl, Below.refl _ _⟩
    · obtain ⟨an, rfl⟩ := Int.eq_ofNat_of_zero_le h
      have ha' : an < n := by omega
      have HE : Hid (depthI D an = (deepL D n).getD an 0) := by show _ = _; rw [deepL_at ha']; simp [depthI, hr, hl]; omega
      rw [HE.out]
      have hmk := mkIn n hn
      have t1 : decide ((an : Int) < 0) = false := by simp
      have t2 : decide (n ≤ an) = false := by simp; omega
      have t3 : decide ((n : Int) ≤ (an : Int)) = false := by simp; omega
      clear hl hr h256
      go_enter Try.func25, Try.ntmps25
      go_upto_block 0 with (go_at_call 30; (with_reducible refine (rRight_any A n c D _ HD.out).mono ?_); rw [HR.out]; rintro e w1 ⟨rfl, hw⟩; have hw := hw.symm; subst hw)
      have HBK : Hid (Bk (w.alloc (.cells (iv .i64 (partI [] n)).toArray 3)) w.heap.size 3 (iv .i64 (partI (deepL D 0) n))) := Bk.new _ _ _
      have HW : Hid (Below w.heap.size w (w.alloc (.cells (iv .i64 (partI [] n)).toArray 3))) := below_al _ _
      clear hmk
      generalize w.alloc (.cells (iv .i64 (partI [] n)).toArray 3) = w2 at *
      go_wp2_with (fail)
      go_loopw [6, 7] (fun v _ wr => ∃ k : Nat, k ≤ n ∧ v = .int .i64 k ∧ Hid (Bk wr w.heap.size 3 (iv .i64 (partI (deepL D k) n))) ∧ Hid (Below w.heap.size w wr)) (fun v _ _ => n - (intOf v).toNat)
      case atStart => exact ⟨0, by omega, by go_num, HBK, HW⟩
      case round =>
        rename World => w3
        obtain ⟨k, hk, rfl, HK, HWr⟩ := hrel
        by_cases hkn : k < n
        · obtain ⟨b, off, A', n', c', rfl, hc, hn', hrd⟩ := (HD.out.below HWr.out).at_ hkn
          have hl1 := hrd.le
          have hl2 := hrd.cap
          have HNL := Lib.hid hn'
          have HRW : Hid (Rd w A' n' c' (iv .i64 (nth D k)) ∧ w.cell? ⟨b, off + k, none⟩ = some (.slice A' n' c')) := by
            obtain ⟨b', off', A2, n2, c2, e, hc2, _, hrd2⟩ := HD.out.at_ hkn
            cases e
            have hlt := World.block_lt_of_cell? _ _ hc2
            have : w3.cell? ⟨b, off + k, none⟩ = some (.slice A2 n2 c2) := (HWr.out.cell hlt).trans hc2
            rw [hc] at this
            cases this
            exact ⟨hrd2, hc2⟩
          have HK0 : Hid (Bk w3 w.heap.size 3 (iv .i64 ((partI (deepL D k) n).set k (rowMax (deepL D k) ((nth D k).take 0))))) := by
            show Bk _ _ _ _
            have : (partI (deepL D k) n).set k 0 = partI (deepL D k) n := by
              have := partI_set0 (r := deepL D k) (n := n) (by simpa using hkn)
              rwa [deepL_length] at this
            have e : rowMax (deepL D k) ((nth D k).take 0) = 0 := rfl
            rw [e, this]; exact HK.out
          clear hn' hrd hc
          go_wp2_with (fail)
          go_loopw [7] (fun v wr => ∃ j : Nat, j ≤ n' ∧ v = .int .i64 j ∧ Hid (Bk wr w.heap.size 3 (iv .i64 ((partI (deepL D k) n).set k (rowMax (deepL D k) ((nth D k).take j))))) ∧ Hid (Below w.heap.size w wr)) (fun v _ => n' - (intOf v).toNat)
          case atStart => exact ⟨0, by omega, by go_num, HK0, HWr⟩
          case round =>
            obtain ⟨j, hj, rfl, HJ, HW2⟩ := hrel
            have hcell := keep_cell HRW.out.2 HW2.out
            have hlen : ((partI (deepL D k) n).set k (rowMax (deepL D k) ((nth D k).take j))).length = n := by rw [List.length_set]; exact partI_length (by simp; omega)
            have hck := HJ.out.cell k (by simp [hlen]; exact hkn)
            rw [iv_at, List.getElem_set_self] at hck
            have hfk := HJ.out.free k
            obtain ⟨m0, m1⟩ := rowMax_bound HR.out (k := k) (j := j)
            by_cases hjl : j < n'
            · have hxl : j < (nth D k).length := by have := HNL.out; omega
              obtain ⟨b2, off2, rfl, _, hc2⟩ := (HRW.out.1.below HW2.out).form (by simp; omega)
              have hcj := hc2 j (by simpa using hxl)
              rw [iv_at] at hcj
              clear hc2
              obtain ⟨d0, d1, _⟩ := right_mem HR.out (List.getElem_mem hxl)
              have HSN := Lib.hid (rowMax_snoc (r := deepL D k) hxl)
              generalize (nth D k)[j] = d at *
              obtain ⟨dn, rfl⟩ := Int.eq_ofNat_of_zero_le d0
              have hdk : dn < k := by omega
              have hdn : dn < n := by omega
              have hcd := HJ.out.cell dn (by simp [hlen]; omega)
              rw [iv_at, partI_at (by simp) hkn hdk] at hcd
              simp only [Int.toNat_natCast] at HSN
              have HMX : Hid (∀ m v : Int, max m v = if m < v then v else m) := fun m v => by split <;> omega
              rw [HMX.out] at HSN
              generalize (deepL D k).getD dn 0 = v at *
              generalize hmm : rowMax (deepL D k) ((nth D k).take j) = m at *
              have HJ1 : Hid (m < v → ∀ q, Bk ((wr.drewN q).setCell ⟨w.heap.size, k, none⟩ (.int .i64 v)) w.heap.size 3 (iv .i64 ((partI (deepL D k) n).set k (rowMax (deepL D k) ((nth D k).take (j + 1)))))) := fun hlt q => by
                have h1 : Bk (wr.drewN q) w.heap.size 3 (iv .i64 ((partI (deepL D k) n).set k m)) := by have := HJ.out; unfold Bk at *; simpa using this
                have h2 := h1.set k (.int .i64 v)
                rw [iv_set, List.set_set] at h2
                rw [HSN.out, if_pos hlt]; exact h2
              have HJ2 : Hid (¬ m < v → ∀ q, Bk (wr.drewN q) w.heap.size 3 (iv .i64 ((partI (deepL D k) n).set k (rowMax (deepL D k) ((nth D k).take (j + 1)))))) := fun hlt q => by
                have h1 : Bk (wr.drewN q) w.heap.size 3 (iv .i64 ((partI (deepL D k) n).set k m)) := by have := HJ.out; unfold Bk at *; simpa using this
                rw [HSN.out, if_neg hlt]; exact h1
              have HW3 : Hid (∀ q, Below w.heap.size w ((wr.drewN q).setCell ⟨w.heap.size, k, none⟩ (.int .i64 v))) := fun q => (Below.then_drewN HW2.out q).setCell (Nat.le_refl _) _
              have HW4 : Hid (∀ q, Below w.heap.size w (wr.drewN q)) := fun q => Below.then_drewN HW2.out q
              clear hmm hlen
              by_cases hlt : m < v
              · have q1 : decide (m < v) = true := by simpa using hlt
                go_wp2_with (fail)
                go_region
                all_goals
                  go_wp2_with (fail)
                  go_roundw
                  case rel => exact ⟨j + 1, by omega, by go_num, HJ1.out hlt 1, HW3.out 1⟩
                  case measure => simp [intOf] <;> omega
              · have q1 : decide (m < v) = false := by simpa using hlt
                go_wp2_with (fail)
                go_region
                all_goals
                  go_wp2_with (fail)
                  go_roundw
                  case rel => exact ⟨j + 1, by omega, by go_num, HJ2.out hlt 1, HW4.out 1⟩
                  case measure => simp [intOf] <;> omega
            · have hjn : j = n' := by omega
              have HTK : Hid ((nth D k).take j = nth D k) := List.take_of_length_le (by have := HNL.out; omega)
              rw [HTK.out] at HJ hck m0 m1
              have HSD : Hid (deepL D (k + 1) = deepL D k ++ [rowMax (deepL D k) (nth D k) + 1]) := deepL_snoc
              generalize hmm : rowMax (deepL D k) (nth D k) = m at *
              have hw64 : wrap64 (m + 1) = m + 1 := by unfold wrap64; omega
              have HJ2 : Hid (Bk (wr.setCell ⟨w.heap.size, k, none⟩ (.int .i64 (m + 1))) w.heap.size 3 (iv .i64 (partI (deepL D (k + 1)) n))) := by
                have h2 := HJ.out.set k (.int .i64 (m + 1))
                rw [iv_set, List.set_set] at h2
                have h3 := partI_snoc (r := deepL D k) (n := n) (x := m + 1) (by simpa using hkn)
                rw [deepL_length, ← HSD.out] at h3
                rw [h3] at h2
                exact h2
              have HW3 : Hid (Below w.heap.size w (wr.setCell ⟨w.heap.size, k, none⟩ (.int .i64 (m + 1)))) := HW2.out.setCell (Nat.le_refl _) _
              clear hmm hlen
              go_wp2_with (fail)
              go_roundw
              case rel => exact ⟨k + 1, by omega, by go_num, HJ2, HW3⟩
              case measure => simp [intOf] <;> omega
        · have hkn : k = n := by omega
          subst hkn
          have HF : Hid (partI (deepL D k) k = deepL D k) := partI_full (by simp)
          rw [HF.out] at HK
          have hca := HK.out.cell an (by simp; omega)
          rw [iv_at] at hca
          have HG : Hid ((deepL D k)[an]'(by simp; omega) = (deepL D k).getD an 0) := by show _ = _; simp [List.getD_eq_getElem?_getD, ha']
          rw [HG.out] at hca
          generalize hdd : (deepL D k).getD an 0 = dd at *
          have HDD := Lib.hid hdd
          clear hdd
          go_wp2_with (fail)
          go_ret
          exact ⟨ret_int HDD.out.symm, HWr.out⟩
end Go.Proofs.Ytefgkomcmknigaa
