/- Walks of what big needs: merge.Right, merge.Blocks. Printed by gen_bg6.py. -/
import Derived.Test.YtcgfoaihfncppaaKBg5
import Derived.Shelf.Abstract
import Derived.Deep.LoopGhost
import Derived.ScopeJumps
import Derived.WalkMore
import Derived.Lib.BufferWrite
import Derived.IntWalk
import Derived.Deep.RegionHeld
set_option linter.unusedSimpArgs false
set_option linter.unusedVariables false
namespace Go.Proofs.Ytcgfoaihfncppaa
open Go.RowKit Go.Sel Go.Sel.Gra Go.Sel.Mer Go.Shelf
/-- 'd < 0 || d >= i'. -/
def bad (i d : Int) : Bool := decide (d < 0) || decide (i ≤ d)
theorem Right1_tells (i : Int) (b : Nat) (xs : List Int) (w : World) (hb : w.cell? ⟨b, 0, none⟩ = some (.int .i64 i)) : Tells 99 #[.pointer (some ⟨b, 0, none⟩)] (bad i) xs w := by
  intro x _ q
  have hc : (w.drewN q).cell? ⟨b, 0, none⟩ = some (.int .i64 i) := by simpa using hb
  generalize w.drewN q = w0 at *
  clear hb
  go_enter Try.func99, Try.ntmps99
  go_wp2
  all_goals go_ret
  all_goals refine ⟨ret_bool ?_, 0, rfl⟩
  all_goals simp [bad] at *
  all_goals omega
theorem right_bad {D : List (List Int)} (k : Nat) (hk : k < D.length) (h : (decide (256 < (nth D k).length) || (nth D k).any (bad k)) = true) : rightD D = false := by
  rw [Bool.eq_false_iff]
  intro hr
  have h1 := (right_iff.1 hr).2 k hk
  rw [Bool.or_eq_true, decide_eq_true_eq, List.any_eq_true] at h
  rcases h with h | ⟨d, hd, h⟩
  · omega
  · have := h1.2 d hd
    simp [bad] at h; omega
theorem right_end {D : List (List Int)} (hl : D.length ≤ 256) (h : ∀ k, k < D.length → (decide (256 < (nth D k).length) || (nth D k).any (bad k)) = false) : rightD D = true := by
  rw [right_iff]
  refine ⟨hl, fun i hi => ?_⟩
  have := h i hi
  rw [Bool.or_eq_false_iff, decide_eq_false_iff_not, List.any_eq_false] at this
  refine ⟨by omega, fun d hd => ?_⟩
  have := this.2 d hd
  simp [bad] at this; omega
theorem right_long {D : List (List Int)} (hl : 256 < D.length) : rightD D = false := by
  rw [Bool.eq_false_iff]; intro hr; have := (right_iff.1 hr).1; omega

set_option maxHeartbeats 1000000 in
theorem Right_any (A : Option Addr) (n c : Nat) (D : List (List Int)) (w : World) (hD : Dp w A n c D) :
    Calls Try.prog 86 #[.slice A n c] w fun e w' => e = .returned (.bool (rightD D)) ∧ Below w.heap.size w w' := by
  have HD := Lib.hid hD
  have HN := Lib.hid hD.len
  have l1 := hD.le
  have l2 := hD.cap
  clear hD
  by_cases hl : n ≤ 256
  · go_enter Try.func86, Try.ntmps86
    go_wp2
    go_loopw [3, 4, 10] (fun _ _ v wr => ∃ k : Nat, k ≤ n ∧ v = .int .i64 k ∧ Hid (∀ j, j < k → (decide (256 < (nth D j).length) || (nth D j).any (bad j)) = false) ∧ Hid (Below w.heap.size w wr)) (fun _ _ v _ => n - (Go.RowKit.intOf v).toNat)
    case atStart => exact ⟨0, by omega, rfl, Lib.hid (fun j hj => by omega), Below.refl _ _⟩
    case round =>
      obtain ⟨k, hk, rfl, hz, HB⟩ := hrel
      by_cases hlt : k < n
      · obtain ⟨b, off, A', n', c', rfl, hc, hn', hr⟩ := (HD.out.below HB.out).at_ hlt
        have hl1 := hr.le
        have hl2 := hr.cap
        have HR := Lib.hid hr
        have HN' := Lib.hid hn'
        have HAL := Lib.hid (below_al wr (.cells #[.int .i64 k] 3))
        clear hr hn'
        by_cases hlong : n' ≤ 256
        · have HC : Hid (∀ q, Calls Try.prog 55 #[.slice A' n' c', .func (.func 99) #[] #[.pointer (some ⟨wr.heap.size, 0, none⟩)]] ((wr.alloc (.cells #[.int .i64 k] 3)).drewN q) fun e w' => e = .returned (.bool ((nth D k).any (bad k))) ∧ ∃ q', w' = ((wr.alloc (.cells #[.int .i64 k] 3)).drewN q).drewN q') := fun q =>
            ContainsFunc_any _ _ (enters_of Try.func99 (by kernel_rfl) rfl) (bad k) A' n' c' (nth D k) _ (rd_drewN q (HR.out.alloc _)) HN'.out (Right1_tells k _ _ _ (by simp))
          have HB1 := Lib.hid (below_then HB.out HAL.out)
          have HLG : Hid (decide (256 < (nth D k).length) = false) := by show _ = _; rw [HN'.out]; simpa using hlong
          generalize hq : (nth D k).any (bad k) = t at *
          have HQ := Lib.hid hq
          clear hq
          cases t with
          | false =>
            go_wp2_with (go_at_call 55; refine (HC.out 0).mono ?_; rintro e w' ⟨rfl, q', rfl⟩)
            refine ⟨⟨k + 1, by omega, by go_num, fun j hj => ?_, Below.then_drewN HB1.out _⟩, by simp [Go.RowKit.intOf]; omega⟩
            by_cases hjk : j = k
            · subst hjk; rw [HLG.out, HQ.out]; rfl
            · exact hz.out j (by omega)
          | true =>
            go_wp2_with (go_at_call 55; refine (HC.out 0).mono ?_; rintro e w' ⟨rfl, q', rfl⟩)
            go_ret
            exact ⟨ret_bool (right_bad k (by have := HN.out; omega) (by rw [HQ.out]; simp)).symm, Below.then_drewN HB1.out _⟩
        · have HLG : Hid (decide (256 < (nth D k).length) = true) := by show _ = _; rw [HN'.out]; simp; omega
          have HB1 := Lib.hid (below_then HB.out HAL.out)
          go_wp2
          go_ret
          exact ⟨ret_bool (right_bad k (by have := HN.out; omega) (by rw [HLG.out]; simp)).symm, HB1.out⟩
      · go_wp2
        go_ret
        exact ⟨ret_bool (right_end (by rw [HN.out]; omega) (fun j hj => hz.out j (by have := HN.out; omega))).symm, HB.out⟩
  · go_enter Try.func86, Try.ntmps86
    go_wp2
    go_ret
    exact ⟨ret_bool (right_long (by rw [HN.out]; omega)).symm, Below.refl _ _⟩

/-! ### marks -/
def falses (n : Nat) : List Bool := List.replicate n false

def pv (x : It) : Value := .agg #[.int .i64 x.b, .int .i64 x.o, .string x.s]



/-! ### deps -/
def nilV : Value := .slice none 0 0
def nils (n : Nat) : List Value := List.replicate n nilV
theorem mkRows (n : Nat) (hn : n ≤ 1000) (w : World) : (Instr.makeSlice 107 (.int .i64 (n : Int)) (.int .i64 (n : Int))).run Try.prog w = .ok (.slice (some ⟨w.heap.size, 0, none⟩) n n) (w.alloc (.cells (nils n).toArray 23)) :=
  run_makeN 107 23 (.slice none 0 0) 24 Try.underlying107 (by kernel_rfl) rfl n (by omega) (by omega) w
def partS (ss : List (Option Addr × Nat × Nat)) (k n : Nat) : List Value := (ss.take k).map sv ++ nils (n - k)
theorem partS_length {ss : List (Option Addr × Nat × Nat)} {k n : Nat} (h : ss.length = n) (hk : k ≤ n) : (partS ss k n).length = n := by simp [partS, nils]; omega
theorem partS_all {ss : List (Option Addr × Nat × Nat)} {n : Nat} (h : ss.length = n) : partS ss n n = ss.map sv := by simp [partS, nils, ← h]
theorem partS_set {ss : List (Option Addr × Nat × Nat)} {k n : Nat} (h : ss.length = n) (hk : k < n) : (partS ss k n).set k (sv (ss[k]'(by omega))) = partS ss (k + 1) n := by
  have e : n - k = (n - (k + 1)) + 1 := by omega
  have hl : (List.map sv (List.take k ss)).length = k := by simp; omega
  rw [partS, nils, e, List.replicate_succ, List.set_append_right _ _ (by omega), hl, Nat.sub_self, List.set_cons_zero, partS, List.take_succ_eq_append_getElem (by omega), List.map_append]
  simp [nils]

set_option maxHeartbeats 1000000 in
theorem mdeps_any (A : Option Addr) (n c : Nat) (L : List It) (w : World) (hL : Ip w A n c L) (hn : n ≤ 1000) :
    Calls Try.prog 87 #[.slice A n c] w fun e w' => (∃ A', e = .returned (.slice A' n n) ∧ Dp w' A' n n (depsL L)) ∧ Below w.heap.size w w' := by
  have hmk := mkRows n hn
  have HL := Lib.hid hL
  have HN := Lib.hid hL.len
  have l1 := hL.le
  have l2 := hL.cap
  obtain ⟨ss, hS⟩ := hL
  have HS := Lib.hid hS
  have H2 := Lib.hid hS.slen
  clear hS
  go_enter Try.func87, Try.ntmps87
  go_wp2
  have HB0 : Hid (Bk (w.alloc (.cells (nils n).toArray 23)) w.heap.size 23 (partS ss 0 n)) := by
    show Bk _ _ _ _
    exact Bk.new _ _ _
  have HW : Hid (Below w.heap.size w (w.alloc (.cells (nils n).toArray 23))) := below_al _ _
  clear hmk
  generalize w.alloc (.cells (nils n).toArray 23) = w0 at *
  go_loopw [4, 5, 11] (fun _ _ v wr => ∃ k : Nat, k ≤ n ∧ v = .int .i64 k ∧ Hid (Bk wr w.heap.size 23 (partS ss k n)) ∧ Hid (Below w.heap.size w wr)) (fun _ _ v _ => n - (Go.RowKit.intOf v).toNat)
  case atStart => exact ⟨0, by omega, rfl, HB0, HW⟩
  case round =>
    obtain ⟨k, hk, rfl, HB, HWr⟩ := hrel
    by_cases hlt : k < n
    · have hks : k < ss.length := by have := H2.out; omega
      have hst : Hid (partS ss (k + 1) n = (partS ss k n).set k (sv ss[k])) := (partS_set H2.out hlt).symm
      obtain ⟨b, off, rfl, hb, c0, c1, c2, c3⟩ := (HS.out.below HWr.out).at_ hlt
      have hcw := HB.out.cell k (by rw [partS_length H2.out hk]; exact hlt)
      have hfr := HB.out.free k
      have hpl := HB.out.lt
      generalize hq : ss[k] = q at *
      obtain ⟨qa, qn, qc⟩ := q
      simp only [sv] at c3
      have HQ := Lib.hid hq
      clear hq
      generalize hx : nthI L k = x at *
      have HX := Lib.hid hx
      clear hx
      have HB1 : Hid (Bk ((wr.setCell ⟨w.heap.size, k, none⟩ (.slice qa qn qc)).alloc (.cells #[.int .i64 x.b, .int .i64 x.o, .string x.s, .slice qa qn qc] 75)) w.heap.size 23 (partS ss (k + 1) n)) := by
        show Bk _ _ _ _
        rw [hst.out]
        exact (HB.out.set k _).keep (below_al _ _)
      have HW1 : Hid (Below w.heap.size w ((wr.setCell ⟨w.heap.size, k, none⟩ (.slice qa qn qc)).alloc (.cells #[.int .i64 x.b, .int .i64 x.o, .string x.s, .slice qa qn qc] 75))) := below_then (HWr.out.setCell (Nat.le_refl _) _) (below_al _ _)
      go_wp2
      go_roundw
      case rel => exact ⟨k + 1, by omega, by go_num, HB1, HW1⟩
      case measure => simp [Go.RowKit.intOf]; omega
    · obtain rfl : k = n := by omega
      go_wp2
      go_ret
      have hb := HB.out
      rw [partS_all H2.out] at hb
      refine ⟨⟨_, rfl, Dp.mk_ ss (by rw [depsL_length]; exact HN.out) H2.out (hb.rd k k (Nat.le_refl _) (by omega)) fun j hj => ?_⟩, HWr.out⟩
      have h5 := (HS.out.below HWr.out).deps j hj
      rw [nth_depsL (by have := HN.out; have := H2.out; omega)]
      exact h5

/-! ### Right -/
theorem mright_long {L : List It} (h : 64 < L.length) : mrightB L = false := by
  rw [Bool.eq_false_iff]; intro hr; have := (mright_iff.1 hr).1; omega
theorem mright_bad {L : List It} {k : Nat} (hk : k < L.length) (h : prightB (nthI L k) = false) : mrightB L = false := by
  rw [Bool.eq_false_iff]; intro hr
  have := (mright_iff.1 hr).2.1 _ (List.getElem_mem hk)
  rw [nthI_get hk] at h; rw [h] at this; cases this
theorem mright_end {L : List It} (hl : L.length ≤ 64) (h : ∀ k, k < L.length → prightB (nthI L k) = true) : mrightB L = rightD (depsL L) := by
  rw [Bool.eq_iff_iff, mright_iff]
  refine ⟨fun h => h.2.2, fun h2 => ⟨hl, fun x hx => ?_, h2⟩⟩
  obtain ⟨k, hk, rfl⟩ := List.mem_iff_getElem.1 hx
  rw [← nthI_get hk]; exact h k hk

def JumpR (B : Nat) (w : World) (r : Bool) (a : Act) (w' : World) : Prop := Below B w w' ∧ r = false ∧ ∃ (u0 u1 u2 u3 u4 u5 u6 u7 u8 u9 u10 u11 u12 u13 u14 u15 u16 u17 u18 u19 u20 u21 : Value), a = { tmps := #[u0, u1, u2, u3, u4, u5, u6, u7, u8, u9, u10, u11, u12, u13, u14, u15, u16, u17, u18, u19, u20, u21], defers := [] }
set_option maxRecDepth 100000 in
set_option maxHeartbeats 2000000 in
theorem mRight_any (A : Option Addr) (n c : Nat) (L : List It) (w : World) (hL : Ip w A n c L) :
    Calls Try.prog 78 #[.slice A n c] w fun e w' => e = .returned (.bool (mrightB L)) ∧ Below w.heap.size w w' := by
  have HL := Lib.hid hL
  have HN := Lib.hid hL.len
  have l1 := hL.le
  have l2 := hL.cap
  clear hL
  have HRR := Lib.hid (rfl : mrightB L = mrightB L)
  go_enter Try.func78, Try.ntmps78
  go_wp2
  refine wp_scope_jumps 0 (JumpR w.heap.size w (mrightB L)) (fun _ _ => 0) rfl ?first ?pass
  case pass =>
    rintro a w' ⟨hB, hr, u0, u1, u2, u3, u4, u5, u6, u7, u8, u9, u10, u11, u12, u13, u14, u15, u16, u17, u18, u19, u20, u21, rfl⟩
    have HB := Lib.hid hB
    have HR := Lib.hid hr
    clear hr hB HRR
    go_wp2
    simp only [Exit.jump]
    go_ret
    exact ⟨ret_bool HR.out.symm, HB.out⟩
  case first =>
    by_cases hl : n ≤ 64
    · go_wp2
      go_loopw [4, 10] (fun _ v wr => ∃ k : Nat, k ≤ n ∧ v = .int .i64 k ∧ Hid (∀ j, j < k → prightB (nthI L j) = true) ∧ Hid (Below w.heap.size w wr)) (fun _ v _ => n - (Go.RowKit.intOf v).toNat)
      case atStart => exact ⟨0, by omega, rfl, Lib.hid (fun j hj => by omega), Below.refl _ _⟩
      case round =>
        obtain ⟨k, hk, rfl, hz, HB⟩ := hrel
        by_cases hlt : k < n
        · obtain ⟨b, off, A', n', c', rfl, hb, c0, c1, c2, c3, hd, hr⟩ := (HL.out.below HB.out).at_ hlt
          clear hd hr
          have HP : Hid (∀ wx, Calls Try.prog 59 #[.agg #[.int .i64 (nthI L k).b, .int .i64 (nthI L k).o, .string (nthI L k).s]] wx fun e w' => e = .returned (.bool (prightB (nthI L k))) ∧ Below wx.heap.size wx w') := fun wx => pRight_any (nthI L k) wx
          have HX := Lib.hid (rfl : prightB (nthI L k) = prightB (nthI L k))
          have HW1 := Lib.hid (below_then HB.out (below_al wr (.cells #[.int .i64 (nthI L k).b, .int .i64 (nthI L k).o, .string (nthI L k).s, .slice A' n' c'] 75)))
          cases hq : prightB (nthI L k) with
          | true =>
            have HQ := Lib.hid hq
            rw [hq] at HP
            clear hq HX
            generalize hx : nthI L k = x at *
            have HX := Lib.hid hx
            clear hx
            go_wp2_with (go_at_call 59; (with_reducible refine (HP.out _).mono ?_); rintro e w2 ⟨rfl, hB⟩; have HB2 := Lib.hid (below_then HW1.out hB); clear hB)
            go_roundw
            case rel => exact ⟨k + 1, by omega, by go_num, Lib.hid (fun j hj => by
              by_cases hjk : j = k
              · subst hjk; rw [HX.out]; exact HQ.out
              · exact hz.out j (by omega)), HB2⟩
            case measure => simp [Go.RowKit.intOf]; omega
          | false =>
            have HF := Lib.hid (mright_bad (L := L) (k := k) (by have := HN.out; omega) hq)
            rw [hq] at HP
            clear hq HX
            generalize nthI L k = x at *
            go_wp2_with (go_at_call 59; (with_reducible refine (HP.out _).mono ?_); rintro e w2 ⟨rfl, hB⟩; have HB2 := Lib.hid (below_then HW1.out hB); clear hB)
            go_step3
            exact ⟨rfl, HB2.out, HF.out, _, _, _, _, _, _, _, _, _, _, _, _, _, _, _, _, _, _, _, _, _, _, rfl⟩
        · obtain rfl : k = n := by omega
          have HE := Lib.hid (mright_end (L := L) (by have := HN.out; omega) (fun j hj => hz.out j (by have := HN.out; omega)))
          go_wp2_with (first
            | (go_at_call 87; (with_reducible refine (mdeps_any A _ c L _ (HL.out.below HB.out) (by omega)).mono ?_); rintro e w2 ⟨⟨A2, rfl, hd⟩, hB⟩; have HD := Lib.hid hd; have HB2 := Lib.hid (below_then HB.out hB); clear hd hB)
            | (go_at_call 86; (with_reducible refine (Right_any A2 _ _ (depsL L) _ HD.out).mono ?_); rw [← HE.out]; rintro e w3 ⟨rfl, hB⟩; have HB3 := Lib.hid (below_then HB2.out hB); clear hB))
          simp only [Exit.jump]
          go_ret
          exact ⟨rfl, HB3.out⟩
    · have HF := Lib.hid (mright_long (L := L) (by have := HN.out; omega))
      go_wp2
      go_step3
      exact ⟨rfl, Below.refl _ _, HF.out, _, _, _, _, _, _, _, _, _, _, _, _, _, _, _, _, _, _, _, _, _, _, rfl⟩

set_option maxRecDepth 100000 in
set_option maxHeartbeats 8000000 in
theorem Blocks_any (A : Option Addr) (n c : Nat) (L : List It) (A1 : Option Addr) (n1 c1 : Nat) (S : List Int) (A2 : Option Addr) (n2 c2 : Nat) (D : List (List Int)) (w : World)
    (hL : Ip w A n c L) (hr1 : Rd w A1 n1 c1 (iv .i64 S)) (hl1 : S.length = n1) (hD : Bp w A2 n2 c2 D) (hn : n2 ≤ 1000) (hs : ∀ i, i < n2 → (nth D i).length ≤ 140737488351232) :
    Calls Try.prog 58 #[.slice A n c, .slice A1 n1 c1, .slice A2 n2 c2] w fun e w' => (∃ A' c', e = .returned (.slice A' n2 c') ∧ Wb w.heap.size w' A' n2 c' (blocksL L S D)) ∧ Below w.heap.size w w' := by
  have HL := Lib.hid hL
  have HLN := Lib.hid hL.len
  have HS := Lib.hid hr1
  have HSL := Lib.hid hl1
  have HD := Lib.hid hD
  have HDN := Lib.hid hD.len
  have HSZ := Lib.hid hs
  have l1 := hL.le
  have l2 := hL.cap
  have m1 := hr1.le
  have m2 := hr1.cap
  clear hL hr1 hl1 hD hs
  cases hr : mrightB L with
  | false =>
    have HR := Lib.hid hr
    have HE : Hid (blocksL L S D = D) := by show _ = _; simp [blocksL, hr]
    clear hr
    go_enter Try.func58, Try.ntmps58
    go_wp2_with (first
      | (go_at_call 77; (with_reducible refine (copied_any A2 n2 c2 D _ HD.out hn HSZ.out).mono ?_); rintro e w1 ⟨⟨A', c', rfl, hw⟩, hB⟩; have HW := Lib.hid hw; have HB := Lib.hid hB; have HL1 := Lib.hid (HL.out.below hB); clear hw hB)
      | (go_at_call 78; (with_reducible refine (mRight_any _ _ _ L _ HL1.out).mono ?_); rw [HR.out]; rintro e w2 ⟨rfl, hB⟩; have HW2 := Lib.hid (HW.out.below hB); have HB2 := Lib.hid (below_then HB.out hB); clear hB))
    go_ret
    exact ⟨⟨_, _, rfl, by rw [HE.out]; exact HW2.out⟩, HB2.out⟩
  | true =>
    have HR := Lib.hid hr
    have HE : Hid (blocksL L S D = blocksK L S D n) := by show _ = _; rw [blocksL, if_pos hr, HLN.out]
    have HP : Hid (∀ k, k < n → prightB (nthI L k) = true) := fun k hk => by
      rw [nthI_get (by rw [HLN.out]; exact hk)]
      exact (mright_iff.1 hr).2.1 _ (List.getElem_mem _)
    clear hr
    go_enter Try.func58, Try.ntmps58
    go_wp2_with (first
      | (go_at_call 77; (with_reducible refine (copied_any A2 n2 c2 D _ HD.out hn HSZ.out).mono ?_); rintro e w1 ⟨⟨A', c', rfl, hw⟩, hB⟩; have HW := Lib.hid hw; have HB := Lib.hid hB; have HL1 := Lib.hid (HL.out.below hB); clear hw hB)
      | (go_at_call 78; (with_reducible refine (mRight_any _ _ _ L _ HL1.out).mono ?_); rw [HR.out]; rintro e w2 ⟨rfl, hB⟩; have HW2 := Lib.hid (HW.out.below hB); have HB2 := Lib.hid (below_then HB.out hB); clear hB))
    clear HL1 HW HB HR
    go_loopw [21] (fun v wr => ∃ k : Nat, k ≤ n ∧ v = .int .i64 k ∧ Hid (Wb w.heap.size wr A' n2 c' (blocksK L S D k)) ∧ Hid (Below w.heap.size w wr)) (fun v _ => n - (Go.RowKit.intOf v).toNat)
    case atStart => exact ⟨0, by omega, rfl, HW2, HB2⟩
    case round =>
      clear HW2 HB2
      obtain ⟨k, hk, rfl, HW, HB⟩ := hrel
      by_cases hlt : k < n
      · obtain ⟨b, off, A3, n3, c3, rfl, hb, q0, q1, q2, q3, hd, hr⟩ := (HL.out.below HB.out).at_ hlt
        have hp := pright_iff.1 (HP.out k hlt)
        have HPK := Lib.hid (HP.out k hlt)
        have HEK := Lib.hid (blocksK_succ L S D k)
        have HKL : Hid ((blocksK L S D k).length = n2) := by show _ = _; rw [blocksK_length, HDN.out]
        obtain ⟨bn, hbn⟩ : ∃ bn : Nat, (nthI L k).b = (bn : Int) := ⟨(nthI L k).b.toNat, by omega⟩
        generalize blocksK L S D k = Dk at *
        generalize hx : nthI L k = x at *
        have HX := Lib.hid hx
        have hw0 := HW.out.le
        have hw1 := HW.out.cap
        clear hd hr hp hx
        have HWA : Hid (∀ o : Obj, Wb w.heap.size (wr.alloc o) A' n2 c' Dk) := fun o => HW.out.below (below_al _ _)
        obtain ⟨xb, xo, xs, xd⟩ := x
        simp only at hbn q0 q1 q2
        subst hbn
        have HBA : Hid (∀ o : Obj, Below w.heap.size w (wr.alloc o)) := fun o => HB.out.alloc HB.out.size o
        by_cases hbl : bn < n2
        · have HCN : Hid (∀ wx, Rd wx A1 n1 c1 (iv .i64 S) → Calls Try.prog 57 #[.slice A1 n1 c1, .int .i64 (k : Int)] wx fun e w' => e = .returned (.bool (decide ((k : Int) ∈ S))) ∧ w' = wx) := fun wx hx => Contains_any _ _ _ S _ wx hx HSL.out
          obtain ⟨g, A4, n4, c4, rfl, hgb, hgl, hgc, hgf, hgn, hgr, hgx⟩ := HW.out.at_ hbl
          have HGN := Lib.hid hgn
          have HGR := Lib.hid hgr
          have HGX := Lib.hid hgx
          have hg4 := hgr.cap
          have hg5 := hgr.le
          clear hgn hgr hgx
          have HS1 : Hid (∀ o : Obj, Rd (wr.alloc o) A1 n1 c1 (iv .i64 S)) := fun o => (HS.out.below HB.out).alloc o
          by_cases hin : (k : Int) ∈ S
          · have HIN := Lib.hid hin
            rw [decide_eq_true hin] at HCN
            clear hin
            cases hap : applyB (nth Dk bn) ⟨bn, xo, xs, xd⟩ with
            | none =>
              have HST : Hid (stepB L S Dk k = Dk) := by
                show _ = _
                unfold stepB
                rw [HX.out]
                simp only [Int.toNat_natCast, hap]
                simp
              have HAP : Hid (¬ ((nth Dk bn).length = 32 ∧ prightB ⟨bn, xo, xs, xd⟩ = true)) := by
                show ¬ _
                intro h
                unfold applyB at hap
                rw [if_pos h] at hap
                cases hap
              clear hap
              go_upto_region 9 with (go_at_call 57; (with_reducible refine (HCN.out _ (HS1.out _)).mono ?_); rintro e w3 ⟨rfl, rfl⟩)
              have k1 := new_cell wr #[.int .i64 bn, .int .i64 xo, .string xs, .slice A3 n3 c3] 75 0 _ rfl
              have k2 := new_cell wr #[.int .i64 bn, .int .i64 xo, .string xs, .slice A3 n3 c3] 75 1 _ rfl
              have k3 := new_cell wr #[.int .i64 bn, .int .i64 xo, .string xs, .slice A3 n3 c3] 75 2 _ rfl
              have k0 := keep_cell hgc (below_al wr (.cells #[.int .i64 bn, .int .i64 xo, .string xs, .slice A3 n3 c3] 75))
              have HA := HWA.out (.cells #[.int .i64 bn, .int .i64 xo, .string xs, .slice A3 n3 c3] 75)
              have HBB := HBA.out (.cells #[.int .i64 bn, .int .i64 xo, .string xs, .slice A3 n3 c3] 75)
              have HGR1 := Lib.hid (HGR.out.alloc (.cells #[.int .i64 bn, .int .i64 xo, .string xs, .slice A3 n3 c3] 75))
              generalize wr.alloc (.cells #[.int .i64 bn, .int .i64 xo, .string xs, .slice A3 n3 c3] 75) = wb at *
              have HA1 : Hid (Wb w.heap.size wb.drew (some ⟨g, 0, none⟩) n2 c' Dk) := HA.below (Sel.below_drewN wb 1)
              have HBB1 : Hid (Below w.heap.size w wb.drew) := HBB.drew
              have HS9 : At (fun w' : World => w'.cell? ⟨g, bn, none⟩ = some (.slice A4 n4 c4) ∧ w'.cell? ⟨wr.heap.size, 0, none⟩ = some (.int .i64 bn) ∧ w'.cell? ⟨wr.heap.size, 1, none⟩ = some (.int .i64 xo) ∧ w'.cell? ⟨wr.heap.size, 2, none⟩ = some (.string xs)) wb.drew := ⟨k0, k1, k2, k3⟩
              clear HA HBB k0 k1 k2 k3 hgc hgf q0 q1 q2 q3
              have a1 : (0 : Int) ≤ (bn : Int) := by omega
              have a2 : (bn : Int) < (n2 : Int) := by omega
              refine wp_region_lexD HS9 [0, 1, 2, 3, 4, 5, 7, 8, 9, 10, 11] (by kernel_rfl) (by kernel_rfl) (fun _ _ d _ _ h => by cases d <;> exact h) ?_
              repeat (refine lexD_take (by kernel_rfl) (by kernel_rfl) HS9 (fun w9 h9 => by obtain ⟨s0, s1, s2, s3⟩ := h9; go_simp; first | done | rfl) (fun K hK => ?_); go_simp; refine hK _ ?_; clear hK K)
              refine lexD_do (by kernel_rfl) (by kernel_rfl) (fun K hK => ?_)
              go_simp
              refine (Apply_no ⟨bn, xo, xs, xd⟩ A4 n4 c4 _ (by omega) (by rw [← HGN.out]; exact HAP.out)).mono ?_
              rintro e w5 ⟨rfl, hB⟩
              have HS5 : At (fun w' : World => w'.cell? ⟨g, bn, none⟩ = some (.slice A4 n4 c4) ∧ w'.cell? ⟨wr.heap.size, 0, none⟩ = some (.int .i64 bn) ∧ w'.cell? ⟨wr.heap.size, 1, none⟩ = some (.int .i64 xo) ∧ w'.cell? ⟨wr.heap.size, 2, none⟩ = some (.string xs)) w5 := by
                obtain ⟨s0, s1, s2, s3⟩ := HS9
                exact ⟨keep_cell s0 hB, keep_cell s1 hB, keep_cell s2 hB, keep_cell s3 hB⟩
              have HW5 := Lib.hid (HA1.out.below hB)
              have HB5 := Lib.hid (below_then HBB1.out hB)
              refine hK _ _ (fun _ => HS5) ?_
              clear hK K HS9 hB
              repeat (refine lexD_take (by kernel_rfl) (by kernel_rfl) HS5 (fun w9 h9 => by obtain ⟨s0, s1, s2, s3⟩ := h9; go_simp; first | done | rfl) (fun K hK => ?_); go_simp; refine hK _ ?_; clear hK K)
              refine lexD_nil ?_
              go_wp2
              go_roundw
              case rel => exact ⟨k + 1, by omega, by go_num, by rw [HEK.out, HST.out]; exact HW5, HB5⟩
              case measure => simp [Go.RowKit.intOf] <;> omega
            | some s =>
              have HST : Hid (stepB L S Dk k = Dk.set bn s) := by
                show _ = _
                unfold stepB
                rw [HX.out]
                simp only [Int.toNat_natCast, hap]
                rw [if_pos ⟨by rw [HKL.out]; omega, HIN.out⟩]
              have HLS := Lib.hid (applyB_length hap)
              have HBS := Lib.hid (applyB_byte hap HGX.out)
              clear hap
              have hn4 : n4 = 32 := by rw [← HGN.out]; exact HLS.out.2.1
              subst hn4
              go_upto_region 9 with (go_at_call 57; (with_reducible refine (HCN.out _ (HS1.out _)).mono ?_); rintro e w3 ⟨rfl, rfl⟩)
              have k1 := new_cell wr #[.int .i64 bn, .int .i64 xo, .string xs, .slice A3 n3 c3] 75 0 _ rfl
              have k2 := new_cell wr #[.int .i64 bn, .int .i64 xo, .string xs, .slice A3 n3 c3] 75 1 _ rfl
              have k3 := new_cell wr #[.int .i64 bn, .int .i64 xo, .string xs, .slice A3 n3 c3] 75 2 _ rfl
              have k0 := keep_cell hgc (below_al wr (.cells #[.int .i64 bn, .int .i64 xo, .string xs, .slice A3 n3 c3] 75))
              have HA := HWA.out (.cells #[.int .i64 bn, .int .i64 xo, .string xs, .slice A3 n3 c3] 75)
              have HBB := HBA.out (.cells #[.int .i64 bn, .int .i64 xo, .string xs, .slice A3 n3 c3] 75)
              have HGR1 := Lib.hid (HGR.out.alloc (.cells #[.int .i64 bn, .int .i64 xo, .string xs, .slice A3 n3 c3] 75))
              generalize wr.alloc (.cells #[.int .i64 bn, .int .i64 xo, .string xs, .slice A3 n3 c3] 75) = wb at *
              have HA1 : Hid (Wb w.heap.size wb.drew (some ⟨g, 0, none⟩) n2 c' Dk) := HA.below (Sel.below_drewN wb 1)
              have HBB1 : Hid (Below w.heap.size w wb.drew) := HBB.drew
              have HS9 : At (fun w' : World => w'.cell? ⟨g, bn, none⟩ = some (.slice A4 32 c4) ∧ w'.cell? ⟨wr.heap.size, 0, none⟩ = some (.int .i64 bn) ∧ w'.cell? ⟨wr.heap.size, 1, none⟩ = some (.int .i64 xo) ∧ w'.cell? ⟨wr.heap.size, 2, none⟩ = some (.string xs)) wb.drew := ⟨k0, k1, k2, k3⟩
              clear HA HBB k0 k1 k2 k3 hgc hgf q0 q1 q2 q3
              have a1 : (0 : Int) ≤ (bn : Int) := by omega
              have a2 : (bn : Int) < (n2 : Int) := by omega
              refine wp_region_lexD HS9 [0, 1, 2, 3, 4, 5, 7, 8, 9, 10, 11] (by kernel_rfl) (by kernel_rfl) (fun _ _ d _ _ h => by cases d <;> exact h) ?_
              repeat (refine lexD_take (by kernel_rfl) (by kernel_rfl) HS9 (fun w9 h9 => by obtain ⟨s0, s1, s2, s3⟩ := h9; go_simp; first | done | rfl) (fun K hK => ?_); go_simp; refine hK _ ?_; clear hK K)
              refine lexD_do (by kernel_rfl) (by kernel_rfl) (fun K hK => ?_)
              go_simp
              refine (Apply_ok ⟨bn, xo, xs, xd⟩ A4 c4 (nth Dk bn) _ (rd_drewN 1 HGR1.out) HGN.out HLS.out.2.2.1).mono ?_
              rintro e w5 ⟨⟨A5, rfl, hr5⟩, hB⟩
              have HS5 : At (fun w' : World => w'.cell? ⟨g, bn, none⟩ = some (.slice A4 32 c4) ∧ w'.cell? ⟨wr.heap.size, 0, none⟩ = some (.int .i64 bn) ∧ w'.cell? ⟨wr.heap.size, 1, none⟩ = some (.int .i64 xo) ∧ w'.cell? ⟨wr.heap.size, 2, none⟩ = some (.string xs)) w5 := by
                obtain ⟨s0, s1, s2, s3⟩ := HS9
                exact ⟨keep_cell s0 hB, keep_cell s1 hB, keep_cell s2 hB, keep_cell s3 hB⟩
              have HW5 := Lib.hid (HA1.out.below hB)
              have HB5 := Lib.hid (below_then HBB1.out hB)
              have HR5 := Lib.hid hr5
              refine hK _ _ (fun _ => HS5) ?_
              clear hK K HS9 hB hr5
              repeat (refine lexD_take (by kernel_rfl) (by kernel_rfl) HS5 (fun w9 h9 => by obtain ⟨s0, s1, s2, s3⟩ := h9; go_simp; first | done | rfl) (fun K hK => ?_); go_simp; refine hK _ ?_; clear hK K)
              refine lexD_nil ?_
              obtain ⟨g', A6, n6, c6, e, _, _, hc6, hf6, _⟩ := HW5.out.at_ hbl
              injection e with e; injection e with e; subst e
              have HW6 : Hid (Wb w.heap.size (w5.setCell ⟨g, bn, none⟩ (.slice A5 32 32)) (some ⟨g, 0, none⟩) n2 c' (Dk.set bn s)) := by
                rw [HLS.out.2.2.2]
                refine HW5.out.set hbl HR5.out ?_ ?_ rfl
                · rw [← HLS.out.2.2.2]; exact HLS.out.1
                · rw [← HLS.out.2.2.2]; exact HBS.out
              have HB6 : Hid (Below w.heap.size w (w5.setCell ⟨g, bn, none⟩ (.slice A5 32 32))) := HW5.out.below_set hbl rfl HB5.out _
              clear HS5
              go_wp2
              go_roundw
              case rel => exact ⟨k + 1, by omega, by go_num, by rw [HEK.out, HST.out]; exact HW6, HB6⟩
              case measure => simp [Go.RowKit.intOf] <;> omega
          · have HST : Hid (stepB L S Dk k = Dk) := by
              show _ = _
              unfold stepB
              rw [if_neg (fun h => hin h.2)]
            rw [decide_eq_false hin] at HCN
            clear hin
            go_wp2_with (go_at_call 57; (with_reducible refine (HCN.out _ (HS1.out _)).mono ?_); rintro e w3 ⟨rfl, rfl⟩)
            go_roundw
            case rel => exact ⟨k + 1, by omega, by go_num, by rw [HEK.out, HST.out]; exact HWA.out _, HBA.out _⟩
            case measure => simp [Go.RowKit.intOf] <;> omega
        · have HST : Hid (stepB L S Dk k = Dk) := by
            show _ = _
            unfold stepB
            rw [HX.out, if_neg (by rw [HKL.out]; simp only; omega)]
          go_wp2
          go_roundw
          case rel => exact ⟨k + 1, by omega, by go_num, by rw [HEK.out, HST.out]; exact HWA.out _, HBA.out _⟩
          case measure => simp [Go.RowKit.intOf] <;> omega
      · obtain rfl : k = n := by omega
        go_wp2
        go_ret
        exact ⟨⟨_, _, rfl, by rw [HE.out]; exact HW.out⟩, HB.out⟩
end Go.Proofs.Ytcgfoaihfncppaa
/- Walks of big: copied, Right, Get. -/
set_option linter.unusedSimpArgs false
set_option linter.unusedVariables false
namespace Go.Proofs.Ytcgfoaihfncppaa
open Go.RowKit Go.Sel Go.Sel.Gra Go.Sel.Bg Go.Sel.Mer Go.Shelf

theorem ip_nil (w : World) : Ip w none 0 0 [] := ⟨[], rfl, rfl, Rd.nil (c := 0) (by omega), fun j hj => by simp at hj⟩
theorem copied_big (A : Option Addr) (n c : Nat) (D : List (List Int)) (w : World) (hD : Bp w A n c D) (hn : n ≤ 96) (hW : whole D) :
    Calls Try.prog 32 #[.slice A n c] w fun e w' => (∃ A' c', e = .returned (.slice A' n c') ∧ Wb w.heap.size w' A' n c' D) ∧ Below w.heap.size w w' := by
  have HB := Lib.hid (Blocks_any none 0 0 [] none 0 0 [] A n c D w (ip_nil w) (Rd.nil (c := 0) (by omega)) rfl hD (by omega) (fun i hi => by
    have hbl : i < D.length := by rw [hD.len]; exact hi
    have : nth D i = D[i] := by simp [nth, hbl]
    rw [this, hW.2 _ (List.getElem_mem hbl)]; omega))
  clear hD hW
  have e : blocksL [] [] D = D := by simp [blocksL, blocksK]
  rw [e] at HB
  clear e
  go_enter Try.func32, Try.ntmps32
  go_wp2_with (go_at_call 58; (with_reducible refine HB.out.mono ?_); rintro e w2 ⟨⟨A', c', rfl, hw⟩, hB⟩; have HW := Lib.hid hw; have HB2 := Lib.hid hB; clear hw hB)
  go_ret
  exact ⟨⟨_, _, rfl, HW.out⟩, HB2.out⟩

/-- A file in a box of its own. -/
theorem big8 {w : World} {b : Nat} {a0 a1 a2 a3 a4 a5 a6 a7 : Int} {T : TypeId} (h : w.heap[b]? = some (.cells #[.int .i64 a0, .int .i64 a1, .int .i64 a2, .int .i64 a3, .int .i64 a4, .int .i64 a5, .int .i64 a6, .int .i64 a7] T (0, 0))) :
    w.cell? ⟨b, 0, none⟩ = some (.int .i64 a0) ∧ w.cell? ⟨b, 1, none⟩ = some (.int .i64 a1) ∧ w.cell? ⟨b, 2, none⟩ = some (.int .i64 a2) ∧ w.cell? ⟨b, 3, none⟩ = some (.int .i64 a3) ∧ w.cell? ⟨b, 4, none⟩ = some (.int .i64 a4) ∧ w.cell? ⟨b, 5, none⟩ = some (.int .i64 a5) ∧ w.cell? ⟨b, 6, none⟩ = some (.int .i64 a6) ∧ w.cell? ⟨b, 7, none⟩ = some (.int .i64 a7) := by
  have d := blk_cell h
  exact ⟨d 0, d 1, d 2, d 3, d 4, d 5, d 6, d 7⟩
def boxB (w : World) (b : Nat) (t : List Int) : Prop := w.heap[b]? = some (.cells (iv .i64 t).toArray 36 (0, 0))

set_option maxRecDepth 100000 in
set_option maxHeartbeats 2000000 in
theorem Right1_ok (A : Option Addr) (n c : Nat) (D : List (List Int)) (t : List Int) (ht : t.length = 8) (w : World) (b1 b2 : Nat) (h1 : w.cell? ⟨b1, 0, none⟩ = some (.slice A n c)) (h2 : boxB w b2 t) (hD : Bp w A n c D) (hR : Rt D t) :
    Calls Try.prog 38 #[.pointer (some ⟨b1, 0, none⟩), .pointer (some ⟨b2, 0, none⟩)] w fun e w' => e = .returned (.tuple #[]) ∧ Below w.heap.size w w' := by
  have HL := Lib.hid (look_ok A n c D t ht w hD hR)
  obtain ⟨a0, a1, a2, a3, a4, a5, a6, a7, rfl⟩ := len8 ht
  obtain ⟨d0, d1, d2, d3, d4, d5, d6, d7⟩ := big8 h2
  simp only [bigV, iv, List.map_cons, List.map_nil] at HL
  clear hD hR ht h2
  go_enter Try.func38, Try.ntmps38
  go_wp2_with (go_at_call 36; (with_reducible refine HL.out.mono ?_); rintro e w2 ⟨vb, mp, mt, vi, rfl, hV⟩; have HB := Lib.hid hV.hB; clear hV)
  go_end0
  exact ⟨rfl, HB.out⟩

set_option maxRecDepth 100000 in
set_option maxHeartbeats 2000000 in
theorem Right_ok (A : Option Addr) (n c : Nat) (D : List (List Int)) (t : List Int) (ht : t.length = 8) (w : World) (hD : Bp w A n c D) (hR : Rt D t) :
    Calls Try.prog 15 #[.slice A n c, bigV t] w fun e w' => e = .returned (.bool true) ∧ Below w.heap.size w w' := by
  have HX : Hid (∀ W, Below w.heap.size w W → W.cell? ⟨w.heap.size, 0, none⟩ = some (.slice A n c) → boxB W (w.heap.size + 1) t → Calls Try.prog 29 #[.func (.func 38) #[] #[.pointer (some ⟨w.heap.size, 0, none⟩), .pointer (some ⟨w.heap.size + 1, 0, none⟩)]] W fun e w' => e = .returned (.int .i64 0) ∧ Below W.heap.size W w') := by
    intro W hB h1 h2
    have hs : ∀ {o : Obj} {b : Nat}, b < W.heap.size → (W.alloc o).heap[b]? = W.heap[b]? := fun hb => (below_al W _).block _ hb
    have hl2 : w.heap.size + 1 < W.heap.size := (Array.getElem?_eq_some_iff.1 h2).1
    have h3 := Right1_ok A n c D t ht (W.alloc (.cells #[.int .i64 0] 24)) w.heap.size (w.heap.size + 1) (keep_cell h1 (below_al _ _)) ((hs hl2).trans h2) ((hD.below hB).below (below_al _ _)) hR
    refine (attempt_ok 38 #[.pointer (some ⟨w.heap.size, 0, none⟩), .pointer (some ⟨w.heap.size + 1, 0, none⟩)] (fun _ _ => by simp [go_sem]) W (fun _ => False) (fun _ => True) (fun _ h => h.elim) (h3.mono ?_)).mono ?_
    · rintro e w' ⟨rfl, hB⟩
      exact ⟨rfl, fr_of_below hB _, trivial⟩
    · rintro e w' ⟨rfl, hF, _⟩
      exact ⟨rfl, hF.below (Nat.le_refl _) (fun _ h => h.elim)⟩
  have hmf : ∀ (fn : Fn) (first cap : Array Value) (w : World), (Instr.makeFunc fn first cap).run Try.prog w = .ok (.func fn first cap) w := fun _ _ _ _ => rfl
  have HW : Hid (∀ o p : Obj, Below w.heap.size w ((w.alloc o).alloc p)) := Lib.hid fun o p => (below_al w _).alloc (by simp) _
  have h1 : ∀ p : Obj, ((w.alloc (.cells #[.slice A n c] 33)).alloc p).cell? ⟨w.heap.size, 0, none⟩ = some (.slice A n c) := fun p => keep_cell (by rw [blk_cell (blk11 w _)]; rfl) (below_al _ _)
  have h2 : ∀ o : Obj, boxB ((w.alloc o).alloc (.cells (iv .i64 t).toArray 36)) (w.heap.size + 1) t := fun o => by have := blk11 (w.alloc o) (.cells (iv .i64 t).toArray 36); simpa [boxB] using this
  have H1 := Lib.hid h1
  have H2 := Lib.hid h2
  clear h1 h2 hD hR
  obtain ⟨a0, a1, a2, a3, a4, a5, a6, a7, rfl⟩ := len8 ht
  simp only [bigV, iv, List.map_cons, List.map_nil] at H2 ⊢
  clear ht
  go_enter Try.func15, Try.ntmps15
  go_wp2_with (go_at_call 29; refine (HX.out _ (HW.out _ _) (H1.out _) (H2.out _)).mono ?_; rintro e w2 ⟨rfl, hB⟩; have HB := Lib.hid (below_then (HW.out _ _) hB); clear hB)
  go_ret
  exact ⟨rfl, HB.out⟩
end Go.Proofs.Ytcgfoaihfncppaa
/- Walks of big: Get. -/
set_option linter.unusedSimpArgs false
set_option linter.unusedVariables false
namespace Go.Proofs.Ytcgfoaihfncppaa
open Go.RowKit Go.Sel Go.Sel.Gra Go.Sel.Bg Go.Sel.Mer Go.Shelf

/-- An int in a box of its own. -/
def boxI (w : World) (b : Nat) (x : Int) : Prop := w.heap[b]? = some (.cells #[.int .i64 x] 3 (0, 0))
theorem boxI.cell {w : World} {b : Nat} {x : Int} (h : boxI w b x) : w.cell? ⟨b, 0, none⟩ = some (.int .i64 x) := by rw [blk_cell h]; rfl

set_option maxRecDepth 100000 in
set_option maxHeartbeats 2000000 in
theorem Get1_ok (A : Option Addr) (n c : Nat) (D : List (List Int)) (t : List Int) (k : Nat) (hk : k < 1062) (ht : t.length = 8) (w : World) (b1 b2 b3 b4 : Nat) (h1 : w.cell? ⟨b1, 0, none⟩ = some (.slice A n c)) (h2 : boxB w b2 t) (h3 : boxI w b3 (k : Int)) (x : Int) (h4 : boxI w b4 x) (hD : Bp w A n c D) (hR : Rt D t) :
    Calls Try.prog 35 #[.pointer (some ⟨b1, 0, none⟩), .pointer (some ⟨b2, 0, none⟩), .pointer (some ⟨b3, 0, none⟩), .pointer (some ⟨b4, 0, none⟩)] w fun e w' => e = .returned (.tuple #[]) ∧ Fr (· = b4) w w' ∧ boxI w' b4 (atK D t k) := by
  have HL := Lib.hid (look_ok A n c D t ht w hD hR)
  have H8 := Lib.hid ht
  have hl4 : b4 < w.heap.size := (Array.getElem?_eq_some_iff.1 h4).1
  have HB4 := Lib.hid h4
  have HB3 := Lib.hid h3
  have c3 := h3.cell
  obtain ⟨a0, a1, a2, a3, a4, a5, a6, a7, rfl⟩ := len8 ht
  obtain ⟨d0, d1, d2, d3, d4, d5, d6, d7⟩ := big8 h2
  simp only [bigV, iv, List.map_cons, List.map_nil] at HL
  have hk0 : (0 : Int) ≤ (k : Int) := by omega
  have hk1 : (k : Int) < 1062 := by omega
  clear hD hR ht h2 h3 h4
  go_enter Try.func35, Try.ntmps35
  go_wp2_with (first
    | (go_at_call 36; (with_reducible refine HL.out.mono ?_); rintro e w2 ⟨vb, mp, mt, vi, rfl, hV⟩; have HV := Lib.hid hV; have hB := hV.hB; have c3 := keep_cell c3 hB; have HB := Lib.hid hB; clear hV hB)
    | (go_at_call 37; (with_reducible refine (must_ok 2 _).mono ?_); rintro e w3 ⟨rfl, rfl⟩))
  obtain ⟨c0, c9, c10, c11, ct, cz⟩ := HV.out.cell rfl
  obtain ⟨l, hl, hp⟩ := HV.out.pl
  have hlk := (imap_at (w' := w3.drew) hl rfl).lookup (P := Try.prog) Try.underlying80 Try.underlying3 (zeroI w3.drew) (k : Int)
  rw [hp.at_ hk] at hlk
  clear ct cz c0 c10 c11 hl hp d0 d1 d2 d3 d4 d5 d6 d7
  go_still_tail 6, (by kernel_rfl)
  have h4 : w3.drew.heap[b4]? = some (.cells #[.int .i64 x] 3 (0, 0)) := blk_below HB4.out HB.out.drew hl4
  have e4 := blk_cell h4 0
  simp only [List.getElem?_toArray, List.getElem?_cons_zero] at e4
  have z4 := blk_free h4 0
  have HS := Lib.hid (blk_set h4 0 (.int .i64 (atK D [a0, a1, a2, a3, a4, a5, a6, a7] k)))
  have HF : Hid (Fr (· = b4) w (w3.drew.setCell ⟨b4, 0, none⟩ (.int .i64 (atK D [a0, a1, a2, a3, a4, a5, a6, a7] k)))) := Lib.hid (Fr.setCell (S := (· = b4)) (fr_of_below HB.out.drew _) (p := ⟨b4, 0, none⟩) (.inl rfl) _)
  clear h4 hlk c9
  go_wp2
  go_end0
  exact ⟨rfl, HF.out, HS.out⟩

set_option maxRecDepth 100000 in
set_option maxHeartbeats 2000000 in
theorem Get_ok (A : Option Addr) (n c : Nat) (D : List (List Int)) (t : List Int) (k : Nat) (hk : k < 1062) (ht : t.length = 8) (w : World) (hD : Bp w A n c D) (hR : Rt D t) :
    Calls Try.prog 14 #[.slice A n c, bigV t, .int .i64 (k : Int)] w fun e w' => e = .returned (.tuple #[.int .i64 (atK D t k), .int .i64 0]) ∧ Below w.heap.size w w' := by
  have HX : Hid (∀ W, Below w.heap.size w W → W.cell? ⟨w.heap.size, 0, none⟩ = some (.slice A n c) → boxB W (w.heap.size + 1) t → boxI W (w.heap.size + 2) (k : Int) → boxI W (w.heap.size + 3) 0 →
      Calls Try.prog 29 #[.func (.func 35) #[] #[.pointer (some ⟨w.heap.size, 0, none⟩), .pointer (some ⟨w.heap.size + 1, 0, none⟩), .pointer (some ⟨w.heap.size + 2, 0, none⟩), .pointer (some ⟨w.heap.size + 3, 0, none⟩)]] W fun e w' => e = .returned (.int .i64 0) ∧ Below w.heap.size w w' ∧ boxI w' (w.heap.size + 3) (atK D t k)) := by
    intro W hB h1 h2 h3 h4
    have hs : ∀ {o : Obj} {b : Nat}, b < W.heap.size → (W.alloc o).heap[b]? = W.heap[b]? := fun hb => (below_al W _).block _ hb
    have hl4 : w.heap.size + 3 < W.heap.size := (Array.getElem?_eq_some_iff.1 h4).1
    have h5 := Get1_ok A n c D t k hk ht (W.alloc (.cells #[.int .i64 0] 24)) w.heap.size (w.heap.size + 1) (w.heap.size + 2) (w.heap.size + 3) (keep_cell h1 (below_al _ _)) ((hs (by omega)).trans h2) ((hs (by omega)).trans h3) 0 ((hs (by omega)).trans h4) ((hD.below hB).below (below_al _ _)) hR
    refine (attempt_ok 35 #[.pointer (some ⟨w.heap.size, 0, none⟩), .pointer (some ⟨w.heap.size + 1, 0, none⟩), .pointer (some ⟨w.heap.size + 2, 0, none⟩), .pointer (some ⟨w.heap.size + 3, 0, none⟩)] (fun _ _ => by simp [go_sem]) W (· = w.heap.size + 3) (fun w' => boxI w' (w.heap.size + 3) (atK D t k)) (fun _ h => by omega) (h5.mono ?_)).mono ?_
    · rintro e w' ⟨rfl, hF, hb⟩
      exact ⟨rfl, hF, hb⟩
    · rintro e w' ⟨rfl, hF, hb⟩
      exact ⟨rfl, hB.trans (hF.below (B := w.heap.size) hB.size (fun _ h => by omega)), hb⟩
  have hmf : ∀ (fn : Fn) (first cap : Array Value) (w : World), (Instr.makeFunc fn first cap).run Try.prog w = .ok (.func fn first cap) w := fun _ _ _ _ => rfl
  have HW : Hid (∀ o p q r : Obj, Below w.heap.size w ((((w.alloc o).alloc p).alloc q).alloc r)) := Lib.hid fun o p q r => (((below_al w _).alloc (by simp) _).alloc (by simp <;> omega) _).alloc (by simp <;> omega) _
  have H1 : Hid (∀ p q r : Obj, ((((w.alloc (.cells #[.slice A n c] 33)).alloc p).alloc q).alloc r).cell? ⟨w.heap.size, 0, none⟩ = some (.slice A n c)) := Lib.hid fun p q r => keep_cell (keep_cell (keep_cell (by rw [blk_cell (blk11 w _)]; rfl) (below_al _ _)) (below_al _ _)) (below_al _ _)
  have H2 : Hid (∀ o q r : Obj, boxB ((((w.alloc o).alloc (.cells (iv .i64 t).toArray 36)).alloc q).alloc r) (w.heap.size + 1) t) := Lib.hid fun o q r => by
    have h := blk11 (w.alloc o) (.cells (iv .i64 t).toArray 36)
    have h' := blk_below (blk_below h (below_al _ q) (by simp)) (below_al _ r) (by simp <;> omega)
    simpa [boxB] using h'
  have H3 : Hid (∀ o p r : Obj, boxI ((((w.alloc o).alloc p).alloc (.cells #[.int .i64 (k : Int)] 3)).alloc r) (w.heap.size + 2) (k : Int)) := Lib.hid fun o p r => by
    have h := blk11 ((w.alloc o).alloc p) (.cells #[.int .i64 (k : Int)] 3)
    have h' := blk_below h (below_al _ r) (by simp)
    simpa [boxI] using h'
  have H4 : Hid (∀ o p q : Obj, boxI ((((w.alloc o).alloc p).alloc q).alloc (.cells #[.int .i64 0] 3)) (w.heap.size + 3) 0) := Lib.hid fun o p q => by
    have h := blk11 (((w.alloc o).alloc p).alloc q) (.cells #[.int .i64 0] 3)
    simpa [boxI] using h
  clear hD hR hk
  obtain ⟨a0, a1, a2, a3, a4, a5, a6, a7, rfl⟩ := len8 ht
  simp only [bigV, iv, List.map_cons, List.map_nil] at H2 ⊢
  clear ht
  go_enter Try.func14, Try.ntmps14
  go_wp2_with (go_at_call 29; refine (HX.out _ (HW.out _ _ _ _) (H1.out _ _ _) (H2.out _ _ _) (H3.out _ _ _) (H4.out _ _ _)).mono ?_; rintro e w2 ⟨rfl, hB, hb⟩; have HB := Lib.hid hB; have HBX := Lib.hid hb; have e4 := hb.cell; have z4 := blk_free hb 0; clear hB hb)
  rw [setCell_same HBX.out]
  refine bodyPost_ret (v := .tuple #[.int .i64 (atK D [a0, a1, a2, a3, a4, a5, a6, a7] k), .int .i64 0]) ?_ rfl ?_
  · simp [results, Try.results14, go_sem, e4]
  · exact ⟨rfl, HB.out⟩
end Go.Proofs.Ytcgfoaihfncppaa
