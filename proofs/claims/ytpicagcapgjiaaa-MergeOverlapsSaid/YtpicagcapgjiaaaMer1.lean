/- Walks of merge: patch.Right, deps, Right, some. -/
import Derived.Test.YtpicagcapgjiaaaProg
import Derived.Test.YtpicagcapgjiaaaGra4
import Derived.Test.YtpicagcapgjiaaaMerP
import Derived.ScopeJumps
import Derived.WalkMore
set_option linter.unusedSimpArgs false
set_option linter.unusedVariables false
namespace Go.Proofs.Ytpicagcapgjiaaa
open Go.RowKit Go.Sel Go.Sel.Gra Go.Sel.Mer Go.Shelf

def pv (x : It) : Value := .agg #[.int .i64 x.b, .int .i64 x.o, .string x.s]

set_option maxHeartbeats 1000000 in
theorem pRight_any (x : It) (w : World) :
    Calls Try.prog 35 #[.agg #[.int .i64 x.b, .int .i64 x.o, .string x.s]] w fun e w' => e = .returned (.bool (prightB x)) ∧ Below w.heap.size w w' := by
  have HE : Hid (∀ b : Bool, (prightB x = true ↔ b = true) → prightB x = b) := fun b h => Bool.eq_iff_iff.2 h
  have HI := Lib.hid (pright_iff (x := x))
  generalize prightB x = r at *
  obtain ⟨b, o, s, ds⟩ := x
  simp only at *
  have hsz : s.toList.isEmpty = decide (s.size = 0) := toList_empty s
  by_cases h1 : b < 0
  · have hr : r = false := HE.out _ (by rw [HI.out]; simp; omega)
    subst hr
    clear hsz
    go_enter Try.func35, Try.ntmps35
    go_wp2
    go_ret
    exact ⟨rfl, below_al _ _⟩
  by_cases h2 : 96 ≤ b
  · have hr : r = false := HE.out _ (by rw [HI.out]; simp; omega)
    subst hr
    clear hsz
    go_enter Try.func35, Try.ntmps35
    go_wp2
    go_ret
    exact ⟨rfl, below_al _ _⟩
  by_cases h3 : o < 0
  · have hr : r = false := HE.out _ (by rw [HI.out]; simp; omega)
    subst hr
    clear hsz
    go_enter Try.func35, Try.ntmps35
    go_wp2
    go_ret
    exact ⟨rfl, below_al _ _⟩
  by_cases h4 : 32 ≤ o
  · have hr : r = false := HE.out _ (by rw [HI.out]; simp; omega)
    subst hr
    clear hsz
    go_enter Try.func35, Try.ntmps35
    go_wp2
    go_ret
    exact ⟨rfl, below_al _ _⟩
  by_cases h5 : s.size = 0
  · have hr : r = false := HE.out _ (by rw [HI.out]; simp; omega)
    subst hr
    have hnil : s.toList = [] := (toList_nil s).2 h5
    have hemp : s.toList.isEmpty = true := by rw [hsz]; simpa using h5
    clear hsz h5
    go_enter Try.func35, Try.ntmps35
    go_wp2
    go_ret
    exact ⟨rfl, below_al _ _⟩
  · have hr : r = decide ((s.size : Int) ≤ 32 - o) := HE.out _ (by rw [HI.out]; simp; omega)
    subst hr
    have hemp : s.toList.isEmpty = false := by rw [hsz]; simpa using h5
    have hnil : (s.toList = []) = False := by simpa [toList_nil] using h5
    clear hsz h5
    go_enter Try.func35, Try.ntmps35
    go_wp2
    go_ret
    exact ⟨rfl, below_al _ _⟩

/-! ### deps -/
def nilV : Value := .slice none 0 0
def nils (n : Nat) : List Value := List.replicate n nilV
theorem mkRows (n : Nat) (hn : n ≤ 1000) (w : World) : (Instr.makeSlice 22 (.int .i64 (n : Int)) (.int .i64 (n : Int))).run Try.prog w = .ok (.slice (some ⟨w.heap.size, 0, none⟩) n n) (w.alloc (.cells (nils n).toArray 23)) :=
  run_makeN 22 23 (.slice none 0 0) 24 Try.underlying22 (by kernel_rfl) rfl n (by omega) (by omega) w
def partS (ss : List (Option Addr × Nat × Nat)) (k n : Nat) : List Value := (ss.take k).map sv ++ nils (n - k)
theorem partS_length {ss : List (Option Addr × Nat × Nat)} {k n : Nat} (h : ss.length = n) (hk : k ≤ n) : (partS ss k n).length = n := by simp [partS, nils]; omega
theorem partS_all {ss : List (Option Addr × Nat × Nat)} {n : Nat} (h : ss.length = n) : partS ss n n = ss.map sv := by simp [partS, nils, ← h]
theorem partS_set {ss : List (Option Addr × Nat × Nat)} {k n : Nat} (h : ss.length = n) (hk : k < n) : (partS ss k n).set k (sv (ss[k]'(by omega))) = partS ss (k + 1) n := by
  have e : n - k = (n - (k + 1)) + 1 := by omega
  have hl : (List.map sv (List.take k ss)).length = k := by simp; omega
  rw [partS, nils, e, List.replicate_succ, List.set_append_right _ _ (by omega), hl, Nat.sub_self, List.set_cons_zero, partS, List.take_succ_eq_append_getElem (by omega), List.map_append]
  simp [nils]

set_option maxHeartbeats 1000000 in
theorem mdeps_any (A : Option Addr) (n c : Nat) (L : List It) (w : World) (hL : Ip w A n c L) (hn : n ≤ 1000) :
    Calls Try.prog 66 #[.slice A n c] w fun e w' => (∃ A', e = .returned (.slice A' n n) ∧ Dp w' A' n n (depsL L)) ∧ Below w.heap.size w w' := by
  have hmk := mkRows n hn
  have HL := Lib.hid hL
  have HN := Lib.hid hL.len
  have l1 := hL.le
  have l2 := hL.cap
  obtain ⟨ss, hS⟩ := hL
  have HS := Lib.hid hS
  have H2 := Lib.hid hS.slen
  clear hS
  go_enter Try.func66, Try.ntmps66
  go_wp2
  have HB0 : Hid (Bk (w.alloc (.cells (nils n).toArray 23)) w.heap.size 23 (partS ss 0 n)) := by
    show Bk _ _ _ _
    exact Bk.new _ _ _
  have HW : Hid (Below w.heap.size w (w.alloc (.cells (nils n).toArray 23))) := below_al _ _
  clear hmk
  generalize w.alloc (.cells (nils n).toArray 23) = w0 at *
  go_loopw [4, 5, 11] (fun _ _ v wr => ∃ k : Nat, k ≤ n ∧ v = .int .i64 k ∧ Hid (Bk wr w.heap.size 23 (partS ss k n)) ∧ Hid (Below w.heap.size w wr)) (fun _ _ v _ => n - (intOf v).toNat)
  case atStart => exact ⟨0, by omega, rfl, HB0, HW⟩
  case round =>
    obtain ⟨k, hk, rfl, HB, HWr⟩ := hrel
    by_cases hlt : k < n
    · have hks : k < ss.length := by have := H2.out; omega
      have hst : Hid (partS ss (k + 1) n = (partS ss k n).set k (sv ss[k])) := (partS_set H2.out hlt).symm
      obtain ⟨b, off, rfl, hb, c0, c1, c2, c3⟩ := (HS.out.below HWr.out).at_ hlt
      have hcw := HB.out.cell k (by rw [partS_length H2.out hk]; exact hlt)
      have hfr := HB.out.free k
      have hpl := HB.out.lt
      generalize hq : ss[k] = q at *
      obtain ⟨qa, qn, qc⟩ := q
      simp only [sv] at c3
      have HQ := Lib.hid hq
      clear hq
      generalize hx : nthI L k = x at *
      have HX := Lib.hid hx
      clear hx
      have HB1 : Hid (Bk ((wr.setCell ⟨w.heap.size, k, none⟩ (.slice qa qn qc)).alloc (.cells #[.int .i64 x.b, .int .i64 x.o, .string x.s, .slice qa qn qc] 44)) w.heap.size 23 (partS ss (k + 1) n)) := by
        show Bk _ _ _ _
        rw [hst.out]
        exact (HB.out.set k _).keep (below_al _ _)
      have HW1 : Hid (Below w.heap.size w ((wr.setCell ⟨w.heap.size, k, none⟩ (.slice qa qn qc)).alloc (.cells #[.int .i64 x.b, .int .i64 x.o, .string x.s, .slice qa qn qc] 44))) := below_then (HWr.out.setCell (Nat.le_refl _) _) (below_al _ _)
      go_wp2
      go_roundw
      case rel => exact ⟨k + 1, by omega, by go_num, HB1, HW1⟩
      case measure => simp [intOf]; omega
    · obtain rfl : k = n := by omega
      go_wp2
      go_ret
      have hb := HB.out
      rw [partS_all H2.out] at hb
      refine ⟨⟨_, rfl, Dp.mk_ ss (by rw [depsL_length]; exact HN.out) H2.out (hb.rd k k (Nat.le_refl _) (by omega)) fun j hj => ?_⟩, HWr.out⟩
      have h5 := (HS.out.below HWr.out).deps j hj
      rw [nth_depsL (by have := HN.out; have := H2.out; omega)]
      exact h5

/-! ### Right -/
theorem mright_long {L : List It} (h : 64 < L.length) : mrightB L = false := by
  rw [Bool.eq_false_iff]; intro hr; have := (mright_iff.1 hr).1; omega
theorem mright_bad {L : List It} {k : Nat} (hk : k < L.length) (h : prightB (nthI L k) = false) : mrightB L = false := by
  rw [Bool.eq_false_iff]; intro hr
  have := (mright_iff.1 hr).2.1 _ (List.getElem_mem hk)
  rw [nthI_get hk] at h; rw [h] at this; cases this
theorem mright_end {L : List It} (hl : L.length ≤ 64) (h : ∀ k, k < L.length → prightB (nthI L k) = true) : mrightB L = rightD (depsL L) := by
  rw [Bool.eq_iff_iff, mright_iff]
  refine ⟨fun h => h.2.2, fun h2 => ⟨hl, fun x hx => ?_, h2⟩⟩
  obtain ⟨k, hk, rfl⟩ := List.mem_iff_getElem.1 hx
  rw [← nthI_get hk]; exact h k hk

def JumpR (B : Nat) (w : World) (r : Bool) (a : Act) (w' : World) : Prop := Below B w w' ∧ r = false ∧ ∃ (u0 u1 u2 u3 u4 u5 u6 u7 u8 u9 u10 u11 u12 u13 u14 u15 u16 u17 u18 u19 u20 u21 : Value), a = { tmps := #[u0, u1, u2, u3, u4, u5, u6, u7, u8, u9, u10, u11, u12, u13, u14, u15, u16, u17, u18, u19, u20, u21], defers := [] }
set_option maxRecDepth 100000 in
set_option maxHeartbeats 2000000 in
theorem mRight_any (A : Option Addr) (n c : Nat) (L : List It) (w : World) (hL : Ip w A n c L) :
    Calls Try.prog 24 #[.slice A n c] w fun e w' => e = .returned (.bool (mrightB L)) ∧ Below w.heap.size w w' := by
  have HL := Lib.hid hL
  have HN := Lib.hid hL.len
  have l1 := hL.le
  have l2 := hL.cap
  clear hL
  have HRR := Lib.hid (rfl : mrightB L = mrightB L)
  go_enter Try.func24, Try.ntmps24
  go_wp2
  refine wp_scope_jumps 0 (JumpR w.heap.size w (mrightB L)) (fun _ _ => 0) rfl ?first ?pass
  case pass =>
    rintro a w' ⟨hB, hr, u0, u1, u2, u3, u4, u5, u6, u7, u8, u9, u10, u11, u12, u13, u14, u15, u16, u17, u18, u19, u20, u21, rfl⟩
    have HB := Lib.hid hB
    have HR := Lib.hid hr
    clear hr hB HRR
    go_wp2
    simp only [Exit.jump]
    go_ret
    exact ⟨ret_bool HR.out.symm, HB.out⟩
  case first =>
    by_cases hl : n ≤ 64
    · go_wp2
      go_loopw [4, 10] (fun _ v wr => ∃ k : Nat, k ≤ n ∧ v = .int .i64 k ∧ Hid (∀ j, j < k → prightB (nthI L j) = true) ∧ Hid (Below w.heap.size w wr)) (fun _ v _ => n - (intOf v).toNat)
      case atStart => exact ⟨0, by omega, rfl, Lib.hid (fun j hj => by omega), Below.refl _ _⟩
      case round =>
        obtain ⟨k, hk, rfl, hz, HB⟩ := hrel
        by_cases hlt : k < n
        · obtain ⟨b, off, A', n', c', rfl, hb, c0, c1, c2, c3, hd, hr⟩ := (HL.out.below HB.out).at_ hlt
          clear hd hr
          have HP : Hid (∀ wx, Calls Try.prog 35 #[.agg #[.int .i64 (nthI L k).b, .int .i64 (nthI L k).o, .string (nthI L k).s]] wx fun e w' => e = .returned (.bool (prightB (nthI L k))) ∧ Below wx.heap.size wx w') := fun wx => pRight_any (nthI L k) wx
          have HX := Lib.hid (rfl : prightB (nthI L k) = prightB (nthI L k))
          have HW1 := Lib.hid (below_then HB.out (below_al wr (.cells #[.int .i64 (nthI L k).b, .int .i64 (nthI L k).o, .string (nthI L k).s, .slice A' n' c'] 44)))
          cases hq : prightB (nthI L k) with
          | true =>
            have HQ := Lib.hid hq
            rw [hq] at HP
            clear hq HX
            generalize hx : nthI L k = x at *
            have HX := Lib.hid hx
            clear hx
            go_wp2_with (go_at_call 35; (with_reducible refine (HP.out _).mono ?_); rintro e w2 ⟨rfl, hB⟩; have HB2 := Lib.hid (below_then HW1.out hB); clear hB)
            go_roundw
            case rel => exact ⟨k + 1, by omega, by go_num, Lib.hid (fun j hj => by
              by_cases hjk : j = k
              · subst hjk; rw [HX.out]; exact HQ.out
              · exact hz.out j (by omega)), HB2⟩
            case measure => simp [intOf]; omega
          | false =>
            have HF := Lib.hid (mright_bad (L := L) (k := k) (by have := HN.out; omega) hq)
            rw [hq] at HP
            clear hq HX
            generalize nthI L k = x at *
            go_wp2_with (go_at_call 35; (with_reducible refine (HP.out _).mono ?_); rintro e w2 ⟨rfl, hB⟩; have HB2 := Lib.hid (below_then HW1.out hB); clear hB)
            go_step3
            exact ⟨rfl, HB2.out, HF.out, _, _, _, _, _, _, _, _, _, _, _, _, _, _, _, _, _, _, _, _, _, _, rfl⟩
        · obtain rfl : k = n := by omega
          have HE := Lib.hid (mright_end (L := L) (by have := HN.out; omega) (fun j hj => hz.out j (by have := HN.out; omega)))
          go_wp2_with (first
            | (go_at_call 66; (with_reducible refine (mdeps_any A _ c L _ (HL.out.below HB.out) (by omega)).mono ?_); rintro e w2 ⟨⟨A2, rfl, hd⟩, hB⟩; have HD := Lib.hid hd; have HB2 := Lib.hid (below_then HB.out hB); clear hd hB)
            | (go_at_call 16; (with_reducible refine (Right_any A2 _ _ (depsL L) _ HD.out).mono ?_); rw [← HE.out]; rintro e w3 ⟨rfl, hB⟩; have HB3 := Lib.hid (below_then HB2.out hB); clear hB))
          simp only [Exit.jump]
          go_ret
          exact ⟨rfl, HB3.out⟩
    · have HF := Lib.hid (mright_long (L := L) (by have := HN.out; omega))
      go_wp2
      go_step3
      exact ⟨rfl, Below.refl _ _, HF.out, _, _, _, _, _, _, _, _, _, _, _, _, _, _, _, _, _, _, _, _, _, _, rfl⟩
end Go.Proofs.Ytpicagcapgjiaaa
