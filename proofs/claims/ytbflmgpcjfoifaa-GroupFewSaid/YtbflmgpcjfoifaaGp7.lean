/- Walks of the reference's groups: Depend. Written by gen_gp7.py. -/
import Derived.Test.YtbflmgpcjfoifaaGp3
set_option linter.unusedSimpArgs false
set_option linter.unusedVariables false
namespace Go.Proofs.Ytbflmgpcjfoifaa
open Go.RowKit Go.Sel Go.Sel.Gp

set_option maxRecDepth 100000 in
set_option maxHeartbeats 8000000 in
theorem rDepend_any (F : Nat → Prop) (w : World) (rb : Nat) (S : List G) (next : Int) (h : GR F w rb S next) (later ahead : Int) (hb : ∀ j, j < S.length → (nthG S j).ah.length ≤ 1000000) :
    Calls Try.prog 38 #[.pointer (some ⟨rb, 0, none⟩), .int .i64 later, .int .i64 ahead] w fun e w' => e = .returned (.int .i64 (dependS S later ahead).1) ∧ GRn F w w' rb (dependS S later ahead).2 next := by
  have HG := Lib.hid h
  obtain ⟨lA, m, c, ss, h⟩ := h
  have H := Lib.hid h
  have HC1 := Lib.hid (at_any F w rb lA m c S ss next h later)
  have HC2 := Lib.hid (at_any F w rb lA m c S ss next h ahead)
  have h0 := h.h0
  have l1 := h.le
  have l2 := h.cap
  have hlen := h.len
  cases hp : posG S later with
  | none =>
    have HV1 : Hid (posV S later = -1) := by show _ = _; rw [posV, hp]
    have HE : Hid (dependS S later ahead = (5, S)) := by show _ = _; rw [dependS, hp]
    rw [HV1.out] at HC1
    clear h hp hb hlen
    generalize dependS S later ahead = r at *
    have he := HE.out
    subst he
    generalize posV S ahead = pv at *
    go_enter Try.func38, Try.ntmps38
    go_wp2_with (first | (go_at_call 57; (with_reducible refine HC1.out.mono ?_); rintro e w2 ⟨rfl, hw⟩; subst w2) | (go_at_call 57; (with_reducible refine HC2.out.mono ?_); rintro e w2 ⟨rfl, hw⟩; subst w2))
    go_ret
    exact ⟨rfl, GRn.same HG.out⟩
  | some i =>
    have hi := posG_lt hp
    have him : i < m := by rw [← hlen]; exact hi.1
    have HV1 : Hid (posV S later = (i : Int)) := by show _ = _; rw [posV, hp]
    rw [HV1.out] at HC1
    cases hq : posG S ahead with
    | none =>
      have HV2 : Hid (posV S ahead = -1) := by show _ = _; rw [posV, hq]
      have HE : Hid (dependS S later ahead = (5, S)) := by show _ = _; rw [dependS, hp, hq]
      rw [HV2.out] at HC2
      clear h hp hb hlen hi hq
      generalize dependS S later ahead = r at *
      have he := HE.out
      subst he
      go_enter Try.func38, Try.ntmps38
      go_wp2_with (first | (go_at_call 57; (with_reducible refine HC1.out.mono ?_); rintro e w2 ⟨rfl, hw⟩; subst w2) | (go_at_call 57; (with_reducible refine HC2.out.mono ?_); rintro e w2 ⟨rfl, hw⟩; subst w2))
      go_ret
      exact ⟨rfl, GRn.same HG.out⟩
    | some k =>
      have hk := posG_lt hq
      have hkm : k < m := by rw [← hlen]; exact hk.1
      have HV2 : Hid (posV S ahead = (k : Int)) := by show _ = _; rw [posV, hq]
      have HE : Hid (dependS S later ahead = if (nthG S i).st ≠ 1 ∨ (nthG S k).st ≠ 4 then (13, S) else (0, S.set i { nthG S i with ah := (nthG S i).ah ++ [ahead] })) := by show _ = _; rw [dependS, hp, hq]
      rw [HV2.out] at HC2
      have hbk := hb i hi.1
      obtain ⟨lb, pp, qq, rfl, _, hlb, hne, _, _, c1, _, c3, hfz, _, hrow⟩ := h.get him
      obtain ⟨lb', pp', qq', e, _, _, _, _, _, d1, _⟩ := h.get hkm
      injection e with e; injection e with e; subst e
      have f3 := hfz (i * 4 + 3)
      clear h hp hi hk hq hfz hb hlen
      have HXS : Hid ((nthG S i).ah = (nthG S i).ah) := rfl
      generalize dependS S later ahead = r at *
      by_cases ha : (nthG S i).st = 1
      · have e1 : ((nthG S i).st != 1) = false := by simpa using ha
        by_cases hc : (nthG S k).st = 4
        · have e2 : ((nthG S k).st != 4) = false := by simpa using hc
          have he := HE.out
          rw [if_neg (fun h => h.elim (fun h => h ha) (fun h => h hc))] at he
          subst he
          clear ha hc HE HXS
          generalize (nthG S k).st = y at *
          generalize (nthG S i).st = x at *
          obtain ⟨qa, qn, qc⟩ := qq
          have hpl := hrow.1
          have hrd := hrow.rd
          simp only at hpl hrd
          subst hpl
          simp only [sv] at c3
          have HRD := Lib.hid hrd
          clear hrow hrd
          generalize hxs : (nthG S i).ah = xs at c3 HRD hbk
          have HXS := Lib.hid hxs
          clear hxs
          go_enter Try.func38, Try.ntmps38
          go_upto_region 8 with (first | (go_at_call 57; (with_reducible refine HC1.out.mono ?_); rintro e w2 ⟨rfl, hw⟩; subst w2) | (go_at_call 57; (with_reducible refine HC2.out.mono ?_); rintro e w2 ⟨rfl, hw⟩; subst w2))
          have HS0 : At (fun w' : World => w'.cell? ⟨rb, 0, none⟩ = some (.slice (some ⟨lb, 0, none⟩) m c) ∧ w'.cell? ⟨lb, i * 4 + 3, none⟩ = some (.slice qa xs.length qc)) w.drew := ⟨h0, c3⟩
          have HX0 : Hid (GRx F w.drew rb (some ⟨lb, 0, none⟩) m c S ss next) := H.out.below (Sel.below_drewN w 1)
          have HF0 : Hid (Fr F w w.drew) := (Fr.refl F w).drewN 1
          have HR0 : Hid (Rd w.drew qa xs.length qc (iv .i64 xs)) := rd_drewN 1 HRD.out
          have hlb0 : lb < w.drew.heap.size := hlb
          have hrb0 : rb < w.drew.heap.size := H.out.lt
          have f0 : w.drew.frozen? ⟨lb, i * 4 + 3, none⟩ = false := f3
          clear h0 c1 c3 d1 HRD hlb f3 HC1 HC2 H HG
          refine any_start HS0 [0, 1, 2, 3, 4, 6, 7, 8, 9, 10, 11, 12, 13, 15] (by kernel_rfl) ?_
          change wpAnyD _ _ _ _ _ _ 21 (Array.replicate 21 false) _ w.drew
          generalize w.drew = w0 at *
          refine any_take 0 rfl (by kernel_rfl) (fun _ _ d _ _ h => by cases d <;> exact h) (by kernel_rfl) HS0 (fun w9 h9 => by obtain ⟨s0, s1⟩ := h9; go_simp; first | done | rfl) (fun K hK => ?_); go_simp; refine hK _ ?_; clear hK K
          refine any_take 1 rfl (by kernel_rfl) (fun _ _ d _ _ h => by cases d <;> exact h) (by kernel_rfl) HS0 (fun w9 h9 => by obtain ⟨s0, s1⟩ := h9; go_simp; first | done | rfl) (fun K hK => ?_); go_simp; refine hK _ ?_; clear hK K
          refine any_take 2 rfl (by kernel_rfl) (fun _ _ d _ _ h => by cases d <;> exact h) (by kernel_rfl) HS0 (fun w9 h9 => by obtain ⟨s0, s1⟩ := h9; go_simp; first | done | rfl) (fun K hK => ?_); go_simp; refine hK _ ?_; clear hK K
          refine any_take 3 rfl (by kernel_rfl) (fun _ _ d _ _ h => by cases d <;> exact h) (by kernel_rfl) HS0 (fun w9 h9 => by obtain ⟨s0, s1⟩ := h9; go_simp; first | done | rfl) (fun K hK => ?_); go_simp; refine hK _ ?_; clear hK K
          refine any_take 4 rfl (by kernel_rfl) (fun _ _ d _ _ h => by cases d <;> exact h) (by kernel_rfl) HS0 (fun w9 h9 => by obtain ⟨s0, s1⟩ := h9; go_simp; first | done | rfl) (fun K hK => ?_); go_simp; refine hK _ ?_; clear hK K
          refine any_take 6 rfl (by kernel_rfl) (fun _ _ d _ _ h => by cases d <;> exact h) (by kernel_rfl) HS0 (fun w9 h9 => by obtain ⟨s0, s1⟩ := h9; go_simp; first | done | rfl) (fun K hK => ?_); go_simp; refine hK _ ?_; clear hK K
          refine any_take 7 rfl (by kernel_rfl) (fun _ _ d _ _ h => by cases d <;> exact h) (by kernel_rfl) HS0 (fun w9 h9 => by obtain ⟨s0, s1⟩ := h9; go_simp; first | done | rfl) (fun K hK => ?_); go_simp; refine hK _ ?_; clear hK K
          refine any_take 8 rfl (by kernel_rfl) (fun _ _ d _ _ h => by cases d <;> exact h) (by kernel_rfl) HS0 (fun w9 h9 => by obtain ⟨s0, s1⟩ := h9; go_simp; first | done | rfl) (fun K hK => ?_); go_simp; refine hK _ ?_; clear hK K
          refine any_take 9 rfl (by kernel_rfl) (fun _ _ d _ _ h => by cases d <;> exact h) (by kernel_rfl) HS0 (fun w9 h9 => by obtain ⟨s0, s1⟩ := h9; go_simp; first | done | rfl) (fun K hK => ?_); go_simp; refine hK _ ?_; clear hK K
          refine any_take 10 rfl (by kernel_rfl) (fun _ _ d _ _ h => by cases d <;> exact h) (by kernel_rfl) HS0 (fun w9 h9 => by obtain ⟨s0, s1⟩ := h9; go_simp; first | done | rfl) (fun K hK => ?_); go_simp; refine hK _ ?_; clear hK K
          refine any_take 11 rfl (by kernel_rfl) (fun _ _ d _ _ h => by cases d <;> exact h) (by kernel_rfl) HS0 (fun w9 h9 => by obtain ⟨s0, s1⟩ := h9; go_simp; first | done | rfl) (fun K hK => ?_); go_simp; refine hK _ ?_; clear hK K
          refine any_take 12 rfl (by kernel_rfl) (fun _ _ d _ _ h => by cases d <;> exact h) (by kernel_rfl) HS0 (fun w9 h9 => by obtain ⟨s0, s1⟩ := h9; go_simp; first | done | rfl) (fun K hK => ?_); go_simp; refine hK _ ?_; clear hK K
          refine any_take 13 rfl (by kernel_rfl) (fun _ _ d _ _ h => by cases d <;> exact h) (by kernel_rfl) HS0 (fun w9 h9 => by obtain ⟨s0, s1⟩ := h9; go_simp; first | done | rfl) (fun K hK => ?_); go_simp; refine hK _ ?_; clear hK K
          refine any_take 15 rfl (by kernel_rfl) (fun _ _ d _ _ h => by cases d <;> exact h) (by kernel_rfl) HS0 (fun w9 h9 => by obtain ⟨s0, s1⟩ := h9; go_simp; first | done | rfl) (fun K hK => ?_); go_simp; refine hK _ ?_; clear hK K
          have HB0 : Hid (Below w0.heap.size w0 w0) := Below.refl _ _
          refine any_two 5 16 rfl rfl (by kernel_rfl) (by kernel_rfl) (by kernel_rfl) (fun K hK => ?_) (fun K hK => ?_)
          · skip
            go_simp
            have HB1 : Hid (Below w0.heap.size w0 (w0.alloc (.cells #[] 3))) := HB0.out.alloc HB0.out.size _
            have HE1 : Hid ((w0.alloc (.cells #[] 3)).ownsRow w0.heap.size 3 1 (.slice (some ⟨w0.heap.size, 0, none⟩) 0 0) 0 []) := own_empty w0 3 _ HB0.out.size
            have hlt1 : w0.heap.size < (w0.alloc (.cells #[] 3)).heap.size := by simp
            generalize (w0.alloc (.cells #[] 3)) = W1 at *
            have HS1 : At (fun w' : World => w'.cell? ⟨rb, 0, none⟩ = some (.slice (some ⟨lb, 0, none⟩) m c) ∧ w'.cell? ⟨lb, i * 4 + 3, none⟩ = some (.slice qa xs.length qc)) W1 := ⟨(HB1.out.cell (p := ⟨rb, 0, none⟩) hrb0).trans HS0.1, (HB1.out.cell (p := ⟨lb, i * 4 + 3, none⟩) hlb0).trans HS0.2⟩
            refine hK _ _ (fun _ => HS1) ?_
            clear hK K
            refine any_two 14 16 rfl rfl (by kernel_rfl) (by kernel_rfl) (by kernel_rfl) (fun K hK => ?_) (fun K hK => ?_)
            · skip
              obtain ⟨v2, W2, hrun2, ho2, hg2, hat2⟩ := run_extend (P := Try.prog) (w := W1) w0.heap.size 28 28 3 (.int .i64 0) 8 Try.underlying28 infoI rfl _ 0 [] HE1.out qa xs.length qc (iv .i64 xs) (HR0.out.below HB1.out) (by simp) (one_iv _ _) (by simp only [maxLen]; omega) (by omega) HB1.out.size
              rw [Nat.zero_add, List.nil_append] at ho2
              have HB2 : Hid (Below w0.heap.size w0 W2) := below_grown HB1.out hg2 HB1.out.size (own_row HE1.out)
              have HV2 := Lib.hid ho2
              refine oper_append (.tmp 51) (.tmp 59) 28 (by kernel_rfl) _ _ _ (by kernel_rfl) (by kernel_rfl) hrun2 ?_
              clear hrun2 ho2 hg2 hat2
              go_simp
              have HS2 : At (fun w' : World => w'.cell? ⟨rb, 0, none⟩ = some (.slice (some ⟨lb, 0, none⟩) m c) ∧ w'.cell? ⟨lb, i * 4 + 3, none⟩ = some (.slice qa xs.length qc)) W2 := ⟨(HB2.out.cell (p := ⟨rb, 0, none⟩) hrb0).trans HS0.1, (HB2.out.cell (p := ⟨lb, i * 4 + 3, none⟩) hlb0).trans HS0.2⟩
              refine hK _ _ (fun _ => HS2) ?_
              clear hK K
              refine any_one 16 rfl (by kernel_rfl) (by kernel_rfl) (fun K hK => ?_)
              go_simp
              have HB3 : Hid (Below w0.heap.size w0 (W2.alloc (.cells #[.int .i64 ahead] 3))) := HB2.out.alloc HB2.out.size _
              have HY3 : Hid (Rd (W2.alloc (.cells #[.int .i64 ahead] 3)) (some ⟨W2.heap.size, 0, none⟩) 1 1 [.int .i64 ahead]) := rd_block (blk11 W2 _) 1 1 _ 0 (Nat.le_refl _) (by omega) (fun j hj => by simp only [List.length_cons, List.length_nil] at hj; rw [Nat.zero_add]; obtain rfl : j = 0 := (by omega); rfl)
              have HV3 := Lib.hid (HV2.out.alloc (.cells #[.int .i64 ahead] 3))
              have hlt3 : W2.heap.size < (W2.alloc (.cells #[.int .i64 ahead] 3)).heap.size := by simp
              generalize (W2.alloc (.cells #[.int .i64 ahead] 3)) = W3 at *
              have HS3 : At (fun w' : World => w'.cell? ⟨rb, 0, none⟩ = some (.slice (some ⟨lb, 0, none⟩) m c) ∧ w'.cell? ⟨lb, i * 4 + 3, none⟩ = some (.slice qa xs.length qc)) W3 := ⟨(HB3.out.cell (p := ⟨rb, 0, none⟩) hrb0).trans HS0.1, (HB3.out.cell (p := ⟨lb, i * 4 + 3, none⟩) hlb0).trans HS0.2⟩
              refine hK _ _ (fun _ => HS3) ?_
              clear hK K
              refine any_one 17 rfl (by kernel_rfl) (by kernel_rfl) (fun K hK => ?_)
              obtain ⟨v4, W4, hrun4, ho4, hg4, hat4⟩ := run_extend (P := Try.prog) (w := W3) w0.heap.size 28 28 3 (.int .i64 0) 8 Try.underlying28 infoI rfl _ xs.length (iv .i64 xs) HV3.out _ 1 1 [.int .i64 ahead] HY3.out (by simp) (fun u hu => by rw [List.mem_singleton.1 hu]; rfl) (by simp only [maxLen]; omega) (by omega) HB3.out.size
              have HB4 : Hid (Below w0.heap.size w0 W4) := below_grown HB3.out hg4 HB3.out.size (own_row HV3.out)
              have HR4 := Lib.hid ho4
              refine oper_append (.tmp 60) (.tmp 62) 28 (by kernel_rfl) _ _ _ (by kernel_rfl) (by kernel_rfl) hrun4 ?_
              clear hrun4 ho4 hg4 hat4
              go_simp
              have HS4 : At (fun w' : World => w'.cell? ⟨rb, 0, none⟩ = some (.slice (some ⟨lb, 0, none⟩) m c) ∧ w'.cell? ⟨lb, i * 4 + 3, none⟩ = some (.slice qa xs.length qc)) W4 := ⟨(HB4.out.cell (p := ⟨rb, 0, none⟩) hrb0).trans HS0.1, (HB4.out.cell (p := ⟨lb, i * 4 + 3, none⟩) hlb0).trans HS0.2⟩
              refine hK _ _ (fun _ => HS4) ?_
              clear hK K
              refine any_one 18 rfl (by kernel_rfl) (by kernel_rfl) (fun K hK => ?_); go_simp; refine hK _ _ (fun _ => HS4) ?_; clear hK K
              refine any_one 19 rfl (by kernel_rfl) (by kernel_rfl) (fun K hK => ?_); go_simp; refine hK _ _ (fun _ => HS4) ?_; clear hK K
              obtain ⟨A9, c9, rfl, hq⟩ := RowI.made (F := F) (w := w0) (xs := xs ++ [ahead]) (by simpa [iv] using HR4.out) (Nat.le_refl _)
              have HST := Lib.hid (GRw.stepAh HX0.out HF0.out (fun b hb => .inl hb) HB4.out him rfl hq)
              have f4 : W4.frozen? ⟨lb, i * 4 + 3, none⟩ = false := (HB4.out.frozen (p := ⟨lb, i * 4 + 3, none⟩) hlb0).trans f0
              have k3 := HS4.2
              clear hq HS0
              refine any_last 20 rfl (by kernel_rfl) (by kernel_rfl) (by kernel_rfl) (fun K hK => ?_)
              go_simp
              refine hK _ _ ?_
              clear hK K k3 f4 HS4
              refine any_end (by kernel_rfl) ?_
              simp only [sv] at HST
              generalize W4.setCell ⟨lb, i * 4 + 3, none⟩ (.slice A9 (xs.length + 1) c9) = W5 at *
              go_wp2
              go_ret
              obtain ⟨F9, s9, hx9, hf9, hF9⟩ := HST.out
              exact ⟨rfl, F9, ⟨_, _, _, _, hx9⟩, hf9, hF9⟩
            · skip
              go_simp
              have HB2 : Hid (Below w0.heap.size w0 (W1.alloc (.cells #[.int .i64 ahead] 3))) := HB1.out.alloc HB1.out.size _
              have HY2 : Hid (Rd (W1.alloc (.cells #[.int .i64 ahead] 3)) (some ⟨W1.heap.size, 0, none⟩) 1 1 [.int .i64 ahead]) := rd_block (blk11 W1 _) 1 1 _ 0 (Nat.le_refl _) (by omega) (fun j hj => by simp only [List.length_cons, List.length_nil] at hj; rw [Nat.zero_add]; obtain rfl : j = 0 := (by omega); rfl)
              have HE2 := Lib.hid (HE1.out.alloc (.cells #[.int .i64 ahead] 3))
              have hlt2 : W1.heap.size < (W1.alloc (.cells #[.int .i64 ahead] 3)).heap.size := by simp
              generalize (W1.alloc (.cells #[.int .i64 ahead] 3)) = W2 at *
              have HS2 : At (fun w' : World => w'.cell? ⟨rb, 0, none⟩ = some (.slice (some ⟨lb, 0, none⟩) m c) ∧ w'.cell? ⟨lb, i * 4 + 3, none⟩ = some (.slice qa xs.length qc)) W2 := ⟨(HB2.out.cell (p := ⟨rb, 0, none⟩) hrb0).trans HS0.1, (HB2.out.cell (p := ⟨lb, i * 4 + 3, none⟩) hlb0).trans HS0.2⟩
              refine hK _ _ (fun _ => HS2) ?_
              clear hK K
              refine any_one 14 rfl (by kernel_rfl) (by kernel_rfl) (fun K hK => ?_)
              obtain ⟨v3, W3, hrun3, ho3, hg3, hat3⟩ := run_extend (P := Try.prog) (w := W2) w0.heap.size 28 28 3 (.int .i64 0) 8 Try.underlying28 infoI rfl _ 0 [] HE2.out qa xs.length qc (iv .i64 xs) (HR0.out.below HB2.out) (by simp) (one_iv _ _) (by simp only [maxLen]; omega) (by omega) HB2.out.size
              rw [Nat.zero_add, List.nil_append] at ho3
              have HB3 : Hid (Below w0.heap.size w0 W3) := below_grown HB2.out hg3 HB2.out.size (own_row HE2.out)
              have HY3 := Lib.hid (rd_far HY2.out hg3 (by simp [Value.ownBlock]; omega))
              have HV3 := Lib.hid ho3
              refine oper_append (.tmp 51) (.tmp 59) 28 (by kernel_rfl) _ _ _ (by kernel_rfl) (by kernel_rfl) hrun3 ?_
              clear hrun3 ho3 hg3 hat3
              go_simp
              have HS3 : At (fun w' : World => w'.cell? ⟨rb, 0, none⟩ = some (.slice (some ⟨lb, 0, none⟩) m c) ∧ w'.cell? ⟨lb, i * 4 + 3, none⟩ = some (.slice qa xs.length qc)) W3 := ⟨(HB3.out.cell (p := ⟨rb, 0, none⟩) hrb0).trans HS0.1, (HB3.out.cell (p := ⟨lb, i * 4 + 3, none⟩) hlb0).trans HS0.2⟩
              refine hK _ _ (fun _ => HS3) ?_
              clear hK K
              refine any_one 17 rfl (by kernel_rfl) (by kernel_rfl) (fun K hK => ?_)
              obtain ⟨v4, W4, hrun4, ho4, hg4, hat4⟩ := run_extend (P := Try.prog) (w := W3) w0.heap.size 28 28 3 (.int .i64 0) 8 Try.underlying28 infoI rfl _ xs.length (iv .i64 xs) HV3.out _ 1 1 [.int .i64 ahead] HY3.out (by simp) (fun u hu => by rw [List.mem_singleton.1 hu]; rfl) (by simp only [maxLen]; omega) (by omega) HB3.out.size
              have HB4 : Hid (Below w0.heap.size w0 W4) := below_grown HB3.out hg4 HB3.out.size (own_row HV3.out)
              have HR4 := Lib.hid ho4
              refine oper_append (.tmp 60) (.tmp 62) 28 (by kernel_rfl) _ _ _ (by kernel_rfl) (by kernel_rfl) hrun4 ?_
              clear hrun4 ho4 hg4 hat4
              go_simp
              have HS4 : At (fun w' : World => w'.cell? ⟨rb, 0, none⟩ = some (.slice (some ⟨lb, 0, none⟩) m c) ∧ w'.cell? ⟨lb, i * 4 + 3, none⟩ = some (.slice qa xs.length qc)) W4 := ⟨(HB4.out.cell (p := ⟨rb, 0, none⟩) hrb0).trans HS0.1, (HB4.out.cell (p := ⟨lb, i * 4 + 3, none⟩) hlb0).trans HS0.2⟩
              refine hK _ _ (fun _ => HS4) ?_
              clear hK K
              refine any_one 18 rfl (by kernel_rfl) (by kernel_rfl) (fun K hK => ?_); go_simp; refine hK _ _ (fun _ => HS4) ?_; clear hK K
              refine any_one 19 rfl (by kernel_rfl) (by kernel_rfl) (fun K hK => ?_); go_simp; refine hK _ _ (fun _ => HS4) ?_; clear hK K
              obtain ⟨A9, c9, rfl, hq⟩ := RowI.made (F := F) (w := w0) (xs := xs ++ [ahead]) (by simpa [iv] using HR4.out) (Nat.le_refl _)
              have HST := Lib.hid (GRw.stepAh HX0.out HF0.out (fun b hb => .inl hb) HB4.out him rfl hq)
              have f4 : W4.frozen? ⟨lb, i * 4 + 3, none⟩ = false := (HB4.out.frozen (p := ⟨lb, i * 4 + 3, none⟩) hlb0).trans f0
              have k3 := HS4.2
              clear hq HS0
              refine any_last 20 rfl (by kernel_rfl) (by kernel_rfl) (by kernel_rfl) (fun K hK => ?_)
              go_simp
              refine hK _ _ ?_
              clear hK K k3 f4 HS4
              refine any_end (by kernel_rfl) ?_
              simp only [sv] at HST
              generalize W4.setCell ⟨lb, i * 4 + 3, none⟩ (.slice A9 (xs.length + 1) c9) = W5 at *
              go_wp2
              go_ret
              obtain ⟨F9, s9, hx9, hf9, hF9⟩ := HST.out
              exact ⟨rfl, F9, ⟨_, _, _, _, hx9⟩, hf9, hF9⟩
          · skip
            go_simp
            have HB1 : Hid (Below w0.heap.size w0 (w0.alloc (.cells #[.int .i64 ahead] 3))) := HB0.out.alloc HB0.out.size _
            have HY1 : Hid (Rd (w0.alloc (.cells #[.int .i64 ahead] 3)) (some ⟨w0.heap.size, 0, none⟩) 1 1 [.int .i64 ahead]) := rd_block (blk11 w0 _) 1 1 _ 0 (Nat.le_refl _) (by omega) (fun j hj => by simp only [List.length_cons, List.length_nil] at hj; rw [Nat.zero_add]; obtain rfl : j = 0 := (by omega); rfl)
            have hlt1 : w0.heap.size < (w0.alloc (.cells #[.int .i64 ahead] 3)).heap.size := by simp
            generalize (w0.alloc (.cells #[.int .i64 ahead] 3)) = W1 at *
            have HS1 : At (fun w' : World => w'.cell? ⟨rb, 0, none⟩ = some (.slice (some ⟨lb, 0, none⟩) m c) ∧ w'.cell? ⟨lb, i * 4 + 3, none⟩ = some (.slice qa xs.length qc)) W1 := ⟨(HB1.out.cell (p := ⟨rb, 0, none⟩) hrb0).trans HS0.1, (HB1.out.cell (p := ⟨lb, i * 4 + 3, none⟩) hlb0).trans HS0.2⟩
            refine hK _ _ (fun _ => HS1) ?_
            clear hK K
            refine any_one 5 rfl (by kernel_rfl) (by kernel_rfl) (fun K hK => ?_)
            go_simp
            have HB2 : Hid (Below w0.heap.size w0 (W1.alloc (.cells #[] 3))) := HB1.out.alloc HB1.out.size _
            have HE2 : Hid ((W1.alloc (.cells #[] 3)).ownsRow w0.heap.size 3 1 (.slice (some ⟨W1.heap.size, 0, none⟩) 0 0) 0 []) := own_empty W1 3 _ HB1.out.size
            have HY2 := Lib.hid (HY1.out.alloc (.cells #[] 3))
            have hlt2 : W1.heap.size < (W1.alloc (.cells #[] 3)).heap.size := by simp
            generalize (W1.alloc (.cells #[] 3)) = W2 at *
            have HS2 : At (fun w' : World => w'.cell? ⟨rb, 0, none⟩ = some (.slice (some ⟨lb, 0, none⟩) m c) ∧ w'.cell? ⟨lb, i * 4 + 3, none⟩ = some (.slice qa xs.length qc)) W2 := ⟨(HB2.out.cell (p := ⟨rb, 0, none⟩) hrb0).trans HS0.1, (HB2.out.cell (p := ⟨lb, i * 4 + 3, none⟩) hlb0).trans HS0.2⟩
            refine hK _ _ (fun _ => HS2) ?_
            clear hK K
            refine any_one 14 rfl (by kernel_rfl) (by kernel_rfl) (fun K hK => ?_)
            obtain ⟨v3, W3, hrun3, ho3, hg3, hat3⟩ := run_extend (P := Try.prog) (w := W2) w0.heap.size 28 28 3 (.int .i64 0) 8 Try.underlying28 infoI rfl _ 0 [] HE2.out qa xs.length qc (iv .i64 xs) (HR0.out.below HB2.out) (by simp) (one_iv _ _) (by simp only [maxLen]; omega) (by omega) HB2.out.size
            rw [Nat.zero_add, List.nil_append] at ho3
            have HB3 : Hid (Below w0.heap.size w0 W3) := below_grown HB2.out hg3 HB2.out.size (own_row HE2.out)
            have HY3 := Lib.hid (rd_far HY2.out hg3 (by simp [Value.ownBlock]; omega))
            have HV3 := Lib.hid ho3
            refine oper_append (.tmp 51) (.tmp 59) 28 (by kernel_rfl) _ _ _ (by kernel_rfl) (by kernel_rfl) hrun3 ?_
            clear hrun3 ho3 hg3 hat3
            go_simp
            have HS3 : At (fun w' : World => w'.cell? ⟨rb, 0, none⟩ = some (.slice (some ⟨lb, 0, none⟩) m c) ∧ w'.cell? ⟨lb, i * 4 + 3, none⟩ = some (.slice qa xs.length qc)) W3 := ⟨(HB3.out.cell (p := ⟨rb, 0, none⟩) hrb0).trans HS0.1, (HB3.out.cell (p := ⟨lb, i * 4 + 3, none⟩) hlb0).trans HS0.2⟩
            refine hK _ _ (fun _ => HS3) ?_
            clear hK K
            refine any_one 17 rfl (by kernel_rfl) (by kernel_rfl) (fun K hK => ?_)
            obtain ⟨v4, W4, hrun4, ho4, hg4, hat4⟩ := run_extend (P := Try.prog) (w := W3) w0.heap.size 28 28 3 (.int .i64 0) 8 Try.underlying28 infoI rfl _ xs.length (iv .i64 xs) HV3.out _ 1 1 [.int .i64 ahead] HY3.out (by simp) (fun u hu => by rw [List.mem_singleton.1 hu]; rfl) (by simp only [maxLen]; omega) (by omega) HB3.out.size
            have HB4 : Hid (Below w0.heap.size w0 W4) := below_grown HB3.out hg4 HB3.out.size (own_row HV3.out)
            have HR4 := Lib.hid ho4
            refine oper_append (.tmp 60) (.tmp 62) 28 (by kernel_rfl) _ _ _ (by kernel_rfl) (by kernel_rfl) hrun4 ?_
            clear hrun4 ho4 hg4 hat4
            go_simp
            have HS4 : At (fun w' : World => w'.cell? ⟨rb, 0, none⟩ = some (.slice (some ⟨lb, 0, none⟩) m c) ∧ w'.cell? ⟨lb, i * 4 + 3, none⟩ = some (.slice qa xs.length qc)) W4 := ⟨(HB4.out.cell (p := ⟨rb, 0, none⟩) hrb0).trans HS0.1, (HB4.out.cell (p := ⟨lb, i * 4 + 3, none⟩) hlb0).trans HS0.2⟩
            refine hK _ _ (fun _ => HS4) ?_
            clear hK K
            refine any_one 18 rfl (by kernel_rfl) (by kernel_rfl) (fun K hK => ?_); go_simp; refine hK _ _ (fun _ => HS4) ?_; clear hK K
            refine any_one 19 rfl (by kernel_rfl) (by kernel_rfl) (fun K hK => ?_); go_simp; refine hK _ _ (fun _ => HS4) ?_; clear hK K
            obtain ⟨A9, c9, rfl, hq⟩ := RowI.made (F := F) (w := w0) (xs := xs ++ [ahead]) (by simpa [iv] using HR4.out) (Nat.le_refl _)
            have HST := Lib.hid (GRw.stepAh HX0.out HF0.out (fun b hb => .inl hb) HB4.out him rfl hq)
            have f4 : W4.frozen? ⟨lb, i * 4 + 3, none⟩ = false := (HB4.out.frozen (p := ⟨lb, i * 4 + 3, none⟩) hlb0).trans f0
            have k3 := HS4.2
            clear hq HS0
            refine any_last 20 rfl (by kernel_rfl) (by kernel_rfl) (by kernel_rfl) (fun K hK => ?_)
            go_simp
            refine hK _ _ ?_
            clear hK K k3 f4 HS4
            refine any_end (by kernel_rfl) ?_
            simp only [sv] at HST
            generalize W4.setCell ⟨lb, i * 4 + 3, none⟩ (.slice A9 (xs.length + 1) c9) = W5 at *
            go_wp2
            go_ret
            obtain ⟨F9, s9, hx9, hf9, hF9⟩ := HST.out
            exact ⟨rfl, F9, ⟨_, _, _, _, hx9⟩, hf9, hF9⟩
        · have e2 : ((nthG S k).st != 4) = true := by simpa using hc
          have he := HE.out
          rw [if_pos (.inr hc)] at he
          subst he
          clear ha hc HE HXS
          generalize (nthG S k).st = y at *
          generalize (nthG S i).st = x at *
          clear hrow c3 f3
          go_enter Try.func38, Try.ntmps38
          go_wp2_with (first | (go_at_call 57; (with_reducible refine HC1.out.mono ?_); rintro e w2 ⟨rfl, hw⟩; subst w2) | (go_at_call 57; (with_reducible refine HC2.out.mono ?_); rintro e w2 ⟨rfl, hw⟩; subst w2))
          go_ret
          exact ⟨rfl, GRn.same HG.out⟩
      · have e1 : ((nthG S i).st != 1) = true := by simpa using ha
        have he := HE.out
        rw [if_pos (.inl ha)] at he
        subst he
        clear ha HE HXS
        generalize (nthG S k).st = y at *
        generalize (nthG S i).st = x at *
        clear hrow c3 f3
        go_enter Try.func38, Try.ntmps38
        go_wp2_with (first | (go_at_call 57; (with_reducible refine HC1.out.mono ?_); rintro e w2 ⟨rfl, hw⟩; subst w2) | (go_at_call 57; (with_reducible refine HC2.out.mono ?_); rintro e w2 ⟨rfl, hw⟩; subst w2))
        go_ret
        exact ⟨rfl, GRn.same HG.out⟩
end Go.Proofs.Ytbflmgpcjfoifaa
