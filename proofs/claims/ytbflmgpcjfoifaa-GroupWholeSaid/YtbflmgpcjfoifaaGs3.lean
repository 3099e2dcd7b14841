/- Walk of the statement GroupWhole. -/
import Derived.Test.YtbflmgpcjfoifaaGs2
import Derived.BigGuard
import Derived.BigCall
import Derived.Deep.CutBlock
set_option linter.unusedSimpArgs false
set_option linter.unusedVariables false
namespace Go.Proofs.Ytbflmgpcjfoifaa
open Go.RowKit Go.Sel Go.Sel.Gp

set_option maxRecDepth 100000 in
set_option maxHeartbeats 4000000 in
theorem law_GroupWhole (A : Option Addr) (n c : Nat) (L : List D3) (x y : Int) (w : World) (hL : Dd w A n c L) : Calls Try.prog 4 #[.slice A n c, .int .i64 x, .int .i64 y] w fun e w' => e = .returned (.bool true) ∧ Below w.heap.size w w' := by
  have HL := Lib.hid hL
  have HI := Lib.hid (play_inv hL)
  have l1 := hL.rd.le
  have l2 := hL.rd.cap
  clear hL
  go_enter Try.func4, Try.ntmps4
  go_upto_region 4 with (first
    | (go_at_call 12; (with_reducible refine (play_any _ _ _ L _ HL.out).mono ?_); rintro e w1 ⟨gb, rb, rfl, hb⟩; have HB1 := Lib.hid hb; clear hb)
    | (go_at_call 13; (with_reducible refine (live_any _).mono ?_); rintro e w2 ⟨rfl, hB⟩; have HB2 := Lib.hid (HB1.out.step hB); clear hB))
  generalize (playK L (min n 60)).1 = S at *
  generalize (playK L (min n 60)).2 = next at *
  have HA : Hid (∀ z, z ∈ aheadS S x → stateS S z = 4) := fun z hz => by
    obtain ⟨i, h1, h2⟩ := HI.out.ok.rch ((mem_aheadS HI.out.ok).1 hz)
    rw [stateS, h1]
    exact h2
  have HW : Hid (y ∈ aheadS S x → ∀ z, z ∈ aheadS S y → z ∈ aheadS S x) := fun h1 z h2 => (mem_aheadS HI.out.ok).2 (((mem_aheadS HI.out.ok).1 h1).trans ((mem_aheadS HI.out.ok).1 h2))
  go_wp2_with (first
    | (go_at_call 14; (with_reducible refine (HB2.out.ahead HI.out (by omega) x).mono ?_); rintro e wa ⟨⟨A1, c1, rfl, hr⟩, hb, _⟩; have HR1 := Lib.hid hr; have HBa := Lib.hid hb; clear hr hb HB2)
    | (go_at_call 14; (with_reducible refine (HBa.out.ahead HI.out (by omega) y).mono ?_); rintro e wb ⟨⟨A2, c2, rfl, hr⟩, hb, hB⟩; have HR2 := Lib.hid hr; have HBb := Lib.hid hb; have HR1b := Lib.hid (HR1.out.below hB); clear hr hb hB HBa HR1))
  generalize aheadS S x = xs at *
  generalize aheadS S y = ys at *
  have p1 := HR1b.out.le
  have p2 := HR1b.out.cap
  have p3 := HR2.out.le
  have p4 := HR2.out.cap
  go_loopw [12, 13] (fun v u wr => ∃ i : Nat, i ≤ xs.length ∧ u = .int .i64 (i : Int) ∧ v = .bool (decide (y ∈ xs.take i)) ∧ wr = wb) (fun _ u _ => xs.length - (intOf u).toNat)
  case atStart => exact ⟨0, by omega, rfl, by simp, rfl⟩
  case round =>
    obtain ⟨i, hi, rfl, rfl, hwr⟩ := hrel
    have hwr' := hwr.symm
    subst hwr'
    by_cases hil : i < xs.length
    · obtain ⟨b, off, rfl, hc⟩ := Rd.cell_i HR1b.out hil
      have HT : Hid (decide (y ∈ xs.take (i + 1)) = (decide (y ∈ xs.take i) || (xs[i] == y))) := by
        show _ = _
        rw [List.take_succ_eq_append_getElem hil, Bool.eq_iff_iff]
        simp only [List.mem_append, List.mem_singleton, decide_eq_true_eq, Bool.or_eq_true, beq_iff_eq]
        exact or_congr Iff.rfl ⟨Eq.symm, Eq.symm⟩
      have HS := Lib.hid (HA.out xs[i] (List.getElem_mem hil))
      generalize xs[i] = z at *
      cases hq : decide (y ∈ xs.take i) with
      | true =>
        rw [hq, Bool.true_or] at HT
        clear hq
        go_upto_region 10 with (fail)
        go_wp2_with (go_at_call 15; (with_reducible refine (HBb.out.state z).mono ?_); rw [HS.out]; rintro e w5 ⟨rfl, hw⟩; subst w5)
        go_roundw
        case rel => exact ⟨i + 1, by omega, by go_num, by rw [HT.out], by first | trivial | rfl⟩
        case measure => simp [intOf] <;> omega
      | false =>
        rw [hq, Bool.false_or] at HT
        clear hq
        go_upto_region 10 with (fail)
        go_wp2_with (go_at_call 15; (with_reducible refine (HBb.out.state z).mono ?_); rw [HS.out]; rintro e w5 ⟨rfl, hw⟩; subst w5)
        go_roundw
        case rel => exact ⟨i + 1, by omega, by go_num, by rw [HT.out], by first | trivial | rfl⟩
        case measure => simp [intOf] <;> omega
    · obtain rfl : i = xs.length := by omega
      rw [List.take_length]
      by_cases hyx : y ∈ xs
      · have HWX := Lib.hid (HW.out hyx)
        rw [decide_eq_true hyx]
        clear hyx HW
        go_wp2
        go_loopw [14] (fun v wr => ∃ i : Nat, i ≤ ys.length ∧ v = .int .i64 (i : Int) ∧ Hid (Below wb.heap.size wb wr)) (fun v _ => ys.length - (intOf v).toNat)
        case atStart => exact ⟨0, by omega, rfl, Below.refl _ _⟩
        case round =>
          obtain ⟨i, hi, rfl, HWr⟩ := hrel
          by_cases hil : i < ys.length
          · obtain ⟨b2, off2, rfl, hc2⟩ := Rd.cell_i (HR2.out.below HWr.out) hil
            have HZ := Lib.hid (HWX.out ys[i] (List.getElem_mem hil))
            generalize hz : ys[i] = z at *
            go_upto_block 4 with (fail)
            go_wp2_with (fail)
            go_loopw [15, 16] (fun u v wq => ∃ k : Nat, k ≤ xs.length ∧ v = .int .i64 (k : Int) ∧ u = .bool (decide (z ∈ xs.take k)) ∧ Hid (Below wb.heap.size wb wq)) (fun _ v _ => xs.length - (intOf v).toNat)
            case atStart => exact ⟨0, by omega, rfl, by simp, HWr⟩
            case round =>
              obtain ⟨k, hk, rfl, rfl, HWq⟩ := hrel
              by_cases hkl : k < xs.length
              · obtain ⟨b1, off1, rfl, hc1⟩ := Rd.cell_i (HR1b.out.below HWq.out) hkl
                have hc2' := Rd.cell_i (HR2.out.below HWq.out) hil
                obtain ⟨b2', off2', e2, hc2'⟩ := hc2'
                cases e2
                rw [hz] at hc2'
                have HT : Hid (decide (z ∈ xs.take (k + 1)) = (decide (z ∈ xs.take k) || (xs[k] == z))) := by
                  show _ = _
                  rw [List.take_succ_eq_append_getElem hkl, Bool.eq_iff_iff]
                  simp only [List.mem_append, List.mem_singleton, decide_eq_true_eq, Bool.or_eq_true, beq_iff_eq]
                  exact or_congr Iff.rfl ⟨Eq.symm, Eq.symm⟩
                have HWd : Hid (Below wb.heap.size wb wr.drew) := HWq.out.trans ((Sel.below_drewN wr 1).mono HWq.out.size)
                generalize xs[k] = q at *
                cases hq : decide (z ∈ xs.take k) with
                | true =>
                  rw [hq, Bool.true_or] at HT
                  clear hq
                  go_upto_region 19 with (fail)
                  have HS : At (fun w' : World => w'.cell? ⟨b1, off1 + k, none⟩ = some (.int .i64 q) ∧ w'.cell? ⟨b2, off2 + i, none⟩ = some (.int .i64 z)) wr.drew := ⟨hc1, hc2'⟩
                  refine wp_region_lexD HS [0, 1, 2, 3, 4, 5, 6, 7, 8, 9, 10, 11, 12] (by kernel_rfl) (by kernel_rfl) (fun _ _ d _ _ h => by cases d <;> exact h) ?_
                  refine lexD_take (by kernel_rfl) (by kernel_rfl) HS (fun w9 h9 => by obtain ⟨h8, h9⟩ := h9; go_simp; first | done | rfl) (fun K hK => ?_); go_simp; refine hK _ ?_; clear hK K
                  refine lexD_take (by kernel_rfl) (by kernel_rfl) HS (fun w9 h9 => by obtain ⟨h8, h9⟩ := h9; go_simp; first | done | rfl) (fun K hK => ?_); go_simp; refine hK _ ?_; clear hK K
                  refine lexD_skip (by kernel_rfl) (by kernel_rfl) HS (fun K hK => ?_); go_simp; refine hK _ ?_; clear hK K
                  refine lexD_skip (by kernel_rfl) (by kernel_rfl) HS (fun K hK => ?_); go_simp; refine hK _ ?_; clear hK K
                  refine lexD_skip (by kernel_rfl) (by kernel_rfl) HS (fun K hK => ?_); go_simp; refine hK _ ?_; clear hK K
                  refine lexD_skip (by kernel_rfl) (by kernel_rfl) HS (fun K hK => ?_); go_simp; refine hK _ ?_; clear hK K
                  refine lexD_skip (by kernel_rfl) (by kernel_rfl) HS (fun K hK => ?_); go_simp; refine hK _ ?_; clear hK K
                  refine lexD_skip (by kernel_rfl) (by kernel_rfl) HS (fun K hK => ?_); go_simp; refine hK _ ?_; clear hK K
                  refine lexD_skip (by kernel_rfl) (by kernel_rfl) HS (fun K hK => ?_); go_simp; refine hK _ ?_; clear hK K
                  refine lexD_skip (by kernel_rfl) (by kernel_rfl) HS (fun K hK => ?_); go_simp; refine hK _ ?_; clear hK K
                  refine lexD_skip (by kernel_rfl) (by kernel_rfl) HS (fun K hK => ?_); go_simp; refine hK _ ?_; clear hK K
                  refine lexD_take (by kernel_rfl) (by kernel_rfl) HS (fun w9 h9 => by obtain ⟨h8, h9⟩ := h9; go_simp; first | done | rfl) (fun K hK => ?_); go_simp; refine hK _ ?_; clear hK K
                  refine lexD_take (by kernel_rfl) (by kernel_rfl) HS (fun w9 h9 => by obtain ⟨h8, h9⟩ := h9; go_simp; first | done | rfl) (fun K hK => ?_); go_simp; refine hK _ ?_; clear hK K
                  refine lexD_nil ?_
                  clear HS hc1 hc2' HWq
                  generalize wr.drew = wd at *
                  go_wp2
                  go_roundw
                  case rel => exact ⟨k + 1, by omega, by go_num, by rw [HT.out], HWd⟩
                  case measure => simp [intOf] <;> omega
                | false =>
                  rw [hq, Bool.false_or] at HT
                  clear hq
                  go_upto_region 19 with (fail)
                  have HS : At (fun w' : World => w'.cell? ⟨b1, off1 + k, none⟩ = some (.int .i64 q) ∧ w'.cell? ⟨b2, off2 + i, none⟩ = some (.int .i64 z)) wr.drew := ⟨hc1, hc2'⟩
                  refine wp_region_lexD HS [0, 1, 2, 3, 4, 5, 6, 7, 8, 9, 10, 11, 12] (by kernel_rfl) (by kernel_rfl) (fun _ _ d _ _ h => by cases d <;> exact h) ?_
                  refine lexD_take (by kernel_rfl) (by kernel_rfl) HS (fun w9 h9 => by obtain ⟨h8, h9⟩ := h9; go_simp; first | done | rfl) (fun K hK => ?_); go_simp; refine hK _ ?_; clear hK K
                  refine lexD_take (by kernel_rfl) (by kernel_rfl) HS (fun w9 h9 => by obtain ⟨h8, h9⟩ := h9; go_simp; first | done | rfl) (fun K hK => ?_); go_simp; refine hK _ ?_; clear hK K
                  refine lexD_take (by kernel_rfl) (by kernel_rfl) HS (fun w9 h9 => by obtain ⟨h8, h9⟩ := h9; go_simp; first | done | rfl) (fun K hK => ?_); go_simp; refine hK _ ?_; clear hK K
                  refine lexD_take (by kernel_rfl) (by kernel_rfl) HS (fun w9 h9 => by obtain ⟨h8, h9⟩ := h9; go_simp; first | done | rfl) (fun K hK => ?_); go_simp; refine hK _ ?_; clear hK K
                  refine lexD_take (by kernel_rfl) (by kernel_rfl) HS (fun w9 h9 => by obtain ⟨h8, h9⟩ := h9; go_simp; first | done | rfl) (fun K hK => ?_); go_simp; refine hK _ ?_; clear hK K
                  refine lexD_take (by kernel_rfl) (by kernel_rfl) HS (fun w9 h9 => by obtain ⟨h8, h9⟩ := h9; go_simp; first | done | rfl) (fun K hK => ?_); go_simp; refine hK _ ?_; clear hK K
                  refine lexD_take (by kernel_rfl) (by kernel_rfl) HS (fun w9 h9 => by obtain ⟨h8, h9⟩ := h9; go_simp; first | done | rfl) (fun K hK => ?_); go_simp; refine hK _ ?_; clear hK K
                  refine lexD_take (by kernel_rfl) (by kernel_rfl) HS (fun w9 h9 => by obtain ⟨h8, h9⟩ := h9; go_simp; first | done | rfl) (fun K hK => ?_); go_simp; refine hK _ ?_; clear hK K
                  refine lexD_take (by kernel_rfl) (by kernel_rfl) HS (fun w9 h9 => by obtain ⟨h8, h9⟩ := h9; go_simp; first | done | rfl) (fun K hK => ?_); go_simp; refine hK _ ?_; clear hK K
                  refine lexD_take (by kernel_rfl) (by kernel_rfl) HS (fun w9 h9 => by obtain ⟨h8, h9⟩ := h9; go_simp; first | done | rfl) (fun K hK => ?_); go_simp; refine hK _ ?_; clear hK K
                  refine lexD_take (by kernel_rfl) (by kernel_rfl) HS (fun w9 h9 => by obtain ⟨h8, h9⟩ := h9; go_simp; first | done | rfl) (fun K hK => ?_); go_simp; refine hK _ ?_; clear hK K
                  refine lexD_take (by kernel_rfl) (by kernel_rfl) HS (fun w9 h9 => by obtain ⟨h8, h9⟩ := h9; go_simp; first | done | rfl) (fun K hK => ?_); go_simp; refine hK _ ?_; clear hK K
                  refine lexD_take (by kernel_rfl) (by kernel_rfl) HS (fun w9 h9 => by obtain ⟨h8, h9⟩ := h9; go_simp; first | done | rfl) (fun K hK => ?_); go_simp; refine hK _ ?_; clear hK K
                  refine lexD_nil ?_
                  clear HS hc1 hc2' HWq
                  generalize wr.drew = wd at *
                  go_wp2
                  go_roundw
                  case rel => exact ⟨k + 1, by omega, by go_num, by rw [HT.out], HWd⟩
                  case measure => simp [intOf] <;> omega
              · obtain rfl : k = xs.length := by omega
                rw [List.take_length, decide_eq_true HZ.out]
                go_wp2
                go_roundw
                case rel => exact ⟨i + 1, by omega, by go_num, HWq⟩
                case measure => simp [intOf] <;> omega
          · obtain rfl : i = ys.length := by omega
            go_wp2
            go_ret
            exact ⟨rfl, HBb.out.bel.trans (HWr.out.mono HBb.out.sz)⟩
      · rw [decide_eq_false hyx]
        clear hyx HW
        go_wp2
        go_loopw [14] (fun v wr => v = .int .i64 0 ∧ wr = wb) (fun v _ => 0)
        case atStart => exact ⟨rfl, rfl⟩
        case round =>
          obtain ⟨rfl, hwr⟩ := hrel
          have hwr' := hwr.symm
          subst hwr'
          by_cases h0 : 0 < ys.length
          · go_wp2
            go_ret
            exact ⟨rfl, HBb.out.bel⟩
          · obtain h1 : ys.length = 0 := by omega
            go_wp2
            go_ret
            exact ⟨rfl, HBb.out.bel⟩
end Go.Proofs.Ytbflmgpcjfoifaa
