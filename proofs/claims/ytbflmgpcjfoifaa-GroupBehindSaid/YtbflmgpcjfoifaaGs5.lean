/- Walk of the statement GroupBehind. -/
import Derived.Test.YtbflmgpcjfoifaaGs2
import Derived.Test.YtbflmgpcjfoifaaGq11
import Derived.Deep.CutBlock
set_option linter.unusedSimpArgs false
set_option linter.unusedVariables false
namespace Go.Proofs.Ytbflmgpcjfoifaa
open Go.RowKit Go.Sel Go.Sel.Gp

theorem BL.behind {base : Nat} {w0 w : World} {gb rb : Nat} {S : List G} {next : Int} {k : Nat} (h : BL base w0 w gb rb S next) (hi : Inv S next k) (hk : k ≤ 1000) :
    Calls Try.prog 24 #[.pointer (some ⟨gb, 0, none⟩)] w fun e w' => (∃ A c, e = .returned (.slice A (behindS S).length c) ∧ Rd w' A (behindS S).length c (iv .i64 (behindS S))) ∧ BL base w0 w' gb rb S next ∧ Below w.heap.size w w' := by
  obtain ⟨Fg, hg⟩ := h.gp
  refine (pBehind_any Fg w gb S next (hg _ (Below.refl _ _)) hi.ok (by have := hi.len; omega) hi.rise (hi.wf (by omega)) (fun x hx => by have := hi.behind x hx; omega) (by have := hi.behindl; omega)).mono ?_
  rintro e w' ⟨⟨v, rfl, A, c, rfl, hr⟩, hB⟩
  exact ⟨⟨A, c, rfl, hr⟩, h.step hB, hB⟩
theorem BL.engaged {base : Nat} {w0 w : World} {gb rb : Nat} {S : List G} {next : Int} {k : Nat} (h : BL base w0 w gb rb S next) (hi : Inv S next k) (hk : k ≤ 1000) :
    Calls Try.prog 25 #[.pointer (some ⟨gb, 0, none⟩)] w fun e w' => (∃ A c, e = .returned (.slice A (engagedS S).length c) ∧ Rd w' A (engagedS S).length c (iv .i64 (engagedS S))) ∧ BL base w0 w' gb rb S next ∧ Below w.heap.size w w' := by
  obtain ⟨Fg, hg⟩ := h.gp
  refine (pEngaged_any Fg w gb S next (hg _ (Below.refl _ _)) (by have := hi.len; omega) hi.rise (hi.wf (by omega))).mono ?_
  rintro e w' ⟨⟨v, rfl, A, c, rfl, hr⟩, hB⟩
  exact ⟨⟨A, c, rfl, hr⟩, h.step hB, hB⟩
theorem mem_engagedS {S : List G} {x : Int} : x ∈ engagedS S ↔ ∃ g ∈ S, g.st = 2 ∧ g.n = x := by
  unfold engagedS
  simp only [List.mem_map, List.mem_filter, decide_eq_true_eq, and_assoc]

set_option maxRecDepth 100000 in
set_option maxHeartbeats 8000000 in
theorem law_GroupBehind (A : Option Addr) (n c : Nat) (L : List D3) (w : World) (hL : Dd w A n c L) : Calls Try.prog 8 #[.slice A n c] w fun e w' => e = .returned (.bool true) ∧ Below w.heap.size w w' := by
  have HL := Lib.hid hL
  have HI := Lib.hid (play_inv hL)
  have l1 := hL.rd.le
  have l2 := hL.rd.cap
  clear hL
  go_enter Try.func8, Try.ntmps8
  go_upto_region 4 with (first
    | (go_at_call 12; (with_reducible refine (play_any _ _ _ L _ HL.out).mono ?_); rintro e w1 ⟨gb, rb, rfl, hb⟩; have HB1 := Lib.hid hb; clear hb)
    | (go_at_call 13; (with_reducible refine (live_any _).mono ?_); rintro e w2 ⟨rfl, hB⟩; have HB2 := Lib.hid (HB1.out.step hB); clear hB))
  generalize (playK L (min n 60)).1 = S at *
  generalize (playK L (min n 60)).2 = next at *
  have HH : Hid (∀ x ∈ engagedS S, ∀ a ∈ aheadS S x, ∀ p ∈ patchesS S a, p ∈ behindS S) := fun x hx a ha p hp => by
    obtain ⟨g, hg, h2, rfl⟩ := mem_engagedS.1 hx
    exact mem_behindS.2 ⟨g, hg, h2, a, ha, hp⟩
  have HZ : Hid (engagedS S = [] → behindS S = []) := fun h => by
    apply List.eq_nil_iff_forall_not_mem.2
    intro p hp
    obtain ⟨g, hg, h2, _⟩ := mem_behindS.1 hp
    have := mem_engagedS.2 ⟨g, hg, h2, rfl⟩
    rw [h] at this
    cases this
  go_upto_block 0 with (first
    | (go_at_call 24; (with_reducible refine (HB2.out.behind HI.out (by omega)).mono ?_); rintro e wa ⟨⟨A1, c1, rfl, hr⟩, hb, _⟩; have HR1 := Lib.hid hr; have HBa := Lib.hid hb; clear hr hb HB2)
    | (go_at_call 25; (with_reducible refine (HBa.out.engaged HI.out (by omega)).mono ?_); rintro e wb ⟨⟨A2, c2, rfl, hr⟩, hb, hB⟩; have HR2 := Lib.hid hr; have HBb := Lib.hid hb; have HR1b := Lib.hid (HR1.out.below hB); clear hr hb hB HBa HR1))
  generalize behindS S = bs at *
  generalize engagedS S = on at *
  have p1 := HR1b.out.le
  have p2 := HR1b.out.cap
  have p3 := HR2.out.le
  have p4 := HR2.out.cap
  go_wp2_with (fail)
  go_loopw [8] (fun v wr => ∃ i : Nat, i ≤ on.length ∧ v = .int .i64 (i : Int) ∧ Hid (BL w.heap.size w wr gb rb S next) ∧ Hid (Below wb.heap.size wb wr)) (fun v _ => on.length - (intOf v).toNat)
  case atStart => exact ⟨0, by omega, rfl, HBb, Below.refl _ _⟩
  case round =>
    clear HBb
    obtain ⟨i, hi, rfl, HBi, HWi⟩ := hrel
    by_cases hil : i < on.length
    · obtain ⟨b, off, rfl, hc⟩ := Rd.cell_i (HR2.out.below HWi.out) hil
      have HX := Lib.hid (HH.out on[i] (List.getElem_mem hil))
      generalize on[i] = x at *
      go_upto_block 2 with (go_at_call 14; (with_reducible refine (HBi.out.ahead HI.out (by omega) x).mono ?_); rintro e wc ⟨⟨A3, c3, rfl, hr⟩, hb, hB⟩; have HR3 := Lib.hid hr; have HBc := Lib.hid hb; have HWc := Lib.hid (below_j HWi.out hB); clear hr hb hB HBi HWi)
      generalize aheadS S x = xs at *
      have p5 := HR3.out.le
      have p6 := HR3.out.cap
      go_wp2_with (fail)
      go_loopw [10] (fun v wr => ∃ k : Nat, k ≤ xs.length ∧ v = .int .i64 (k : Int) ∧ Hid (BL w.heap.size w wr gb rb S next) ∧ Hid (Below wc.heap.size wc wr)) (fun v _ => xs.length - (intOf v).toNat)
      case atStart => exact ⟨0, by omega, rfl, HBc, Below.refl _ _⟩
      case round =>
        clear HBc
        obtain ⟨k, hk, rfl, HBk, HWk⟩ := hrel
        by_cases hkl : k < xs.length
        · obtain ⟨b3, off3, rfl, hc3⟩ := Rd.cell_i (HR3.out.below HWk.out) hkl
          have HY := Lib.hid (HX.out xs[k] (List.getElem_mem hkl))
          generalize xs[k] = a at *
          go_upto_block 4 with (go_at_call 16; (with_reducible refine (HBk.out.patches HI.out (by omega) a).mono ?_); rintro e wd ⟨⟨A4, c4, rfl, hr⟩, hb, hB⟩; have HR4 := Lib.hid hr; have HBd := Lib.hid hb; have HWd := Lib.hid (below_j HWk.out hB); clear hr hb hB HBk HWk)
          generalize patchesS S a = ps at *
          have p7 := HR4.out.le
          have p8 := HR4.out.cap
          go_wp2_with (fail)
          go_loopw [12] (fun v wr => ∃ m : Nat, m ≤ ps.length ∧ v = .int .i64 (m : Int) ∧ Hid (Below wd.heap.size wd wr)) (fun v _ => ps.length - (intOf v).toNat)
          case atStart => exact ⟨0, by omega, rfl, Below.refl _ _⟩
          case round =>
            obtain ⟨m, hm, rfl, HWm⟩ := hrel
            by_cases hml : m < ps.length
            · obtain ⟨b4, off4, rfl, hc4⟩ := Rd.cell_i (HR4.out.below HWm.out) hml
              have HZ2 := Lib.hid (HY.out ps[m] (List.getElem_mem hml))
              generalize hz : ps[m] = z at *
              go_upto_block 6 with (fail)
              go_wp2_with (fail)
              go_loopw [13, 14] (fun u v wr => ∃ j : Nat, j ≤ bs.length ∧ v = .int .i64 (j : Int) ∧ u = .bool (decide (z ∈ bs.take j)) ∧ Hid (Below wd.heap.size wd wr)) (fun _ v _ => bs.length - (intOf v).toNat)
              case atStart => exact ⟨0, by omega, rfl, by simp, HWm⟩
              case round =>
                obtain ⟨j, hj, rfl, rfl, HWj⟩ := hrel
                by_cases hjl : j < bs.length
                · obtain ⟨b1, off1, rfl, hc1⟩ := Rd.cell_i (HR1b.out.below (HWc.out.trans ((HWd.out.trans (HWj.out.mono HWd.out.size)).mono HWc.out.size))) hjl
                  obtain ⟨b4', off4', e4, hc4'⟩ := Rd.cell_i (HR4.out.below HWj.out) hml
                  cases e4
                  rw [hz] at hc4'
                  have HT : Hid (decide (z ∈ bs.take (j + 1)) = (decide (z ∈ bs.take j) || (bs[j] == z))) := by
                    show _ = _
                    rw [List.take_succ_eq_append_getElem hjl, Bool.eq_iff_iff]
                    simp only [List.mem_append, List.mem_singleton, decide_eq_true_eq, Bool.or_eq_true, beq_iff_eq]
                    exact or_congr Iff.rfl ⟨Eq.symm, Eq.symm⟩
                  have HWe : Hid (Below wd.heap.size wd wr.drew) := HWj.out.trans ((Sel.below_drewN wr 1).mono HWj.out.size)
                  generalize bs[j] = q at *
                  cases hq : decide (z ∈ bs.take j) with
                  | true =>
                    rw [hq, Bool.true_or] at HT
                    clear hq
                    go_upto_region 21 with (fail)
                    have HS : At (fun w' : World => w'.cell? ⟨b1, off1 + j, none⟩ = some (.int .i64 q) ∧ w'.cell? ⟨b4, off4 + m, none⟩ = some (.int .i64 z)) wr.drew := ⟨hc1, hc4'⟩
                    refine wp_region_lexD HS [0, 1, 2, 3, 4, 5, 6, 7, 8, 9, 10, 11, 12] (by kernel_rfl) (by kernel_rfl) (fun _ _ d _ _ h => by cases d <;> exact h) ?_
                    refine lexD_take (by kernel_rfl) (by kernel_rfl) HS (fun w9 h9 => by obtain ⟨h8, h9⟩ := h9; go_simp; first | done | rfl) (fun K hK => ?_); go_simp; refine hK _ ?_; clear hK K
                    refine lexD_take (by kernel_rfl) (by kernel_rfl) HS (fun w9 h9 => by obtain ⟨h8, h9⟩ := h9; go_simp; first | done | rfl) (fun K hK => ?_); go_simp; refine hK _ ?_; clear hK K
                    refine lexD_skip (by kernel_rfl) (by kernel_rfl) HS (fun K hK => ?_); go_simp; refine hK _ ?_; clear hK K
                    refine lexD_skip (by kernel_rfl) (by kernel_rfl) HS (fun K hK => ?_); go_simp; refine hK _ ?_; clear hK K
                    refine lexD_skip (by kernel_rfl) (by kernel_rfl) HS (fun K hK => ?_); go_simp; refine hK _ ?_; clear hK K
                    refine lexD_skip (by kernel_rfl) (by kernel_rfl) HS (fun K hK => ?_); go_simp; refine hK _ ?_; clear hK K
                    refine lexD_skip (by kernel_rfl) (by kernel_rfl) HS (fun K hK => ?_); go_simp; refine hK _ ?_; clear hK K
                    refine lexD_skip (by kernel_rfl) (by kernel_rfl) HS (fun K hK => ?_); go_simp; refine hK _ ?_; clear hK K
                    refine lexD_skip (by kernel_rfl) (by kernel_rfl) HS (fun K hK => ?_); go_simp; refine hK _ ?_; clear hK K
                    refine lexD_skip (by kernel_rfl) (by kernel_rfl) HS (fun K hK => ?_); go_simp; refine hK _ ?_; clear hK K
                    refine lexD_skip (by kernel_rfl) (by kernel_rfl) HS (fun K hK => ?_); go_simp; refine hK _ ?_; clear hK K
                    refine lexD_take (by kernel_rfl) (by kernel_rfl) HS (fun w9 h9 => by obtain ⟨h8, h9⟩ := h9; go_simp; first | done | rfl) (fun K hK => ?_); go_simp; refine hK _ ?_; clear hK K
                    refine lexD_take (by kernel_rfl) (by kernel_rfl) HS (fun w9 h9 => by obtain ⟨h8, h9⟩ := h9; go_simp; first | done | rfl) (fun K hK => ?_); go_simp; refine hK _ ?_; clear hK K
                    refine lexD_nil ?_
                    clear HS hc1 hc4' HWj
                    generalize wr.drew = we at *
                    go_wp2
                    go_roundw
                    case rel => exact ⟨j + 1, by omega, by go_num, by rw [HT.out], HWe⟩
                    case measure => simp [intOf] <;> omega
                  | false =>
                    rw [hq, Bool.false_or] at HT
                    clear hq
                    go_upto_region 21 with (fail)
                    have HS : At (fun w' : World => w'.cell? ⟨b1, off1 + j, none⟩ = some (.int .i64 q) ∧ w'.cell? ⟨b4, off4 + m, none⟩ = some (.int .i64 z)) wr.drew := ⟨hc1, hc4'⟩
                    refine wp_region_lexD HS [0, 1, 2, 3, 4, 5, 6, 7, 8, 9, 10, 11, 12] (by kernel_rfl) (by kernel_rfl) (fun _ _ d _ _ h => by cases d <;> exact h) ?_
                    refine lexD_take (by kernel_rfl) (by kernel_rfl) HS (fun w9 h9 => by obtain ⟨h8, h9⟩ := h9; go_simp; first | done | rfl) (fun K hK => ?_); go_simp; refine hK _ ?_; clear hK K
                    refine lexD_take (by kernel_rfl) (by kernel_rfl) HS (fun w9 h9 => by obtain ⟨h8, h9⟩ := h9; go_simp; first | done | rfl) (fun K hK => ?_); go_simp; refine hK _ ?_; clear hK K
                    refine lexD_take (by kernel_rfl) (by kernel_rfl) HS (fun w9 h9 => by obtain ⟨h8, h9⟩ := h9; go_simp; first | done | rfl) (fun K hK => ?_); go_simp; refine hK _ ?_; clear hK K
                    refine lexD_take (by kernel_rfl) (by kernel_rfl) HS (fun w9 h9 => by obtain ⟨h8, h9⟩ := h9; go_simp; first | done | rfl) (fun K hK => ?_); go_simp; refine hK _ ?_; clear hK K
                    refine lexD_take (by kernel_rfl) (by kernel_rfl) HS (fun w9 h9 => by obtain ⟨h8, h9⟩ := h9; go_simp; first | done | rfl) (fun K hK => ?_); go_simp; refine hK _ ?_; clear hK K
                    refine lexD_take (by kernel_rfl) (by kernel_rfl) HS (fun w9 h9 => by obtain ⟨h8, h9⟩ := h9; go_simp; first | done | rfl) (fun K hK => ?_); go_simp; refine hK _ ?_; clear hK K
                    refine lexD_take (by kernel_rfl) (by kernel_rfl) HS (fun w9 h9 => by obtain ⟨h8, h9⟩ := h9; go_simp; first | done | rfl) (fun K hK => ?_); go_simp; refine hK _ ?_; clear hK K
                    refine lexD_take (by kernel_rfl) (by kernel_rfl) HS (fun w9 h9 => by obtain ⟨h8, h9⟩ := h9; go_simp; first | done | rfl) (fun K hK => ?_); go_simp; refine hK _ ?_; clear hK K
                    refine lexD_take (by kernel_rfl) (by kernel_rfl) HS (fun w9 h9 => by obtain ⟨h8, h9⟩ := h9; go_simp; first | done | rfl) (fun K hK => ?_); go_simp; refine hK _ ?_; clear hK K
                    refine lexD_take (by kernel_rfl) (by kernel_rfl) HS (fun w9 h9 => by obtain ⟨h8, h9⟩ := h9; go_simp; first | done | rfl) (fun K hK => ?_); go_simp; refine hK _ ?_; clear hK K
                    refine lexD_take (by kernel_rfl) (by kernel_rfl) HS (fun w9 h9 => by obtain ⟨h8, h9⟩ := h9; go_simp; first | done | rfl) (fun K hK => ?_); go_simp; refine hK _ ?_; clear hK K
                    refine lexD_take (by kernel_rfl) (by kernel_rfl) HS (fun w9 h9 => by obtain ⟨h8, h9⟩ := h9; go_simp; first | done | rfl) (fun K hK => ?_); go_simp; refine hK _ ?_; clear hK K
                    refine lexD_take (by kernel_rfl) (by kernel_rfl) HS (fun w9 h9 => by obtain ⟨h8, h9⟩ := h9; go_simp; first | done | rfl) (fun K hK => ?_); go_simp; refine hK _ ?_; clear hK K
                    refine lexD_nil ?_
                    clear HS hc1 hc4' HWj
                    generalize wr.drew = we at *
                    go_wp2
                    go_roundw
                    case rel => exact ⟨j + 1, by omega, by go_num, by rw [HT.out], HWe⟩
                    case measure => simp [intOf] <;> omega
                · obtain rfl : j = bs.length := by omega
                  rw [List.take_length, decide_eq_true HZ2.out]
                  go_wp2
                  go_roundw
                  case rel => exact ⟨m + 1, by omega, by go_num, HWj⟩
                  case measure => simp [intOf] <;> omega
            · obtain rfl : m = ps.length := by omega
              have HBm : Hid (BL w.heap.size w wr gb rb S next) := HBd.out.step HWm.out
              have HWn : Hid (Below wc.heap.size wc wr) := below_j HWd.out HWm.out
              go_wp2
              go_roundw
              case rel => exact ⟨k + 1, by omega, by go_num, HBm, HWn⟩
              case measure => simp [intOf] <;> omega
        · obtain rfl : k = xs.length := by omega
          have HWn : Hid (Below wb.heap.size wb wr) := below_j HWc.out HWk.out
          go_wp2
          go_roundw
          case rel => exact ⟨i + 1, by omega, by go_num, HBk, HWn⟩
          case measure => simp [intOf] <;> omega
    · obtain rfl : i = on.length := by omega
      cases on with
      | nil =>
        obtain rfl : bs = [] := HZ.out rfl
        go_wp2
        go_ret
        exact ⟨rfl, HBi.out.bel⟩
      | cons o os =>
        have d1 : decide (0 < ((o :: os).length : Int)) = true := by simp
        go_wp2
        go_ret
        exact ⟨rfl, HBi.out.bel⟩
end Go.Proofs.Ytbflmgpcjfoifaa
