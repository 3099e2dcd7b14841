/- Walk of the statement GroupRound. -/
import Derived.Test.YtbflmgpcjfoifaaGs1
set_option linter.unusedSimpArgs false
set_option linter.unusedVariables false
namespace Go.Proofs.Ytbflmgpcjfoifaa
open Go.RowKit Go.Sel Go.Sel.Gp

theorem BL.ahead {base : Nat} {w0 w : World} {gb rb : Nat} {S : List G} {next : Int} {k : Nat} (h : BL base w0 w gb rb S next) (hi : Inv S next k) (hk : k ≤ 1000) (n : Int) :
    Calls Try.prog 14 #[.pointer (some ⟨gb, 0, none⟩), .int .i64 n] w fun e w' => (∃ A c, e = .returned (.slice A (aheadS S n).length c) ∧ Rd w' A (aheadS S n).length c (iv .i64 (aheadS S n))) ∧ BL base w0 w' gb rb S next ∧ Below w.heap.size w w' := by
  obtain ⟨Fg, hg⟩ := h.gp
  refine (pAhead_any Fg w gb S next (hg _ (Below.refl _ _)) n hi.ok (by have := hi.len; omega) (hi.wf (by omega))).mono ?_
  rintro e w' ⟨⟨v, rfl, A, c, rfl, hr⟩, hB⟩
  exact ⟨⟨A, c, rfl, hr⟩, h.step hB, hB⟩
theorem BL.state {base : Nat} {w0 w : World} {gb rb : Nat} {S : List G} {next : Int} (h : BL base w0 w gb rb S next) (n : Int) :
    Calls Try.prog 15 #[.pointer (some ⟨gb, 0, none⟩), .int .i64 n] w fun e w' => e = .returned (.int .u8 (stateS S n)) ∧ w' = w := by
  obtain ⟨Fg, hg⟩ := h.gp
  exact pState_any Fg w gb S next (hg _ (Below.refl _ _)) n
theorem BL.patches {base : Nat} {w0 w : World} {gb rb : Nat} {S : List G} {next : Int} {k : Nat} (h : BL base w0 w gb rb S next) (hi : Inv S next k) (hk : k ≤ 1000) (n : Int) :
    Calls Try.prog 16 #[.pointer (some ⟨gb, 0, none⟩), .int .i64 n] w fun e w' => (∃ A c, e = .returned (.slice A (patchesS S n).length c) ∧ Rd w' A (patchesS S n).length c (iv .i64 (patchesS S n))) ∧ BL base w0 w' gb rb S next ∧ Below w.heap.size w w' := by
  obtain ⟨Fg, hg⟩ := h.gp
  refine (pPatches_any Fg w gb S next (hg _ (Below.refl _ _)) n (by have := (hi.patches n).2.2; omega) (hi.patches n).1 (fun x hx => by have := (hi.patches n).2.1 x hx; omega)).mono ?_
  rintro e w' ⟨⟨v, rfl, A, c, rfl, hr⟩, hB⟩
  exact ⟨⟨A, c, rfl, hr⟩, h.step hB, hB⟩
theorem bl_drew {base : Nat} {w0 w : World} {gb rb : Nat} {S : List G} {next : Int} (h : BL base w0 w gb rb S next) : BL base w0 w.drew gb rb S next := h.step (Sel.below_drewN w 1)

set_option maxRecDepth 100000 in
set_option maxHeartbeats 4000000 in
theorem law_GroupRound (A : Option Addr) (n c : Nat) (L : List D3) (w : World) (hL : Dd w A n c L) : Calls Try.prog 3 #[.slice A n c] w fun e w' => e = .returned (.bool true) ∧ Below w.heap.size w w' := by
  have HL := Lib.hid hL
  have HI := Lib.hid (play_inv hL)
  have l1 := hL.rd.le
  have l2 := hL.rd.cap
  clear hL
  go_enter Try.func3, Try.ntmps3
  go_wp2_with (first
    | (go_at_call 12; (with_reducible refine (play_any _ _ _ L _ HL.out).mono ?_); rintro e w1 ⟨gb, rb, rfl, hb⟩; have HB1 := Lib.hid hb; clear hb)
    | (go_at_call 13; (with_reducible refine (live_any _).mono ?_); rintro e w2 ⟨rfl, hB⟩; have HB2 := Lib.hid (HB1.out.step hB); clear hB))
  generalize (playK L (min n 60)).1 = S at *
  generalize (playK L (min n 60)).2 = next at *
  have HA : Hid (∀ x y, y ∈ aheadS S x → y ≠ x ∧ x ∉ aheadS S y) := fun x y hy => by
    have hok := HI.out.ok
    have h1 := (mem_aheadS hok).1 hy
    refine ⟨fun e => hok.irr (e ▸ h1), fun hx => hok.irr (h1.trans ((mem_aheadS hok).1 hx))⟩
  have HRI : Hid (∀ x, (aheadS S x).Pairwise (· < ·)) := fun x => aheadS_rises S x
  go_loopw [6] (fun v wr => ∃ j : Nat, j ≤ 30 ∧ v = .int .i64 (j : Int) ∧ Hid (BL w.heap.size w wr gb rb S next)) (fun v _ => 30 - (intOf v).toNat)
  case atStart => exact ⟨0, by omega, rfl, HB2⟩
  case round =>
    clear HB2
    obtain ⟨j, hj, rfl, HB⟩ := hrel
    by_cases hlt : j < 30
    · have HA1 := Lib.hid (HA.out (j : Int))
      have HR1 := Lib.hid (HRI.out (j : Int))
      go_wp2_with (go_at_call 14; (with_reducible refine (HB.out.ahead HI.out (by omega) _).mono ?_); rintro e wa ⟨⟨A1, c1, rfl, hr⟩, hb, _⟩; have HR := Lib.hid hr; have HBa := Lib.hid hb; clear hr hb)
      generalize aheadS S (j : Int) = xs at *
      have m1 := HR.out.le
      have m2 := HR.out.cap
      go_loopw [8] (fun v wr => ∃ i : Nat, i ≤ xs.length ∧ v = .int .i64 (i : Int) ∧ Hid (BL w.heap.size w wr gb rb S next) ∧ Hid (Below wa.heap.size wa wr)) (fun v _ => xs.length - (intOf v).toNat)
      case atStart => exact ⟨0, by omega, rfl, HBa, Below.refl _ _⟩
      case round =>
        obtain ⟨i, hi, rfl, HBi, HWi⟩ := hrel
        by_cases hil : i < xs.length
        · obtain ⟨b, off, rfl, hc⟩ := Rd.cell_i (HR.out.below HWi.out) hil
          have hne := (HA1.out xs[i] (List.getElem_mem hil)).1
          have HNI := Lib.hid (HA1.out xs[i] (List.getElem_mem hil)).2
          have q1 : (xs[i] == (j : Int)) = false := by simpa using hne
          clear hne
          cases i with
          | zero =>
            generalize xs[0] = x at *
            go_upto_region 11 with (fail)
            have HS : At (fun w' : World => w'.cell? ⟨b, off, none⟩ = some (.int .i64 x)) wr.drew := hc
            have HBd := Lib.hid (bl_drew HBi.out)
            have hcd : wr.drew.cell? ⟨b, off, none⟩ = some (.int .i64 x) := hc
            clear hc
            refine wp_region_lexD HS [0, 1, 2, 3, 4, 5, 6, 7, 8, 9, 10, 11, 12, 13, 14, 15, 16, 17, 18, 19, 20, 21] (by kernel_rfl) (by kernel_rfl) (fun _ _ d _ _ h => by cases d <;> exact h) ?_
            refine lexD_take (by kernel_rfl) (by kernel_rfl) HS (fun w9 h9 => by obtain h9 := h9; go_simp; first | done | rfl) (fun K hK => ?_); go_simp; refine hK _ ?_; clear hK K
            refine lexD_take (by kernel_rfl) (by kernel_rfl) HS (fun w9 h9 => by obtain h9 := h9; go_simp; first | done | rfl) (fun K hK => ?_); go_simp; refine hK _ ?_; clear hK K
            refine lexD_take (by kernel_rfl) (by kernel_rfl) HS (fun w9 h9 => by obtain h9 := h9; go_simp; first | done | rfl) (fun K hK => ?_); go_simp; refine hK _ ?_; clear hK K
            refine lexD_take (by kernel_rfl) (by kernel_rfl) HS (fun w9 h9 => by obtain h9 := h9; go_simp; first | done | rfl) (fun K hK => ?_); go_simp; refine hK _ ?_; clear hK K
            refine lexD_take (by kernel_rfl) (by kernel_rfl) HS (fun w9 h9 => by obtain h9 := h9; go_simp; first | done | rfl) (fun K hK => ?_); go_simp; refine hK _ ?_; clear hK K
            refine lexD_take (by kernel_rfl) (by kernel_rfl) HS (fun w9 h9 => by obtain h9 := h9; go_simp; first | done | rfl) (fun K hK => ?_); go_simp; refine hK _ ?_; clear hK K
            refine lexD_take (by kernel_rfl) (by kernel_rfl) HS (fun w9 h9 => by obtain h9 := h9; go_simp; first | done | rfl) (fun K hK => ?_); go_simp; refine hK _ ?_; clear hK K
            refine lexD_take (by kernel_rfl) (by kernel_rfl) HS (fun w9 h9 => by obtain h9 := h9; go_simp; first | done | rfl) (fun K hK => ?_); go_simp; refine hK _ ?_; clear hK K
            refine lexD_take (by kernel_rfl) (by kernel_rfl) HS (fun w9 h9 => by obtain h9 := h9; go_simp; first | done | rfl) (fun K hK => ?_); go_simp; refine hK _ ?_; clear hK K
            refine lexD_take (by kernel_rfl) (by kernel_rfl) HS (fun w9 h9 => by obtain h9 := h9; go_simp; first | done | rfl) (fun K hK => ?_); go_simp; refine hK _ ?_; clear hK K
            refine lexD_skip (by kernel_rfl) (by kernel_rfl) HS (fun K hK => ?_); go_simp; refine hK _ ?_; clear hK K
            refine lexD_skip (by kernel_rfl) (by kernel_rfl) HS (fun K hK => ?_); go_simp; refine hK _ ?_; clear hK K
            refine lexD_skip (by kernel_rfl) (by kernel_rfl) HS (fun K hK => ?_); go_simp; refine hK _ ?_; clear hK K
            refine lexD_skip (by kernel_rfl) (by kernel_rfl) HS (fun K hK => ?_); go_simp; refine hK _ ?_; clear hK K
            refine lexD_skip (by kernel_rfl) (by kernel_rfl) HS (fun K hK => ?_); go_simp; refine hK _ ?_; clear hK K
            refine lexD_skip (by kernel_rfl) (by kernel_rfl) HS (fun K hK => ?_); go_simp; refine hK _ ?_; clear hK K
            refine lexD_skip (by kernel_rfl) (by kernel_rfl) HS (fun K hK => ?_); go_simp; refine hK _ ?_; clear hK K
            refine lexD_skip (by kernel_rfl) (by kernel_rfl) HS (fun K hK => ?_); go_simp; refine hK _ ?_; clear hK K
            refine lexD_skip (by kernel_rfl) (by kernel_rfl) HS (fun K hK => ?_); go_simp; refine hK _ ?_; clear hK K
            refine lexD_skip (by kernel_rfl) (by kernel_rfl) HS (fun K hK => ?_); go_simp; refine hK _ ?_; clear hK K
            refine lexD_take (by kernel_rfl) (by kernel_rfl) HS (fun w9 h9 => by obtain h9 := h9; go_simp; first | done | rfl) (fun K hK => ?_); go_simp; refine hK _ ?_; clear hK K
            refine lexD_take (by kernel_rfl) (by kernel_rfl) HS (fun w9 h9 => by obtain h9 := h9; go_simp; first | done | rfl) (fun K hK => ?_); go_simp; refine hK _ ?_; clear hK K
            refine lexD_nil ?_
            clear HBi HS
            have HWd : Hid (Below wa.heap.size wa wr.drew) := HWi.out.trans ((Sel.below_drewN wr 1).mono HWi.out.size)
            clear HWi
            generalize wr.drew = wd at *
            go_wp2_with (go_at_call 14; (with_reducible refine (HBd.out.ahead HI.out (by omega) x).mono ?_); rintro e wb ⟨⟨A2, c2, rfl, hr⟩, hb, hB⟩; have HR2 := Lib.hid hr; have HBb := Lib.hid hb; have HWb := Lib.hid (below_j HWd.out hB); clear hr hb hB)
            generalize aheadS S x = ys at *
            have p1 := HR2.out.le
            have p2 := HR2.out.cap
            go_loopw [10] (fun v wr => ∃ k2 : Nat, k2 ≤ ys.length ∧ v = .int .i64 (k2 : Int) ∧ wr = wb) (fun v _ => ys.length - (intOf v).toNat)
            case atStart => exact ⟨0, by omega, rfl, rfl⟩
            case round =>
              obtain ⟨k2, hk2, rfl, hwr⟩ := hrel
              subst hwr
              by_cases hkl : k2 < ys.length
              · obtain ⟨b3, off3, rfl, hc3⟩ := Rd.cell_i HR2.out hkl
                have q5 : (ys[k2] == (j : Int)) = false := by
                  rw [beq_eq_false_iff_ne]
                  exact fun e => HNI.out (by rw [← e]; exact List.getElem_mem hkl)
                generalize ys[k2] = z at *
                go_wp2
                go_roundw
                case rel => exact ⟨k2 + 1, by omega, by go_num, by first | trivial | rfl⟩
                case measure => simp [intOf] <;> omega
              · obtain rfl : k2 = ys.length := by omega
                go_wp2
                go_roundw
                case rel => exact ⟨0 + 1, by omega, by go_num, HBb, HWb⟩
                case measure => simp [intOf] <;> omega
          | succ i =>
            have hi1 : i < xs.length := by omega
            have hw1 : IntKind.i64.wrap (i : Int) = (i : Int) := IntWalk.i64_in _ (by omega)
            obtain ⟨b', off', e, hc'⟩ := Rd.cell_i (HR.out.below HWi.out) hi1
            cases e
            have hlt2 := List.pairwise_iff_getElem.1 HR1.out i (i + 1) hi1 hil (by omega)
            generalize xs[i + 1] = x at *
            generalize xs[i] = y at *
            have q2 : decide (x ≤ y) = false := by simp; omega
            clear hlt2
            go_upto_region 11 with (fail)
            have HS : At (fun w' : World => w'.cell? ⟨b, off + (i + 1), none⟩ = some (.int .i64 x) ∧ w'.cell? ⟨b, off + i, none⟩ = some (.int .i64 y)) wr.drew := ⟨hc, hc'⟩
            have HBd := Lib.hid (bl_drew HBi.out)
            have hcd : wr.drew.cell? ⟨b, off + (i + 1), none⟩ = some (.int .i64 x) := hc
            clear hc hc'
            refine wp_region_lexD HS [0, 1, 2, 3, 4, 5, 6, 7, 8, 9, 10, 11, 12, 13, 14, 15, 16, 17, 18, 19, 20, 21] (by kernel_rfl) (by kernel_rfl) (fun _ _ d _ _ h => by cases d <;> exact h) ?_
            refine lexD_take (by kernel_rfl) (by kernel_rfl) HS (fun w9 h9 => by obtain ⟨h8, h9⟩ := h9; go_simp; first | done | rfl) (fun K hK => ?_); go_simp; refine hK _ ?_; clear hK K
            refine lexD_take (by kernel_rfl) (by kernel_rfl) HS (fun w9 h9 => by obtain ⟨h8, h9⟩ := h9; go_simp; first | done | rfl) (fun K hK => ?_); go_simp; refine hK _ ?_; clear hK K
            refine lexD_take (by kernel_rfl) (by kernel_rfl) HS (fun w9 h9 => by obtain ⟨h8, h9⟩ := h9; go_simp; first | done | rfl) (fun K hK => ?_); go_simp; refine hK _ ?_; clear hK K
            refine lexD_take (by kernel_rfl) (by kernel_rfl) HS (fun w9 h9 => by obtain ⟨h8, h9⟩ := h9; go_simp; first | done | rfl) (fun K hK => ?_); go_simp; refine hK _ ?_; clear hK K
            refine lexD_take (by kernel_rfl) (by kernel_rfl) HS (fun w9 h9 => by obtain ⟨h8, h9⟩ := h9; go_simp; first | done | rfl) (fun K hK => ?_); go_simp; refine hK _ ?_; clear hK K
            refine lexD_take (by kernel_rfl) (by kernel_rfl) HS (fun w9 h9 => by obtain ⟨h8, h9⟩ := h9; go_simp; first | done | rfl) (fun K hK => ?_); go_simp; refine hK _ ?_; clear hK K
            refine lexD_take (by kernel_rfl) (by kernel_rfl) HS (fun w9 h9 => by obtain ⟨h8, h9⟩ := h9; go_simp; first | done | rfl) (fun K hK => ?_); go_simp; refine hK _ ?_; clear hK K
            refine lexD_take (by kernel_rfl) (by kernel_rfl) HS (fun w9 h9 => by obtain ⟨h8, h9⟩ := h9; go_simp; first | done | rfl) (fun K hK => ?_); go_simp; refine hK _ ?_; clear hK K
            refine lexD_take (by kernel_rfl) (by kernel_rfl) HS (fun w9 h9 => by obtain ⟨h8, h9⟩ := h9; go_simp; first | done | rfl) (fun K hK => ?_); go_simp; refine hK _ ?_; clear hK K
            refine lexD_take (by kernel_rfl) (by kernel_rfl) HS (fun w9 h9 => by obtain ⟨h8, h9⟩ := h9; go_simp; first | done | rfl) (fun K hK => ?_); go_simp; refine hK _ ?_; clear hK K
            refine lexD_take (by kernel_rfl) (by kernel_rfl) HS (fun w9 h9 => by obtain ⟨h8, h9⟩ := h9; go_simp; first | done | rfl) (fun K hK => ?_); go_simp; refine hK _ ?_; clear hK K
            refine lexD_take (by kernel_rfl) (by kernel_rfl) HS (fun w9 h9 => by obtain ⟨h8, h9⟩ := h9; go_simp; first | done | rfl) (fun K hK => ?_); go_simp; refine hK _ ?_; clear hK K
            refine lexD_take (by kernel_rfl) (by kernel_rfl) HS (fun w9 h9 => by obtain ⟨h8, h9⟩ := h9; go_simp; first | done | rfl) (fun K hK => ?_); go_simp; refine hK _ ?_; clear hK K
            refine lexD_take (by kernel_rfl) (by kernel_rfl) HS (fun w9 h9 => by obtain ⟨h8, h9⟩ := h9; go_simp; first | done | rfl) (fun K hK => ?_); go_simp; refine hK _ ?_; clear hK K
            refine lexD_take (by kernel_rfl) (by kernel_rfl) HS (fun w9 h9 => by obtain ⟨h8, h9⟩ := h9; go_simp; first | done | rfl) (fun K hK => ?_); go_simp; refine hK _ ?_; clear hK K
            refine lexD_take (by kernel_rfl) (by kernel_rfl) HS (fun w9 h9 => by obtain ⟨h8, h9⟩ := h9; go_simp; first | done | rfl) (fun K hK => ?_); go_simp; refine hK _ ?_; clear hK K
            refine lexD_take (by kernel_rfl) (by kernel_rfl) HS (fun w9 h9 => by obtain ⟨h8, h9⟩ := h9; go_simp; first | done | rfl) (fun K hK => ?_); go_simp; refine hK _ ?_; clear hK K
            refine lexD_take (by kernel_rfl) (by kernel_rfl) HS (fun w9 h9 => by obtain ⟨h8, h9⟩ := h9; go_simp; first | done | rfl) (fun K hK => ?_); go_simp; refine hK _ ?_; clear hK K
            refine lexD_take (by kernel_rfl) (by kernel_rfl) HS (fun w9 h9 => by obtain ⟨h8, h9⟩ := h9; go_simp; first | done | rfl) (fun K hK => ?_); go_simp; refine hK _ ?_; clear hK K
            refine lexD_take (by kernel_rfl) (by kernel_rfl) HS (fun w9 h9 => by obtain ⟨h8, h9⟩ := h9; go_simp; first | done | rfl) (fun K hK => ?_); go_simp; refine hK _ ?_; clear hK K
            refine lexD_take (by kernel_rfl) (by kernel_rfl) HS (fun w9 h9 => by obtain ⟨h8, h9⟩ := h9; go_simp; first | done | rfl) (fun K hK => ?_); go_simp; refine hK _ ?_; clear hK K
            refine lexD_take (by kernel_rfl) (by kernel_rfl) HS (fun w9 h9 => by obtain ⟨h8, h9⟩ := h9; go_simp; first | done | rfl) (fun K hK => ?_); go_simp; refine hK _ ?_; clear hK K
            refine lexD_nil ?_
            clear HBi HS
            have HWd : Hid (Below wa.heap.size wa wr.drew) := HWi.out.trans ((Sel.below_drewN wr 1).mono HWi.out.size)
            clear HWi
            generalize wr.drew = wd at *
            go_wp2_with (go_at_call 14; (with_reducible refine (HBd.out.ahead HI.out (by omega) x).mono ?_); rintro e wb ⟨⟨A2, c2, rfl, hr⟩, hb, hB⟩; have HR2 := Lib.hid hr; have HBb := Lib.hid hb; have HWb := Lib.hid (below_j HWd.out hB); clear hr hb hB)
            generalize aheadS S x = ys at *
            have p1 := HR2.out.le
            have p2 := HR2.out.cap
            go_loopw [10] (fun v wr => ∃ k2 : Nat, k2 ≤ ys.length ∧ v = .int .i64 (k2 : Int) ∧ wr = wb) (fun v _ => ys.length - (intOf v).toNat)
            case atStart => exact ⟨0, by omega, rfl, rfl⟩
            case round =>
              obtain ⟨k2, hk2, rfl, hwr⟩ := hrel
              subst hwr
              by_cases hkl : k2 < ys.length
              · obtain ⟨b3, off3, rfl, hc3⟩ := Rd.cell_i HR2.out hkl
                have q5 : (ys[k2] == (j : Int)) = false := by
                  rw [beq_eq_false_iff_ne]
                  exact fun e => HNI.out (by rw [← e]; exact List.getElem_mem hkl)
                generalize ys[k2] = z at *
                go_wp2
                go_roundw
                case rel => exact ⟨k2 + 1, by omega, by go_num, by first | trivial | rfl⟩
                case measure => simp [intOf] <;> omega
              · obtain rfl : k2 = ys.length := by omega
                go_wp2
                go_roundw
                case rel => exact ⟨i + 1 + 1, by omega, by go_num, HBb, HWb⟩
                case measure => simp [intOf] <;> omega
        · obtain rfl : i = xs.length := by omega
          go_wp2
          go_roundw
          case rel => exact ⟨j + 1, by omega, by go_num, HBi⟩
          case measure => simp [intOf] <;> omega
    · obtain rfl : j = 30 := by omega
      go_wp2
      go_ret
      exact ⟨rfl, HB.out.bel⟩
end Go.Proofs.Ytbflmgpcjfoifaa
