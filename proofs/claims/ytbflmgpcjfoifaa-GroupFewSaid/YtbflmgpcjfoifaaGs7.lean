/- Walk of the statement GroupTakes. -/
import Derived.Test.YtbflmgpcjfoifaaGs2
import Derived.Test.YtbflmgpcjfoifaaGpV
import Derived.Deep.CutBlock
set_option linter.unusedSimpArgs false
set_option linter.unusedVariables false
namespace Go.Sel.Gp
theorem patchesS_took {S : List G} {next : Int} {k : Nat} (h : Inv S next k) {p : Int} (hp : 0 ≤ p) (n : Int) : patchesS (tookS S p).2 n = if stateS S n = 2 then withL (patchesS S n) p else patchesS S n := by
  have e : (tookS S p).2 = S.map (took1 p) := by rw [tookS, if_neg (by omega)]
  have hT : ((S.map (took1 p)).map (·.n)).Nodup := by
    have : (S.map (took1 p)).map (·.n) = S.map (·.n) := by rw [List.map_map]; exact List.map_congr_left fun g _ => took1_n p g
    rw [this]; exact h.nodup
  rw [e]
  by_cases hin : ∃ g ∈ S, g.n = n
  · obtain ⟨g, hg, rfl⟩ := hin
    rw [stateS_in h.nodup hg, patchesS_in h.nodup hg]
    have := patchesS_in hT (List.mem_map_of_mem hg)
    rw [took1_n] at this
    rw [this]
    unfold took1
    split <;> rfl
  · have ho : ∀ g ∈ S, g.n ≠ n := fun g hg e => hin ⟨g, hg, e⟩
    rw [stateS_out ho, patchesS_out ho, if_neg (by decide)]
    refine patchesS_out fun g hg => ?_
    obtain ⟨g0, hg0, rfl⟩ := List.mem_map.1 hg
    rw [took1_n]
    exact ho g0 hg0
theorem stateS_took {S : List G} {next : Int} {k : Nat} (h : Inv S next k) {p : Int} (hp : 0 ≤ p) (n : Int) : stateS (tookS S p).2 n = stateS S n := by
  have e : (tookS S p).2 = S.map (took1 p) := by rw [tookS, if_neg (by omega)]
  have hT : ((S.map (took1 p)).map (·.n)).Nodup := by
    have : (S.map (took1 p)).map (·.n) = S.map (·.n) := by rw [List.map_map]; exact List.map_congr_left fun g _ => took1_n p g
    rw [this]; exact h.nodup
  rw [e]
  by_cases hin : ∃ g ∈ S, g.n = n
  · obtain ⟨g, hg, rfl⟩ := hin
    have := stateS_in hT (List.mem_map_of_mem hg)
    rw [took1_n] at this
    rw [this, stateS_in h.nodup hg, took1_st]
  · have ho : ∀ g ∈ S, g.n ≠ n := fun g hg e => hin ⟨g, hg, e⟩
    rw [stateS_out ho]
    refine stateS_out fun g hg => ?_
    obtain ⟨g0, hg0, rfl⟩ := List.mem_map.1 hg
    rw [took1_n]
    exact ho g0 hg0
theorem withL_len {l : List Int} {n : Int} (h : l.Pairwise (· < ·)) : l.length ≤ (withL l n).length :=
  rises_length h fun x hx => mem_withL.2 (.inr hx)
/-- What GroupTakes asks of a number. -/
theorem takes_at {S : List G} {next : Int} {k : Nat} (h : Inv S next k) {p : Int} (hp : 0 ≤ p) (n : Int) :
    (decide (p ∈ patchesS (tookS S p).2 n) = (decide (p ∈ patchesS S n) || decide (stateS (tookS S p).2 n = 2))) ∧ (patchesS S n).length ≤ (patchesS (tookS S p).2 n).length := by
  rw [stateS_took h hp, patchesS_took h hp]
  split
  · rename_i hs
    refine ⟨?_, withL_len (h.patches n).1⟩
    rw [decide_eq_true (mem_withL.2 (.inl rfl)), decide_eq_true hs, Bool.or_true]
  · rename_i hs
    rw [decide_eq_false hs, Bool.or_false]
    exact ⟨rfl, Nat.le_refl _⟩
end Go.Sel.Gp
namespace Go.Proofs.Ytbflmgpcjfoifaa
open Go.RowKit Go.Sel Go.Sel.Gp

/-- The program's groups and their fork. -/
theorem GLs {base : Nat} {w0 w w' : World} {gb : Nat} {S : List G} {next : Int} (h : GL base w0 w gb S next) (hb : base ≤ w.heap.size) (hB : Below w.heap.size w w') : GL base w0 w' gb S next := by
  obtain ⟨F, h1, h2, h3⟩ := h
  exact ⟨F, h1.below hB, h2, h3.trans (hB.mono hb)⟩
theorem gp_patches {F : Nat → Prop} {w : World} {gb : Nat} {S : List G} {next : Int} {k : Nat} (h : GP F w gb S next) (hi : Inv S next k) (hk : k ≤ 1000) (n : Int) :
    Calls Try.prog 16 #[.pointer (some ⟨gb, 0, none⟩), .int .i64 n] w fun e w' => (∃ A c, e = .returned (.slice A (patchesS S n).length c) ∧ Rd w' A (patchesS S n).length c (iv .i64 (patchesS S n))) ∧ Below w.heap.size w w' := by
  refine (pPatches_any F w gb S next h n (by have := (hi.patches n).2.2; omega) (hi.patches n).1 (fun x hx => by have := (hi.patches n).2.1 x hx; omega)).mono ?_
  rintro e w' ⟨⟨v, rfl, A, c, rfl, hr⟩, hB⟩
  exact ⟨⟨A, c, rfl, hr⟩, hB⟩

set_option maxRecDepth 100000 in
set_option maxHeartbeats 8000000 in
theorem law_GroupTakes (A : Option Addr) (n c : Nat) (L : List D3) (p : Int) (w : World) (hL : Dd w A n c L) (hp0 : -9223372036854775808 ≤ p) (hp1 : p ≤ 9223372036854775807) : Calls Try.prog 9 #[.slice A n c, .int .i64 p] w fun e w' => e = .returned (.bool true) ∧ Below w.heap.size w w' := by
  have HL := Lib.hid hL
  have HI := Lib.hid (play_inv hL)
  have l1 := hL.rd.le
  have l2 := hL.rd.cap
  clear hL
  go_enter Try.func9, Try.ntmps9
  go_upto_region 4 with (first
    | (go_at_call 12; (with_reducible refine (play_any _ _ _ L _ HL.out).mono ?_); rintro e w1 ⟨gb, rb, rfl, hb⟩; have HB1 := Lib.hid hb; clear hb)
    | (go_at_call 13; (with_reducible refine (live_any _).mono ?_); rintro e w2 ⟨rfl, hB⟩; have HB2 := Lib.hid (HB1.out.step hB); clear hB))
  generalize (playK L (min n 60)).1 = S at *
  generalize (playK L (min n 60)).2 = next at *
  obtain ⟨FF, ⟨Fg, Fr0, hg, hr, hd, hF⟩, hFb, hBel, hsz⟩ := HB2.out
  have HGP : Hid (∀ w', Below w2.heap.size w2 w' → GP Fg w' gb S next) := fun w' hB => hg.below hB
  have HRP : Hid (∀ w', Below w2.heap.size w2 w' → GR Fr0 w' rb S next) := fun w' hB => hr.below hB
  have HGL : Hid (∀ b, Fg b → b < w2.heap.size) := hg.flt
  have HRL : Hid (∀ b, Fr0 b → b < w2.heap.size) := hr.flt
  have HD := Lib.hid hd
  have HF := Lib.hid hF
  have HFB := Lib.hid hFb
  have HBE := Lib.hid hBel
  have hl := HI.out.len
  clear hg hr hd hF hFb hBel
  go_upto_region 5 with (go_at_call 26; (with_reducible refine (pFork_any Fg _ gb S next (HGP.out _ (Below.refl _ _))).mono ?_); rintro e w3 ⟨fb, rfl, hf, hB⟩; have HFP := Lib.hid hf; have HB3 := Lib.hid hB; clear hf hB)
  have hs3 : w2.heap.size ≤ w3.heap.size := HB3.out.size
  have HCT := Lib.hid (pTook_any Fg w3 gb S next (HGP.out _ HB3.out) p (by omega) HI.out.rise (HI.out.wf (by omega)))
  have HW3 : Hid (Below w.heap.size w w3) := HBE.out.trans (HB3.out.mono hsz)
  have HFP4 : Hid (∀ w4, Fr Fg w3 w4 → GP (Plus (fun _ => False) w2 w3) w4 fb S next) := fun w4 hf => HFP.out.keep hf.size (fun b hb => by
    rcases hb with h | h
    · exact h.elim
    · exact hf.block b h.2 (fun h' => by have := HGL.out b h'; omega))
  by_cases hp : p < 0
  · have HT : Hid (tookS S p = (2, S)) := by show _ = _; rw [tookS, if_pos hp]
    rw [HT.out] at HCT
    have d1 : decide (p < 0) = true := decide_eq_true hp
    clear hp HFP4
    go_upto_region 6 with (go_at_call 27; (with_reducible refine HCT.out.mono ?_); rintro e w4 ⟨rfl, hn⟩; have HN := Lib.hid hn; clear hn)
    obtain ⟨Fg4, g1, g2, g3⟩ := HN.out
    have HBL : Hid (BL w.heap.size w w4 gb rb S next) := by
      have hs := g2.size
      refine ⟨fun b => Fg4 b ∨ Fr0 b, ⟨Fg4, Fr0, g1, (HRP.out _ HB3.out).keep g2.size (fun b hb => g2.block b (by have := HRL.out b hb; omega) (fun h => HD.out b h hb)), fun b hb hb' => ?_, fun b hb => hb⟩, fun b hb => ?_, HW3.out.trans (g2.below (by omega) (fun b hb => HFB.out b (HF.out b (.inl hb)))), by omega⟩
      · rcases g3 b hb with h | h
        · exact HD.out b h hb'
        · have := HRL.out b hb'; omega
      · rcases hb with hb | hb
        · rcases g3 b hb with h | h
          · exact HFB.out b (HF.out b (.inl h))
          · omega
        · exact HFB.out b (HF.out b (.inr hb))
    obtain ⟨F5, hF5, _⟩ := HBL.out
    have HF5 := Lib.hid hF5
    clear g1 g2 g3 hF5
    go_wp2_with (go_at_call 23; (with_reducible refine (same_any F5 _ gb rb _ _ 60 HF5.out HI.out (by omega)).mono ?_); rintro e w6 ⟨rfl, hB⟩; have HB6 := Lib.hid (HBL.out.step hB); clear hB)
    go_ret
    exact ⟨rfl, HB6.out.bel⟩
  · have hpp : 0 ≤ p := by omega
    have HT : Hid ((tookS S p).1 = 0) := by show _ = _; rw [tookS, if_neg hp]
    rw [HT.out] at HCT
    have HTA : Hid (∀ x, (decide (p ∈ patchesS (tookS S p).2 x) = (decide (p ∈ patchesS S x) || decide (stateS (tookS S p).2 x = 2))) ∧ (patchesS S x).length ≤ (patchesS (tookS S p).2 x).length) := fun x => takes_at HI.out hpp x
    have HI2 := Lib.hid (HI.out.took p hp1)
    have d1 : decide (p < 0) = false := decide_eq_false hp
    clear hp hpp
    generalize (tookS S p).2 = T at *
    go_upto_block 0 with (go_at_call 27; (with_reducible refine HCT.out.mono ?_); rintro e w4 ⟨rfl, hn⟩; have HN := Lib.hid hn; clear hn)
    obtain ⟨Fg4, g1, g2, g3⟩ := HN.out
    have hs4 : w3.heap.size ≤ w4.heap.size := g2.size
    have HG4 : Hid (∀ w', Below w4.heap.size w4 w' → GP Fg4 w' gb T next) := fun w' hB => g1.below hB
    have HFK : Hid (∀ w', Below w4.heap.size w4 w' → GP (Plus (fun _ => False) w2 w3) w' fb S next) := fun w' hB => (HFP4.out w4 g2).below hB
    have HW4 : Hid (Below w.heap.size w w4) := HW3.out.trans (g2.below (by omega) (fun b hb => HFB.out b (HF.out b (.inl hb))))
    have hsw : w.heap.size ≤ w4.heap.size := by omega
    clear g1 g2 g3 HFP4 HFP HCT HN HGP HRP
    go_wp2_with (fail)
    go_loopw [10] (fun v wr => ∃ j : Nat, j ≤ 30 ∧ v = .int .i64 (j : Int) ∧ Hid (Below w4.heap.size w4 wr)) (fun v _ => 30 - (intOf v).toNat)
    case atStart => exact ⟨0, by omega, rfl, Below.refl _ _⟩
    case round =>
      obtain ⟨j, hj, rfl, HB⟩ := hrel
      by_cases hlt : j < 30
      · have HT1 := Lib.hid (HTA.out (j : Int))
        go_upto_block 2 with (first
          | (go_at_call 16; (with_reducible refine (gp_patches (HFK.out _ HB.out) HI.out (by omega) (j : Int)).mono ?_); rintro e wa ⟨⟨A1, c1, rfl, hr⟩, hB⟩; have HR1 := Lib.hid hr; have HBa := Lib.hid (below_j HB.out hB); clear hr hB)
          | (go_at_call 16; (with_reducible refine (gp_patches (HG4.out _ HBa.out) HI2.out (by omega) (j : Int)).mono ?_); rintro e wb ⟨⟨A2, c2, rfl, hr⟩, hB⟩; have HR2 := Lib.hid hr; have HR1b := Lib.hid (HR1.out.below hB); have HBb := Lib.hid (below_j HBa.out hB); clear hr hB HR1))
        have HST : Hid (∀ w5, w5 = wb → Calls Try.prog 15 #[.pointer (some ⟨gb, 0, none⟩), .int .i64 (j : Int)] w5 fun e w' => e = .returned (.int .u8 (stateS T (j : Int))) ∧ w' = w5) := fun w5 e => by
          subst e
          exact pState_any Fg4 w5 gb T next (HG4.out _ HBb.out) (j : Int)
        generalize patchesS S (j : Int) = xs at *
        generalize patchesS T (j : Int) = ys at *
        generalize stateS T (j : Int) = st at *
        have p1 := HR1b.out.le
        have p2 := HR1b.out.cap
        have p3 := HR2.out.le
        have p4 := HR2.out.cap
        go_wp2_with (fail)
        go_loopw [13, 15] (fun u v wr => ∃ i : Nat, i ≤ xs.length ∧ v = .int .i64 (i : Int) ∧ u = .bool (decide (p ∈ xs.take i)) ∧ wr = wb) (fun _ v _ => xs.length - (intOf v).toNat)
        case atStart => exact ⟨0, by omega, rfl, by simp, rfl⟩
        case round =>
          obtain ⟨i, hi, rfl, rfl, hwr⟩ := hrel
          have hwr' := hwr.symm
          subst hwr'
          by_cases hil : i < xs.length
          · obtain ⟨b1, off1, rfl, hc1⟩ := Rd.cell_i HR1b.out hil
            have HT : Hid (decide (p ∈ xs.take (i + 1)) = (decide (p ∈ xs.take i) || (xs[i] == p))) := by
              show _ = _
              rw [List.take_succ_eq_append_getElem hil, Bool.eq_iff_iff]
              simp only [List.mem_append, List.mem_singleton, decide_eq_true_eq, Bool.or_eq_true, beq_iff_eq]
              exact or_congr Iff.rfl ⟨Eq.symm, Eq.symm⟩
            generalize xs[i] = q at *
            cases hq : decide (p ∈ xs.take i) with
            | true =>
              rw [hq, Bool.true_or] at HT
              clear hq
              go_wp2
              go_roundw
              case rel => exact ⟨i + 1, by omega, by go_num, by rw [HT.out], by first | trivial | rfl⟩
              case measure => simp [intOf] <;> omega
            | false =>
              rw [hq, Bool.false_or] at HT
              clear hq
              go_wp2
              go_roundw
              case rel => exact ⟨i + 1, by omega, by go_num, by rw [HT.out], by first | trivial | rfl⟩
              case measure => simp [intOf] <;> omega
          · obtain rfl : i = xs.length := by omega
            rw [List.take_length]
            clear hwr
            generalize hhad : decide (p ∈ xs) = had at *
            have HHAD := Lib.hid hhad
            clear hhad
            go_wp2
            go_loopw [14, 16] (fun u v wr => ∃ i : Nat, i ≤ ys.length ∧ v = .int .i64 (i : Int) ∧ u = .bool (decide (p ∈ ys.take i)) ∧ wr = wb) (fun _ v _ => ys.length - (intOf v).toNat)
            case atStart => exact ⟨0, by omega, rfl, by simp, rfl⟩
            case round =>
              obtain ⟨i, hi, rfl, rfl, hwr⟩ := hrel
              have hwr' := hwr.symm
              subst hwr'
              by_cases hil : i < ys.length
              · obtain ⟨b2, off2, rfl, hc2⟩ := Rd.cell_i HR2.out hil
                have HT : Hid (decide (p ∈ ys.take (i + 1)) = (decide (p ∈ ys.take i) || (ys[i] == p))) := by
                  show _ = _
                  rw [List.take_succ_eq_append_getElem hil, Bool.eq_iff_iff]
                  simp only [List.mem_append, List.mem_singleton, decide_eq_true_eq, Bool.or_eq_true, beq_iff_eq]
                  exact or_congr Iff.rfl ⟨Eq.symm, Eq.symm⟩
                generalize ys[i] = q at *
                cases hq : decide (p ∈ ys.take i) with
                | true =>
                  rw [hq, Bool.true_or] at HT
                  clear hq
                  go_wp2
                  go_roundw
                  case rel => exact ⟨i + 1, by omega, by go_num, by rw [HT.out], by first | trivial | rfl⟩
                  case measure => simp [intOf] <;> omega
                | false =>
                  rw [hq, Bool.false_or] at HT
                  clear hq
                  go_wp2
                  go_roundw
                  case rel => exact ⟨i + 1, by omega, by go_num, by rw [HT.out], by first | trivial | rfl⟩
                  case measure => simp [intOf] <;> omega
              · obtain rfl : i = ys.length := by omega
                rw [List.take_length]
                clear hwr
                have hle := HT1.out.2
                have HH := Lib.hid HT1.out.1
                generalize decide (p ∈ ys) = has at *
                cases had with
                | true =>
                  have e := HH.out
                  rw [Bool.true_or] at e
                  subst e
                  clear HH
                  have d2 : decide ((ys.length : Int) < (xs.length : Int)) = false := by simp; omega
                  go_wp2
                  go_roundw
                  case rel => exact ⟨j + 1, by omega, by go_num, HBb⟩
                  case measure => simp [intOf] <;> omega
                | false =>
                  have e := HH.out
                  rw [Bool.false_or] at e
                  subst e
                  clear HH
                  have d2 : decide ((ys.length : Int) < (xs.length : Int)) = false := by simp; omega
                  by_cases hst : st = 2
                  · subst hst
                    go_wp2_with (go_at_call 15; (with_reducible refine (HST.out _ rfl).mono ?_); rintro e w6 ⟨rfl, hw⟩; subst w6)
                    go_roundw
                    case rel => exact ⟨j + 1, by omega, by go_num, HBb⟩
                    case measure => simp [intOf] <;> omega
                  · have q2 : (st == 2) = false := by simpa using hst
                    rw [decide_eq_false hst]
                    clear hst
                    go_wp2_with (go_at_call 15; (with_reducible refine (HST.out _ rfl).mono ?_); rintro e w6 ⟨rfl, hw⟩; subst w6)
                    go_roundw
                    case rel => exact ⟨j + 1, by omega, by go_num, HBb⟩
                    case measure => simp [intOf] <;> omega
      · obtain rfl : j = 30 := by omega
        go_wp2
        go_ret
        exact ⟨rfl, HW4.out.trans (HB.out.mono hsw)⟩
end Go.Proofs.Ytbflmgpcjfoifaa
