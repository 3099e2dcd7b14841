/- Walk of the statement GroupStays. -/
import Derived.Test.YtbflmgpcjfoifaaGs2
import Derived.Test.YtbflmgpcjfoifaaGq15
import Derived.Test.YtbflmgpcjfoifaaGpV
set_option linter.unusedSimpArgs false
set_option linter.unusedVariables false
namespace Go.Proofs.Ytbflmgpcjfoifaa
open Go.RowKit Go.Sel Go.Sel.Gp

theorem BT.exact {F : Nat → Prop} {w : World} {gb rb : Nat} {S : List G} {next : Int} (h : BT F w gb rb S next) : ∃ F', BT F' w gb rb S next ∧ (∀ b, F' b → F b) ∧ ∀ b, F' b → b < w.heap.size := by
  obtain ⟨Fg, Fr0, h1, h2, h3, h4⟩ := h
  exact ⟨fun b => Fg b ∨ Fr0 b, ⟨Fg, Fr0, h1, h2, h3, fun b hb => hb⟩, h4, fun b hb => hb.elim (h1.flt b) (h2.flt b)⟩
theorem BL.gl {base : Nat} {w0 w : World} {gb rb : Nat} {S : List G} {next : Int} (h : BL base w0 w gb rb S next) : GL base w0 w gb S next := by
  obtain ⟨F, ⟨Fg, Fr0, h1, h2, h3, h4⟩, h5, h6, _⟩ := h
  exact ⟨Fg, h1, fun b hb => h5 b (h4 b (.inl hb)), h6⟩
/-- What came in and what was made ahead of the deeds outlive them. -/
theorem BTn.bl {F : Nat → Prop} {w0 w w' : World} {gb rb : Nat} {S : List G} {next : Int} {base : Nat} (h : BTn F w w' gb rb S next) (hF : ∀ b, F b → base ≤ b) (hB : Below base w0 w) (hs : base ≤ w.heap.size) : BL base w0 w' gb rb S next := by
  obtain ⟨F', h1, h2, h3⟩ := h
  exact ⟨F', h1, fun b hb => (h3 b hb).elim (hF b) (fun h => by omega), hB.trans (h2.below hs hF), Nat.le_trans hs h2.size⟩
theorem BTn.next {F : Nat → Prop} {w0 w : World} {gb rb : Nat} {S S' : List G} {next next' : Int} (h : BTn F w0 w gb rb S next) {P : Program} {f : Nat} {args : Array Value} {r : Ending}
    (hc : ∀ F', BT F' w gb rb S next → Calls P f args w fun e w' => e = r ∧ BTn F' w w' gb rb S' next') : Calls P f args w fun e w' => e = r ∧ BTn F w0 w' gb rb S' next' := by
  obtain ⟨F', h1, h2, h3⟩ := h
  refine (hc F' h1).mono ?_
  rintro e w' ⟨he, F2, k1, k2, k3⟩
  have := h2.size
  refine ⟨he, F2, k1, ⟨k2.os.trans h2.os, k2.tape.trans h2.tape, k2.output.trans h2.output, Nat.le_trans h2.size k2.size, fun b hb hn => ?_⟩, fun b hb => ?_⟩
  · refine (k2.block b (by omega) (fun h => ?_)).trans (h2.block b hb hn)
    rcases h3 b h with h | h
    · exact hn h
    · omega
  · rcases k3 b hb with h | h
    · exact h3 b h
    · exact .inr (by omega)
theorem own_fr {F : Nat → Prop} {w W : World} {base : Nat} {v : Value} {xs : List Int} (h : w.ownsRow base 3 1 v xs.length (iv .i64 xs)) (hf : Fr F w W) (hF : ∀ b, F b → b < base) : W.ownsRow base 3 1 v xs.length (iv .i64 xs) :=
  own_same h fun r hr => hf.block r (h.lt r hr).2 fun h' => by have := (h.lt r hr).1; have := hF r h'; omega

set_option maxRecDepth 100000 in
set_option maxHeartbeats 8000000 in
theorem law_GroupStays (A : Option Addr) (n c : Nat) (L : List D3) (x : Int) (A' : Option Addr) (n' c' : Nat) (M : List D3) (w : World) (hL : Dd w A n c L) (hM : Dd w A' n' c' M) :
    Calls Try.prog 5 #[.slice A n c, .int .i64 x, .slice A' n' c'] w fun e w' => e = .returned (.bool true) ∧ Below w.heap.size w w' := by
  have HL := Lib.hid hL
  have HM := Lib.hid hM
  have HMN := Lib.hid hM.len
  have HI := Lib.hid (play_inv hL)
  have l1 := hL.rd.le
  have l2 := hL.rd.cap
  have m1 := hM.rd.le
  have m2 := hM.rd.cap
  clear hL hM
  go_enter Try.func5, Try.ntmps5
  go_upto_region 4 with (first
    | (go_at_call 12; (with_reducible refine (play_any _ _ _ L _ HL.out).mono ?_); rintro e w1 ⟨gb, rb, rfl, hb⟩; have HB1 := Lib.hid hb; clear hb)
    | (go_at_call 13; (with_reducible refine (live_any _).mono ?_); rintro e w2 ⟨rfl, hB⟩; have HB2 := Lib.hid (HB1.out.step hB); clear hB))
  generalize (playK L (min n 60)).1 = S at *
  generalize (playK L (min n 60)).2 = next at *
  have HSB := Lib.hid (HI.out.stateB x)
  by_cases h4 : stateS S x = 4
  · have H4 := Lib.hid h4
    clear h4
    obtain ⟨FF, hFF, hFb, hBel, hsz⟩ := HB2.out
    obtain ⟨F0, hF0, hF1, hF2⟩ := hFF.exact
    have HF0 := Lib.hid hF0
    have HFB : Hid (∀ b, F0 b → w.heap.size ≤ b) := fun b hb => hFb b (hF1 b hb)
    have HFL := Lib.hid hF2
    have HBE := Lib.hid hBel
    obtain ⟨Fg, hgp⟩ := HB2.out.gp
    have HGP := Lib.hid hgp
    clear hFF hFb hBel hF0 hF1 hF2 hgp
    have hb1 := HI.out.patches x
    have hl := HI.out.len
    have CP := Lib.hid (pPatches_own Fg w2 gb S next (HGP.out _ (Below.refl _ _)) x (by omega) hb1.1 (fun y hy => by have := hb1.2.1 y hy; omega))
    have CA : Hid (∀ w3, Below w2.heap.size w2 w3 → Calls Try.prog 14 #[.pointer (some ⟨gb, 0, none⟩), .int .i64 x] w3 fun e w' => (∃ v, e = .returned v ∧ w'.ownsRow w3.heap.size 3 1 v (aheadS S x).length (iv .i64 (aheadS S x))) ∧ Below w3.heap.size w3 w') := fun w3 hB => pAhead_own Fg w3 gb S next (HGP.out _ hB) x HI.out.ok (by omega) (HI.out.wf (by omega))
    clear hb1
    go_upto_region 7 with (first
      | (go_at_call 15; (with_reducible refine (HB2.out.state x).mono ?_); rw [H4.out]; rintro e w5 ⟨rfl, hw⟩; subst w5)
      | (go_at_call 16; (with_reducible refine CP.out.mono ?_); clear CP; rintro e w3 ⟨⟨v, rfl, ho⟩, hB⟩; obtain ⟨A1, c1, rfl, _, hr1⟩ := rd_own ho; have p1 := hr1.le; have p2 := hr1.cap; have HO1 := Lib.hid ho; have HB3 := Lib.hid hB; clear ho hB hr1)
      | (go_at_call 14; (with_reducible refine (CA.out _ HB3.out).mono ?_); clear CA; rintro e w4 ⟨⟨v, rfl, ho⟩, hB⟩; obtain ⟨A2, c2, rfl, _, hr2⟩ := rd_own ho; have p3 := hr2.le; have p4 := hr2.cap; have HO2 := Lib.hid ho; have HO1b := Lib.hid (own_same HO1.out (fun r hr => hB.block r (HO1.out.lt r hr).2)); have HB4 := Lib.hid hB; clear ho hB hr2))
    have hs3 : w2.heap.size ≤ w3.heap.size := HB3.out.size
    have hs4 : w3.heap.size ≤ w4.heap.size := HB4.out.size
    have HB24 : Hid (Below w2.heap.size w2 w4) := below_j HB3.out HB4.out
    have HBT : Hid (BTn F0 w4 w4 gb rb (goK (S, next) M 0).1 (goK (S, next) M 0).2) := ⟨F0, HF0.out.keep HB24.out.size (fun b hb => HB24.out.block b (HFL.out b hb)), Fr.refl _ _, fun b hb => .inl hb⟩
    have HBEL : Hid (Below w.heap.size w w4) := HBE.out.trans (HB24.out.mono hsz)
    have hsw4 : w.heap.size ≤ w4.heap.size := by omega
    have HR1 : Hid (∀ W, Fr F0 w4 W → Rd W A1 (patchesS S x).length c1 (iv .i64 (patchesS S x))) := fun W hf => by
      obtain ⟨A9, c9, e, _, hr⟩ := rd_own (own_fr HO1b.out hf HFL.out)
      cases e
      exact hr
    have HR2 : Hid (∀ W, Fr F0 w4 W → Rd W A2 (aheadS S x).length c2 (iv .i64 (aheadS S x))) := fun W hf => by
      obtain ⟨A9, c9, e, _, hr⟩ := rd_own (own_fr HO2.out hf (fun b hb => by have := HFL.out b hb; omega))
      cases e
      exact hr
    have HX0 : Hid (stateS (goK (S, next) M 0).1 x = 4 ∧ patchesS (goK (S, next) M 0).1 x = patchesS S x ∧ aheadS (goK (S, next) M 0).1 x = aheadS S x) := ⟨H4.out, rfl, rfl⟩
    clear HO1 HO2 HO1b HB3 HB4 HB24 HGP HBE HB2
    go_wp2_with (fail)
    go_loopw [12] (fun v wr => ∃ j : Nat, j ≤ n' ∧ j ≤ 30 ∧ v = .int .i64 (j : Int) ∧ Hid (BTn F0 w4 wr gb rb (goK (S, next) M j).1 (goK (S, next) M j).2) ∧ Hid (stateS (goK (S, next) M j).1 x = 4 ∧ patchesS (goK (S, next) M j).1 x = patchesS S x ∧ aheadS (goK (S, next) M j).1 x = aheadS S x)) (fun v _ => n' - (intOf v).toNat)
    case atStart => exact ⟨0, by omega, by omega, rfl, HBT, HX0⟩
    case round =>
      clear HBT HX0
      obtain ⟨j, hj, hj6, rfl, HB, HX⟩ := hrel
      have HIJ := Lib.hid (goK_inv (s := (S, next)) HI.out HM.out.bd j)
      have HBL : Hid (BL w.heap.size w wr gb rb (goK (S, next) M j).1 (goK (S, next) M j).2) := HB.out.bl HFB.out HBEL.out hsw4
      by_cases hlt : j < n' ∧ j < 30
      · obtain ⟨hlt, h30⟩ := hlt
        obtain ⟨b, off, rfl, k0, k1, k2⟩ := (HM.out.below HBL.out.bel).at_ hlt
        have HNX := Lib.hid (goK_succ (S, next) (L := M) (j := j) (by have := HMN.out; omega))
        have HIJ1 := Lib.hid (goK_inv (s := (S, next)) HI.out HM.out.bd (j + 1))
        have HC : Hid (Calls Try.prog 17 #[.pointer (some ⟨gb, 0, none⟩), .pointer (some ⟨rb, 0, none⟩), .agg #[.int .i64 (nthD M j).k, .int .i64 (nthD M j).n, .int .i64 (nthD M j).m]] wr fun e w' => e = .returned (.bool true) ∧ BTn F0 w4 w' gb rb (goK (S, next) M (j + 1)).1 (goK (S, next) M (j + 1)).2) := by
          refine HB.out.next fun F hF => ?_
          have := do_any F wr gb rb _ _ (60 + j) hF HIJ.out (by omega) (nthD M j).k (nthD M j).n (nthD M j).m
          rw [HNX.out]
          exact this
        have HST : Hid (stateS (goK (S, next) M (j + 1)).1 x = 0 ∨ (stateS (goK (S, next) M (j + 1)).1 x = 4 ∧ patchesS (goK (S, next) M (j + 1)).1 x = patchesS S x ∧ aheadS (goK (S, next) M (j + 1)).1 x = aheadS S x)) := by
          have hk := HIJ.out.keeps4 (nthD M j).k (nthD M j).n (nthD M j).m
          have he : (doS (goK (S, next) M j).1 (goK (S, next) M j).2 (nthD M j).k (nthD M j).n (nthD M j).m).1 = (goK (S, next) M (j + 1)).1 := by rw [HNX.out]
          rw [he] at hk
          rcases stays HIJ.out HIJ1.out hk HX.out.1 with h | ⟨h1, h2, h3⟩
          · exact .inl h
          · exact .inr ⟨h1, h2.trans HX.out.2.1, h3.trans HX.out.2.2⟩
        clear HNX HIJ HBL HB HX
        generalize hT : (goK (S, next) M (j + 1)).1 = T at *
        generalize hN : (goK (S, next) M (j + 1)).2 = nx at *
        have HTT := Lib.hid hT
        have HNN := Lib.hid hN
        clear hT hN
        generalize (nthD M j).k = dk at *
        generalize (nthD M j).n = dn at *
        generalize (nthD M j).m = dm at *
        have e36 : decide ((j : Int) < 30) = true := by simp; omega
        rcases HST.out with h0 | ⟨h4, hp, ha⟩
        · have H0 := Lib.hid h0
          clear h0
          go_wp2_with (first
            | (go_at_call 17; (with_reducible refine HC.out.mono ?_); rintro e w5 ⟨rfl, hb⟩; have HB5 := Lib.hid hb; have HL5 : Hid (BL w.heap.size w w5 gb rb T nx) := hb.bl HFB.out HBEL.out hsw4; clear hb)
            | (go_at_call 15; (with_reducible refine (HL5.out.state x).mono ?_); rw [H0.out]; rintro e w6 ⟨rfl, hw⟩; subst w6))
          go_ret
          exact ⟨rfl, HL5.out.bel⟩
        · have HH4 := Lib.hid h4
          have HP := Lib.hid hp
          have HAA := Lib.hid ha
          clear h4 hp ha
          go_upto_region 12 with (go_at_call 17; (with_reducible refine HC.out.mono ?_); rintro e w5 ⟨rfl, hb⟩; have HB5 := Lib.hid hb; have HL5 : Hid (BL w.heap.size w w5 gb rb T nx) := hb.bl HFB.out HBEL.out hsw4; clear hb)
          obtain ⟨F5, _, hf5, _⟩ := HB5.out
          have HR15 := Lib.hid (HR1.out _ hf5)
          have HR25 := Lib.hid (HR2.out _ hf5)
          clear hf5
          have C6 : Hid (Calls Try.prog 16 #[.pointer (some ⟨gb, 0, none⟩), .int .i64 x] w5 fun e w' => (∃ A c, e = .returned (.slice A (patchesS S x).length c) ∧ Rd w' A (patchesS S x).length c (iv .i64 (patchesS S x))) ∧ BL w.heap.size w w' gb rb T nx ∧ Below w5.heap.size w5 w') := by
            have := HL5.out.patches HIJ1.out (by omega) x
            rw [HP.out] at this
            exact this
          have C7 : Hid (∀ w6, Below w5.heap.size w5 w6 → Calls Try.prog 14 #[.pointer (some ⟨gb, 0, none⟩), .int .i64 x] w6 fun e w' => (∃ A c, e = .returned (.slice A (aheadS S x).length c) ∧ Rd w' A (aheadS S x).length c (iv .i64 (aheadS S x))) ∧ BL w.heap.size w w' gb rb T nx ∧ Below w6.heap.size w6 w') := fun w6 hB => by
            have := (HL5.out.step hB).ahead HIJ1.out (by omega) x
            rw [HAA.out] at this
            exact this
          go_wp2_with (first
            | (go_at_call 15; (with_reducible refine (HL5.out.state x).mono ?_); rw [HH4.out]; rintro e w6 ⟨rfl, hw⟩; subst w6)
            | (go_at_call 16; (with_reducible refine C6.out.mono ?_); rintro e w6 ⟨⟨A6, c6, rfl, hr⟩, _, hB⟩; have HR6 := Lib.hid hr; have HB6 := Lib.hid hB; have HR16 := Lib.hid (HR15.out.below hB); have q1 := HR6.out.le; have q2 := HR6.out.cap; clear hr hB)
            | (go_at_call 18; (with_reducible refine (Same1_any A6 A1 (patchesS S x).length (patchesS S x).length c6 c1 (patchesS S x) (patchesS S x) _ HR6.out HR16.out rfl rfl).mono ?_); rintro e wq ⟨rfl, q, rfl⟩; have HBq := Lib.hid (below_q HB6.out q); clear HR6 HR16)
            | (go_at_call 14; (with_reducible refine (C7.out _ HBq.out).mono ?_); rintro e w7 ⟨⟨A7, c7, rfl, hr⟩, _, hB⟩; have HR7 := Lib.hid hr; have HB7 := Lib.hid (below_j HBq.out hB); have HR27 := Lib.hid (HR25.out.below (below_j HBq.out hB)); have q3 := HR7.out.le; have q4 := HR7.out.cap; clear hr hB)
            | (go_at_call 18; (with_reducible refine (Same1_any A7 A2 (aheadS S x).length (aheadS S x).length c7 c2 (aheadS S x) (aheadS S x) _ HR7.out HR27.out rfl rfl).mono ?_); rintro e wq ⟨rfl, q7, rfl⟩; have HB8 := Lib.hid (below_q HB7.out q7); clear HR7 HR27))
          go_roundw
          case rel =>
            have hT := HTT.out
            have hN := HNN.out
            subst hT
            subst hN
            obtain ⟨F5, g1, g2, g3⟩ := HB5.out
            obtain ⟨F6, k1, k2, k3⟩ := g1.exact
            exact ⟨j + 1, by omega, by omega, by go_num, ⟨F6, k1.keep HB8.out.size (fun b hb => HB8.out.block b (k3 b hb)), g2.trans (fr_of_below HB8.out _), fun b hb => g3 b (k2 b hb)⟩, ⟨HH4.out, HP.out, HAA.out⟩⟩
          case measure => simp [intOf] <;> omega
      · have HT2 := Lib.hid (turn_no HIJ.out (a := 1) (b := 3) (c := 2) HX.out.1 (by decide) (by decide) (by decide))
        have HT4 := Lib.hid (turn_no HIJ.out (a := 1) (b := 3) (c := 4) HX.out.1 (by decide) (by decide) (by decide))
        have HGL := Lib.hid HBL.out.gl
        have hsr := HBL.out.sz
        clear HX HIJ HB
        generalize (goK (S, next) M j).1 = T at *
        generalize (goK (S, next) M j).2 = nx at *
        have CE : Hid (Calls Try.prog 19 #[.pointer (some ⟨gb, 0, none⟩), .int .i64 x] wr fun e w' => e = .returned (.int .i64 13) ∧ GL w.heap.size w w' gb T nx ∧ w.heap.size ≤ w'.heap.size) := HGL.out.next hsr fun F h => by
          have := pEngage_any F wr gb T nx h x
          rw [HT2.out] at this
          exact this
        have CR : Hid (∀ w5, GL w.heap.size w w5 gb T nx → w.heap.size ≤ w5.heap.size → Calls Try.prog 20 #[.pointer (some ⟨gb, 0, none⟩), .int .i64 x] w5 fun e w' => e = .returned (.int .i64 13) ∧ GL w.heap.size w w' gb T nx ∧ w.heap.size ≤ w'.heap.size) := fun w5 hg hs => hg.next hs fun F h => by
          have := pRelease_any F w5 gb T nx h x
          rw [HT4.out] at this
          exact this
        by_cases hjn : j < n'
        · have h20 : j = 30 := by omega
          subst h20
          go_wp2_with (first
            | (go_at_call 19; (with_reducible refine CE.out.mono ?_); rintro e w6 ⟨rfl, hg, hs⟩; have HG6 := Lib.hid hg; have hs6 := hs; clear hg hs)
            | (go_at_call 20; (with_reducible refine (CR.out _ HG6.out hs6).mono ?_); rintro e w7 ⟨rfl, hg, hs⟩; have HG7 := Lib.hid hg; clear hg hs))
          go_ret
          obtain ⟨_, _, _, hB⟩ := HG7.out
          exact ⟨rfl, hB⟩
        · obtain rfl : j = n' := by omega
          go_wp2_with (first
            | (go_at_call 19; (with_reducible refine CE.out.mono ?_); rintro e w6 ⟨rfl, hg, hs⟩; have HG6 := Lib.hid hg; have hs6 := hs; clear hg hs)
            | (go_at_call 20; (with_reducible refine (CR.out _ HG6.out hs6).mono ?_); rintro e w7 ⟨rfl, hg, hs⟩; have HG7 := Lib.hid hg; clear hg hs))
          go_ret
          obtain ⟨_, _, _, hB⟩ := HG7.out
          exact ⟨rfl, hB⟩
  · have q4 : (stateS S x == 4) = false := by simpa using h4
    clear h4
    go_wp2_with (go_at_call 15; (with_reducible refine (HB2.out.state x).mono ?_); rintro e w5 ⟨rfl, hw⟩; subst w5)
    all_goals first
      | (go_ret; exact ⟨rfl, HB2.out.bel⟩)
      | (trace_state; sorry)
end Go.Proofs.Ytbflmgpcjfoifaa
