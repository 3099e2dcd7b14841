/- Walk of the statement GroupForks. -/
import Derived.Test.YtbflmgpcjfoifaaGs2
set_option linter.unusedSimpArgs false
set_option linter.unusedVariables false
namespace Go.Proofs.Ytbflmgpcjfoifaa
open Go.RowKit Go.Sel Go.Sel.Gp

theorem bt_fork {F Fg Fr0 : Nat → Prop} {w w1 w2 : World} {fb hb : Nat} {S : List G} {next : Int} (h1 : GP (Plus (fun _ => False) w w1) w1 fb S next) (hB1 : Below w.heap.size w w1) (h2 : GR (Plus (fun _ => False) w1 w2) w2 hb S next) (hB2 : Below w1.heap.size w1 w2) : BL w.heap.size w w2 fb hb S next := by
  have s1 := hB1.size
  have s2 := hB2.size
  have e1 : ∀ b, Plus (fun _ => False) w w1 b → w.heap.size ≤ b ∧ b < w1.heap.size := fun b hb => by
    rcases hb with h | h
    · exact h.elim
    · exact h
  have e2 : ∀ b, Plus (fun _ => False) w1 w2 b → w1.heap.size ≤ b ∧ b < w2.heap.size := fun b hb => by
    rcases hb with h | h
    · exact h.elim
    · exact h
  exact ⟨fun b => Plus (fun _ => False) w w1 b ∨ Plus (fun _ => False) w1 w2 b, ⟨_, _, h1.below hB2, h2, fun b hb hb' => by have := e1 b hb; have := e2 b hb'; omega, fun b hb => hb⟩, fun b hb => by
    rcases hb with h | h
    · exact (e1 b h).1
    · have := e2 b h; omega, hB1.trans (hB2.mono s1), by omega⟩

set_option maxRecDepth 100000 in
set_option maxHeartbeats 4000000 in
theorem law_GroupForks (A : Option Addr) (n c : Nat) (L : List D3) (A' : Option Addr) (n' c' : Nat) (M : List D3) (w : World) (hL : Dd w A n c L) (hM : Dd w A' n' c' M) :
    Calls Try.prog 10 #[.slice A n c, .slice A' n' c'] w fun e w' => e = .returned (.bool true) ∧ Below w.heap.size w w' := by
  have HL := Lib.hid hL
  have HM := Lib.hid hM
  have HMN := Lib.hid hM.len
  have HI := Lib.hid (play_inv hL)
  have l1 := hL.rd.le
  have l2 := hL.rd.cap
  have m1 := hM.rd.le
  have m2 := hM.rd.cap
  clear hL hM
  go_enter Try.func10, Try.ntmps10
  go_upto_region 4 with (first
    | (go_at_call 12; (with_reducible refine (play_any _ _ _ L _ HL.out).mono ?_); rintro e w1 ⟨gb, rb, rfl, hb⟩; have HB1 := Lib.hid hb; clear hb)
    | (go_at_call 13; (with_reducible refine (live_any _).mono ?_); rintro e w2 ⟨rfl, hB⟩; have HB2 := Lib.hid (HB1.out.step hB); clear hB))
  generalize (playK L (min n 60)).1 = S at *
  generalize (playK L (min n 60)).2 = next at *
  have hl := HI.out.len
  obtain ⟨F0, ⟨Fg, Fr0, hg, hr, _⟩, _⟩ := HB2.out
  have HGP : Hid (∀ w', Below w2.heap.size w2 w' → GP Fg w' gb S next) := fun w' hB => hg.below hB
  have HRP : Hid (∀ w', Below w2.heap.size w2 w' → GR Fr0 w' rb S next) := fun w' hB => hr.below hB
  clear hg hr
  go_upto_region 5 with (first
    | (go_at_call 26; (with_reducible refine (pFork_any Fg _ gb S next (HGP.out _ (Below.refl _ _))).mono ?_); rintro e w3 ⟨fb, rfl, hf, hB⟩; have HFP := Lib.hid hf; have HB3 := Lib.hid hB; clear hf hB)
    | (go_at_call 28; (with_reducible refine (rFork_any Fr0 _ rb S next (HRP.out _ HB3.out) (by omega) (nthG_ps HI.out (by omega)) (nthG_ah HI.out (by omega))).mono ?_); rintro e w4 ⟨hb, rfl, hf, hB⟩; have HFR := Lib.hid hf; have HB4 := Lib.hid hB; clear hf hB))
  have HFK : Hid (BL w2.heap.size w2 w4 fb hb (goK (S, next) M 0).1 (goK (S, next) M 0).2) := bt_fork (F := F0) (Fg := Fg) (Fr0 := Fr0) HFP.out HB3.out HFR.out HB4.out
  clear HFP HFR HGP HRP HB3 HB4
  go_wp2_with (fail)
  go_loopw [10] (fun v wr => ∃ j : Nat, j ≤ n' ∧ j ≤ 20 ∧ v = .int .i64 (j : Int) ∧ Hid (BL w2.heap.size w2 wr fb hb (goK (S, next) M j).1 (goK (S, next) M j).2)) (fun v _ => n' - (intOf v).toNat)
  case atStart => exact ⟨0, by omega, by omega, rfl, HFK⟩
  case round =>
    clear HFK
    obtain ⟨j, hj, hj6, rfl, HB⟩ := hrel
    have hIJ := goK_inv (s := (S, next)) HI.out HM.out.bd j
    have HIJ := Lib.hid hIJ
    have hBw := HB.out.bel
    have HFIN : Hid (BL w.heap.size w wr gb rb S next) := HB2.out.step hBw
    clear hIJ
    by_cases hlt : j < n' ∧ j < 20
    · obtain ⟨hlt, h20⟩ := hlt
      obtain ⟨b, off, rfl, c0, c1, c2⟩ := (HM.out.below HFIN.out.bel).at_ hlt
      have HNX := Lib.hid (goK_succ (S, next) (L := M) (j := j) (by have := HMN.out; omega))
      have HC : Hid (Calls Try.prog 17 #[.pointer (some ⟨fb, 0, none⟩), .pointer (some ⟨hb, 0, none⟩), .agg #[.int .i64 (nthD M j).k, .int .i64 (nthD M j).n, .int .i64 (nthD M j).m]] wr fun e w' => e = .returned (.bool true) ∧ BL w2.heap.size w2 w' fb hb (goK (S, next) M (j + 1)).1 (goK (S, next) M (j + 1)).2) := by
        refine HB.out.calls fun F hF => ?_
        have := do_any F wr fb hb _ _ (60 + j) hF HIJ.out (by omega) (nthD M j).k (nthD M j).n (nthD M j).m
        rw [HNX.out]
        exact this
      clear hBw HNX HIJ HFIN
      generalize (nthD M j).k = dk at *
      generalize (nthD M j).n = dn at *
      generalize (nthD M j).m = dm at *
      have e36 : decide ((j : Int) < 20) = true := by simp; omega
      go_wp2_with (go_at_call 17; (with_reducible refine HC.out.mono ?_); rintro e w5 ⟨rfl, hb⟩; have HB5 := Lib.hid hb; clear hb)
      go_roundw
      case rel => exact ⟨j + 1, by omega, by omega, by go_num, HB5⟩
      case measure => simp [intOf] <;> omega
    · obtain ⟨F5, hF5, _⟩ := HFIN.out
      have HF5 := Lib.hid hF5
      clear hF5 hBw
      by_cases hjn : j < n'
      · have h20 : j = 20 := by omega
        subst h20
        go_wp2_with (first
          | (go_at_call 23; (with_reducible refine (same_any F5 _ gb rb _ _ 60 HF5.out HI.out (by omega)).mono ?_); rintro e w6 ⟨rfl, hB⟩; have HB6 := Lib.hid (HFIN.out.step hB); obtain ⟨F7, hF7, _⟩ := HB.out.step hB; have HF7 := Lib.hid hF7; clear hB hF7)
          | (go_at_call 23; (with_reducible refine (same_any F7 _ fb hb _ _ (60 + 20) HF7.out HIJ.out (by omega)).mono ?_); rintro e w7 ⟨rfl, hB⟩; have HB7 := Lib.hid (HB6.out.step hB); clear hB))
        go_ret
        exact ⟨rfl, HB7.out.bel⟩
      · obtain rfl : j = n' := by omega
        go_wp2_with (first
          | (go_at_call 23; (with_reducible refine (same_any F5 _ gb rb _ _ 60 HF5.out HI.out (by omega)).mono ?_); rintro e w6 ⟨rfl, hB⟩; have HB6 := Lib.hid (HFIN.out.step hB); obtain ⟨F7, hF7, _⟩ := HB.out.step hB; have HF7 := Lib.hid hF7; clear hB hF7)
          | (go_at_call 23; (with_reducible refine (same_any F7 _ fb hb _ _ (60 + j) HF7.out HIJ.out (by omega)).mono ?_); rintro e w7 ⟨rfl, hB⟩; have HB7 := Lib.hid (HB6.out.step hB); clear hB))
        go_ret
        exact ⟨rfl, HB7.out.bel⟩
end Go.Proofs.Ytbflmgpcjfoifaa
