/- Walk of the statement GroupPlays. -/
import Derived.Test.YtbflmgpcjfoifaaGr2
set_option linter.unusedSimpArgs false
set_option linter.unusedVariables false
namespace Go.Proofs.Ytbflmgpcjfoifaa
open Go.RowKit Go.Sel Go.Sel.Gp

theorem BL.step {base : Nat} {w0 w w' : World} {gb rb : Nat} {S : List G} {next : Int} (h : BL base w0 w gb rb S next) (hB : Below w.heap.size w w') : BL base w0 w' gb rb S next := by
  obtain ⟨F, h1, h2, h3, hb⟩ := h
  have hlt : ∀ b, F b → b < w.heap.size ∨ True := fun _ _ => .inr trivial
  obtain ⟨Fg, Fr0, g1, g2, g3, g4⟩ := h1
  refine ⟨fun b => Fg b ∨ Fr0 b, ⟨Fg, Fr0, g1.below hB, g2.below hB, g3, fun b hb => hb⟩, fun b hb' => h2 b (g4 b hb'), h3.trans (hB.mono hb), Nat.le_trans hb hB.size⟩
theorem BL.bel {base : Nat} {w0 w : World} {gb rb : Nat} {S : List G} {next : Int} (h : BL base w0 w gb rb S next) : Below base w0 w := by
  obtain ⟨F, _, _, h3, _⟩ := h
  exact h3
theorem BL.sz {base : Nat} {w0 w : World} {gb rb : Nat} {S : List G} {next : Int} (h : BL base w0 w gb rb S next) : base ≤ w.heap.size := by
  obtain ⟨F, _, _, _, h4⟩ := h
  exact h4
theorem BL.gp {base : Nat} {w0 w : World} {gb rb : Nat} {S : List G} {next : Int} (h : BL base w0 w gb rb S next) : ∃ Fg, ∀ w', Below w.heap.size w w' → GP Fg w' gb S next := by
  obtain ⟨F, ⟨Fg, Fr0, g1, _⟩, _⟩ := h
  exact ⟨Fg, fun w' hB => g1.below hB⟩
theorem play_inv {A : Option Addr} {n c : Nat} {L : List D3} {w : World} (h : Dd w A n c L) : Inv (playK L (min n 60)).1 (playK L (min n 60)).2 60 :=
  (goK_inv (s := ([], 1)) Inv.nil h.bd (min n 60)).mono (by omega)

set_option maxRecDepth 100000 in
set_option maxHeartbeats 4000000 in
theorem law_GroupPlays (A : Option Addr) (n c : Nat) (L : List D3) (w : World) (hL : Dd w A n c L) : Calls Try.prog 7 #[.slice A n c] w fun e w' => e = .returned (.bool true) ∧ Below w.heap.size w w' := by
  have HL := Lib.hid hL
  have HI := Lib.hid (play_inv hL)
  have l1 := hL.rd.le
  have l2 := hL.rd.cap
  clear hL
  go_enter Try.func7, Try.ntmps7
  go_wp2_with (first
    | (go_at_call 12; (with_reducible refine (play_any _ _ _ L _ HL.out).mono ?_); rintro e w1 ⟨gb, rb, rfl, hb⟩; have HB1 := Lib.hid hb; clear hb)
    | (go_at_call 13; (with_reducible refine (live_any _).mono ?_); rintro e w2 ⟨rfl, hB⟩; have HB2 := Lib.hid (HB1.out.step hB); obtain ⟨F2, hF2, _⟩ := HB1.out.step hB; have HF2 := Lib.hid hF2; clear hB hF2)
    | (go_at_call 23; (with_reducible refine (same_any F2 _ gb rb _ _ 60 HF2.out HI.out (by omega)).mono ?_); rintro e w3 ⟨rfl, hB⟩; have HB3 := Lib.hid (HB2.out.step hB); clear hB))
  go_ret
  exact ⟨rfl, HB3.out.bel⟩
end Go.Proofs.Ytbflmgpcjfoifaa
