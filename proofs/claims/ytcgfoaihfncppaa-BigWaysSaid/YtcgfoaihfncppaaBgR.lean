/- Rows of bytes in an array of the call's own, kept where older blocks that hold no bytes are turned. No program in sight. -/
import Derived.Test.YtcgfoaihfncppaaMb1
set_option linter.unusedSimpArgs false
set_option linter.unusedVariables false
namespace Go.Sel
open Go.RowKit Go.Sel.Gra
theorem Rd.farB {S : Nat → Prop} {w w' : World} {A : Option Addr} {n c : Nat} {xs : List Int} (h : Rd w A n c (iv .u8 xs)) (hf : Fr S w w') (hS : ∀ b, S b → ∀ j x, w.cell? ⟨b, j, none⟩ ≠ some (.int .u8 x)) : Rd w' A n c (iv .u8 xs) := by
  refine ⟨h.le, h.cap, ?_⟩
  rcases h.at_ with h0 | ⟨b, off, rfl, hc⟩
  · exact .inl h0
  · by_cases hx : xs = []
    · exact .inl (by rw [hx]; rfl)
    · refine .inr ⟨b, off, rfl, fun j hj => ?_⟩
      have hj0 := hc j hj
      rw [iv_at] at hj0
      have hns : ¬ S b := fun hs => hS b hs (off + j) _ hj0
      rw [hf.cell (p := ⟨b, off + j, none⟩) hns hj0, hj0, iv_at]
theorem Wb.fr {S : Nat → Prop} {B : Nat} {w w' : World} {A : Option Addr} {n c : Nat} {D : List (List Int)} (h : Wb B w A n c D) (hf : Fr S w w') (hS : ∀ b, S b → b < B ∧ ∀ j x, w.cell? ⟨b, j, none⟩ ≠ some (.int .u8 x)) : Wb B w' A n c D := by
  obtain ⟨ss, h1, h2, h3, h4, h5, h6⟩ := h
  refine ⟨ss, h1, h2, h3, h4, ?_, fun j hj => ⟨(h6 j hj).1, (h6 j hj).2.1.farB hf (fun b hb => (hS b hb).2), (h6 j hj).2.2⟩⟩
  rcases h5 with h0 | ⟨g, cur, T, e, hg, hb, hc⟩
  · exact .inl h0
  · exact .inr ⟨g, cur, T, e, hg, (hf.block g (Array.getElem?_eq_some_iff.1 hb).1 (fun hs => by have := (hS g hs).1; omega)).trans hb, hc⟩
end Go.Sel
