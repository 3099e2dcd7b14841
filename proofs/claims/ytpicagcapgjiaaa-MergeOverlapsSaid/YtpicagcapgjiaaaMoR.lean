/- For the row of MergeOverlaps: patches that came in. -/
import Derived.Test.YtpicagcapgjiaaaMerA
import Derived.Test.YtpicagcapgjiaaaMo3
set_option linter.unusedSimpArgs false
set_option linter.unusedVariables false
namespace Go.Proofs.Ytpicagcapgjiaaa
open Go.ChangeShapes Go.WideShapes Go.ChangeAt Go.RowKit Go.Sel Go.Sel.Gra Go.Sel.Mer

section
variable {H : Type} {enc : TypeId × Value → H} {w : World} {base : Nat} {spare : Nat → Bool} {held : Bool}
theorem patches_of : ∀ (vss : List (List Value)), (∀ us ∈ vss, ∃ (b o : Int) (s : ByteArray), us = [.int .i64 b, .int .i64 o, .string s]) → ∃ L : List It, L.length = vss.length ∧ vss.flatten = pvs L
  | [], _ => ⟨[], rfl, rfl⟩
  | us :: vss, h => by
    obtain ⟨b, o, s, rfl⟩ := h us (by simp)
    obtain ⟨L, h1, h2⟩ := patches_of vss fun u hu => h u (by simp [hu])
    exact ⟨⟨b, o, s, []⟩ :: L, by simp [h1], by simp [pvs, h2]⟩
set_option maxRecDepth 100000 in
theorem read_patches {fuel : Nat} {v : Value} {x : DataW H × List MemPlace} (h : DataW.trod enc Try.prog w base spare held fuel 48 [v] = some x) :
    ∃ (A : Option Addr) (n c : Nat) (L : List It), v = .slice A n c ∧ Pp w A n c L := by
  obtain ⟨A, n, c, vss, rfl, hl, hu, hr⟩ := read_elems Try.underlying48 (by kernel_rfl : Program.cellsOf Try.prog 42 = 3) (by decide) h
  obtain ⟨L, h1, h2⟩ := patches_of vss fun us hus => by
    obtain ⟨_, fuel, y, hy⟩ := hu us hus
    exact read_patch hy
  exact ⟨A, n, c, L, rfl, by omega, by rw [← h2]; exact hr⟩
end
end Go.Proofs.Ytpicagcapgjiaaa
