/- Walks of merge: slices.Clone of bytes, copied. -/
import Derived.Test.YtpicagcapgjiaaaMbP
import Derived.Test.YtpicagcapgjiaaaSelA
import Derived.Test.YtpicagcapgjiaaaMer9
set_option linter.unusedSimpArgs false
set_option linter.unusedVariables false
namespace Go.Proofs.Ytpicagcapgjiaaa
open Go.RowKit Go.Sel Go.Sel.Gra Go.Sel.Mer Go.Shelf

theorem infoU8 : (Try.prog.info? 5).map (fun i => (i.zero, i.size, i.bytes)) = some (some (.int .u8 0), 1, 1) := by kernel_rfl
theorem infoBytes : (Try.prog.info? 77).map (fun i => (i.zero, i.size, i.bytes)) = some (some (.slice none 0 0), 1, 24) := by kernel_rfl

set_option maxRecDepth 100000 in
set_option maxHeartbeats 1000000 in
theorem CloneB_any (A : Option Addr) (n c : Nat) (xs : List Int) (w : World) (hr : Rd w A n c (iv .u8 xs)) (hl : xs.length = n) (hb : n ≤ 140737488355328) :
    Calls Try.prog 109 #[.slice A n c] w fun e w' => (∃ A' c', e = .returned (.slice A' n c') ∧ Rd w' A' n c' (iv .u8 xs)) ∧ Below w.heap.size w w' := by
  cases A with
  | none =>
    have hx : xs = [] := by
      rcases hr.at_ with h | ⟨b, off, h, _⟩
      · simpa [iv] using h
      · cases h
    subst hx
    simp only [List.length_nil] at hl
    subst hl
    clear hr
    have he := fun (w : World) => run_eql_sl (P := Try.prog) w 77 5 none 0 c Try.underlying77
    go_enter Try.func109, Try.ntmps109
    go_wp2
    go_ret
    exact ⟨⟨none, 0, rfl, Rd.nil (by omega)⟩, Below.refl _ _⟩
  | some a =>
    obtain ⟨v', w1, hrun, hown, hg, hat⟩ := run_extend (P := Try.prog) (w := w.alloc (.cells #[] 5)) w.heap.size 77 77 5 (.int .u8 0) 1 Try.underlying77 infoU8 rfl _ 0 [] (own_empty w 5 w.heap.size (Nat.le_refl _)) (some a) n c (iv .u8 xs) (hr.alloc _) (by simpa using hl) (one_iv _ _) (by simp only [maxLen]; omega) (by omega) (by simp)
    have HO := Lib.hid hown
    have HB : Hid (Below w.heap.size w w1) := below_grown (below_al w _) hg (by simp) (fun k hk => by simp [Value.ownBlock] at hk; omega)
    have HR := Lib.hid hrun
    have he := fun (w : World) => run_eql_sl (P := Try.prog) w 77 5 (some a) n c Try.underlying77
    simp only [Option.isNone_some] at he
    clear hr hl hown hg hat hrun hb
    go_enter Try.func109, Try.ntmps109
    go_wp2_with (at_builtin; refine wpList_append_run rfl _ _ _ _ rfl _ _ _ rfl rfl HR.out ?_)
    go_ret
    obtain ⟨A', c', rfl, _, hr'⟩ := rd_own HO.out
    simp only [Nat.zero_add, List.nil_append] at hr'
    exact ⟨⟨A', c', by simp, hr'⟩, HB.out⟩
end Go.Proofs.Ytpicagcapgjiaaa
