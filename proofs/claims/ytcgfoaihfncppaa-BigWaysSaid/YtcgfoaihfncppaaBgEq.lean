/- Six ints are the same as themselves. -/
import Derived.Test.YtcgfoaihfncppaaBgMd
import Derived.ChangeKeysEq
set_option linter.unusedSimpArgs false
set_option linter.unusedVariables false
namespace Go.Proofs.Ytcgfoaihfncppaa
open Go.RowKit Go.Sel Go.Sel.Gra Go.Sel.Bg Go.Sel.Mer Go.Shelf

set_option maxRecDepth 100000 in
theorem eq6_same (x0 x1 x2 x3 x4 x5 : Int) (W : World) : (Op.equalIn 9999 34 (.agg #[.int .i64 x0, .int .i64 x1, .int .i64 x2, .int .i64 x3, .int .i64 x4, .int .i64 x5]) (.agg #[.int .i64 x0, .int .i64 x1, .int .i64 x2, .int .i64 x3, .int .i64 x4, .int .i64 x5])).run Try.prog W = .ok true W := by
  obtain ⟨i, hi⟩ : ∃ i, Try.prog.info? 3 = some i := ⟨_, rfl⟩
  have hc : Try.prog.cellsOf 3 = 1 := by kernel_rfl
  have hp : ∀ j (h : j < 6), ∀ W, (part 3 #[.int .i64 x0, .int .i64 x1, .int .i64 x2, .int .i64 x3, .int .i64 x4, .int .i64 x5] j).run Try.prog W = .ok (#[Value.int .i64 x0, .int .i64 x1, .int .i64 x2, .int .i64 x3, .int .i64 x4, .int .i64 x5][j]'(by simpa using h)) W := fun j h W => by
    have : j = 0 ∨ j = 1 ∨ j = 2 ∨ j = 3 ∨ j = 4 ∨ j = 5 := by omega
    rcases this with rfl | rfl | rfl | rfl | rfl | rfl <;> rfl
  have he : ∀ (d : Nat) (a : Int) W, (Op.equalIn (d + 1) 3 (.int .i64 a) (.int .i64 a)).run Try.prog W = .ok true W := fun d a W => by
    simp [Op.equalIn, run_underlying Try.underlying3]
  have r6 : List.range 6 = [0, 1, 2, 3, 4, 5] := rfl
  have := run_equalIn_array (P := Try.prog) (w := W) 9998 (t := 34) #[.int .i64 x0, .int .i64 x1, .int .i64 x2, .int .i64 x3, .int .i64 x4, .int .i64 x5] #[.int .i64 x0, .int .i64 x1, .int .i64 x2, .int .i64 x3, .int .i64 x4, .int .i64 x5] Try.underlying34 hi
  rw [this, r6, hc]
  have h9 : ∀ (a : Int) W, (Op.equalIn 9998 3 (.int .i64 a) (.int .i64 a)).run Try.prog W = .ok true W := fun a W => he 9997 a W
  simp only [Op.eqItems, Sem.run_bind, Nat.mul_one, Nat.zero_mul, Nat.one_mul, hp 0 (by omega), hp 1 (by omega), hp 2 (by omega), hp 3 (by omega), hp 4 (by omega), hp 5 (by omega), Result.andThen_ok, h9, Bool.not_true, Bool.false_eq_true, if_false]
  simp [h9, hp 0 (by omega), hp 1 (by omega), hp 2 (by omega), hp 3 (by omega), hp 4 (by omega), hp 5 (by omega)]
end Go.Proofs.Ytcgfoaihfncppaa
