/- Walks of the laws on layout: what is live; the first block, entries, names, places. -/
import Derived.Test.YtkmonkemkhigfaaDoorLay2
import Derived.Test.YtkmonkemkhigfaaDoorLay5
set_option linter.unusedSimpArgs false
set_option linter.unusedVariables false
namespace Go.Proofs.YtkmonkemkhigfaaDoor
open Go.RowKit Go.Sel Go.Sel.Lay

theorem ReadEntry_any (A : Option Addr) (n c : Nat) (xs : List Int) (w : World) (ha : Rd w A n c (iv .u8 xs)) (hn : xs.length = n) (hx : AllByte xs) :
    Calls Tryd.prog 19 #[.slice A n c] w fun e w' => e = .returned (.tuple #[.agg #[.string (reName xs), .int .i64 (reIno xs)], .int .i64 (reErr xs)]) ∧ Below w.heap.size w w' := by
  by_cases h : n = 8
  · subst h; exact ReadEntry_8 A c xs w ha hn hx
  · exact ReadEntry_len A n c xs w hn h (by have := ha.le; have := ha.cap; omega)
theorem rReadEntry_any (A : Option Addr) (n c : Nat) (xs : List Int) (w : World) (ha : Rd w A n c (iv .u8 xs)) (hn : xs.length = n) (hx : AllByte xs) :
    Calls Tryd.prog 21 #[.slice A n c] w fun e w' => e = .returned (.tuple #[.agg #[.string (reName xs), .int .i64 (reIno xs)], .int .i64 (reErr xs)]) ∧ Below w.heap.size w w' := by
  by_cases h : n = 8
  · subst h; exact rReadEntry_8 A c xs w ha hn hx
  · exact rReadEntry_len A n c xs w hn h (by have := ha.le; have := ha.cap; omega)

theorem live_sup : superB 20 = [83, 84, 20, 16, 0, 0, 0, 0, 0, 0, 0, 0, 0, 0, 0, 0, 0, 0, 0, 0, 0, 0, 0, 0, 0, 0, 0, 0, 0, 0, 0, 0] := by decide
set_option maxHeartbeats 400000 in
theorem live_any (w : World) : Calls Tryd.prog 16 #[] w fun e w' => e = .returned (.bool true) ∧ Below w.heap.size w w' := by
  have o1 : Hid (entOk (nums ⟨#[97]⟩) 5 = true) := by show _ = _; decide
  have o2 : Hid (reName (entB (nums ⟨#[97]⟩) 5) = ⟨#[97]⟩ ∧ reIno (entB (nums ⟨#[97]⟩) 5) = 5 ∧ reErr (entB (nums ⟨#[97]⟩) 5) = 0) := by
    have h := rd_entB o1.out
    have h2 := re_ok h.2.2
    exact ⟨by rw [h2.1, h.1, strOfNums_nums], by rw [h2.2.1, h.2.1], h2.2.2⟩
  have o3 : Hid (rsVal (superB 20) = 20 ∧ rsErr (superB 20) = 0) := rs_super (by omega) (by omega) rfl
  have o4 : Hid (nameOk (nums ⟨#[97, 45, 49, 46, 98]⟩) = true) := by show _ = _; decide
  have hb1 : Hid (AllByte (entB (nums ⟨#[97]⟩) 5)) := by show ∀ x ∈ _, _; decide
  go_enter Tryd.func16, Tryd.ntmps16
  go_wp2_with (first
    | (go_at_call 17; refine (Entry_yes ⟨#[97]⟩ 5 _ o1.out).mono ?_; rintro e w1 ⟨⟨A1, rfl, hr1⟩, hB1⟩; have HR1 := Lib.hid hr1; have HB1 := Lib.hid hB1; clear hr1 hB1)
    | (go_at_call 19; refine (ReadEntry_any _ _ _ (entB (nums ⟨#[97]⟩) 5) _ HR1.out rfl hb1.out).mono ?_; rw [o2.out.1, o2.out.2.1, o2.out.2.2]; rintro e w2 ⟨rfl, hB2⟩; have HB2 := Lib.hid hB2; clear hB2)
    | (go_at_call 13; refine (ReadSuper_any _ 32 32 (superB 20) _ (rd_list (l := iv .u8 (superB 20)) (blk22 _ _ _) rfl 32 (by omega)) rfl (superB_byte 20 (by omega) (by omega))).mono ?_; rw [o3.out.1, o3.out.2]; rintro e w3 ⟨rfl, hB3⟩; have c1 := (hB3.cell (p := ⟨w2.heap.size, 1, none⟩) (by simp <;> omega)).trans (blk_cell (blk21 _ _ _) 1); simp only [List.getElem?_toArray, List.getElem?_cons_zero, List.getElem?_cons_succ] at c1; have HB3 := Lib.hid hB3; clear hB3)
    | (go_at_call 18; refine (Name_any _ _ (by decide)).mono ?_; rw [o4.out]; rintro e w4 ⟨rfl, hB4⟩; have HB4 := Lib.hid hB4; clear hB4))
  go_ret
  exact ⟨rfl, below_then (below_then (below_then (below_then (below_then HB1.out HB2.out) (below_al _ _)) (below_al _ _)) HB3.out) HB4.out⟩
end Go.Proofs.YtkmonkemkhigfaaDoor
