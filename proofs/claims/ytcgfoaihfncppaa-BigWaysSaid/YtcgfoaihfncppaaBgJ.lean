/- Walks of big's laws: what must be whatever is asked. -/
import Derived.Test.YtcgfoaihfncppaaBgI
import Derived.Test.YtcgfoaihfncppaaBgT
import Derived.Test.YtcgfoaihfncppaaBgS
set_option linter.unusedSimpArgs false
set_option linter.unusedVariables false
namespace Go.Sel.Bg
/-- A file without pointers. -/
theorem val_zero (D : List (List Int)) : ∀ p, p < 1096 → val D [0, 0, 0, 0, 0, 0, 0, 0] p = 0 := by
  intro p
  induction p using Nat.strongRecOn with
  | ind p ih =>
    intro hp
    by_cases h8 : p < 8
    · rw [val_top _ _ h8]
      have : p = 0 ∨ p = 1 ∨ p = 2 ∨ p = 3 ∨ p = 4 ∨ p = 5 ∨ p = 6 ∨ p = 7 := by omega
      rcases this with rfl | rfl | rfl | rfl | rfl | rfl | rfl | rfl <;> rfl
    · have h8' : 8 ≤ p := by omega
      have hl := par_lt h8' hp
      rw [val_par _ _ h8' hp, ih _ hl (by omega), if_pos rfl]
theorem Rt_zero {D : List (List Int)} (h : whole D) : Rt D [0, 0, 0, 0, 0, 0, 0, 0] :=
  ⟨h, fun p hp => by rw [val_zero D p hp]; simp; omega, fun p q hp hq _ hne => absurd (val_zero D p hp) hne⟩
theorem whole_blank {n : Nat} (h : n ≤ 96) : whole (List.replicate n zrow) := ⟨by simpa using h, fun b hb => by rw [List.eq_of_mem_replicate hb]; simp [zrow]⟩
theorem live_ok : OkPut (List.replicate 10 zrow) [0, 0, 0, 0, 0, 0, 0, 0] 10 38 5 [6, 7] where
  hk := by omega
  b0 := by omega
  b1 := by omega
  f := by simp
  nb := fun p hp => by rw [val_zero _ p hp]; omega
  bF := by simp
  nf := fun x hx p hp => by rw [val_zero _ p hp]; simp at hx; omega
  nd := by simp
  at_ := val_zero _ _ (posK_lt (by omega))
theorem wayL_38 : wayL 38 = [7, 0, 0] := by decide
end Go.Sel.Bg
namespace Go.Proofs.Ytcgfoaihfncppaa
open Go.RowKit Go.Sel Go.Sel.Gra Go.Sel.Bg Go.Sel.Mer Go.Shelf

set_option maxRecDepth 100000 in
set_option maxHeartbeats 4000000 in
theorem live_any (w : World) : Calls Try.prog 10 #[] w fun e w' => e = .returned (.bool true) ∧ Below w.heap.size w w' := by
  have hzb : bigV [0, 0, 0, 0, 0, 0, 0, 0] = .agg #[.int .i64 0, .int .i64 0, .int .i64 0, .int .i64 0, .int .i64 0, .int .i64 0, .int .i64 0, .int .i64 0] := rfl
  have HT : Hid (∃ x0 x1 x2 x3 x4 x5 x6, (putL (List.replicate 10 zrow) [0, 0, 0, 0, 0, 0, 0, 0] 38 5 [6, 7]).2.1 = [x0, x1, x2, x3, x4, x5, x6, 6] ∧ (putL (List.replicate 10 zrow) [0, 0, 0, 0, 0, 0, 0, 0] 38 5 [6, 7]).2.2 = 2) := Lib.hid ⟨0, 0, 0, 0, 0, 0, 0, rfl, rfl⟩
  obtain ⟨x0, x1, x2, x3, x4, x5, x6, ht1, hu1⟩ := HT.out
  have HR := put_right (Rt_zero (whole_blank (n := 10) (by omega))) rfl live_ok (by simp)
  have HAT : atK (putL (List.replicate 10 zrow) [0, 0, 0, 0, 0, 0, 0, 0] 38 5 [6, 7]).1 [x0, x1, x2, x3, x4, x5, x6, 6] 38 = 5 := by
    rw [← ht1, atK, HR.2 _ (posK_lt (by omega)), putV_at (by omega) (by omega), if_pos rfl]
  have HRT := HR.1
  rw [ht1] at HRT
  generalize hD1 : (putL (List.replicate 10 zrow) [0, 0, 0, 0, 0, 0, 0, 0] 38 5 [6, 7]).1 = D1 at *
  have HP : Hid (∀ (A : Option Addr) (c : Nat) (Af : Option Addr) (cf : Nat) (W : World), Bp W A 10 c (List.replicate 10 zrow) → Rd W Af 2 cf (iv .i64 [6, 7]) → Calls Try.prog 13 #[.slice A 10 c, .agg #[.int .i64 0, .int .i64 0, .int .i64 0, .int .i64 0, .int .i64 0, .int .i64 0, .int .i64 0, .int .i64 0], .int .i64 38, .int .i64 5, .slice Af 2 cf] W fun e w' => (∃ Ao co, e = .returned (.tuple #[.slice Ao 10 co, .agg #[.int .i64 x0, .int .i64 x1, .int .i64 x2, .int .i64 x3, .int .i64 x4, .int .i64 x5, .int .i64 x6, .int .i64 6], .int .i64 2, .int .i64 0]) ∧ Wb W.heap.size w' Ao 10 co D1) ∧ Below W.heap.size W w') := Lib.hid fun A c Af cf W h1 h2 => by
    have := Put_any A 10 c (List.replicate 10 zrow) [0, 0, 0, 0, 0, 0, 0, 0] 38 5 Af 2 cf [6, 7] (by simp) rfl W h1 (Rt_zero (whole_blank (by omega))) h2 rfl live_ok
    rw [ht1, hu1, hD1] at this
    exact this
  have HG : Hid (∀ (A : Option Addr) (c : Nat) (W : World), Bp W A 10 c D1 → Calls Try.prog 14 #[.slice A 10 c, .agg #[.int .i64 x0, .int .i64 x1, .int .i64 x2, .int .i64 x3, .int .i64 x4, .int .i64 x5, .int .i64 x6, .int .i64 6], .int .i64 38] W fun e w' => e = .returned (.tuple #[.int .i64 5, .int .i64 0]) ∧ Below W.heap.size W w') := Lib.hid fun A c W h => by
    have := Get_ok A 10 c D1 [x0, x1, x2, x3, x4, x5, x6, 6] 38 (by omega) rfl W h HRT
    rw [HAT] at this
    exact this
  have HW : Hid (∀ W, Calls Try.prog 9 #[.int .i64 38] W fun e w' => (∃ A c, e = .returned (.tuple #[.slice A 3 c, .int .i64 0]) ∧ Rd w' A 3 c (iv .i64 [7, 0, 0])) ∧ Below W.heap.size W w') := Lib.hid fun W => by
    have := Way_ok 38 ⟨by omega, by omega⟩ W
    rw [wayL_38] at this
    exact this
  have HBL := Lib.hid (blank_any 10 (by omega))
  clear HT HR HAT HRT ht1 hu1 hD1 hzb
  go_enter Try.func10, Try.ntmps10
  go_wp2_with (first
    | (go_at_call 27; refine (HBL.out _).mono ?_; rintro e w1 ⟨⟨A, c, rfl, hD⟩, hB⟩; have HD := Lib.hid (hD.below (below_al w1 (.cells #[.int .i64 6, .int .i64 7] 3))); have HB := Lib.hid (hB.alloc hB.size (.cells #[.int .i64 6, .int .i64 7] 3)); have HFR : Hid (Rd (w1.alloc (.cells #[.int .i64 6, .int .i64 7] 3)) (some ⟨w1.heap.size, 0, none⟩) 2 2 (iv .i64 [6, 7])) := (sl_rd w1 [6, 7] 3 (by simp)); clear hD hB)
    | (go_at_call 13; refine (HP.out _ _ _ _ _ HD.out HFR.out).mono ?_; rintro e w2 ⟨⟨Ao, co, rfl, hwb⟩, hB⟩; have HWB := Lib.hid (hwb.bp.below (below_al w2 (.cells #[.int .i64 x0, .int .i64 x1, .int .i64 x2, .int .i64 x3, .int .i64 x4, .int .i64 x5, .int .i64 x6, .int .i64 6] 36))); have HB2 := Lib.hid ((HB.out.trans (hB.mono HB.out.size)).alloc (Nat.le_trans HB.out.size hB.size) (.cells #[.int .i64 x0, .int .i64 x1, .int .i64 x2, .int .i64 x3, .int .i64 x4, .int .i64 x5, .int .i64 x6, .int .i64 6] 36)); have hkk : ∀ i v, #[Value.int .i64 x0, .int .i64 x1, .int .i64 x2, .int .i64 x3, .int .i64 x4, .int .i64 x5, .int .i64 x6, .int .i64 6][i]? = some v → (w2.alloc (.cells #[.int .i64 x0, .int .i64 x1, .int .i64 x2, .int .i64 x3, .int .i64 x4, .int .i64 x5, .int .i64 x6, .int .i64 6] 36)).cell? ⟨w2.heap.size, i, none⟩ = some v := (fun i v h => new_cell w2 _ _ i v h); have k7 := hkk 7 _ rfl; clear hkk hwb hB)
    | (go_at_call 14; refine (HG.out _ _ _ HWB.out).mono ?_; rintro e w3 ⟨rfl, hB⟩; have k7 := keep_cell k7 hB; have HB3 := Lib.hid (HB2.out.trans (hB.mono HB2.out.size)); clear hB)
    | (go_at_call 9; refine (HW.out _).mono ?_; rintro e w4 ⟨⟨Aw, cw, rfl, hr⟩, hB⟩; have k7 := keep_cell k7 hB; have HB4 := Lib.hid (HB3.out.trans (hB.mono HB3.out.size)); obtain ⟨yb, yo, rfl, hyb, hyc⟩ := hr.form (by simp); have y0 := hyc 0 (by simp); simp only [iv, List.map_cons, List.map_nil, List.getElem_cons_zero, Nat.add_zero] at y0; have hl1 := hr.le; have hl2 := hr.cap; clear hB hr hyc))
  go_ret
  exact ⟨rfl, HB4.out⟩
end Go.Proofs.Ytcgfoaihfncppaa
