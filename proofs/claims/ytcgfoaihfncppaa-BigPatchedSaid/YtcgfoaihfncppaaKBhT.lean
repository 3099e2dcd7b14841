/- big's reference: Put of a right file. -/
import Derived.Test.YtcgfoaihfncppaaKBhS
import Derived.Test.YtcgfoaihfncppaaKBgI
import Derived.Test.YtcgfoaihfncppaaKBgWr
import Derived.Test.YtcgfoaihfncppaaKBgS
set_option linter.unusedSimpArgs false
set_option linter.unusedVariables false
namespace Go.Proofs.Ytcgfoaihfncppaa
open Go.RowKit Go.Sel Go.Sel.Gra Go.Sel.Bg Go.Sel.Mer Go.Shelf

theorem nat_of {x : Int} {n : Nat} (h0 : 0 < x) (h1 : x < n) : ∃ p : Nat, x = (p : Int) ∧ p ≠ 0 ∧ p < n := ⟨x.toNat, by omega, by omega, by omega⟩
theorem rPut_ok (A : Option Addr) (n c : Nat) (D : List (List Int)) (t : List Int) (k : Nat) (b : Int) (Af : Option Addr) (nf cf : Nat) (F : List Int) (ht : t.length = 8) (w : World) (hD : Bp w A n c D) (hR : Rt D t) (hF : Rd w Af nf cf (iv .i64 F)) (hlF : F.length = nf) (hO : RgPut n k b F) (hF2 : 2 ≤ nf) (hE : errL D t k b F = 0) :
    Calls Try.prog 28 #[.slice A n c, bigV t, .int .i64 (k : Int), .int .i64 b, .slice Af nf cf] w fun e w' => PutPost w n (putL D t k b F).1 (putL D t k b F).2.1 (putL D t k b F).2.2 e w' := by
  have hdn := hD.len
  have hok := ok_of_err hO hE
  have m0 : f0 F ∈ F := by unfold f0; rw [List.getD_eq_getElem?_getD, List.getElem?_eq_getElem (by omega)]; exact List.getElem_mem _
  have m1 : f1 F ∈ F := by unfold f1; rw [List.getD_eq_getElem?_getD, List.getElem?_eq_getElem (by omega)]; exact List.getElem_mem _
  have n01 : f1 F ≠ f0 F := by
    unfold f0 f1
    rw [List.getD_eq_getElem?_getD, List.getD_eq_getElem?_getD, List.getElem?_eq_getElem (show 0 < F.length by omega), List.getElem?_eq_getElem (show 1 < F.length by omega)]
    have := List.pairwise_iff_getElem.1 hok.nd 0 1 (by omega) (by omega) (by omega)
    simpa using fun e => this e.symm
  have hk := hO.hk
  obtain ⟨p, hp, hp0, hpn⟩ := nat_of (hO.f _ m0).1 (hO.f _ m0).2
  obtain ⟨p1, hp1, hp10, hp1n⟩ := nat_of (hO.f _ m1).1 (hO.f _ m1).2
  have v6 : val D t 6 = tp t 6 := val_top _ _ (by omega)
  have v7 : val D t 7 = tp t 7 := val_top _ _ (by omega)
  by_cases h6 : k < 6
  · have e : putL D t k b F = (D, t.set k b, 0) := by unfold putL; rw [if_pos h6]
    rw [e]
    exact rPut_k6 A n c D t k b Af nf cf F ht w hD hR hF hlF hO hE h6
  · by_cases h38 : k < 38
    · obtain ⟨e1, ep, es⟩ := posK_mid h6 h38
      by_cases hz : tp t 6 = 0
      · have e : putL D t k b F = ((D.set p zrow).set p ((nth (D.set p zrow) p).set (k - 6) b), t.set 6 (p : Int), 1) := by
          unfold putL
          rw [if_neg h6, if_pos h38, if_pos hz, hp]
          have e2 : val (D.set p zrow) (t.set 6 (p : Int)) (par (posK k)) = (p : Int) := by
            rw [ep, val_top _ _ (by omega), tp, List.getD_eq_getElem?_getD, List.getElem?_set_self (by omega)]; rfl
          unfold setD
          rw [Int.toNat_natCast, e2, Int.toNat_natCast, es]
          rfl
        rw [e]
        exact rPut_k38f A n c D t k b Af nf cf F ht w hD hR hF hlF hO hE hF2 h6 h38 p hz hp hp0 hpn
      · obtain ⟨q, hq, hq0, hqn⟩ := ptr_nat hR (p := 6) (by omega) (by rw [v6]; exact hz)
        have e : putL D t k b F = (D.set q ((nth D q).set (k - 6) b), t, 0) := by
          unfold putL
          rw [if_neg h6, if_pos h38, if_neg hz]
          unfold setD
          rw [ep, hq, Int.toNat_natCast, es]
          rfl
        rw [e]
        exact rPut_k38 A n c D t k b Af nf cf F ht w hD hR hF hlF hO hE hF2 h6 h38 q (v6.symm.trans hq) hq0 (by omega)
    · obtain ⟨e1, ep, es, hni⟩ := posK_hi h38
      obtain ⟨l8, ll, lp, ls, li⟩ := lf_at hk
      by_cases hz : tp t 7 = 0
      · have e : putL D t k b F = ((((D.set p zrow).set p1 zrow).set p ((nth ((D.set p zrow).set p1 zrow) p).set ((k - 38) / 32) (p1 : Int))).set p1 ((nth (((D.set p zrow).set p1 zrow).set p ((nth ((D.set p zrow).set p1 zrow) p).set ((k - 38) / 32) (p1 : Int))) p1).set ((k - 38) % 32) b), t.set 7 (p : Int), 2) := by
          unfold putL
          rw [if_neg h6, if_neg h38, if_pos hz, hp, hp1]
          have e7 : tp (t.set 7 (p : Int)) 7 = (p : Int) := by rw [tp, List.getD_eq_getElem?_getD, List.getElem?_set_self (by omega)]; rfl
          have e2 : ∀ D' : List (List Int), val D' (t.set 7 (p : Int)) (par (lf k)) = (p : Int) := fun D' => by
            rw [lp, val_top _ _ (by omega), e7]
          have e3 : setD ((D.set p zrow).set p1 zrow) (t.set 7 (p : Int)) (lf k) (p1 : Int) = ((D.set p zrow).set p1 zrow).set p ((nth ((D.set p zrow).set p1 zrow) p).set ((k - 38) / 32) (p1 : Int)) := by
            unfold setD
            rw [e2, Int.toNat_natCast, ls]
            rfl
          simp only [Int.toNat_natCast]
          rw [e3]
          have hl : (k - 38) / 32 < 32 := by omega
          have e4 : val (((D.set p zrow).set p1 zrow).set p ((nth ((D.set p zrow).set p1 zrow) p).set ((k - 38) / 32) (p1 : Int))) (t.set 7 (p : Int)) (par (posK k)) = (p1 : Int) := by
            rw [ep, val_par _ _ l8 ll, e2, if_neg (by omega), ls, at2_set _ _ _ _ _ (by simp; omega), Int.toNat_natCast, if_pos rfl]
            have hl2 : (k - 38) / 32 < (nth ((D.set p zrow).set p1 zrow) p).length := by
              rw [nth_set _ (by simp; omega), if_neg (by omega), nth_set _ (by omega), if_pos rfl]
              simpa [zrow] using hl
            rw [List.getD_eq_getElem?_getD, List.getElem?_set_self hl2]
            rfl
          have e5 : ∀ D' : List (List Int), val D' (t.set 7 (p : Int)) (par (posK k)) = (p1 : Int) → setD D' (t.set 7 (p : Int)) (posK k) b = D'.set p1 ((nth D' p1).set ((k - 38) % 32) b) := fun D' h => by
            unfold setD
            rw [h, Int.toNat_natCast, es]
            rfl
          rw [e5 _ e4]
        rw [e]
        exact rPut_dbl A n c D t k b Af nf cf F ht w hD hR hF hlF hO hE hF2 h38 _ _ rfl rfl p p1 hz hp hp0 hpn hp1 hp10 hp1n (by omega)
      · obtain ⟨q, hq, hq0, hqn⟩ := ptr_nat hR (p := 7) (by omega) (by rw [v7]; exact hz)
        have hqt := v7.symm.trans hq
        have hlv : val D t (lf k) = at2 D (q : Int) ((k - 38) / 32) := by
          rw [val_par _ _ l8 ll, lp, hq, if_neg (by omega), ls]
        have hpq : (p : Int) ≠ q := fun e => hok.nf _ m0 7 (by omega) (by rw [hq, hp, e])
        by_cases hl : val D t (lf k) = 0
        · have e : putL D t k b F = (((D.set p zrow).set q ((nth (D.set p zrow) q).set ((k - 38) / 32) (p : Int))).set p ((nth ((D.set p zrow).set q ((nth (D.set p zrow) q).set ((k - 38) / 32) (p : Int))) p).set ((k - 38) % 32) b), t, 1) := by
            unfold putL
            rw [if_neg h6, if_neg h38, if_neg hz, if_pos hl, hp]
            have e2 : ∀ D' : List (List Int), val D' t (par (lf k)) = (q : Int) := fun D' => by rw [lp, val_top _ _ (by omega), hqt]
            have e3 : setD (D.set p zrow) t (lf k) (p : Int) = (D.set p zrow).set q ((nth (D.set p zrow) q).set ((k - 38) / 32) (p : Int)) := by
              unfold setD
              rw [e2, Int.toNat_natCast, ls]
              rfl
            simp only [Int.toNat_natCast]
            rw [e3]
            have hl3 : (k - 38) / 32 < 32 := by omega
            have e4 : val ((D.set p zrow).set q ((nth (D.set p zrow) q).set ((k - 38) / 32) (p : Int))) t (par (posK k)) = (p : Int) := by
              rw [ep, val_par _ _ l8 ll, e2, if_neg (by omega), ls, at2_set _ _ _ _ _ (by simp; omega), Int.toNat_natCast, if_pos rfl]
              have hl2 : (k - 38) / 32 < (nth (D.set p zrow) q).length := by
                rw [nth_set _ (by omega), if_neg (by omega), nth_get hqn, hR.1.2 _ (List.getElem_mem hqn)]
                exact hl3
              rw [List.getD_eq_getElem?_getD, List.getElem?_set_self hl2]
              rfl
            have e5 : ∀ D' : List (List Int), val D' t (par (posK k)) = (p : Int) → setD D' t (posK k) b = D'.set p ((nth D' p).set ((k - 38) % 32) b) := fun D' h => by
              unfold setD
              rw [h, Int.toNat_natCast, es]
              rfl
            rw [e5 _ e4]
          rw [e]
          exact rPut_leaff A n c D t k b Af nf cf F ht w hD hR hF hlF hO hE hF2 h38 _ _ rfl rfl q p hqt hq0 (by omega) (hlv.symm.trans hl) hp hp0 hpn (by omega)
        · obtain ⟨p', hp', hp'0, hp'n⟩ := ptr_nat hR (p := lf k) ll hl
          have e : putL D t k b F = (D.set p' ((nth D p').set ((k - 38) % 32) b), t, 0) := by
            unfold putL
            rw [if_neg h6, if_neg h38, if_neg hz, if_neg hl]
            unfold setD
            rw [ep, hp', Int.toNat_natCast, es]
            rfl
          rw [e]
          exact rPut_leaf A n c D t k b Af nf cf F ht w hD hR hF hlF hO hE hF2 h38 _ _ rfl rfl q p' hqt hq0 (by omega) (hlv.symm.trans hp') hp'0 (by omega)
end Go.Proofs.Ytcgfoaihfncppaa
/- Walks of big's laws: what must be whatever is asked. -/
set_option linter.unusedSimpArgs false
set_option linter.unusedVariables false
namespace Go.Sel.Bg
/-- A file without pointers. -/
theorem val_zero (D : List (List Int)) : ∀ p, p < 1096 → val D [0, 0, 0, 0, 0, 0, 0, 0] p = 0 := by
  intro p
  induction p using Nat.strongRecOn with
  | ind p ih =>
    intro hp
    by_cases h8 : p < 8
    · rw [val_top _ _ h8]
      have : p = 0 ∨ p = 1 ∨ p = 2 ∨ p = 3 ∨ p = 4 ∨ p = 5 ∨ p = 6 ∨ p = 7 := by omega
      rcases this with rfl | rfl | rfl | rfl | rfl | rfl | rfl | rfl <;> rfl
    · have h8' : 8 ≤ p := by omega
      have hl := par_lt h8' hp
      rw [val_par _ _ h8' hp, ih _ hl (by omega), if_pos rfl]
theorem Rt_zero {D : List (List Int)} (h : whole D) : Rt D [0, 0, 0, 0, 0, 0, 0, 0] :=
  ⟨h, fun p hp => by rw [val_zero D p hp]; simp; omega, fun p q hp hq _ hne => absurd (val_zero D p hp) hne⟩
theorem whole_blank {n : Nat} (h : n ≤ 96) : whole (List.replicate n zrow) := ⟨by simpa using h, fun b hb => by rw [List.eq_of_mem_replicate hb]; simp [zrow]⟩
theorem live_ok : OkPut (List.replicate 10 zrow) [0, 0, 0, 0, 0, 0, 0, 0] 10 38 5 [6, 7] where
  hk := by omega
  b0 := by omega
  b1 := by omega
  f := by simp
  nb := fun p hp => by rw [val_zero _ p hp]; omega
  bF := by simp
  nf := fun x hx p hp => by rw [val_zero _ p hp]; simp at hx; omega
  nd := by simp
  at_ := val_zero _ _ (posK_lt (by omega))
theorem wayL_38 : wayL 38 = [7, 0, 0] := by decide
end Go.Sel.Bg
namespace Go.Proofs.Ytcgfoaihfncppaa
open Go.RowKit Go.Sel Go.Sel.Gra Go.Sel.Bg Go.Sel.Mer Go.Shelf

set_option maxRecDepth 100000 in
set_option maxHeartbeats 4000000 in
theorem live_any (w : World) : Calls Try.prog 10 #[] w fun e w' => e = .returned (.bool true) ∧ Below w.heap.size w w' := by
  have hzb : bigV [0, 0, 0, 0, 0, 0, 0, 0] = .agg #[.int .i64 0, .int .i64 0, .int .i64 0, .int .i64 0, .int .i64 0, .int .i64 0, .int .i64 0, .int .i64 0] := rfl
  have HT : Hid (∃ x0 x1 x2 x3 x4 x5 x6, (putL (List.replicate 10 zrow) [0, 0, 0, 0, 0, 0, 0, 0] 38 5 [6, 7]).2.1 = [x0, x1, x2, x3, x4, x5, x6, 6] ∧ (putL (List.replicate 10 zrow) [0, 0, 0, 0, 0, 0, 0, 0] 38 5 [6, 7]).2.2 = 2) := Lib.hid ⟨0, 0, 0, 0, 0, 0, 0, rfl, rfl⟩
  obtain ⟨x0, x1, x2, x3, x4, x5, x6, ht1, hu1⟩ := HT.out
  have HR := put_right (Rt_zero (whole_blank (n := 10) (by omega))) rfl live_ok (by simp)
  have HAT : atK (putL (List.replicate 10 zrow) [0, 0, 0, 0, 0, 0, 0, 0] 38 5 [6, 7]).1 [x0, x1, x2, x3, x4, x5, x6, 6] 38 = 5 := by
    rw [← ht1, atK, HR.2 _ (posK_lt (by omega)), putV_at (by omega) (by omega), if_pos rfl]
  have HRT := HR.1
  rw [ht1] at HRT
  generalize hD1 : (putL (List.replicate 10 zrow) [0, 0, 0, 0, 0, 0, 0, 0] 38 5 [6, 7]).1 = D1 at *
  have HP : Hid (∀ (A : Option Addr) (c : Nat) (Af : Option Addr) (cf : Nat) (W : World), Bp W A 10 c (List.replicate 10 zrow) → Rd W Af 2 cf (iv .i64 [6, 7]) → Calls Try.prog 13 #[.slice A 10 c, .agg #[.int .i64 0, .int .i64 0, .int .i64 0, .int .i64 0, .int .i64 0, .int .i64 0, .int .i64 0, .int .i64 0], .int .i64 38, .int .i64 5, .slice Af 2 cf] W fun e w' => (∃ Ao co, e = .returned (.tuple #[.slice Ao 10 co, .agg #[.int .i64 x0, .int .i64 x1, .int .i64 x2, .int .i64 x3, .int .i64 x4, .int .i64 x5, .int .i64 x6, .int .i64 6], .int .i64 2, .int .i64 0]) ∧ Wb W.heap.size w' Ao 10 co D1) ∧ Below W.heap.size W w') := Lib.hid fun A c Af cf W h1 h2 => by
    have := Put_any A 10 c (List.replicate 10 zrow) [0, 0, 0, 0, 0, 0, 0, 0] 38 5 Af 2 cf [6, 7] (by simp) rfl W h1 (Rt_zero (whole_blank (by omega))) h2 rfl live_ok
    rw [ht1, hu1, hD1] at this
    exact this
  have HG : Hid (∀ (A : Option Addr) (c : Nat) (W : World), Bp W A 10 c D1 → Calls Try.prog 14 #[.slice A 10 c, .agg #[.int .i64 x0, .int .i64 x1, .int .i64 x2, .int .i64 x3, .int .i64 x4, .int .i64 x5, .int .i64 x6, .int .i64 6], .int .i64 38] W fun e w' => e = .returned (.tuple #[.int .i64 5, .int .i64 0]) ∧ Below W.heap.size W w') := Lib.hid fun A c W h => by
    have := Get_ok A 10 c D1 [x0, x1, x2, x3, x4, x5, x6, 6] 38 (by omega) rfl W h HRT
    rw [HAT] at this
    exact this
  have HW : Hid (∀ W, Calls Try.prog 9 #[.int .i64 38] W fun e w' => (∃ A c, e = .returned (.tuple #[.slice A 3 c, .int .i64 0]) ∧ Rd w' A 3 c (iv .i64 [7, 0, 0])) ∧ Below W.heap.size W w') := Lib.hid fun W => by
    have := Way_ok 38 ⟨by omega, by omega⟩ W
    rw [wayL_38] at this
    exact this
  have HBL := Lib.hid (blank_any 10 (by omega))
  clear HT HR HAT HRT ht1 hu1 hD1 hzb
  go_enter Try.func10, Try.ntmps10
  go_wp2_with (first
    | (go_at_call 27; refine (HBL.out _).mono ?_; rintro e w1 ⟨⟨A, c, rfl, hD⟩, hB⟩; have HD := Lib.hid (hD.below (below_al w1 (.cells #[.int .i64 6, .int .i64 7] 3))); have HB := Lib.hid (hB.alloc hB.size (.cells #[.int .i64 6, .int .i64 7] 3)); have HFR : Hid (Rd (w1.alloc (.cells #[.int .i64 6, .int .i64 7] 3)) (some ⟨w1.heap.size, 0, none⟩) 2 2 (iv .i64 [6, 7])) := (sl_rd w1 [6, 7] 3 (by simp)); clear hD hB)
    | (go_at_call 13; refine (HP.out _ _ _ _ _ HD.out HFR.out).mono ?_; rintro e w2 ⟨⟨Ao, co, rfl, hwb⟩, hB⟩; have HWB := Lib.hid (hwb.bp.below (below_al w2 (.cells #[.int .i64 x0, .int .i64 x1, .int .i64 x2, .int .i64 x3, .int .i64 x4, .int .i64 x5, .int .i64 x6, .int .i64 6] 36))); have HB2 := Lib.hid ((HB.out.trans (hB.mono HB.out.size)).alloc (Nat.le_trans HB.out.size hB.size) (.cells #[.int .i64 x0, .int .i64 x1, .int .i64 x2, .int .i64 x3, .int .i64 x4, .int .i64 x5, .int .i64 x6, .int .i64 6] 36)); have hkk : ∀ i v, #[Value.int .i64 x0, .int .i64 x1, .int .i64 x2, .int .i64 x3, .int .i64 x4, .int .i64 x5, .int .i64 x6, .int .i64 6][i]? = some v → (w2.alloc (.cells #[.int .i64 x0, .int .i64 x1, .int .i64 x2, .int .i64 x3, .int .i64 x4, .int .i64 x5, .int .i64 x6, .int .i64 6] 36)).cell? ⟨w2.heap.size, i, none⟩ = some v := (fun i v h => new_cell w2 _ _ i v h); have k7 := hkk 7 _ rfl; clear hkk hwb hB)
    | (go_at_call 14; refine (HG.out _ _ _ HWB.out).mono ?_; rintro e w3 ⟨rfl, hB⟩; have k7 := keep_cell k7 hB; have HB3 := Lib.hid (HB2.out.trans (hB.mono HB2.out.size)); clear hB)
    | (go_at_call 9; refine (HW.out _).mono ?_; rintro e w4 ⟨⟨Aw, cw, rfl, hr⟩, hB⟩; have k7 := keep_cell k7 hB; have HB4 := Lib.hid (HB3.out.trans (hB.mono HB3.out.size)); obtain ⟨yb, yo, rfl, hyb, hyc⟩ := hr.form (by simp); have y0 := hyc 0 (by simp); simp only [iv, List.map_cons, List.map_nil, List.getElem_cons_zero, Nat.add_zero] at y0; have hl1 := hr.le; have hl2 := hr.cap; clear hB hr hyc))
  go_ret
  exact ⟨rfl, HB4.out⟩
end Go.Proofs.Ytcgfoaihfncppaa
/- Files that the laws of big make, plainly: right ones, all blocks but those of pointers empty. -/
set_option linter.unusedSimpArgs false
set_option linter.unusedVariables false
namespace Go.Sel.Bg
open Go.RowKit Go.Sel Go.Sel.Gra
/-- Blocks that are no blocks of pointers are empty. -/
def farP (D : List (List Int)) (t : List Int) (f : Nat) : Prop := ∀ q, q < 1096 → inP q → val D t q ≠ 0 → val D t q ≠ (f : Int)
def Zr (D : List (List Int)) (t : List Int) : Prop := ∀ f, f < D.length → farP D t f → nth D f = zrow
structure Mk (D : List (List Int)) (t : List Int) : Prop where
  rt : Rt D t
  len : t.length = 8
  dl : D.length = 60
  zr : Zr D t
theorem nth_set' {D : List (List Int)} {i j : Nat} (r : List Int) (h : i < D.length) : nth (D.set i r) j = if i = j then r else nth D j := by
  unfold nth
  rw [List.getD_eq_getElem?_getD, List.getD_eq_getElem?_getD, List.getElem?_set]
  by_cases e : i = j
  · subst e; simp [h]
  · simp [e]
theorem Mk.start : Mk (List.replicate 60 zrow) [0, 0, 0, 0, 0, 0, 0, 0] where
  rt := Rt_zero (whole_blank (by omega))
  len := rfl
  dl := by simp
  zr := fun f hf _ => by
    have hf' : f < 60 := by simpa using hf
    rw [nth, List.getD_eq_getElem?_getD, List.getElem?_replicate, if_pos hf']
    rfl
theorem posK_outh {p : Nat} (h : p < 1062) : ¬ inP (posK p) := by
  unfold inP
  by_cases h6 : p < 6
  · have : posK p = p := by unfold posK; rw [if_pos h6]
    omega
  · by_cases h38 : p < 38
    · have := (posK_mid h6 h38).1; omega
    · have : posK p = 40 + 33 * ((p - 38) / 32) + 1 + (p - 38) % 32 := by unfold posK; rw [if_neg h6, if_neg h38]
      omega
/-- Where Put writes: blocks of pointers of the file behind it. -/
theorem putL_far {D : List (List Int)} {t : List Int} {k : Nat} {b : Int} {F : List Int} (hR : Rt D t) (ht : t.length = 8) (hO : OkPut D t D.length k b F) (hF : 2 ≤ F.length) {f : Nat} (hf : farP (putL D t k b F).1 (putL D t k b F).2.1 f) :
    nth (putL D t k b F).1 f = nth D f ∧ farP D t f := by
  obtain ⟨_, hv⟩ := put_right hR ht hO hF
  have hk := hO.hk
  have m0 : f0 F ∈ F := by unfold f0; rw [List.getD_eq_getElem?_getD, List.getElem?_eq_getElem (by omega)]; exact List.getElem_mem _
  have m1 : f1 F ∈ F := by unfold f1; rw [List.getD_eq_getElem?_getD, List.getElem?_eq_getElem (by omega)]; exact List.getElem_mem _
  have g0 := hO.f _ m0
  have g1 := hO.f _ m1
  have hno := posK_outh hk
  have hf' : ∀ q, q < 1096 → inP q → putV D t k b F q ≠ 0 → putV D t k b F q ≠ (f : Int) := fun q hq hi => by rw [← hv q hq]; exact hf q hq hi
  have v6 : val D t 6 = tp t 6 := val_top _ _ (by omega)
  have v7 : val D t 7 = tp t 7 := val_top _ _ (by omega)
  obtain ⟨l8, ll, lp, ls, li⟩ := lf_at hk
  have hip : ∀ q, inP q → q ≠ posK k := fun q hi e => hno (e ▸ hi)
  clear hv hf
  unfold putV at hf'
  unfold putL
  by_cases h6 : k < 6
  · simp only [if_pos h6] at hf' ⊢
    refine ⟨trivial, fun q hq hi => ?_⟩
    have := hf' q hq hi
    unfold Bg.upd at this
    rwa [if_neg (hip q hi)] at this
  · simp only [if_neg h6] at hf' ⊢
    by_cases h38 : k < 38
    · obtain ⟨e1, ep, es⟩ := posK_mid h6 h38
      simp only [if_pos h38] at hf' ⊢
      by_cases hz : tp t 6 = 0
      · simp only [if_pos hz] at hf' ⊢
        have h6f : f0 F ≠ (f : Int) := by
          have := hf' 6 (by omega) (.inl rfl)
          unfold Bg.upd at this
          rw [if_neg (hip 6 (.inl rfl)), if_pos rfl] at this
          exact this (by omega)
        refine ⟨?_, fun q hq hi h0 => ?_⟩
        · have e2 : val (D.set (f0 F).toNat zrow) (t.set 6 (f0 F)) (par (posK k)) = f0 F := by
            rw [ep, val_top _ _ (by omega), tp, List.getD_eq_getElem?_getD, List.getElem?_set_self (by omega)]; rfl
          unfold setD
          rw [e2, nth_set' _ (by simp; omega), if_neg (by omega), nth_set' _ (by omega), if_neg (by omega)]
        · have := hf' q hq hi
          unfold Bg.upd at this
          rw [if_neg (hip q hi)] at this
          by_cases e6 : q = 6
          · subst e6
            exact absurd (v6.trans hz) h0
          · rw [if_neg e6] at this
            exact this h0
      · simp only [if_neg hz] at hf' ⊢
        have hold : farP D t f := fun q hq hi h0 => by
          have := hf' q hq hi
          unfold Bg.upd at this
          rw [if_neg (hip q hi)] at this
          exact this h0
        refine ⟨?_, hold⟩
        have h1 := hR.2.1 6 (by omega)
        have h2 := hold 6 (by omega) (.inl rfl) (by rw [v6]; exact hz)
        unfold setD
        rw [ep, nth_set' _ (by omega), if_neg (by omega)]
    · obtain ⟨e1, ep, es, hni⟩ := posK_hi h38
      simp only [if_neg h38] at hf' ⊢
      by_cases hz : tp t 7 = 0
      · simp only [if_pos hz] at hf' ⊢
        have hl7 : (7 : Nat) ≠ lf k := by omega
        have h7f : f0 F ≠ (f : Int) := by
          have := hf' 7 (by omega) (.inr (.inl rfl))
          unfold Bg.upd at this
          rw [if_neg (hip 7 (.inr (.inl rfl))), if_neg hl7, if_pos rfl] at this
          exact this (by omega)
        have hlf : f1 F ≠ (f : Int) := by
          have := hf' (lf k) ll li
          unfold Bg.upd at this
          rw [if_neg (hip _ li), if_pos rfl] at this
          exact this (by omega)
        have hlz : val D t (lf k) = 0 := by rw [val_par _ _ l8 ll, lp, v7, if_pos hz]
        refine ⟨?_, fun q hq hi h0 => ?_⟩
        · have e7 : tp (t.set 7 (f0 F)) 7 = f0 F := by rw [tp, List.getD_eq_getElem?_getD, List.getElem?_set_self (by omega)]; rfl
          have e2 : ∀ D' : List (List Int), val D' (t.set 7 (f0 F)) (par (lf k)) = f0 F := fun D' => by rw [lp, val_top _ _ (by omega), e7]
          have e3 : setD ((D.set (f0 F).toNat zrow).set (f1 F).toNat zrow) (t.set 7 (f0 F)) (lf k) (f1 F) = ((D.set (f0 F).toNat zrow).set (f1 F).toNat zrow).set (f0 F).toNat ((nth ((D.set (f0 F).toNat zrow).set (f1 F).toNat zrow) (f0 F).toNat).set ((k - 38) / 32) (f1 F)) := by
            unfold setD
            rw [e2, ls]
            rfl
          rw [e3]
          have n01 : f1 F ≠ f0 F := by
            unfold f0 f1
            rw [List.getD_eq_getElem?_getD, List.getD_eq_getElem?_getD, List.getElem?_eq_getElem (show 0 < F.length by omega), List.getElem?_eq_getElem (show 1 < F.length by omega)]
            have := List.pairwise_iff_getElem.1 hO.nd 0 1 (by omega) (by omega) (by omega)
            simpa using fun e => this e.symm
          have hl : (k - 38) / 32 < 32 := by omega
          have e4 : val (((D.set (f0 F).toNat zrow).set (f1 F).toNat zrow).set (f0 F).toNat ((nth ((D.set (f0 F).toNat zrow).set (f1 F).toNat zrow) (f0 F).toNat).set ((k - 38) / 32) (f1 F))) (t.set 7 (f0 F)) (par (posK k)) = f1 F := by
            rw [ep, val_par _ _ l8 ll, e2, if_neg (by omega), ls, at2_set _ _ _ _ _ (by simp; omega), if_pos rfl]
            have hl2 : (k - 38) / 32 < (nth ((D.set (f0 F).toNat zrow).set (f1 F).toNat zrow) (f0 F).toNat).length := by
              rw [nth_set' _ (by simp; omega), if_neg (by omega), nth_set' _ (by omega), if_pos rfl]
              simpa [zrow] using hl
            rw [List.getD_eq_getElem?_getD, List.getElem?_set_self hl2]
            rfl
          unfold setD
          rw [e4, nth_set' _ (by simp; omega), if_neg (by omega), nth_set' _ (by simp; omega), if_neg (by omega), nth_set' _ (by simp; omega), if_neg (by omega), nth_set' _ (by omega), if_neg (by omega)]
        · have := hf' q hq hi
          unfold Bg.upd at this
          rw [if_neg (hip q hi)] at this
          by_cases el : q = lf k
          · subst el
            exact absurd hlz h0
          · rw [if_neg el] at this
            by_cases e7 : q = 7
            · subst e7
              exact absurd (v7.trans hz) h0
            · rw [if_neg e7] at this
              exact this h0
      · simp only [if_neg hz] at hf' ⊢
        have h7 := hR.2.1 7 (by omega)
        rw [v7] at h7
        by_cases hl : val D t (lf k) = 0
        · simp only [if_pos hl] at hf' ⊢
          have h0f : f0 F ≠ (f : Int) := by
            have := hf' (lf k) ll li
            unfold Bg.upd at this
            rw [if_neg (hip _ li), if_pos rfl] at this
            exact this (by omega)
          have hold : farP D t f := fun q hq hi h0 => by
            have := hf' q hq hi
            unfold Bg.upd at this
            rw [if_neg (hip q hi)] at this
            by_cases el : q = lf k
            · subst el; exact absurd hl h0
            · rw [if_neg el] at this
              exact this h0
          refine ⟨?_, hold⟩
          have h7f := hold 7 (by omega) (.inr (.inl rfl)) (by rw [v7]; exact hz)
          rw [v7] at h7f
          have hne : f0 F ≠ tp t 7 := fun e => hO.nf _ m0 7 (by omega) (by rw [v7, e])
          have e2 : ∀ D' : List (List Int), val D' t (par (lf k)) = tp t 7 := fun D' => by rw [lp, val_top _ _ (by omega)]
          have e3 : setD (D.set (f0 F).toNat zrow) t (lf k) (f0 F) = (D.set (f0 F).toNat zrow).set (tp t 7).toNat ((nth (D.set (f0 F).toNat zrow) (tp t 7).toNat).set ((k - 38) / 32) (f0 F)) := by
            unfold setD
            rw [e2, ls]
            rfl
          rw [e3]
          have hl3 : (k - 38) / 32 < 32 := by omega
          have e4 : val ((D.set (f0 F).toNat zrow).set (tp t 7).toNat ((nth (D.set (f0 F).toNat zrow) (tp t 7).toNat).set ((k - 38) / 32) (f0 F))) t (par (posK k)) = f0 F := by
            rw [ep, val_par _ _ l8 ll, e2, if_neg hz, ls, at2_set _ _ _ _ _ (by simp; omega), if_pos rfl]
            have hl2 : (k - 38) / 32 < (nth (D.set (f0 F).toNat zrow) (tp t 7).toNat).length := by
              have hlt : (tp t 7).toNat < D.length := by omega
              have e5 : nth D (tp t 7).toNat = D[(tp t 7).toNat] := by simp [nth, hlt]
              rw [nth_set' _ (by omega), if_neg (by omega), e5, hR.1.2 _ (List.getElem_mem hlt)]
              exact hl3
            rw [List.getD_eq_getElem?_getD, List.getElem?_set_self hl2]
            rfl
          unfold setD
          rw [e4, nth_set' _ (by simp; omega), if_neg (by omega), nth_set' _ (by simp; omega), if_neg (by omega), nth_set' _ (by omega), if_neg (by omega)]
        · simp only [if_neg hl] at hf' ⊢
          have hold : farP D t f := fun q hq hi h0 => by
            have := hf' q hq hi
            unfold Bg.upd at this
            rw [if_neg (hip q hi)] at this
            exact this h0
          refine ⟨?_, hold⟩
          have h1 := hR.2.1 (lf k) ll
          have h2 := hold (lf k) ll li hl
          unfold setD
          rw [ep, nth_set' _ (by omega), if_neg (by omega)]
theorem Mk.put {D : List (List Int)} {t : List Int} {k : Nat} {b : Int} {F : List Int} (h : Mk D t) (hO : OkPut D t 60 k b F) (hF : 2 ≤ F.length) : Mk (putL D t k b F).1 (putL D t k b F).2.1 := by
  have hO' : OkPut D t D.length k b F := by rw [h.dl]; exact hO
  obtain ⟨l1, l2, l3⟩ := putL_len D t k b F
  exact ⟨(put_right h.rt h.len hO' hF).1, l2.trans h.len, l1.trans h.dl, fun f hf hfar => by
    obtain ⟨e, hold⟩ := putL_far h.rt h.len hO' hF hfar
    rw [e]
    exact h.zr f (by rw [← l1]; exact hf) hold⟩
end Go.Sel.Bg
