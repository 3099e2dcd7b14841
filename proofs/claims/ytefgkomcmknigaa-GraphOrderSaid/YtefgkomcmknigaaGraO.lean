/- Walks of graph's laws: GraphOrder. -/
import Derived.Test.YtefgkomcmknigaaGraL
import Derived.Test.YtefgkomcmknigaaGra5
set_option linter.unusedSimpArgs false
set_option linter.unusedVariables false
namespace Go.Proofs.Ytefgkomcmknigaa
open Go.RowKit Go.Sel Go.Sel.Gra Go.Shelf

attribute [local go_sem] Oper.semAt_some

theorem before_in {D : List (List Int)} {a b : Int} (h : beforeB D a b = true) : rightD D = true ∧ 0 ≤ a ∧ a < b ∧ b < (D.length : Int) := by
  obtain ⟨hr, h0, h1, h2⟩ := before_iff.1 h
  have := h2.lt hr
  exact ⟨hr, h0, by omega, by omega⟩
theorem before_trans {D : List (List Int)} {a b c : Int} (h : beforeB D a b = true) (k : beforeB D b c = true) : beforeB D a c = true := by
  obtain ⟨hr, h0, h1, h2⟩ := before_iff.1 h
  obtain ⟨_, k0, k1, k2⟩ := before_iff.1 k
  exact before_iff.2 ⟨hr, h0, k1, k2.trans h2⟩
theorem before_asym {D : List (List Int)} {a b : Int} (h : beforeB D a b = true) : beforeB D b a = false := by
  cases h' : beforeB D b a with
  | false => rfl
  | true => have := before_in h; have := before_in h'; omega
theorem before_depth {D : List (List Int)} {a b : Int} (h : beforeB D a b = true) : depthI D a < depthI D b := by
  obtain ⟨hr, h0, h1, h2⟩ := before_iff.1 h
  obtain ⟨_, _, h3, h4⟩ := before_in h
  have := deep_lt hr h2
  rw [depthI, depthI, if_pos (by simp [hr]; omega), if_pos (by simp [hr]; omega)]
  exact this
theorem before_above {D : List (List Int)} {a b : Int} (h : beforeB D a b = true) : b ∈ aboveL D a := by
  obtain ⟨hr, h0, h1, h2⟩ := before_in h
  obtain ⟨n, rfl⟩ := Int.eq_ofNat_of_zero_le (show 0 ≤ b by omega)
  exact mem_aboveL.2 h

theorem fr_drew1 (w : World) : Below w.heap.size w w.drew := ⟨rfl, rfl, rfl, Nat.le_refl _, fun _ _ => rfl⟩
set_option maxRecDepth 100000 in
set_option maxHeartbeats 8000000 in
theorem law_GraphOrder (A : Option Addr) (n c : Nat) (D : List (List Int)) (x y z : Int) (W : World) (hD : Dp W A n c D) :
    Calls Try.prog 6 #[.slice A n c, .agg #[.int .i64 x, .int .i64 y, .int .i64 z]] W fun e W' => e = .returned (.bool true) ∧ Below W.heap.size W W' := by
  have HD := Lib.hid hD
  have l1 := hD.le
  have l2 := hD.cap
  clear hD
  go_enter Try.func6, Try.ntmps6
  go_upto_region 2 with (go_at_call 12; (with_reducible refine (few_any _ _ _ D _ (HD.out.below (below_al _ _))).mono ?_); rintro e w1 ⟨⟨A1, c1, rfl, hd⟩, hB⟩; have HE := Lib.hid hd; have HB1 := Lib.hid hB; clear hd hB)
  have hc0 : w1.cell? ⟨W.heap.size, 0, none⟩ = some (.int .i64 x) := keep_cell (new_cell W #[.int .i64 x, .int .i64 y, .int .i64 z] _ 0 _ rfl) HB1.out
  have hc1 : w1.cell? ⟨W.heap.size, 1, none⟩ = some (.int .i64 y) := keep_cell (new_cell W #[.int .i64 x, .int .i64 y, .int .i64 z] _ 1 _ rfl) HB1.out
  have hc2 : w1.cell? ⟨W.heap.size, 2, none⟩ = some (.int .i64 z) := keep_cell (new_cell W #[.int .i64 x, .int .i64 y, .int .i64 z] _ 2 _ rfl) HB1.out
  have HB2 : Hid (Below W.heap.size W w1) := below_then (below_al _ _) HB1.out
  clear HB1
  go_region
  have HB3 : Hid (Below W.heap.size W w1.drew) := below_then HB2.out (fr_drew1 w1)
  have HE3 : Hid (Dp w1.drew A1 (min n 40) c1 (fewD D)) := HE.out.below (fr_drew1 w1)
  clear hc0 hc1 hc2 HB2 HE
  generalize w1.drew = w2 at *
  generalize fewD D = E at *
  generalize min n 40 = N at *
  have HXY : Hid (beforeB E x y = true → beforeB E y z = true → beforeB E x z = true) := fun h k => before_trans h k
  have HLT : Hid (beforeB E x y = true → x < y) := fun h => (before_in h).2.2.1
  have HDE : Hid (beforeB E x y = true → depthI E x < depthI E y) := before_depth
  have HAB : Hid (beforeB E x y = true → y ∈ aboveL E x) := before_above
  have HAS : Hid (beforeB E x y = true → beforeB E y x = false) := before_asym
  cases hxy : beforeB E x y with
  | false =>
    have QXY := Lib.hid hxy
    clear hxy
    go_wp2_with (first
      | (go_at_call 14; (with_reducible refine (live_any _).mono ?_); rintro e w3 ⟨rfl, hB⟩; have HE4 := Lib.hid (HE3.out.below hB); have HB4 := Lib.hid (below_then HB3.out hB); clear hB)
      | (go_at_call 19; (with_reducible refine (Before_any _ _ _ E _ _ _ HE4.out).mono ?_); rw [QXY.out]; rintro e w4 ⟨rfl, hB⟩; have HB5 := Lib.hid (below_then HB4.out hB); clear hB)
      | (go_at_call 19; (with_reducible refine (Before_any _ _ _ E _ _ _ HE3.out).mono ?_); rw [QXY.out]; rintro e w3 ⟨rfl, hB⟩; have HE3 := Lib.hid (HE3.out.below hB); have HB3 := Lib.hid (below_then HB3.out hB); clear hB))
    go_ret
    exact ⟨rfl, HB5.out⟩
  | true =>
    have QXY := Lib.hid hxy
    have QYX := Lib.hid (HAS.out hxy)
    have hlt := HLT.out hxy
    have hde := HDE.out hxy
    have QAB : Hid (decide (y ∈ aboveL E x) = true) := by show _ = _; simpa using HAB.out hxy
    have HXZ := Lib.hid (HXY.out hxy)
    clear hxy HXY HLT HDE HAB HAS
    have hq1 : decide (x < y) = true := by simpa using hlt
    have hq2 : decide (depthI E x < depthI E y) = true := by simpa using hde
    cases hyz : beforeB E y z with
    | false =>
      have QYZ := Lib.hid hyz
      clear hyz HXZ
      go_wp2_with (first
          | (go_at_call 14; (with_reducible refine (live_any _).mono ?_); rintro e w8 ⟨rfl, hB⟩; have HE4 := Lib.hid (HE3.out.below hB); have HB4 := Lib.hid (below_then HB3.out hB); clear HE3 HB3 hB)
          | (go_at_call 20; (with_reducible refine (Depth_any _ _ _ E _ _ HE4.out).mono ?_); rintro e w4 ⟨rfl, hB⟩; have HE4 := Lib.hid (HE4.out.below hB); have HB4 := Lib.hid (below_then HB4.out hB); clear hB)
          | (go_at_call 23; (with_reducible refine (Above_any _ _ _ E _ _ HE4.out).mono ?_); rintro e w4 ⟨⟨A2, c2, rfl, hr⟩, hB⟩; have HR := Lib.hid hr; have HE4 := Lib.hid (HE4.out.below hB); have HB4 := Lib.hid (below_then HB4.out hB); clear hB hr)
          | (go_at_call 18; (with_reducible refine (Has_any _ _ _ (aboveL E x) _ _ HR.out rfl).mono ?_); rw [QAB.out]; rintro e w4 ⟨rfl, rfl⟩)
          | (go_at_call 19; (with_reducible refine (Before_any _ _ _ E x y _ HE4.out).mono ?_); rw [QXY.out]; rintro e w4 ⟨rfl, hB⟩; have HE4 := Lib.hid (HE4.out.below hB); have HB4 := Lib.hid (below_then HB4.out hB); clear hB)
          | (go_at_call 19; (with_reducible refine (Before_any _ _ _ E y x _ HE4.out).mono ?_); rw [QYX.out]; rintro e w4 ⟨rfl, hB⟩; have HE4 := Lib.hid (HE4.out.below hB); have HB4 := Lib.hid (below_then HB4.out hB); clear hB)
          | (go_at_call 19; (with_reducible refine (Before_any _ _ _ E x y _ HE3.out).mono ?_); rw [QXY.out]; rintro e w3 ⟨rfl, hB⟩; have HE3 := Lib.hid (HE3.out.below hB); have HB3 := Lib.hid (below_then HB3.out hB); clear hB)
          | (go_at_call 19; (with_reducible refine (Before_any _ _ _ E y z _ HE3.out).mono ?_); rw [QYZ.out]; rintro e w3 ⟨rfl, hB⟩; have HE3 := Lib.hid (HE3.out.below hB); have HB3 := Lib.hid (below_then HB3.out hB); clear hB)
          | (go_at_call 19; (with_reducible refine (Before_any _ _ _ E x z _ HE3.out).mono ?_); rw [QXZ.out]; rintro e w3 ⟨rfl, hB⟩; have HE3 := Lib.hid (HE3.out.below hB); have HB3 := Lib.hid (below_then HB3.out hB); clear hB))
      go_ret
      exact ⟨rfl, HB4.out⟩
    | true =>
      have QYZ := Lib.hid hyz
      have QXZ := Lib.hid (HXZ.out hyz)
      clear hyz HXZ
      go_wp2_with (first
          | (go_at_call 14; (with_reducible refine (live_any _).mono ?_); rintro e w8 ⟨rfl, hB⟩; have HE4 := Lib.hid (HE3.out.below hB); have HB4 := Lib.hid (below_then HB3.out hB); clear HE3 HB3 hB)
          | (go_at_call 20; (with_reducible refine (Depth_any _ _ _ E _ _ HE4.out).mono ?_); rintro e w4 ⟨rfl, hB⟩; have HE4 := Lib.hid (HE4.out.below hB); have HB4 := Lib.hid (below_then HB4.out hB); clear hB)
          | (go_at_call 23; (with_reducible refine (Above_any _ _ _ E _ _ HE4.out).mono ?_); rintro e w4 ⟨⟨A2, c2, rfl, hr⟩, hB⟩; have HR := Lib.hid hr; have HE4 := Lib.hid (HE4.out.below hB); have HB4 := Lib.hid (below_then HB4.out hB); clear hB hr)
          | (go_at_call 18; (with_reducible refine (Has_any _ _ _ (aboveL E x) _ _ HR.out rfl).mono ?_); rw [QAB.out]; rintro e w4 ⟨rfl, rfl⟩)
          | (go_at_call 19; (with_reducible refine (Before_any _ _ _ E x y _ HE4.out).mono ?_); rw [QXY.out]; rintro e w4 ⟨rfl, hB⟩; have HE4 := Lib.hid (HE4.out.below hB); have HB4 := Lib.hid (below_then HB4.out hB); clear hB)
          | (go_at_call 19; (with_reducible refine (Before_any _ _ _ E y x _ HE4.out).mono ?_); rw [QYX.out]; rintro e w4 ⟨rfl, hB⟩; have HE4 := Lib.hid (HE4.out.below hB); have HB4 := Lib.hid (below_then HB4.out hB); clear hB)
          | (go_at_call 19; (with_reducible refine (Before_any _ _ _ E x y _ HE3.out).mono ?_); rw [QXY.out]; rintro e w3 ⟨rfl, hB⟩; have HE3 := Lib.hid (HE3.out.below hB); have HB3 := Lib.hid (below_then HB3.out hB); clear hB)
          | (go_at_call 19; (with_reducible refine (Before_any _ _ _ E y z _ HE3.out).mono ?_); rw [QYZ.out]; rintro e w3 ⟨rfl, hB⟩; have HE3 := Lib.hid (HE3.out.below hB); have HB3 := Lib.hid (below_then HB3.out hB); clear hB)
          | (go_at_call 19; (with_reducible refine (Before_any _ _ _ E x z _ HE3.out).mono ?_); rw [QXZ.out]; rintro e w3 ⟨rfl, hB⟩; have HE3 := Lib.hid (HE3.out.below hB); have HB3 := Lib.hid (below_then HB3.out hB); clear hB))
      go_ret
      exact ⟨rfl, HB4.out⟩
end Go.Proofs.Ytefgkomcmknigaa
