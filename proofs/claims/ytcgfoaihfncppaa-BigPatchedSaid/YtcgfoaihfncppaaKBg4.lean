/- Walks of big: look. -/
import Derived.Test.YtcgfoaihfncppaaKBgQ
import Derived.Test.YtcgfoaihfncppaaKBg1
import Derived.Test.YtcgfoaihfncppaaKSel7
import Derived.OrdersHeld
import Derived.Deep.AppendLies
import Derived.Tactics
set_option linter.unusedSimpArgs false
set_option linter.unusedVariables false
namespace Go.Proofs.Ytcgfoaihfncppaa
open Go.RowKit Go.Sel Go.Sel.Gra Go.Sel.Bg Go.Sel.Mer Go.Shelf

theorem look1_ok (A : Option Addr) (c : Nat) (w : World) : Calls Try.prog 61 #[.slice A 32 c] w fun e w' => e = .returned (.bool false) ∧ w' = w := by
  have q0 : (((32 : Nat) : Int) != 32) = false := by decide
  go_enter Try.func61, Try.ntmps61
  go_wp2
  go_ret
  exact ⟨rfl, rfl⟩
theorem IndexFuncB_ok (A : Option Addr) (n c : Nat) (D : List (List Int)) (w : World) (hD : Bp w A n c D) (hW : whole D) :
    Calls Try.prog 79 #[.slice A n c, .func (.func 61) #[] #[]] w fun e w' => e = .returned (.int .i64 (-1)) ∧ w' = w := by
  have HD := Lib.hid hD
  have HW := Lib.hid hW
  have l1 := hD.le
  have l2 := hD.cap
  have HP := Lib.hid look1_ok
  clear hD hW
  go_enter Try.func79, Try.ntmps79
  go_wp2
  go_loopw [5, 8] (fun _ v wr => ∃ k : Nat, k ≤ n ∧ v = .int .i64 k ∧ wr = w) (fun _ v _ => n - (Go.RowKit.intOf v).toNat)
  case atStart => exact ⟨0, by omega, rfl, rfl⟩
  case round =>
    obtain ⟨k, hk, rfl, rfl⟩ := hrel
    by_cases hlt : k < n
    · obtain ⟨b, off, A', n', c', rfl, hb, hcell, hl', hR', hby⟩ := HD.out.at_ hlt
      have h32 : n' = 32 := by
        rw [← hl']
        have hbl : k < D.length := by rw [HD.out.len]; exact hlt
        have : nth D k = D[k] := by simp [nth, hbl]
        rw [this]
        exact HW.out.2 _ (List.getElem_mem hbl)
      subst h32
      clear hl' hR' hby
      go_wp2_with (go_at_call 61; (with_reducible refine (HP.out _ _ _).mono ?_); rintro e w2 ⟨rfl, rfl⟩)
      exact ⟨⟨k + 1, by omega, by go_num, by simp⟩, by simp [Go.RowKit.intOf]; omega⟩
    · go_wp2
      go_ret
      exact ⟨rfl, rfl⟩
theorem ContainsFuncB_ok (A : Option Addr) (n c : Nat) (D : List (List Int)) (w : World) (hD : Bp w A n c D) (hW : whole D) :
    Calls Try.prog 60 #[.slice A n c, .func (.func 61) #[] #[]] w fun e w' => e = .returned (.bool false) ∧ w' = w := by
  have HC := Lib.hid (IndexFuncB_ok A n c D w hD hW)
  clear hD hW
  go_enter Try.func60, Try.ntmps60
  go_wp2_with (go_at_call 79; refine HC.out.mono ?_; rintro e w' ⟨rfl, rfl⟩)
  go_ret
  exact ⟨rfl, rfl⟩

section
variable (D : List (List Int)) (t : List Int)
theorem val_lo {p : Nat} (h : p < 8) : val D t p = tp t p := by rw [val, if_pos h]
theorem val_I {i : Nat} (h : i < 32) : val D t (8 + i) = vI D t i := by rw [val, if_neg (by omega), if_pos (by omega)]; congr 1; omega
theorem val_D {i : Nat} : val D t (40 + 33 * i) = vD D t i := by rw [val, if_neg (by omega), if_neg (by omega), if_pos (by omega)]; congr 1; omega
theorem val_E {i j : Nat} (h : j < 32) : val D t (40 + 33 * i + 1 + j) = vE D t i j := by
  rw [val, if_neg (by omega), if_neg (by omega), if_neg (by omega)]
  have e1 : (40 + 33 * i + 1 + j - 40) / 33 = i := by omega
  have e2 : (40 + 33 * i + 1 + j - 40) % 33 - 1 = j := by omega
  rw [e1, e2]
def innE (i : Nat) : List (Int × Int) := (List.range i).flatMap fun i => if vD D t i = 0 then [] else [(vD D t i, 2)]
def innI : List (Int × Int) := if tp t 6 = 0 then [] else [(tp t 6, 1)]
def innD : List (Int × Int) := innI t ++ if tp t 7 = 0 then [] else (tp t 7, 1) :: innE D t 32
theorem innE_succ (i : Nat) : innE D t (i + 1) = innE D t i ++ if vD D t i = 0 then [] else [(vD D t i, 2)] := by simp [innE, List.range_succ]
theorem innE_len : ∀ i, (innE D t i).length ≤ i
  | 0 => by simp [innE]
  | i + 1 => by
    rw [innE_succ, List.length_append]
    have := innE_len i
    split <;> simp <;> omega
end
theorem posK_lo {i : Nat} (h : i < 6) : posK i = i := by rw [posK, if_pos h]
theorem posK_I {i : Nat} (h : i < 32) : posK (6 + i) = 8 + i := by rw [posK, if_neg (by omega), if_pos (by omega)]; omega
theorem posK_E {i j : Nat} (h : j < 32) : posK (38 + 32 * i + j) = 40 + 33 * i + 1 + j := by rw [posK, if_neg (by omega), if_neg (by omega)]; omega
theorem posK_no67 {k p : Nat} (h : p = 6 ∨ p = 7) : posK k ≠ p := by unfold posK; split <;> (try split) <;> omega
theorem posK_noD {k i : Nat} : posK k ≠ 40 + 33 * i := by unfold posK; split <;> (try split) <;> omega
theorem _root_.Go.Sel.Bg.Vw.skip {w0 w : World} {A : Option Addr} {n c : Nat} {D : List (List Int)} {t : List Int} {vb mp mt m : Nat} {inn : List (Int × Int)} {vi : Value} (h : Vw w0 w A n c D t vb mp mt m m inn vi) (q : Nat) (hz : ∀ i, i < q → val D t (m + i) = 0) : Vw w0 w A n c D t vb mp mt (m + q) (m + q) inn vi := by
  induction q with
  | zero => exact h
  | succ q ih =>
    have h1 := ih fun i hi => hz i (by omega)
    have hv := hz q (by omega)
    obtain ⟨q1, q2, q3, q4, q5, q6, q7, ⟨l, i1, p1⟩, l', i2, p2⟩ := h1
    exact ⟨q1, q2, q3, q4, q5, q6, q7, ⟨l, i1, p1.none (.inl hv)⟩, l', i2, p2.zero hv⟩
theorem index8 (t : List Int) (ht : t.length = 8) (i : Nat) (hi : i < 8) (w : World) : (Instr.index 66 (bigV t) (.int .i64 (i : Int))).run Try.prog w = .ok (.int .i64 (tp t i)) w := by
  obtain ⟨a0, a1, a2, a3, a4, a5, a6, a7, rfl⟩ := len8 ht
  rcases (show i = 0 ∨ i = 1 ∨ i = 2 ∨ i = 3 ∨ i = 4 ∨ i = 5 ∨ i = 6 ∨ i = 7 by omega) with rfl | rfl | rfl | rfl | rfl | rfl | rfl | rfl <;> kernel_rfl
/-- The view as it is made. -/
theorem Vw.made (w w1 : World) (h : Below w.heap.size w w1) (A : Option Addr) (n c : Nat) (D : List (List Int)) (t : List Int) :
    Vw w (((w1.alloc (.map #[] 0)).alloc (.map #[] 0)).alloc (.cells (vcells A n c t w1.heap.size (.slice none 0 0) (w1.heap.size + 1)).toArray 84)) A n c D t (w1.heap.size + 2) w1.heap.size (w1.heap.size + 1) 0 0 [] (.slice none 0 0) := by
  have hs := h.size
  have b1 : Below w1.heap.size w1 ((w1.alloc (.map #[] 0)).alloc (.map #[] 0)) := (below_al w1 _).alloc (by simp) _
  have b2 := b1.alloc (by simp <;> omega) (.cells (vcells A n c t w1.heap.size (.slice none 0 0) (w1.heap.size + 1)).toArray 84)
  have m1 : IMap (w1.alloc (.map #[] 0)) w1.heap.size [] := IMap.new w1 (t := 0) (kt := 0) (e := 0)
  have m2 : IMap ((w1.alloc (.map #[] 0)).alloc (.map #[] 0)) (w1.heap.size + 1) [] := by have := IMap.new (w1.alloc (.map #[] 0)) (t := 0) (kt := 0) (e := 0); simpa using this
  refine ⟨h.trans (b2.mono hs), ?_, by omega, by omega, by omega, by omega, World.ownsRow_nil _ _ _ _, ⟨[], ?_, PlS.nil⟩, [], ?_, TkS.nil⟩
  · have := blk11 ((w1.alloc (.map #[] 0)).alloc (.map #[] 0)) (.cells (vcells A n c t w1.heap.size (.slice none 0 0) (w1.heap.size + 1)).toArray 84)
    simpa using this
  · exact (m1.below (below_al _ _) (by simp)).below (below_al _ _) (by simp; omega)
  · exact m2.below (below_al _ _) (by simp)

set_option maxRecDepth 100000 in
set_option maxHeartbeats 4000000 in
theorem look_ok (A : Option Addr) (n c : Nat) (D : List (List Int)) (t : List Int) (ht : t.length = 8) (w : World) (hD : Bp w A n c D) (hR : Rt D t) :
    Calls Try.prog 36 #[.slice A n c, bigV t] w fun e w' => ∃ vb mp mt vi, e = .returned (.pointer (some ⟨vb, 0, none⟩)) ∧ Vw w w' A n c D t vb mp mt 1096 1096 (innD D t) vi := by
  have HD := Lib.hid hD
  have HW := Lib.hid hR.1
  have HU := Lib.hid hR.2
  have hn : n ≤ 96 := by rw [← hD.len]; exact hR.1.1
  have hc1 := hD.le
  have hc2 := hD.cap
  have HM := Lib.hid must_ok
  have HT := Lib.hid (top_any t ht)
  have HX := Lib.hid (index8 t ht)
  have HLN := Lib.hid ht
  have hmm := @run_makeMap Try.prog
  clear hD hR
  obtain ⟨a0, a1, a2, a3, a4, a5, a6, a7, rfl⟩ := len8 ht
  clear ht
  simp only [bigV, iv, List.map_cons, List.map_nil] at HT HX ⊢
  have hn3 : ((n : Nat) : Int) ≤ 96 := by omega
  go_enter Try.func36, Try.ntmps36
  go_wp2_with (first
    | (go_at_call 37; (with_reducible refine (HM.out _ _).mono ?_); rintro e w2 ⟨rfl, rfl⟩)
    | (go_at_call 60; (with_reducible refine (ContainsFuncB_ok A n c D _ (HD.out.below (below_al _ _)) HW.out).mono ?_); rintro e w2 ⟨rfl, rfl⟩)
    | (go_at_call 39; (with_reducible refine (HT.out _).mono ?_); rintro e w2 ⟨rfl, hB⟩; have HV0 := Lib.hid (Vw.made w w2 ((below_al w _).trans (hB.mono (by simp))) A n c D [a0, a1, a2, a3, a4, a5, a6, a7]); clear hB))
  simp only [vcells, iv, List.map_cons, List.map_nil, List.cons_append, List.nil_append] at HV0
  clear HT HM hmm
  generalize hvb : w2.heap.size + 2 = vb at *
  generalize hmt : w2.heap.size + 1 = mt at *
  generalize hmp : w2.heap.size = mp at *
  clear hvb hmt hmp
  go_loopw [6, 7, 32] (fun _ _ v wr => ∃ i : Nat, i ≤ 8 ∧ v = .int .i64 i ∧ Hid (Vw w wr A n c D [a0, a1, a2, a3, a4, a5, a6, a7] vb mp mt i i [] (.slice none 0 0))) (fun _ _ v _ => 8 - (Go.RowKit.intOf v).toNat)
  case atStart => exact ⟨0, by omega, rfl, HV0⟩
  case round =>
    clear HV0
    obtain ⟨i, hi8, rfl, HV⟩ := hrel
    by_cases hlt : i < 8
    · have hidx := HX.out i hlt wr
      have HP := Lib.hid (point_any w wr A n c D [a0, a1, a2, a3, a4, a5, a6, a7] vb mp mt i i [] (.slice none 0 0) rfl HD.out hn HU.out (by omega) HV.out)
      rw [val_lo D _ hlt] at HP
      have HE := Lib.hid (val_lo D [a0, a1, a2, a3, a4, a5, a6, a7] hlt)
      clear HV HX
      generalize tp [a0, a1, a2, a3, a4, a5, a6, a7] i = x at *
      by_cases hx : x = 0
      · have HZ : Hid (val D [a0, a1, a2, a3, a4, a5, a6, a7] i = 0) := Lib.hid (HE.out.trans hx)
        subst hx
        go_wp2_with (go_at_call 62; (with_reducible refine HP.out.mono ?_); rintro e w3 ⟨rfl, hV2⟩; have HV2 := Lib.hid hV2; clear hV2)
        exact ⟨⟨i + 1, by omega, by go_num, HV2.out.noplace (.inl HZ.out)⟩, by simp [Go.RowKit.intOf]; omega⟩
      · have HZ : Hid (val D [a0, a1, a2, a3, a4, a5, a6, a7] i ≠ 0) := Lib.hid (by rw [HE.out]; exact hx)
        have hx2 : decide (x ≠ 0) = true := by simpa using hx
        rw [hx2] at HP
        by_cases h6 : i < 6
        · go_wp2_with (go_at_call 62; (with_reducible refine HP.out.mono ?_); rintro e w3 ⟨rfl, hV2⟩; obtain ⟨c0, c9, c10, c11, ct, cz⟩ := hV2.cell rfl; obtain ⟨l, hl, hpl⟩ := hV2.pl; obtain ⟨w4, hrun, hm1, hb1⟩ := hl.store (P := Try.prog) Try.underlying80 Try.underlying3 (i : Int) (.int .i64 x); have HV3 : Hid (Vw w w4 A n c D [a0, a1, a2, a3, a4, a5, a6, a7] vb mp mt (i + 1) (i + 1) [] (.slice none 0 0)) := (by have q1 := hpl.step (show i < 1062 by omega) (posK_lo h6) HZ.out; rw [HE.out] at q1; exact hV2.placed hb1 hm1 q1); clear hV2 hl hpl hm1 hb1 c0 c10 c11 ct cz)
          exact ⟨⟨i + 1, by omega, by go_num, HV3.out⟩, by simp [Go.RowKit.intOf]; omega⟩
        · go_wp2_with (go_at_call 62; (with_reducible refine HP.out.mono ?_); rintro e w3 ⟨rfl, hV2⟩; have HV2 := Lib.hid hV2; clear hV2)
          exact ⟨⟨i + 1, by omega, by go_num, HV2.out.noplace (.inr fun k _ => posK_no67 (by omega))⟩, by simp [Go.RowKit.intOf]; omega⟩
    · obtain rfl : i = 8 := by omega
      have HR67 : Hid ((0 ≤ a6 ∧ a6.toNat < max 1 D.length) ∧ 0 ≤ a7 ∧ a7.toNat < max 1 D.length) := Lib.hid ⟨by have := HU.out.1 6 (by omega); rwa [val_lo D _ (by omega)] at this, by have := HU.out.1 7 (by omega); rwa [val_lo D _ (by omega)] at this⟩
      obtain ⟨c0, c9, c10, c11, ct, cz⟩ := HV.out.cell rfl
      have c7 := ct 6 (by simp)
      simp only [List.getElem_cons_succ, List.getElem_cons_zero, Nat.reduceAdd] at c7
      clear c0 c9 c10 c11 ct cz HX hi8 hlt
      go_upto_if 56 with (fail)
      go_cut [] (fun wx => ∃ vi, Hid (Vw w wx A n c D [a0, a1, a2, a3, a4, a5, a6, a7] vb mp mt 40 40 (innI [a0, a1, a2, a3, a4, a5, a6, a7]) vi))
      case first =>
        by_cases h6 : a6 = 0
        · subst h6
          have q0 : ((0 : Int) != 0) = false := by decide
          go_wp2
          go_meet
          refine ⟨.slice none 0 0, ?_⟩
          have hz : ∀ i, i < 32 → val D [a0, a1, a2, a3, a4, a5, 0, a7] (8 + i) = 0 := fun i hi => by rw [val_I D _ hi]; rfl
          exact HV.out.skip 32 hz
        · obtain ⟨b6, rfl⟩ : ∃ b6 : Nat, a6 = (b6 : Int) := ⟨a6.toNat, by have := HR67.out.1; omega⟩
          have HL := Lib.hid (leaf_any w wr A n c D [a0, a1, a2, a3, a4, a5, (b6 : Int), a7] vb mp mt 8 [] (.slice none 0 0) rfl HD.out hn HW.out HU.out (by omega) HV.out (by simp) b6 6 1 (by have := HR67.out.1.2; have := HD.out.len; omega) (fun i hi => by rw [val_I D _ hi]; show (if ((b6 : Int) = 0) then 0 else at2 D (b6 : Int) i) = _; rw [if_neg h6]) (fun i hi => ⟨posK_I hi, by omega⟩))
          go_wp2_with (go_at_call 63; (refine HL.out.mono ?_); rintro e w3 ⟨rfl, vi, hV2⟩; have HV2 := Lib.hid hV2; clear hV2)
          go_meet
          refine ⟨vi, ?_⟩
          have e : innI [a0, a1, a2, a3, a4, a5, (b6 : Int), a7] = [((b6 : Int), 1)] := if_neg h6
          rw [e]
          exact HV2.out
      case rest =>
        clear HV c7
        obtain ⟨vi, HV⟩ := hcut
        obtain ⟨c0, c9, c10, c11, ct, cz⟩ := HV.out.cell rfl
        have c8 := ct 7 (by simp)
        simp only [List.getElem_cons_succ, List.getElem_cons_zero, Nat.reduceAdd] at c8
        clear c0 c9 c11 ct
        by_cases h7 : a7 = 0
        · subst h7
          have q0 : ((0 : Int) != 0) = false := by decide
          go_wp2
          go_ret
          refine ⟨vb, mp, mt, vi, rfl, ?_⟩
          have e : innD D [a0, a1, a2, a3, a4, a5, a6, 0] = innI [a0, a1, a2, a3, a4, a5, a6, 0] := List.append_nil _
          rw [e]
          refine HV.out.skip 1056 fun i hi => ?_
          have hD0 : ∀ j, vD D [a0, a1, a2, a3, a4, a5, a6, 0] j = 0 := fun j => rfl
          have hE0 : ∀ j q, vE D [a0, a1, a2, a3, a4, a5, a6, 0] j q = 0 := fun j q => rfl
          rw [val, if_neg (by omega), if_neg (by omega)]
          split
          · exact hD0 _
          · exact hE0 _ _
        · obtain ⟨b7, rfl⟩ : ∃ b7 : Nat, a7 = (b7 : Int) := ⟨a7.toNat, by have := HR67.out.2; omega⟩
          have hb7 : b7 < n := by have := HR67.out.2.2; have := HD.out.len; omega
          obtain ⟨ib, io, A', n', c', rfl, hib, hcell, hl', hR', hby⟩ := HD.out.at_ hb7
          have h32 : n' = 32 := by
            rw [← hl']
            have hbl : b7 < D.length := by rw [HD.out.len]; exact hb7
            have : nth D b7 = D[b7] := by simp [nth, hbl]
            rw [this]
            exact HW.out.2 _ (List.getElem_mem hbl)
          subst h32
          have HR := Lib.hid hR'
          have HL := Lib.hid hl'
          have HBY := Lib.hid hby
          have hcc := hR'.cap
          have hcl := hR'.le
          have hcw := keep_cell hcell HV.out.hB
          have HO := Lib.hid HV.out.own
          have hbs := HV.out.hB.size
          have hne : ib ≠ vb := by have := HV.out.gv; omega
          have hne2 : vb ≠ ib := Ne.symm hne
          have hil : (innI [a0, a1, a2, a3, a4, a5, a6, (b7 : Int)]).length ≤ 1 := by unfold innI; split <;> simp
          clear hcell hl' hR' hby HR67
          go_wp2_with (refine wpList_pushN wc rfl _ _ 81 92 rfl w.heap.size (.agg #[.int .i64 0, .int .i64 0]) 2 16 Try.underlying81 infoInner rfl (by omega) (by omega) vi (innI [a0, a1, a2, a3, a4, a5, a6, (b7 : Int)]).length _ [.int .i64 b7, .int .i64 1] rfl rfl rfl (by simp [Value.oneCell']) HO.out hbs (by omega) rfl ?_; intro g cap w1 ho hg hat hlt1; have HV1 := Lib.hid (HV.out.pushed rfl ho hg); have e1 : ∀ j, w1.cell? ⟨vb, j, none⟩ = wc.cell? ⟨vb, j, none⟩ := (fun j => World.cell?_of_block (hg.block vb (by have := (Array.getElem?_eq_some_iff.1 HV.out.blk).1; omega) (fun e => HV.out.ine_v e.symm))); have e2 : w1.cell? ⟨ib, io + b7, none⟩ = wc.cell? ⟨ib, io + b7, none⟩ := World.cell?_of_block (hg.block ib (by omega) (fun e => by have := own_row HO.out ib e.symm; omega)); have ez : w1.frozen? ⟨vb, 10, none⟩ = false := (World.frozen?_of_block (a := ⟨vb, 10, none⟩) (hg.block vb (by have := (Array.getElem?_eq_some_iff.1 HV.out.blk).1; omega) (fun e => HV.out.ine_v e.symm))).trans (cz 10); clear ho hg hat cz)
          clear HO HV c8 c10 hcw e1 e2 ez hne hne2
          go_loopw [11, 12, 86] (fun _ _ v wr => ∃ (i : Nat) (vi : Value), i ≤ 32 ∧ v = .int .i64 i ∧ Hid (Vw w wr (some ⟨ib, io, none⟩) n c D [a0, a1, a2, a3, a4, a5, a6, (b7 : Int)] vb mp mt (40 + 33 * i) (40 + 33 * i) (innI [a0, a1, a2, a3, a4, a5, a6, (b7 : Int)] ++ (((b7 : Int), 1) :: innE D [a0, a1, a2, a3, a4, a5, a6, (b7 : Int)] i)) vi)) (fun _ _ v _ => 32 - (Go.RowKit.intOf v).toNat)
          case atStart => exact ⟨0, _, by omega, rfl, HV1⟩
          case round =>
            clear HV1
            obtain ⟨i, vi', hi32, rfl, HV⟩ := hrel
            by_cases hlt : i < 32
            · obtain ⟨rb, ro, rfl, hrb, hrc⟩ := HR.out.form (by simp; have := HL.out; omega)
              have hil2 : i < (nth D b7).length := by rw [HL.out]; exact hlt
              have hcx := hrc i (by simpa using hil2)
              rw [iv_at] at hcx
              have hcy := keep_cell hcx HV.out.hB
              have hby := HBY.out _ (List.getElem_mem hil2)
              have HEQ : Hid (vD D [a0, a1, a2, a3, a4, a5, a6, (b7 : Int)] i = (nth D b7)[i]) := by
                show (if ((b7 : Int) = 0) then 0 else at2 D (b7 : Int) i) = _
                rw [if_neg h7]
                have hil' : i < (D.getD b7 []).length := hil2
                simp only [at2, nth, Int.toNat_natCast]
                rw [List.getD_eq_getElem?_getD, List.getElem?_eq_getElem hil']
                rfl
              have HP := Lib.hid (point_any w wr (some ⟨ib, io, none⟩) n c D [a0, a1, a2, a3, a4, a5, a6, (b7 : Int)] vb mp mt (40 + 33 * i) (40 + 33 * i) _ vi' rfl HD.out hn HU.out (by omega) HV.out)
              have HLI := Lib.hid (innE_len D [a0, a1, a2, a3, a4, a5, a6, (b7 : Int)] i)
              rw [val_D] at HP
              have HUX := Lib.hid (HU.out.1 (40 + 33 * i) (by omega))
              rw [val_D] at HUX
              rw [HEQ.out] at HP HUX
              clear hrc hcx
              generalize (nth D b7)[i] = x at *
              clear HV
              by_cases hx : x = 0
              · have hz : ∀ j, j < 32 → val D [a0, a1, a2, a3, a4, a5, a6, (b7 : Int)] (40 + 33 * i + 1 + j) = 0 := fun j hj => by rw [val_E D _ hj, vE, HEQ.out, if_pos hx]
                have HZ := Lib.hid hz
                have HI : Hid (innE D [a0, a1, a2, a3, a4, a5, a6, (b7 : Int)] (i + 1) = innE D [a0, a1, a2, a3, a4, a5, a6, (b7 : Int)] i) := by show _ = _; rw [innE_succ, if_pos (HEQ.out.trans hx), List.append_nil]
                have HZ0 : Hid (val D [a0, a1, a2, a3, a4, a5, a6, (b7 : Int)] (40 + 33 * i) = 0) := by show _ = _; rw [val_D, HEQ.out]; exact hx
                clear hz
                subst hx
                go_wp2_with (go_at_call 62; (with_reducible refine HP.out.mono ?_); rintro e w3 ⟨rfl, hV2⟩; have HV2 := Lib.hid hV2; clear hV2)
                refine ⟨⟨i + 1, vi', by omega, by go_num, ?_⟩, by simp [Go.RowKit.intOf]; omega⟩
                have h3 := (HV2.out.noplace (.inl HZ0.out)).skip 32 HZ.out
                have e : 40 + 33 * i + 1 + 32 = 40 + 33 * (i + 1) := by omega
                rw [e] at h3
                rw [HI.out]
                exact h3
              · have hx2 : decide (x ≠ 0) = true := by simpa using hx
                rw [hx2] at HP
                obtain ⟨xb, rfl⟩ : ∃ xb : Nat, x = (xb : Int) := ⟨x.toNat, by omega⟩
                have HROW : Hid (∀ j, j < 32 → val D [a0, a1, a2, a3, a4, a5, a6, (b7 : Int)] (40 + 33 * i + 1 + j) = at2 D (xb : Int) j) := Lib.hid fun j hj => by rw [val_E D _ hj, vE, HEQ.out, if_neg hx]
                have hfi : 38 + 32 * i < 1062 := by omega
                have HI : Hid (innE D [a0, a1, a2, a3, a4, a5, a6, (b7 : Int)] (i + 1) = innE D [a0, a1, a2, a3, a4, a5, a6, (b7 : Int)] i ++ [((xb : Int), 2)]) := by show _ = _; rw [innE_succ, HEQ.out, if_neg hx]
                have HLF : Hid (∀ wx, Vw w wx (some ⟨ib, io, none⟩) n c D [a0, a1, a2, a3, a4, a5, a6, (b7 : Int)] vb mp mt (40 + 33 * i + 1) (40 + 33 * i + 1) (innI [a0, a1, a2, a3, a4, a5, a6, (b7 : Int)] ++ (((b7 : Int), 1) :: innE D [a0, a1, a2, a3, a4, a5, a6, (b7 : Int)] i)) vi' →
                    Calls Try.prog 63 #[.pointer (some ⟨vb, 0, none⟩), .int .i64 (xb : Int), .int .i64 (38 + (i : Int) * 32), .int .i64 2] wx fun e w' => e = .returned (.tuple #[]) ∧ ∃ vi3, Hid (Vw w w' (some ⟨ib, io, none⟩) n c D [a0, a1, a2, a3, a4, a5, a6, (b7 : Int)] vb mp mt (40 + 33 * (i + 1)) (40 + 33 * (i + 1)) (innI [a0, a1, a2, a3, a4, a5, a6, (b7 : Int)] ++ (((b7 : Int), 1) :: innE D [a0, a1, a2, a3, a4, a5, a6, (b7 : Int)] (i + 1))) vi3)) := by
                  intro wx hV
                  have h3 := leaf_any w wx (some ⟨ib, io, none⟩) n c D [a0, a1, a2, a3, a4, a5, a6, (b7 : Int)] vb mp mt (40 + 33 * i + 1) _ vi' rfl HD.out hn HW.out HU.out (by omega) hV (by have := HLI.out; simp only [List.length_append, List.length_cons]; omega) xb (38 + 32 * i) 2 (by have := HUX.out.2; have := HD.out.len; omega) HROW.out (fun j hj => ⟨posK_E hj, by omega⟩)
                  have e1 : ((38 + 32 * i : Nat) : Int) = 38 + (i : Int) * 32 := by omega
                  rw [e1] at h3
                  refine h3.mono ?_
                  rintro e w' ⟨rfl, vi3, hV3⟩
                  refine ⟨rfl, vi3, ?_⟩
                  have e2 : 40 + 33 * i + 1 + 32 = 40 + 33 * (i + 1) := by omega
                  rw [e2, List.append_assoc, List.cons_append] at hV3
                  rw [HI.out]
                  exact hV3
                clear HROW HI HUX HLI
                go_wp2_with (first
                  | (go_at_call 62; (with_reducible refine HP.out.mono ?_); rintro e w3 ⟨rfl, hV2⟩; have HV2 := Lib.hid (hV2.noplace (.inr fun k _ => posK_noD)); clear hV2)
                  | (go_at_call 63; (with_reducible refine (HLF.out _ HV2.out).mono ?_); rintro e w4 ⟨rfl, vi3, HV3⟩))
                exact ⟨⟨i + 1, vi3, by omega, by go_num, HV3⟩, by simp [Go.RowKit.intOf]; omega⟩
            · obtain rfl : i = 32 := by omega
              go_wp2
              go_ret
              refine ⟨vb, mp, mt, vi', rfl, ?_⟩
              have e : innD D [a0, a1, a2, a3, a4, a5, a6, (b7 : Int)] = innI [a0, a1, a2, a3, a4, a5, a6, (b7 : Int)] ++ (((b7 : Int), 1) :: innE D [a0, a1, a2, a3, a4, a5, a6, (b7 : Int)] 32) := by
                show innI [a0, a1, a2, a3, a4, a5, a6, (b7 : Int)] ++ (if ((b7 : Int) = 0) then [] else ((b7 : Int), 1) :: innE D [a0, a1, a2, a3, a4, a5, a6, (b7 : Int)] 32) = _
                rw [if_neg h7]
              rw [e]
              exact HV.out
end Go.Proofs.Ytcgfoaihfncppaa
/- Blocks behind items, plainly. No program in sight. -/
set_option linter.unusedSimpArgs false
set_option linter.unusedVariables false
namespace Go.Sel.Mer
open Go.Sel Go.Sel.Gra

/-- The bytes b with s from o on. -/
def spl (b : List Int) (o : Nat) (s : List Int) : List Int := b.take o ++ s ++ b.drop (o + s.length)
theorem spl_length {b s : List Int} {o : Nat} (h : o + s.length ≤ b.length) : (spl b o s).length = b.length := by simp [spl]; omega
theorem spl_byte {b s : List Int} {o : Nat} (hb : AllByte b) (hs : AllByte s) : AllByte (spl b o s) := by
  intro x hx
  simp only [spl, List.mem_append] at hx
  rcases hx with (hx | hx) | hx
  · exact hb x (List.mem_of_mem_take hx)
  · exact hs x hx
  · exact hb x (List.mem_of_mem_drop hx)
/-- Byte by byte. -/
theorem spl_snoc {b s : List Int} {o k : Nat} (hk : k < s.length) (h : o + s.length ≤ b.length) : (spl b o (s.take k)).set (o + k) s[k] = spl b o (s.take (k + 1)) := by
  have hl : (s.take k).length = k := by simp; omega
  have hl1 : (s.take (k + 1)).length = k + 1 := by simp; omega
  apply List.ext_getElem?
  intro j
  have e : ∀ (m : Nat), m ≤ s.length → (spl b o (s.take m))[j]? = if j < o then b[j]? else if j < o + m then s[j - o]? else b[j]? := by
    intro m hm
    have hlm : (s.take m).length = m := by simp; omega
    have hob : (b.take o).length = o := by simp; omega
    unfold spl
    by_cases h1 : j < o
    · rw [if_pos h1, List.append_assoc, List.getElem?_append_left (by omega), List.getElem?_take_of_lt h1]
    · rw [if_neg h1, List.append_assoc, List.getElem?_append_right (by omega), hob]
      by_cases h2 : j < o + m
      · rw [if_pos h2, List.getElem?_append_left (by omega), List.getElem?_take_of_lt (by omega)]
      · rw [if_neg h2, List.getElem?_append_right (by omega), hlm, List.getElem?_drop]
        congr 1
        omega
  rw [List.getElem?_set, e k (by omega), e (k + 1) (by omega), spl_length (by omega)]
  by_cases hj : o + k = j
  · subst hj
    rw [if_pos rfl, if_pos (by omega), if_neg (by omega), if_pos (by omega), Nat.add_sub_cancel_left, List.getElem?_eq_getElem hk]
  · rw [if_neg hj]
    by_cases h1 : j < o
    · rw [if_pos h1, if_pos h1]
    · rw [if_neg h1, if_neg h1]
      by_cases h2 : j < o + k
      · rw [if_pos h2, if_pos (by omega)]
      · rw [if_neg h2, if_neg (by omega)]
theorem spl_nil (b : List Int) (o : Nat) : spl b o [] = b := by simp [spl]

/-- A block behind a patch, if there is one. -/
def applyB (b : List Int) (x : It) : Option (List Int) := if b.length = 32 ∧ prightB x = true then some (spl b x.o.toNat (nums x.s)) else none
theorem applyB_length {b : List Int} {x : It} {s : List Int} (h : applyB b x = some s) : s.length = 32 ∧ b.length = 32 ∧ prightB x = true ∧ s = spl b x.o.toNat (nums x.s) := by
  unfold applyB at h
  split at h
  · rename_i hc
    have hp := pright_iff.1 hc.2
    have e : spl b x.o.toNat (nums x.s) = s := by simpa using h
    refine ⟨?_, hc.1, hc.2, e.symm⟩
    rw [← e, spl_length (by rw [nums_length]; omega), hc.1]
  · cases h
theorem applyB_byte {b : List Int} {x : It} {s : List Int} (h : applyB b x = some s) (hb : AllByte b) : AllByte s := by
  rw [(applyB_length h).2.2.2]
  exact spl_byte hb (nums_byte _)
def stepB (L : List It) (S : List Int) (D : List (List Int)) (i : Nat) : List (List Int) :=
  if (nthI L i).b < (D.length : Int) ∧ (i : Int) ∈ S then
    match applyB (nth D (nthI L i).b.toNat) (nthI L i) with
    | some s => D.set (nthI L i).b.toNat s
    | none => D
  else D
@[simp] theorem stepB_length (L : List It) (S : List Int) (D : List (List Int)) (i : Nat) : (stepB L S D i).length = D.length := by
  unfold stepB
  split
  · split <;> simp
  · rfl
def blocksK (L : List It) (S : List Int) (D : List (List Int)) (k : Nat) : List (List Int) := (List.range k).foldl (stepB L S) D
theorem blocksK_succ (L : List It) (S : List Int) (D : List (List Int)) (k : Nat) : blocksK L S D (k + 1) = stepB L S (blocksK L S D k) k := by simp [blocksK, List.range_succ]
@[simp] theorem blocksK_length (L : List It) (S : List Int) (D : List (List Int)) (k : Nat) : (blocksK L S D k).length = D.length := by
  induction k with
  | zero => rfl
  | succ k ih => rw [blocksK_succ, stepB_length, ih]
/-- Blocks behind some of the items. -/
def blocksL (L : List It) (S : List Int) (D : List (List Int)) : List (List Int) := if mrightB L = true then blocksK L S D L.length else D
@[simp] theorem blocksL_length (L : List It) (S : List Int) (D : List (List Int)) : (blocksL L S D).length = D.length := by
  unfold blocksL
  split <;> simp
theorem blocksK_congr {L : List It} {S T : List Int} (D : List (List Int)) : ∀ k, (∀ i : Nat, i < k → ((i : Int) ∈ S ↔ (i : Int) ∈ T)) → blocksK L S D k = blocksK L T D k
  | 0, _ => rfl
  | k + 1, h => by
    rw [blocksK_succ, blocksK_succ, blocksK_congr D k (fun i hi => h i (by omega))]
    unfold stepB
    have := h k (by omega)
    simp only [this]
end Go.Sel.Mer
/- A region that draws its order: loads may be taken first as long as one of them is to come: behind them the cells may be written. After the kit's own law with one condition for the whole region. No program in sight. -/
set_option linter.unusedSimpArgs false
set_option linter.unusedVariables false
namespace Go.Sel
open Go

section
variable {P : Program} {ops : Array Oper} {Q : Exit → Act → World → Prop} {md : Region.Mode} {S : World → Prop} {ds : List Nat}
/-- Operation j waits for all of ds. -/
def lateB (md : Region.Mode) (ops : Array Oper) (ds : List Nat) (j : Nat) : Bool :=
  match ops[j]? with
  | some o => ds.all fun d => o.after.any fun e => Region.binds md e && (e.on == d)
  | none => true
theorem not_late {j i : Nat} {oj : Oper} (hj : ops[j]? = some oj) (hi : i ∈ ds) (hno : ∀ e ∈ oj.after, Region.binds md e = true → e.on ≠ i) : lateB md ops ds j = false := by
  rw [Bool.eq_false_iff]
  intro h
  unfold lateB at h
  rw [hj] at h
  have h1 := List.all_eq_true.1 h i hi
  obtain ⟨e, he, hb⟩ := Array.any_eq_true'.1 h1
  simp only [Bool.and_eq_true, beq_iff_eq] at hb
  exact hno e he hb.1 hb.2
/-- Whatever order is picked; S is to hold behind each operation but those that wait for all of ds. -/
def wpAnyD (P : Program) (md : Region.Mode) (ops : Array Oper) (Q : Exit → Act → World → Prop) (S : World → Prop) (ds : List Nat) : Nat → Array Bool → Act → World → Prop
  | 0, listed, a, w => Region.ready md ops listed = [] ∧ Q .normal a w
  | fuel + 1, listed, a, w =>
    (Region.ready md ops listed = [] → Q .normal a w) ∧
    ∀ i ∈ Region.ready md ops listed, wpOp P ops Q i (fun a' w' => (lateB md ops ds i = false → S w') ∧ wpAnyD P md ops Q S ds fuel (listed.setIfInBounds i true) a' w') a w
theorem wpAny_of_D : ∀ (fuel : Nat) (listed : Array Bool) (a : Act) (w : World), wpAnyD P md ops Q S ds fuel listed a w → wpAny P md ops Q fuel listed a w
  | 0, _, _, _, h => h
  | fuel + 1, _, _, _, h => ⟨h.1, fun i hi => wpOp_mono (fun a' w' h' => wpAny_of_D fuel _ a' w' h'.2) (h.2 i hi)⟩
theorem wpAnyD_first {i : Nat} {oi : Oper} {v : Value} (hds : i ∈ ds) (hi : ops[i]? = some oi) (hsel : ∀ (j : Nat) (o : Oper) cs b, ops[j]? = some o → o.op ≠ .select cs b)
    (hQ : ∀ c a w, Q (.panic c) (a.put oi.dst v) w → Q (.panic c) a w) :
    ∀ (fuel : Nat) (listed : Array Bool) (a : Act) (w : World),
      (∀ j oj, ops[j]? = some oj → j ≠ i → listed.getD j true = false → (∀ e ∈ oj.after, Region.binds md e = true → e.on ≠ i) → oi.apart ops oj = true) →
      i ∈ Region.ready md ops listed → YieldsIf P ops S oi v a → S w →
      wpAnyD P md ops Q S ds fuel (listed.setIfInBounds i true) (a.put oi.dst v) w → wpAnyD P md ops Q S ds (fuel + 1) listed a w := by
  intro fuel
  induction fuel with
  | zero =>
    intro listed a w _ hr hy hS H
    refine ⟨fun h => (by rw [h] at hr; cases hr), fun j hj => ?_⟩
    by_cases hji : j = i
    · subst hji; exact hy.wpOp hi hS ⟨fun _ => hS, H⟩
    · have := ready_mono hj hji
      rw [H.1] at this
      cases this
  | succ fuel ih =>
    intro listed a w hfree hr hy hS H
    refine ⟨fun h => (by rw [h] at hr; cases hr), fun j hj => ?_⟩
    by_cases hji : j = i
    · subst hji; exact hy.wpOp hi hS ⟨fun _ => hS, H⟩
    · have h1 := H.2 j (ready_mono hj hji)
      obtain ⟨hjun, oj, hoj, hall⟩ := mem_ready.1 hj
      have hnot : ∀ e ∈ oj.after, Region.binds md e = true → e.on ≠ i := fun e he hb heq => by
        have h1 := hall e he hb
        have h0 := (mem_ready.1 hr).1
        rw [heq] at h1
        rcases Nat.lt_or_ge i listed.size with h' | h'
        · simp [h'] at h0 h1; rw [h0] at h1; cases h1
        · simp [Array.getElem?_eq_none h'] at h1
      have h2 := wpOp_putIf hoj (hfree j oj hoj hji hjun hnot) (fun cs b => hsel i oi cs b hi) (fun cs b => hsel j oj cs b hoj) hQ hy h1
      have hfree' : ∀ k ok, ops[k]? = some ok → k ≠ i → (listed.setIfInBounds j true).getD k true = false →
          (∀ e ∈ ok.after, Region.binds md e = true → e.on ≠ i) → oi.apart ops ok = true := fun k ok hk hki hun hno => by
        refine hfree k ok hk hki ?_ hno
        by_cases hjk : j = k
        · subst hjk; exact hjun
        · rw [getD_set_ne true hjk] at hun; exact hun
      have hdue := not_late (md := md) hoj hds hnot
      refine wpOp_mono (fun a' w' h3 => ⟨h3.2.1, ih (listed.setIfInBounds j true) a' w' hfree' (ready_mono hr (Ne.symm hji)) h3.1 (h3.2.1 hdue) ?_⟩) h2
      rw [Array.setIfInBounds_comm _ _ hji]
      exact h3.2.2
theorem wpAnyD_take {i : Nat} {oi : Oper} {v : Value} {fuel : Nat} {listed : Array Bool} {a : Act} {w : World} (hds : i ∈ ds) (hi : ops[i]? = some oi)
    (hs : Region.noSelect ops = true) (hf : Region.free md ops listed i = true) (hr : (Region.ready md ops listed).contains i = true)
    (hQ : ∀ c a w, Q (.panic c) (a.put oi.dst v) w → Q (.panic c) a w) (hy : YieldsIf P ops S oi v a) (hS : S w)
    (h : wpAnyD P md ops Q S ds fuel (listed.setIfInBounds i true) (a.put oi.dst v) w) : wpAnyD P md ops Q S ds (fuel + 1) listed a w :=
  wpAnyD_first hds hi (Region.noSelect_spec hs) hQ fuel listed a w (Region.free_spec hi hf) (by simpa using hr) hy hS h
/-- Whichever of those that may come up comes up. -/
theorem wpAnyD_all {rs : List Nat} {fuel : Nat} {listed : Array Bool} {a : Act} {w : World} (hr : Region.ready md ops listed = rs) (hne : rs ≠ [])
    (h : ∀ i ∈ rs, wpOp P ops Q i (fun a' w' => (lateB md ops ds i = false → S w') ∧ wpAnyD P md ops Q S ds fuel (listed.setIfInBounds i true) a' w') a w) : wpAnyD P md ops Q S ds (fuel + 1) listed a w :=
  ⟨fun h0 => absurd (hr ▸ h0) hne, hr ▸ h⟩
theorem wpAnyD_done {listed : Array Bool} {a : Act} {w : World} (hr : Region.ready md ops listed = []) (h : Q .normal a w) : ∀ fuel, wpAnyD P md ops Q S ds fuel listed a w
  | 0 => ⟨hr, h⟩
  | _ + 1 => ⟨fun _ => h, by rw [hr]; simp⟩
theorem wp_region_D {id : Nat} {a : Act} {w : World} (S : World → Prop) (ds : List Nat) (hm : P.follows .mixedOrders = true)
    (h : wpAnyD P .any ops Q S ds ops.size (Array.replicate ops.size false) a w.drew) : (Code.region id ops true).wp P Q a w :=
  wp_region_any hm (wpAny_of_D _ _ _ _ h)
theorem wpOp_lit {i : Nat} {o : Oper} {K : Act → World → Prop} {a : Act} {w : World} (hi : ops[i]? = some o) (hg : o.guard = none) (h : o.wp P a w K Q) : wpOp P ops Q i K a w := by
  unfold wpOp
  rw [hi]
  have hw : Region.wanted o (yielded ops a.tmps) = true := by simp [Region.wanted, hg]
  simp only [hw, if_true]
  exact .inl h
/-- One comes up, and none beside it. -/
theorem wpAnyD_one {i : Nat} {o : Oper} {fuel : Nat} {listed : Array Bool} {a : Act} {w : World} (hr : Region.ready md ops listed = [i]) (hi : ops[i]? = some o) (hg : o.guard = none)
    (h : o.wp P a w (fun a' w' => (lateB md ops ds i = false → S w') ∧ wpAnyD P md ops Q S ds fuel (listed.setIfInBounds i true) a' w') Q) : wpAnyD P md ops Q S ds (fuel + 1) listed a w :=
  wpAnyD_all hr (by simp) fun j hj => by
    obtain rfl : j = i := by simpa using hj
    exact wpOp_lit hi hg h
theorem oper_append {o : Oper} {a : Act} {K : Act → World → Prop} {W w1 : World} (s x : Operand) (t : TypeId) (ho : o.op = .call { callee := .builtin .append, args := #[s, x], argTypes := #[t, t] })
    (v u r : Value) (hs : a.eval s = v) (hx : a.eval x = u) (hrun : (Builtin.append_ #[t, t] o.type #[v, u]).run P W = .ok r w1) (h : K (a.put o.dst r) w1) : o.wp P a W K Q := by
  unfold Oper.wp execOp
  simp only [ho, resolve, invoke, builtin, Sem.run_bind, Sem.run_pure, Result.andThen_ok, List.map_toArray, List.map_cons, List.map_nil, hs, hx, hrun]
  exact h
end
end Go.Sel
/- A region that draws its order, walked in the order of its text: what only reads is taken first under one condition S on the world, what writes or calls comes up alone. No program in sight. -/
set_option linter.unusedSimpArgs false
set_option linter.unusedVariables false
namespace Go.Sel
open Go

/-- S of a world (its name keeps S apart). -/
def At (S : World → Prop) (w : World) : Prop := S w
section
variable {P : Program} {ops : Array Oper} {Q : Exit → Act → World → Prop} {md : Region.Mode} {S : World → Prop} {ts : List Nat}
/-- In the order of the text: each of ts may come up and none that could come ahead of it touches what it touches; each other comes up alone. -/
def lexDB (md : Region.Mode) (ops : Array Oper) (ts : List Nat) : Nat → Nat → Array Bool → Bool
  | 0, _, L => (Region.ready md ops L).isEmpty
  | n + 1, k, L => (if ts.contains k then (Region.ready md ops L).contains k && Region.free md ops L k else Region.ready md ops L == [k]) && lexDB md ops ts n (k + 1) (L.setIfInBounds k true)
/-- The walk in the order of the text. -/
def wpLexD (P : Program) (md : Region.Mode) (ops : Array Oper) (Q : Exit → Act → World → Prop) (S : World → Prop) (ts : List Nat) : List Oper → Nat → Act → World → Prop
  | [], _, a, w => Q .normal a w
  | o :: rest, k, a, w => if ts.contains k = true then S w ∧ ∃ v, YieldsIf P ops S o v a ∧ wpLexD P md ops Q S ts rest (k + 1) (a.put o.dst v) w
    else if Region.wanted o (yielded ops a.tmps) then o.wp P a w (fun (a' : Act) (w' : World) => (lateB md ops ts k = false → S w') ∧ wpLexD P md ops Q S ts rest (k + 1) a' w') Q
      else (lateB md ops ts k = false → S w) ∧ wpLexD P md ops Q S ts rest (k + 1) (a.put o.dst undef) w
theorem wpAnyD_lex (hs : Region.noSelect ops = true) (hQ : ∀ c a d v w, Q (.panic c) (Act.put a d v) w → Q (.panic c) a w) : ∀ (l : List Oper) (k : Nat) (L : Array Bool) (a : Act) (w : World), (∀ j, l[j]? = ops[k + j]?) →
    lexDB md ops ts l.length k L = true → wpLexD P md ops Q S ts l k a w → wpAnyD P md ops Q S ts l.length L a w
  | [], k, L, a, w, hl, hB, h => ⟨by simpa [lexDB] using hB, h⟩
  | o :: l, k, L, a, w, hl, hB, h => by
    have h0 : ops[k]? = some o := by simpa using (hl 0).symm
    have hl' : ∀ j, l[j]? = ops[k + 1 + j]? := fun j => by have := hl (j + 1); simpa [Nat.add_assoc, Nat.add_comm 1 j] using this
    simp only [List.length_cons, lexDB, Bool.and_eq_true] at hB
    obtain ⟨hB1, hB2⟩ := hB
    unfold wpLexD at h
    by_cases hk : ts.contains k = true
    · rw [if_pos hk] at h hB1
      obtain ⟨hS, v, hy, hr⟩ := h
      simp only [Bool.and_eq_true] at hB1
      exact wpAnyD_take (by simpa using hk) h0 hs hB1.2 hB1.1 (fun c a w h => hQ c a _ _ w h) hy hS (wpAnyD_lex hs hQ l (k + 1) _ _ _ hl' hB2 hr)
    · rw [if_neg hk] at h hB1
      have hr1 : Region.ready md ops L = [k] := by simpa using hB1
      refine wpAnyD_all hr1 (by simp) fun j hj => ?_
      obtain rfl : j = k := by simpa using hj
      unfold wpOp
      rw [h0]
      simp only
      by_cases hw : Region.wanted o (yielded ops a.tmps) = true
      · rw [if_pos hw] at h ⊢
        refine .inl ?_
        refine Oper.wp_mono ?_ h
        exact fun a' w' h' => ⟨h'.1, wpAnyD_lex hs hQ l (j + 1) _ a' w' hl' hB2 h'.2⟩
      · rw [if_neg hw] at h ⊢
        exact ⟨h.1, wpAnyD_lex hs hQ l (j + 1) _ _ w hl' hB2 h.2⟩
theorem wp_region_lexD {id : Nat} {a : Act} {w : World} {l : List Oper} {S : World → Prop} (hS : At S w.drew) (ts : List Nat) (hm : P.follows .mixedOrders = true)
    (hB : (Region.noSelect l.toArray && lexDB .any l.toArray ts l.length 0 (Array.replicate l.length false)) = true) (hQ : ∀ c a d v w, Q (.panic c) (Act.put a d v) w → Q (.panic c) a w)
    (h : wpLexD P .any l.toArray Q S ts l 0 a w.drew) : (Code.region id l.toArray true).wp P Q a w := by
  rw [Bool.and_eq_true] at hB
  refine wp_region_D S ts hm ?_
  have := wpAnyD_lex (md := .any) hB.1 hQ l 0 (Array.replicate l.length false) a w.drew (by simp) hB.2 h
  simpa using this

theorem lexD_take {o : Oper} {rest : List Oper} {k : Nat} {a : Act} {w : World} {v : Value} (hk : ts.contains k = true) (hw : Region.wanted o (yielded ops a.tmps) = true) (hS : S w)
    (hrun : ∀ w, S w → (execOp a.eval o).run P w = .ok (.value v) w) (h : ∀ K : Act → Prop, (∀ a, wpLexD P md ops Q S ts rest (k + 1) a w → K a) → K (a.put o.dst v)) : wpLexD P md ops Q S ts (o :: rest) k a w := by
  unfold wpLexD
  rw [if_pos hk]
  exact ⟨hS, v, .inl ⟨hw, hrun⟩, h _ (fun _ h => h)⟩
theorem lexD_skip {o : Oper} {rest : List Oper} {k : Nat} {a : Act} {w : World} (hk : ts.contains k = true) (hw : Region.wanted o (yielded ops a.tmps) = false) (hS : S w)
    (h : ∀ K : Act → Prop, (∀ a, wpLexD P md ops Q S ts rest (k + 1) a w → K a) → K (a.put o.dst undef)) : wpLexD P md ops Q S ts (o :: rest) k a w := by
  unfold wpLexD
  rw [if_pos hk]
  exact ⟨hS, undef, .inr ⟨hw, rfl⟩, h _ (fun _ h => h)⟩
theorem lexD_do {o : Oper} {rest : List Oper} {k : Nat} {a : Act} {w : World} (hk : ts.contains k = false) (hw : Region.wanted o (yielded ops a.tmps) = true)
    (h : ∀ K : Act → World → Prop, (∀ a' w', (lateB md ops ts k = false → S w') → wpLexD P md ops Q S ts rest (k + 1) a' w' → K a' w') → o.wp P a w K Q) : wpLexD P md ops Q S ts (o :: rest) k a w := by
  unfold wpLexD
  rw [if_neg (by rw [hk]; simp), if_pos hw]
  exact h _ (fun a' w' h1 h2 => ⟨h1, h2⟩)
/-- One that waits for all that was taken first. -/
theorem lexD_late {o : Oper} {rest : List Oper} {k : Nat} {a : Act} {w : World} (hk : (!ts.contains k && lateB md ops ts k) = true) (hw : Region.wanted o (yielded ops a.tmps) = true)
    (h : ∀ K : Act → World → Prop, (∀ a' w', wpLexD P md ops Q S ts rest (k + 1) a' w' → K a' w') → o.wp P a w K Q) : wpLexD P md ops Q S ts (o :: rest) k a w := by
  simp only [Bool.and_eq_true, Bool.not_eq_true'] at hk
  exact lexD_do hk.1 hw fun K hK => h K fun a' w' h' => hK a' w' (fun e => by rw [hk.2] at e; cases e) h'
/-- One that is not taken first, its guard false. -/
theorem lexD_pass {o : Oper} {rest : List Oper} {k : Nat} {a : Act} {w : World} (hk : ts.contains k = false) (hw : Region.wanted o (yielded ops a.tmps) = false) (hS : S w)
    (h : ∀ K : Act → Prop, (∀ a, wpLexD P md ops Q S ts rest (k + 1) a w → K a) → K (a.put o.dst undef)) : wpLexD P md ops Q S ts (o :: rest) k a w := by
  unfold wpLexD
  rw [if_neg (by rw [hk]; simp), if_neg (by rw [hw]; simp)]
  exact ⟨fun _ => hS, h _ (fun _ h => h)⟩
theorem lexD_nil {k : Nat} {a : Act} {w : World} (h : Q .normal a w) : wpLexD P md ops Q S ts [] k a w := h
end
end Go.Sel
