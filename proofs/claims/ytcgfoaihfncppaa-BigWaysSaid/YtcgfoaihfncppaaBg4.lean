/- Walks of big: look. -/
import Derived.Test.YtcgfoaihfncppaaBg3
set_option linter.unusedSimpArgs false
set_option linter.unusedVariables false
namespace Go.Proofs.Ytcgfoaihfncppaa
open Go.RowKit Go.Sel Go.Sel.Gra Go.Sel.Bg Go.Sel.Mer Go.Shelf

theorem look1_ok (A : Option Addr) (c : Nat) (w : World) : Calls Try.prog 61 #[.slice A 32 c] w fun e w' => e = .returned (.bool false) ∧ w' = w := by
  have q0 : (((32 : Nat) : Int) != 32) = false := by decide
  go_enter Try.func61, Try.ntmps61
  go_wp2
  go_ret
  exact ⟨rfl, rfl⟩
theorem IndexFuncB_ok (A : Option Addr) (n c : Nat) (D : List (List Int)) (w : World) (hD : Bp w A n c D) (hW : whole D) :
    Calls Try.prog 79 #[.slice A n c, .func (.func 61) #[] #[]] w fun e w' => e = .returned (.int .i64 (-1)) ∧ w' = w := by
  have HD := Lib.hid hD
  have HW := Lib.hid hW
  have l1 := hD.le
  have l2 := hD.cap
  have HP := Lib.hid look1_ok
  clear hD hW
  go_enter Try.func79, Try.ntmps79
  go_wp2
  go_loopw [5, 8] (fun _ v wr => ∃ k : Nat, k ≤ n ∧ v = .int .i64 k ∧ wr = w) (fun _ v _ => n - (Go.RowKit.intOf v).toNat)
  case atStart => exact ⟨0, by omega, rfl, rfl⟩
  case round =>
    obtain ⟨k, hk, rfl, rfl⟩ := hrel
    by_cases hlt : k < n
    · obtain ⟨b, off, A', n', c', rfl, hb, hcell, hl', hR', hby⟩ := HD.out.at_ hlt
      have h32 : n' = 32 := by
        rw [← hl']
        have hbl : k < D.length := by rw [HD.out.len]; exact hlt
        have : nth D k = D[k] := by simp [nth, hbl]
        rw [this]
        exact HW.out.2 _ (List.getElem_mem hbl)
      subst h32
      clear hl' hR' hby
      go_wp2_with (go_at_call 61; (with_reducible refine (HP.out _ _ _).mono ?_); rintro e w2 ⟨rfl, rfl⟩)
      exact ⟨⟨k + 1, by omega, by go_num, by simp⟩, by simp [Go.RowKit.intOf]; omega⟩
    · go_wp2
      go_ret
      exact ⟨rfl, rfl⟩
theorem ContainsFuncB_ok (A : Option Addr) (n c : Nat) (D : List (List Int)) (w : World) (hD : Bp w A n c D) (hW : whole D) :
    Calls Try.prog 60 #[.slice A n c, .func (.func 61) #[] #[]] w fun e w' => e = .returned (.bool false) ∧ w' = w := by
  have HC := Lib.hid (IndexFuncB_ok A n c D w hD hW)
  clear hD hW
  go_enter Try.func60, Try.ntmps60
  go_wp2_with (go_at_call 79; refine HC.out.mono ?_; rintro e w' ⟨rfl, rfl⟩)
  go_ret
  exact ⟨rfl, rfl⟩

section
variable (D : List (List Int)) (t : List Int)
theorem val_lo {p : Nat} (h : p < 8) : val D t p = tp t p := by rw [val, if_pos h]
theorem val_I {i : Nat} (h : i < 32) : val D t (8 + i) = vI D t i := by rw [val, if_neg (by omega), if_pos (by omega)]; congr 1; omega
theorem val_D {i : Nat} : val D t (40 + 33 * i) = vD D t i := by rw [val, if_neg (by omega), if_neg (by omega), if_pos (by omega)]; congr 1; omega
theorem val_E {i j : Nat} (h : j < 32) : val D t (40 + 33 * i + 1 + j) = vE D t i j := by
  rw [val, if_neg (by omega), if_neg (by omega), if_neg (by omega)]
  have e1 : (40 + 33 * i + 1 + j - 40) / 33 = i := by omega
  have e2 : (40 + 33 * i + 1 + j - 40) % 33 - 1 = j := by omega
  rw [e1, e2]
def innE (i : Nat) : List (Int × Int) := (List.range i).flatMap fun i => if vD D t i = 0 then [] else [(vD D t i, 2)]
def innI : List (Int × Int) := if tp t 6 = 0 then [] else [(tp t 6, 1)]
def innD : List (Int × Int) := innI t ++ if tp t 7 = 0 then [] else (tp t 7, 1) :: innE D t 32
theorem innE_succ (i : Nat) : innE D t (i + 1) = innE D t i ++ if vD D t i = 0 then [] else [(vD D t i, 2)] := by simp [innE, List.range_succ]
theorem innE_len : ∀ i, (innE D t i).length ≤ i
  | 0 => by simp [innE]
  | i + 1 => by
    rw [innE_succ, List.length_append]
    have := innE_len i
    split <;> simp <;> omega
end
theorem posK_lo {i : Nat} (h : i < 6) : posK i = i := by rw [posK, if_pos h]
theorem posK_I {i : Nat} (h : i < 32) : posK (6 + i) = 8 + i := by rw [posK, if_neg (by omega), if_pos (by omega)]; omega
theorem posK_E {i j : Nat} (h : j < 32) : posK (38 + 32 * i + j) = 40 + 33 * i + 1 + j := by rw [posK, if_neg (by omega), if_neg (by omega)]; omega
theorem posK_no67 {k p : Nat} (h : p = 6 ∨ p = 7) : posK k ≠ p := by unfold posK; split <;> (try split) <;> omega
theorem posK_noD {k i : Nat} : posK k ≠ 40 + 33 * i := by unfold posK; split <;> (try split) <;> omega
theorem _root_.Go.Sel.Bg.Vw.skip {w0 w : World} {A : Option Addr} {n c : Nat} {D : List (List Int)} {t : List Int} {vb mp mt m : Nat} {inn : List (Int × Int)} {vi : Value} (h : Vw w0 w A n c D t vb mp mt m m inn vi) (q : Nat) (hz : ∀ i, i < q → val D t (m + i) = 0) : Vw w0 w A n c D t vb mp mt (m + q) (m + q) inn vi := by
  induction q with
  | zero => exact h
  | succ q ih =>
    have h1 := ih fun i hi => hz i (by omega)
    have hv := hz q (by omega)
    obtain ⟨q1, q2, q3, q4, q5, q6, q7, ⟨l, i1, p1⟩, l', i2, p2⟩ := h1
    exact ⟨q1, q2, q3, q4, q5, q6, q7, ⟨l, i1, p1.none (.inl hv)⟩, l', i2, p2.zero hv⟩
theorem index8 (t : List Int) (ht : t.length = 8) (i : Nat) (hi : i < 8) (w : World) : (Instr.index 66 (bigV t) (.int .i64 (i : Int))).run Try.prog w = .ok (.int .i64 (tp t i)) w := by
  obtain ⟨a0, a1, a2, a3, a4, a5, a6, a7, rfl⟩ := len8 ht
  rcases (show i = 0 ∨ i = 1 ∨ i = 2 ∨ i = 3 ∨ i = 4 ∨ i = 5 ∨ i = 6 ∨ i = 7 by omega) with rfl | rfl | rfl | rfl | rfl | rfl | rfl | rfl <;> kernel_rfl
/-- The view as it is made. -/
theorem Vw.made (w w1 : World) (h : Below w.heap.size w w1) (A : Option Addr) (n c : Nat) (D : List (List Int)) (t : List Int) :
    Vw w (((w1.alloc (.map #[] 0)).alloc (.map #[] 0)).alloc (.cells (vcells A n c t w1.heap.size (.slice none 0 0) (w1.heap.size + 1)).toArray 84)) A n c D t (w1.heap.size + 2) w1.heap.size (w1.heap.size + 1) 0 0 [] (.slice none 0 0) := by
  have hs := h.size
  have b1 : Below w1.heap.size w1 ((w1.alloc (.map #[] 0)).alloc (.map #[] 0)) := (below_al w1 _).alloc (by simp) _
  have b2 := b1.alloc (by simp <;> omega) (.cells (vcells A n c t w1.heap.size (.slice none 0 0) (w1.heap.size + 1)).toArray 84)
  have m1 : IMap (w1.alloc (.map #[] 0)) w1.heap.size [] := IMap.new w1 (t := 0) (kt := 0) (e := 0)
  have m2 : IMap ((w1.alloc (.map #[] 0)).alloc (.map #[] 0)) (w1.heap.size + 1) [] := by have := IMap.new (w1.alloc (.map #[] 0)) (t := 0) (kt := 0) (e := 0); simpa using this
  refine ⟨h.trans (b2.mono hs), ?_, by omega, by omega, by omega, by omega, World.ownsRow_nil _ _ _ _, ⟨[], ?_, PlS.nil⟩, [], ?_, TkS.nil⟩
  · have := blk11 ((w1.alloc (.map #[] 0)).alloc (.map #[] 0)) (.cells (vcells A n c t w1.heap.size (.slice none 0 0) (w1.heap.size + 1)).toArray 84)
    simpa using this
  · exact (m1.below (below_al _ _) (by simp)).below (below_al _ _) (by simp; omega)
  · exact m2.below (below_al _ _) (by simp)

set_option maxRecDepth 100000 in
set_option maxHeartbeats 4000000 in
theorem look_ok (A : Option Addr) (n c : Nat) (D : List (List Int)) (t : List Int) (ht : t.length = 8) (w : World) (hD : Bp w A n c D) (hR : Rt D t) :
    Calls Try.prog 36 #[.slice A n c, bigV t] w fun e w' => ∃ vb mp mt vi, e = .returned (.pointer (some ⟨vb, 0, none⟩)) ∧ Vw w w' A n c D t vb mp mt 1096 1096 (innD D t) vi := by
  have HD := Lib.hid hD
  have HW := Lib.hid hR.1
  have HU := Lib.hid hR.2
  have hn : n ≤ 96 := by rw [← hD.len]; exact hR.1.1
  have hc1 := hD.le
  have hc2 := hD.cap
  have HM := Lib.hid must_ok
  have HT := Lib.hid (top_any t ht)
  have HX := Lib.hid (index8 t ht)
  have HLN := Lib.hid ht
  have hmm := @run_makeMap Try.prog
  clear hD hR
  obtain ⟨a0, a1, a2, a3, a4, a5, a6, a7, rfl⟩ := len8 ht
  clear ht
  simp only [bigV, iv, List.map_cons, List.map_nil] at HT HX ⊢
  have hn3 : ((n : Nat) : Int) ≤ 96 := by omega
  go_enter Try.func36, Try.ntmps36
  go_wp2_with (first
    | (go_at_call 37; (with_reducible refine (HM.out _ _).mono ?_); rintro e w2 ⟨rfl, rfl⟩)
    | (go_at_call 60; (with_reducible refine (ContainsFuncB_ok A n c D _ (HD.out.below (below_al _ _)) HW.out).mono ?_); rintro e w2 ⟨rfl, rfl⟩)
    | (go_at_call 39; (with_reducible refine (HT.out _).mono ?_); rintro e w2 ⟨rfl, hB⟩; have HV0 := Lib.hid (Vw.made w w2 ((below_al w _).trans (hB.mono (by simp))) A n c D [a0, a1, a2, a3, a4, a5, a6, a7]); clear hB))
  simp only [vcells, iv, List.map_cons, List.map_nil, List.cons_append, List.nil_append] at HV0
  clear HT HM hmm
  generalize hvb : w2.heap.size + 2 = vb at *
  generalize hmt : w2.heap.size + 1 = mt at *
  generalize hmp : w2.heap.size = mp at *
  clear hvb hmt hmp
  go_loopw [6, 7, 32] (fun _ _ v wr => ∃ i : Nat, i ≤ 8 ∧ v = .int .i64 i ∧ Hid (Vw w wr A n c D [a0, a1, a2, a3, a4, a5, a6, a7] vb mp mt i i [] (.slice none 0 0))) (fun _ _ v _ => 8 - (Go.RowKit.intOf v).toNat)
  case atStart => exact ⟨0, by omega, rfl, HV0⟩
  case round =>
    clear HV0
    obtain ⟨i, hi8, rfl, HV⟩ := hrel
    by_cases hlt : i < 8
    · have hidx := HX.out i hlt wr
      have HP := Lib.hid (point_any w wr A n c D [a0, a1, a2, a3, a4, a5, a6, a7] vb mp mt i i [] (.slice none 0 0) rfl HD.out hn HU.out (by omega) HV.out)
      rw [val_lo D _ hlt] at HP
      have HE := Lib.hid (val_lo D [a0, a1, a2, a3, a4, a5, a6, a7] hlt)
      clear HV HX
      generalize tp [a0, a1, a2, a3, a4, a5, a6, a7] i = x at *
      by_cases hx : x = 0
      · have HZ : Hid (val D [a0, a1, a2, a3, a4, a5, a6, a7] i = 0) := Lib.hid (HE.out.trans hx)
        subst hx
        go_wp2_with (go_at_call 62; (with_reducible refine HP.out.mono ?_); rintro e w3 ⟨rfl, hV2⟩; have HV2 := Lib.hid hV2; clear hV2)
        exact ⟨⟨i + 1, by omega, by go_num, HV2.out.noplace (.inl HZ.out)⟩, by simp [Go.RowKit.intOf]; omega⟩
      · have HZ : Hid (val D [a0, a1, a2, a3, a4, a5, a6, a7] i ≠ 0) := Lib.hid (by rw [HE.out]; exact hx)
        have hx2 : decide (x ≠ 0) = true := by simpa using hx
        rw [hx2] at HP
        by_cases h6 : i < 6
        · go_wp2_with (go_at_call 62; (with_reducible refine HP.out.mono ?_); rintro e w3 ⟨rfl, hV2⟩; obtain ⟨c0, c9, c10, c11, ct, cz⟩ := hV2.cell rfl; obtain ⟨l, hl, hpl⟩ := hV2.pl; obtain ⟨w4, hrun, hm1, hb1⟩ := hl.store (P := Try.prog) Try.underlying80 Try.underlying3 (i : Int) (.int .i64 x); have HV3 : Hid (Vw w w4 A n c D [a0, a1, a2, a3, a4, a5, a6, a7] vb mp mt (i + 1) (i + 1) [] (.slice none 0 0)) := (by have q1 := hpl.step (show i < 1062 by omega) (posK_lo h6) HZ.out; rw [HE.out] at q1; exact hV2.placed hb1 hm1 q1); clear hV2 hl hpl hm1 hb1 c0 c10 c11 ct cz)
          exact ⟨⟨i + 1, by omega, by go_num, HV3.out⟩, by simp [Go.RowKit.intOf]; omega⟩
        · go_wp2_with (go_at_call 62; (with_reducible refine HP.out.mono ?_); rintro e w3 ⟨rfl, hV2⟩; have HV2 := Lib.hid hV2; clear hV2)
          exact ⟨⟨i + 1, by omega, by go_num, HV2.out.noplace (.inr fun k _ => posK_no67 (by omega))⟩, by simp [Go.RowKit.intOf]; omega⟩
    · obtain rfl : i = 8 := by omega
      have HR67 : Hid ((0 ≤ a6 ∧ a6.toNat < max 1 D.length) ∧ 0 ≤ a7 ∧ a7.toNat < max 1 D.length) := Lib.hid ⟨by have := HU.out.1 6 (by omega); rwa [val_lo D _ (by omega)] at this, by have := HU.out.1 7 (by omega); rwa [val_lo D _ (by omega)] at this⟩
      obtain ⟨c0, c9, c10, c11, ct, cz⟩ := HV.out.cell rfl
      have c7 := ct 6 (by simp)
      simp only [List.getElem_cons_succ, List.getElem_cons_zero, Nat.reduceAdd] at c7
      clear c0 c9 c10 c11 ct cz HX hi8 hlt
      go_upto_if 56 with (fail)
      go_cut [] (fun wx => ∃ vi, Hid (Vw w wx A n c D [a0, a1, a2, a3, a4, a5, a6, a7] vb mp mt 40 40 (innI [a0, a1, a2, a3, a4, a5, a6, a7]) vi))
      case first =>
        by_cases h6 : a6 = 0
        · subst h6
          have q0 : ((0 : Int) != 0) = false := by decide
          go_wp2
          go_meet
          refine ⟨.slice none 0 0, ?_⟩
          have hz : ∀ i, i < 32 → val D [a0, a1, a2, a3, a4, a5, 0, a7] (8 + i) = 0 := fun i hi => by rw [val_I D _ hi]; rfl
          exact HV.out.skip 32 hz
        · obtain ⟨b6, rfl⟩ : ∃ b6 : Nat, a6 = (b6 : Int) := ⟨a6.toNat, by have := HR67.out.1; omega⟩
          have HL := Lib.hid (leaf_any w wr A n c D [a0, a1, a2, a3, a4, a5, (b6 : Int), a7] vb mp mt 8 [] (.slice none 0 0) rfl HD.out hn HW.out HU.out (by omega) HV.out (by simp) b6 6 1 (by have := HR67.out.1.2; have := HD.out.len; omega) (fun i hi => by rw [val_I D _ hi]; show (if ((b6 : Int) = 0) then 0 else at2 D (b6 : Int) i) = _; rw [if_neg h6]) (fun i hi => ⟨posK_I hi, by omega⟩))
          go_wp2_with (go_at_call 63; (refine HL.out.mono ?_); rintro e w3 ⟨rfl, vi, hV2⟩; have HV2 := Lib.hid hV2; clear hV2)
          go_meet
          refine ⟨vi, ?_⟩
          have e : innI [a0, a1, a2, a3, a4, a5, (b6 : Int), a7] = [((b6 : Int), 1)] := if_neg h6
          rw [e]
          exact HV2.out
      case rest =>
        clear HV c7
        obtain ⟨vi, HV⟩ := hcut
        obtain ⟨c0, c9, c10, c11, ct, cz⟩ := HV.out.cell rfl
        have c8 := ct 7 (by simp)
        simp only [List.getElem_cons_succ, List.getElem_cons_zero, Nat.reduceAdd] at c8
        clear c0 c9 c11 ct
        by_cases h7 : a7 = 0
        · subst h7
          have q0 : ((0 : Int) != 0) = false := by decide
          go_wp2
          go_ret
          refine ⟨vb, mp, mt, vi, rfl, ?_⟩
          have e : innD D [a0, a1, a2, a3, a4, a5, a6, 0] = innI [a0, a1, a2, a3, a4, a5, a6, 0] := List.append_nil _
          rw [e]
          refine HV.out.skip 1056 fun i hi => ?_
          have hD0 : ∀ j, vD D [a0, a1, a2, a3, a4, a5, a6, 0] j = 0 := fun j => rfl
          have hE0 : ∀ j q, vE D [a0, a1, a2, a3, a4, a5, a6, 0] j q = 0 := fun j q => rfl
          rw [val, if_neg (by omega), if_neg (by omega)]
          split
          · exact hD0 _
          · exact hE0 _ _
        · obtain ⟨b7, rfl⟩ : ∃ b7 : Nat, a7 = (b7 : Int) := ⟨a7.toNat, by have := HR67.out.2; omega⟩
          have hb7 : b7 < n := by have := HR67.out.2.2; have := HD.out.len; omega
          obtain ⟨ib, io, A', n', c', rfl, hib, hcell, hl', hR', hby⟩ := HD.out.at_ hb7
          have h32 : n' = 32 := by
            rw [← hl']
            have hbl : b7 < D.length := by rw [HD.out.len]; exact hb7
            have : nth D b7 = D[b7] := by simp [nth, hbl]
            rw [this]
            exact HW.out.2 _ (List.getElem_mem hbl)
          subst h32
          have HR := Lib.hid hR'
          have HL := Lib.hid hl'
          have HBY := Lib.hid hby
          have hcc := hR'.cap
          have hcl := hR'.le
          have hcw := keep_cell hcell HV.out.hB
          have HO := Lib.hid HV.out.own
          have hbs := HV.out.hB.size
          have hne : ib ≠ vb := by have := HV.out.gv; omega
          have hne2 : vb ≠ ib := Ne.symm hne
          have hil : (innI [a0, a1, a2, a3, a4, a5, a6, (b7 : Int)]).length ≤ 1 := by unfold innI; split <;> simp
          clear hcell hl' hR' hby HR67
          go_wp2_with (refine wpList_pushN wc rfl _ _ 81 92 rfl w.heap.size (.agg #[.int .i64 0, .int .i64 0]) 2 16 Try.underlying81 infoInner rfl (by omega) (by omega) vi (innI [a0, a1, a2, a3, a4, a5, a6, (b7 : Int)]).length _ [.int .i64 b7, .int .i64 1] rfl rfl rfl (by simp [Value.oneCell']) HO.out hbs (by omega) rfl ?_; intro g cap w1 ho hg hat hlt1; have HV1 := Lib.hid (HV.out.pushed rfl ho hg); have e1 : ∀ j, w1.cell? ⟨vb, j, none⟩ = wc.cell? ⟨vb, j, none⟩ := (fun j => World.cell?_of_block (hg.block vb (by have := (Array.getElem?_eq_some_iff.1 HV.out.blk).1; omega) (fun e => HV.out.ine_v e.symm))); have e2 : w1.cell? ⟨ib, io + b7, none⟩ = wc.cell? ⟨ib, io + b7, none⟩ := World.cell?_of_block (hg.block ib (by omega) (fun e => by have := own_row HO.out ib e.symm; omega)); have ez : w1.frozen? ⟨vb, 10, none⟩ = false := (World.frozen?_of_block (a := ⟨vb, 10, none⟩) (hg.block vb (by have := (Array.getElem?_eq_some_iff.1 HV.out.blk).1; omega) (fun e => HV.out.ine_v e.symm))).trans (cz 10); clear ho hg hat cz)
          clear HO HV c8 c10 hcw e1 e2 ez hne hne2
          go_loopw [11, 12, 86] (fun _ _ v wr => ∃ (i : Nat) (vi : Value), i ≤ 32 ∧ v = .int .i64 i ∧ Hid (Vw w wr (some ⟨ib, io, none⟩) n c D [a0, a1, a2, a3, a4, a5, a6, (b7 : Int)] vb mp mt (40 + 33 * i) (40 + 33 * i) (innI [a0, a1, a2, a3, a4, a5, a6, (b7 : Int)] ++ (((b7 : Int), 1) :: innE D [a0, a1, a2, a3, a4, a5, a6, (b7 : Int)] i)) vi)) (fun _ _ v _ => 32 - (Go.RowKit.intOf v).toNat)
          case atStart => exact ⟨0, _, by omega, rfl, HV1⟩
          case round =>
            clear HV1
            obtain ⟨i, vi', hi32, rfl, HV⟩ := hrel
            by_cases hlt : i < 32
            · obtain ⟨rb, ro, rfl, hrb, hrc⟩ := HR.out.form (by simp; have := HL.out; omega)
              have hil2 : i < (nth D b7).length := by rw [HL.out]; exact hlt
              have hcx := hrc i (by simpa using hil2)
              rw [iv_at] at hcx
              have hcy := keep_cell hcx HV.out.hB
              have hby := HBY.out _ (List.getElem_mem hil2)
              have HEQ : Hid (vD D [a0, a1, a2, a3, a4, a5, a6, (b7 : Int)] i = (nth D b7)[i]) := by
                show (if ((b7 : Int) = 0) then 0 else at2 D (b7 : Int) i) = _
                rw [if_neg h7]
                have hil' : i < (D.getD b7 []).length := hil2
                simp only [at2, nth, Int.toNat_natCast]
                rw [List.getD_eq_getElem?_getD, List.getElem?_eq_getElem hil']
                rfl
              have HP := Lib.hid (point_any w wr (some ⟨ib, io, none⟩) n c D [a0, a1, a2, a3, a4, a5, a6, (b7 : Int)] vb mp mt (40 + 33 * i) (40 + 33 * i) _ vi' rfl HD.out hn HU.out (by omega) HV.out)
              have HLI := Lib.hid (innE_len D [a0, a1, a2, a3, a4, a5, a6, (b7 : Int)] i)
              rw [val_D] at HP
              have HUX := Lib.hid (HU.out.1 (40 + 33 * i) (by omega))
              rw [val_D] at HUX
              rw [HEQ.out] at HP HUX
              clear hrc hcx
              generalize (nth D b7)[i] = x at *
              clear HV
              by_cases hx : x = 0
              · have hz : ∀ j, j < 32 → val D [a0, a1, a2, a3, a4, a5, a6, (b7 : Int)] (40 + 33 * i + 1 + j) = 0 := fun j hj => by rw [val_E D _ hj, vE, HEQ.out, if_pos hx]
                have HZ := Lib.hid hz
                have HI : Hid (innE D [a0, a1, a2, a3, a4, a5, a6, (b7 : Int)] (i + 1) = innE D [a0, a1, a2, a3, a4, a5, a6, (b7 : Int)] i) := by show _ = _; rw [innE_succ, if_pos (HEQ.out.trans hx), List.append_nil]
                have HZ0 : Hid (val D [a0, a1, a2, a3, a4, a5, a6, (b7 : Int)] (40 + 33 * i) = 0) := by show _ = _; rw [val_D, HEQ.out]; exact hx
                clear hz
                subst hx
                go_wp2_with (go_at_call 62; (with_reducible refine HP.out.mono ?_); rintro e w3 ⟨rfl, hV2⟩; have HV2 := Lib.hid hV2; clear hV2)
                refine ⟨⟨i + 1, vi', by omega, by go_num, ?_⟩, by simp [Go.RowKit.intOf]; omega⟩
                have h3 := (HV2.out.noplace (.inl HZ0.out)).skip 32 HZ.out
                have e : 40 + 33 * i + 1 + 32 = 40 + 33 * (i + 1) := by omega
                rw [e] at h3
                rw [HI.out]
                exact h3
              · have hx2 : decide (x ≠ 0) = true := by simpa using hx
                rw [hx2] at HP
                obtain ⟨xb, rfl⟩ : ∃ xb : Nat, x = (xb : Int) := ⟨x.toNat, by omega⟩
                have HROW : Hid (∀ j, j < 32 → val D [a0, a1, a2, a3, a4, a5, a6, (b7 : Int)] (40 + 33 * i + 1 + j) = at2 D (xb : Int) j) := Lib.hid fun j hj => by rw [val_E D _ hj, vE, HEQ.out, if_neg hx]
                have hfi : 38 + 32 * i < 1062 := by omega
                have HI : Hid (innE D [a0, a1, a2, a3, a4, a5, a6, (b7 : Int)] (i + 1) = innE D [a0, a1, a2, a3, a4, a5, a6, (b7 : Int)] i ++ [((xb : Int), 2)]) := by show _ = _; rw [innE_succ, HEQ.out, if_neg hx]
                have HLF : Hid (∀ wx, Vw w wx (some ⟨ib, io, none⟩) n c D [a0, a1, a2, a3, a4, a5, a6, (b7 : Int)] vb mp mt (40 + 33 * i + 1) (40 + 33 * i + 1) (innI [a0, a1, a2, a3, a4, a5, a6, (b7 : Int)] ++ (((b7 : Int), 1) :: innE D [a0, a1, a2, a3, a4, a5, a6, (b7 : Int)] i)) vi' →
                    Calls Try.prog 63 #[.pointer (some ⟨vb, 0, none⟩), .int .i64 (xb : Int), .int .i64 (38 + (i : Int) * 32), .int .i64 2] wx fun e w' => e = .returned (.tuple #[]) ∧ ∃ vi3, Hid (Vw w w' (some ⟨ib, io, none⟩) n c D [a0, a1, a2, a3, a4, a5, a6, (b7 : Int)] vb mp mt (40 + 33 * (i + 1)) (40 + 33 * (i + 1)) (innI [a0, a1, a2, a3, a4, a5, a6, (b7 : Int)] ++ (((b7 : Int), 1) :: innE D [a0, a1, a2, a3, a4, a5, a6, (b7 : Int)] (i + 1))) vi3)) := by
                  intro wx hV
                  have h3 := leaf_any w wx (some ⟨ib, io, none⟩) n c D [a0, a1, a2, a3, a4, a5, a6, (b7 : Int)] vb mp mt (40 + 33 * i + 1) _ vi' rfl HD.out hn HW.out HU.out (by omega) hV (by have := HLI.out; simp only [List.length_append, List.length_cons]; omega) xb (38 + 32 * i) 2 (by have := HUX.out.2; have := HD.out.len; omega) HROW.out (fun j hj => ⟨posK_E hj, by omega⟩)
                  have e1 : ((38 + 32 * i : Nat) : Int) = 38 + (i : Int) * 32 := by omega
                  rw [e1] at h3
                  refine h3.mono ?_
                  rintro e w' ⟨rfl, vi3, hV3⟩
                  refine ⟨rfl, vi3, ?_⟩
                  have e2 : 40 + 33 * i + 1 + 32 = 40 + 33 * (i + 1) := by omega
                  rw [e2, List.append_assoc, List.cons_append] at hV3
                  rw [HI.out]
                  exact hV3
                clear HROW HI HUX HLI
                go_wp2_with (first
                  | (go_at_call 62; (with_reducible refine HP.out.mono ?_); rintro e w3 ⟨rfl, hV2⟩; have HV2 := Lib.hid (hV2.noplace (.inr fun k _ => posK_noD)); clear hV2)
                  | (go_at_call 63; (with_reducible refine (HLF.out _ HV2.out).mono ?_); rintro e w4 ⟨rfl, vi3, HV3⟩))
                exact ⟨⟨i + 1, vi3, by omega, by go_num, HV3⟩, by simp [Go.RowKit.intOf]; omega⟩
            · obtain rfl : i = 32 := by omega
              go_wp2
              go_ret
              refine ⟨vb, mp, mt, vi', rfl, ?_⟩
              have e : innD D [a0, a1, a2, a3, a4, a5, a6, (b7 : Int)] = innI [a0, a1, a2, a3, a4, a5, a6, (b7 : Int)] ++ (((b7 : Int), 1) :: innE D [a0, a1, a2, a3, a4, a5, a6, (b7 : Int)] 32) := by
                show innI [a0, a1, a2, a3, a4, a5, a6, (b7 : Int)] ++ (if ((b7 : Int) = 0) then [] else ((b7 : Int), 1) :: innE D [a0, a1, a2, a3, a4, a5, a6, (b7 : Int)] 32) = _
                rw [if_neg h7]
              rw [e]
              exact HV.out
end Go.Proofs.Ytcgfoaihfncppaa
