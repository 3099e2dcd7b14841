/- Walks of big: point, leaf. -/
import Derived.Test.YtcgfoaihfncppaaBg1
import Derived.Test.YtcgfoaihfncppaaBgQ
set_option linter.unusedSimpArgs false
set_option linter.unusedVariables false
namespace Go.Proofs.Ytcgfoaihfncppaa
open Go.RowKit Go.Sel Go.Sel.Gra Go.Sel.Bg Go.Sel.Mer Go.Shelf

theorem zeroB (w : World) : (zeroValue 4).run Try.prog w = .ok (.bool false) w := by kernel_rfl
theorem zeroI (w : World) : (zeroValue 3).run Try.prog w = .ok (.int .i64 0) w := by kernel_rfl
theorem infoInner : (Try.prog.info? 92).map (fun i => (i.zero, i.size, i.bytes)) = some (some (.agg #[.int .i64 0, .int .i64 0]), 2, 16) := by kernel_rfl

set_option maxRecDepth 100000 in
set_option maxHeartbeats 2000000 in
/-- A look at the next pointer. -/
theorem point_any (w0 w : World) (A : Option Addr) (n c : Nat) (D : List (List Int)) (t : List Int) (vb mp mt m k : Nat) (inn : List (Int × Int)) (vi : Value) (ht : t.length = 8) (hD : Bp w0 A n c D) (hn : n ≤ 96)
    (hU : okU D t 1096) (hm : m < 1096) (hV : Vw w0 w A n c D t vb mp mt m k inn vi) :
    Calls Try.prog 62 #[.pointer (some ⟨vb, 0, none⟩), .int .i64 (val D t m)] w fun e w' => e = .returned (.bool (decide (val D t m ≠ 0))) ∧ Vw w0 w' A n c D t vb mp mt (m + 1) k inn vi := by
  have hln := hD.len
  have hr := hU.1 m hm
  have hc0 := hD.cap
  have hc1 := hD.le
  obtain ⟨l, hI, hT⟩ := hV.tk
  obtain ⟨c0, c9, c10, c11, ct, cz⟩ := hV.cell ht
  clear c9 c10 ct cz
  by_cases h0 : val D t m = 0
  · have HV : Hid (Vw w0 w A n c D t vb mp mt (m + 1) k inn vi) := Lib.hid (by obtain ⟨q1, q2, q3, q4, q5, q6, q7, q8, q9⟩ := hV; exact ⟨q1, q2, q3, q4, q5, q6, q7, q8, l, hI, hT.zero h0⟩)
    rw [h0]
    clear hV hr hT h0 hU hD hI hm ht hc0 hc1 hln hn c0 c11
    go_enter Try.func62, Try.ntmps62
    go_wp2
    go_ret
    exact ⟨rfl, HV.out⟩
  · have hlk := hI.lookup (P := Try.prog) Try.underlying82 Try.underlying3 (zeroB w) (val D t m)
    rw [hT.free ⟨fun p hp => hU.1 p (by omega), fun p q hp hq => hU.2 p q (by omega) (by omega)⟩ h0] at hlk
    simp only [Option.getD_none] at hlk
    obtain ⟨w1, hrun, hm1, hb1⟩ := hI.store (P := Try.prog) Try.underlying82 Try.underlying3 (val D t m) (.bool true)
    have HV : Hid (Vw w0 w1 A n c D t vb mp mt (m + 1) k inn vi) := Lib.hid (hV.taken hb1 hm1 (hT.step h0))
    have HE : Hid (decide (val D t m ≠ 0) = true) := Lib.hid (by simpa using h0)
    generalize val D t m = x at *
    clear hV hT hm1 hb1 hI
    have q1 : (0 : Int) < x := by omega
    have q2 : x < (n : Int) := by omega
    clear hr
    go_enter Try.func62, Try.ntmps62
    go_wp2_with (go_at_call 37; (with_reducible refine (must_ok 3 w).mono ?_); rintro e w2 ⟨rfl, rfl⟩)
    go_ret
    exact ⟨ret_bool HE.out.symm, HV.out⟩

set_option maxRecDepth 100000 in
set_option maxHeartbeats 4000000 in
/-- A look at a block's pointers. -/
theorem leaf_any (w0 w : World) (A : Option Addr) (n c : Nat) (D : List (List Int)) (t : List Int) (vb mp mt m : Nat) (inn : List (Int × Int)) (vi : Value) (ht : t.length = 8) (hD : Bp w0 A n c D) (hn : n ≤ 96) (hW : whole D)
    (hU : okU D t 1096) (hm : m + 32 ≤ 1096) (hV : Vw w0 w A n c D t vb mp mt m m inn vi) (hi : inn.length ≤ 100) (b fr : Nat) (d : Int) (hb : b < n) (hrow : ∀ i, i < 32 → val D t (m + i) = at2 D b i) (hpos : ∀ i, i < 32 → posK (fr + i) = m + i ∧ fr + i < 1062) :
    Calls Try.prog 63 #[.pointer (some ⟨vb, 0, none⟩), .int .i64 b, .int .i64 fr, .int .i64 d] w fun e w' => e = .returned (.tuple #[]) ∧ ∃ vi', Vw w0 w' A n c D t vb mp mt (m + 32) (m + 32) (inn ++ [((b : Int), d)]) vi' := by
  have HD := Lib.hid hD
  have HU := Lib.hid hU
  have HROW := Lib.hid hrow
  have HPOS := Lib.hid hpos
  have HV := Lib.hid hV
  have hc0 := hD.cap
  have hc1 := hD.le
  obtain ⟨ib, io, A', n', c', rfl, hib, hcell, hl', hR', hby⟩ := hD.at_ hb
  have h32 : n' = 32 := by
    rw [← hl']
    refine hW.2 _ ?_
    have hbl : b < D.length := by rw [hD.len]; exact hb
    have : nth D b = D[b] := by simp [nth, hbl]
    rw [this]
    exact List.getElem_mem hbl
  subst h32
  have HR := Lib.hid hR'
  have HL := Lib.hid hl'
  have HBY := Lib.hid hby
  have hcc := hR'.cap
  have hcl := hR'.le
  have hcw : w.cell? ⟨ib, io + b, none⟩ = some (.slice A' 32 c') := keep_cell hcell (hV.hB)
  obtain ⟨c0, c9, c10, c11, ct, cz⟩ := hV.cell ht
  have HO := Lib.hid hV.own
  have hbs := hV.hB.size
  have HF : Hid (posK (fr + 0) = m + 0 ∧ fr + 0 < 1062) := Lib.hid (hpos 0 (by omega))
  clear hR' hl' hby hU hrow hpos hV hD hW ct c9 c11
  go_enter Try.func63, Try.ntmps63
  have hne : ib ≠ vb := by have := HV.out.gv; omega
  have hne2 : vb ≠ ib := Ne.symm hne
  go_wp2_with (refine wpList_pushN w rfl _ _ 81 92 rfl w0.heap.size (.agg #[.int .i64 0, .int .i64 0]) 2 16 Try.underlying81 infoInner rfl (by omega) (by omega) vi inn.length _ [.int .i64 b, .int .i64 d] rfl rfl rfl (by simp [Value.oneCell']) HO.out hbs (by omega) rfl ?_; intro g cap w1 ho hg hat hlt1; have HV1 := Lib.hid (HV.out.pushed ht ho hg); have e1 : ∀ j, w1.cell? ⟨vb, j, none⟩ = w.cell? ⟨vb, j, none⟩ := (fun j => World.cell?_of_block (hg.block vb (by have := (Array.getElem?_eq_some_iff.1 HV.out.blk).1; omega) (fun e => HV.out.ine_v e.symm))); have e2 : w1.cell? ⟨ib, io + b, none⟩ = w.cell? ⟨ib, io + b, none⟩ := World.cell?_of_block (hg.block ib (by omega) (fun e => by have := own_row HO.out ib e.symm; omega)); have ez : w1.frozen? ⟨vb, 10, none⟩ = false := (World.frozen?_of_block (a := ⟨vb, 10, none⟩) (hg.block vb (by have := (Array.getElem?_eq_some_iff.1 HV.out.blk).1; omega) (fun e => HV.out.ine_v e.symm))).trans (cz 10); clear ho hg hat cz)
  clear HO HV c0 c10 hcw e1 e2 ez hne hne2
  generalize Value.slice (some ⟨g, 0, none⟩) (inn.length + 1) cap = vi' at *
  go_loopw [8, 9, 30] (fun _ _ v wr => ∃ i : Nat, i ≤ 32 ∧ v = .int .i64 i ∧ Hid (Vw w0 wr (some ⟨ib, io, none⟩) n c D t vb mp mt (m + i) (m + i) (inn ++ [((b : Int), d)]) vi')) (fun _ _ v _ => 32 - (Go.RowKit.intOf v).toNat)
  case atStart => exact ⟨0, by omega, rfl, HV1⟩
  case round =>
    clear HV1
    obtain ⟨i, hi32, rfl, HV⟩ := hrel
    by_cases hlt : i < 32
    · obtain ⟨rb, ro, rfl, hrb, hrc⟩ := HR.out.form (by simp; have := HL.out; omega)
      have hil : i < (nth D b).length := by rw [HL.out]; exact hlt
      have hcx := hrc i (by simpa using hil)
      rw [iv_at] at hcx
      have hcy := keep_cell hcx HV.out.hB
      have hby := HBY.out _ (List.getElem_mem hil)
      have HEQ : Hid (val D t (m + i) = (nth D b)[i]) := by
        show _ = _
        rw [HROW.out i hlt]
        have hil' : i < (D.getD b []).length := hil
        simp only [at2, nth, Int.toNat_natCast]
        rw [List.getD_eq_getElem?_getD, List.getElem?_eq_getElem hil']
        rfl
      have HP := Lib.hid (point_any w0 wr (some ⟨ib, io, none⟩) n c D t vb mp mt (m + i) (m + i) (inn ++ [((b : Int), d)]) vi' ht HD.out hn HU.out (by omega) HV.out)
      have HPO := Lib.hid (HPOS.out i hlt)
      rw [HEQ.out] at HP
      clear hrc hcx
      generalize (nth D b)[i] = x at *
      clear HV
      have hfi := HPO.out.2
      by_cases hx : x = 0
      · have HZ : Hid (val D t (m + i) = 0) := Lib.hid (HEQ.out.trans hx)
        subst hx
        go_wp2_with (go_at_call 62; (with_reducible refine HP.out.mono ?_); rintro e w2 ⟨rfl, hV2⟩; have HV2 := Lib.hid hV2; clear hV2)
        exact ⟨⟨i + 1, by omega, by go_num, HV2.out.noplace (.inl HZ.out)⟩, by simp [Go.RowKit.intOf]; omega⟩
      · have HZ : Hid (val D t (m + i) ≠ 0) := Lib.hid (by rw [HEQ.out]; exact hx)
        have hx2 : decide (x ≠ 0) = true := by simpa using hx
        rw [hx2] at HP
        go_wp2_with (go_at_call 62; (with_reducible refine HP.out.mono ?_); rintro e w2 ⟨rfl, hV2⟩; obtain ⟨c0, c9, c10, c11, ct, cz⟩ := hV2.cell ht; obtain ⟨l, hl, hpl⟩ := hV2.pl; obtain ⟨w3, hrun, hm1, hb1⟩ := hl.store (P := Try.prog) Try.underlying80 Try.underlying3 ((fr : Int) + i) (.int .i64 x); have HV3 : Hid (Vw w0 w3 (some ⟨ib, io, none⟩) n c D t vb mp mt (m + i + 1) (m + i + 1) (inn ++ [((b : Int), d)]) vi') := (by have q1 := hpl.step HPO.out.2 HPO.out.1 HZ.out; rw [HEQ.out] at q1; exact hV2.placed hb1 hm1 (by simpa using q1)); clear hV2 hl hpl hm1 hb1 c0 c10 c11 ct cz)
        exact ⟨⟨i + 1, by omega, by go_num, HV3.out⟩, by simp [Go.RowKit.intOf]; omega⟩
    · obtain rfl : i = 32 := by omega
      go_wp2
      go_end0
      exact ⟨rfl, _, HV.out⟩
end Go.Proofs.Ytcgfoaihfncppaa
