/- Walks of merge: Blocks. -/
import Derived.Test.YtpicagcapgjiaaaMb3
import Derived.Test.YtpicagcapgjiaaaMb5
set_option linter.unusedSimpArgs false
set_option linter.unusedVariables false
namespace Go.Proofs.Ytpicagcapgjiaaa
open Go.RowKit Go.Sel Go.Sel.Gra Go.Sel.Mer Go.Shelf

set_option maxRecDepth 100000 in
set_option maxHeartbeats 8000000 in
theorem Blocks_any (A : Option Addr) (n c : Nat) (L : List It) (A1 : Option Addr) (n1 c1 : Nat) (S : List Int) (A2 : Option Addr) (n2 c2 : Nat) (D : List (List Int)) (w : World)
    (hL : Ip w A n c L) (hr1 : Rd w A1 n1 c1 (iv .i64 S)) (hl1 : S.length = n1) (hD : Bp w A2 n2 c2 D) (hn : n2 ≤ 1000) (hs : ∀ i, i < n2 → (nth D i).length ≤ 140737488351232) :
    Calls Try.prog 42 #[.slice A n c, .slice A1 n1 c1, .slice A2 n2 c2] w fun e w' => (∃ A' c', e = .returned (.slice A' n2 c') ∧ Wb w.heap.size w' A' n2 c' (blocksL L S D)) ∧ Below w.heap.size w w' := by
  have HL := Lib.hid hL
  have HLN := Lib.hid hL.len
  have HS := Lib.hid hr1
  have HSL := Lib.hid hl1
  have HD := Lib.hid hD
  have HDN := Lib.hid hD.len
  have HSZ := Lib.hid hs
  have l1 := hL.le
  have l2 := hL.cap
  have m1 := hr1.le
  have m2 := hr1.cap
  clear hL hr1 hl1 hD hs
  cases hr : mrightB L with
  | false =>
    have HR := Lib.hid hr
    have HE : Hid (blocksL L S D = D) := by show _ = _; simp [blocksL, hr]
    clear hr
    go_enter Try.func42, Try.ntmps42
    go_wp2_with (first
      | (go_at_call 81; (with_reducible refine (copied_any A2 n2 c2 D _ HD.out hn HSZ.out).mono ?_); rintro e w1 ⟨⟨A', c', rfl, hw⟩, hB⟩; have HW := Lib.hid hw; have HB := Lib.hid hB; have HL1 := Lib.hid (HL.out.below hB); clear hw hB)
      | (go_at_call 24; (with_reducible refine (mRight_any _ _ _ L _ HL1.out).mono ?_); rw [HR.out]; rintro e w2 ⟨rfl, hB⟩; have HW2 := Lib.hid (HW.out.below hB); have HB2 := Lib.hid (below_then HB.out hB); clear hB))
    go_ret
    exact ⟨⟨_, _, rfl, by rw [HE.out]; exact HW2.out⟩, HB2.out⟩
  | true =>
    have HR := Lib.hid hr
    have HE : Hid (blocksL L S D = blocksK L S D n) := by show _ = _; rw [blocksL, if_pos hr, HLN.out]
    have HP : Hid (∀ k, k < n → prightB (nthI L k) = true) := fun k hk => by
      rw [nthI_get (by rw [HLN.out]; exact hk)]
      exact (mright_iff.1 hr).2.1 _ (List.getElem_mem _)
    clear hr
    go_enter Try.func42, Try.ntmps42
    go_wp2_with (first
      | (go_at_call 81; (with_reducible refine (copied_any A2 n2 c2 D _ HD.out hn HSZ.out).mono ?_); rintro e w1 ⟨⟨A', c', rfl, hw⟩, hB⟩; have HW := Lib.hid hw; have HB := Lib.hid hB; have HL1 := Lib.hid (HL.out.below hB); clear hw hB)
      | (go_at_call 24; (with_reducible refine (mRight_any _ _ _ L _ HL1.out).mono ?_); rw [HR.out]; rintro e w2 ⟨rfl, hB⟩; have HW2 := Lib.hid (HW.out.below hB); have HB2 := Lib.hid (below_then HB.out hB); clear hB))
    clear HL1 HW HB HR
    go_loopw [21] (fun v wr => ∃ k : Nat, k ≤ n ∧ v = .int .i64 k ∧ Hid (Wb w.heap.size wr A' n2 c' (blocksK L S D k)) ∧ Hid (Below w.heap.size w wr)) (fun v _ => n - (intOf v).toNat)
    case atStart => exact ⟨0, by omega, rfl, HW2, HB2⟩
    case round =>
      clear HW2 HB2
      obtain ⟨k, hk, rfl, HW, HB⟩ := hrel
      by_cases hlt : k < n
      · obtain ⟨b, off, A3, n3, c3, rfl, hb, q0, q1, q2, q3, hd, hr⟩ := (HL.out.below HB.out).at_ hlt
        have hp := pright_iff.1 (HP.out k hlt)
        have HPK := Lib.hid (HP.out k hlt)
        have HEK := Lib.hid (blocksK_succ L S D k)
        have HKL : Hid ((blocksK L S D k).length = n2) := by show _ = _; rw [blocksK_length, HDN.out]
        obtain ⟨bn, hbn⟩ : ∃ bn : Nat, (nthI L k).b = (bn : Int) := ⟨(nthI L k).b.toNat, by omega⟩
        generalize blocksK L S D k = Dk at *
        generalize hx : nthI L k = x at *
        have HX := Lib.hid hx
        have hw0 := HW.out.le
        have hw1 := HW.out.cap
        clear hd hr hp hx
        have HWA : Hid (∀ o : Obj, Wb w.heap.size (wr.alloc o) A' n2 c' Dk) := fun o => HW.out.below (below_al _ _)
        obtain ⟨xb, xo, xs, xd⟩ := x
        simp only at hbn q0 q1 q2
        subst hbn
        have HBA : Hid (∀ o : Obj, Below w.heap.size w (wr.alloc o)) := fun o => HB.out.alloc HB.out.size o
        by_cases hbl : bn < n2
        · have HCN : Hid (∀ wx, Rd wx A1 n1 c1 (iv .i64 S) → Calls Try.prog 74 #[.slice A1 n1 c1, .int .i64 (k : Int)] wx fun e w' => e = .returned (.bool (decide ((k : Int) ∈ S))) ∧ w' = wx) := fun wx hx => Contains_any _ _ _ S _ wx hx HSL.out
          obtain ⟨g, A4, n4, c4, rfl, hgb, hgl, hgc, hgf, hgn, hgr, hgx⟩ := HW.out.at_ hbl
          have HGN := Lib.hid hgn
          have HGR := Lib.hid hgr
          have HGX := Lib.hid hgx
          have hg4 := hgr.cap
          have hg5 := hgr.le
          clear hgn hgr hgx
          have HS1 : Hid (∀ o : Obj, Rd (wr.alloc o) A1 n1 c1 (iv .i64 S)) := fun o => (HS.out.below HB.out).alloc o
          by_cases hin : (k : Int) ∈ S
          · have HIN := Lib.hid hin
            rw [decide_eq_true hin] at HCN
            clear hin
            cases hap : applyB (nth Dk bn) ⟨bn, xo, xs, xd⟩ with
            | none =>
              have HST : Hid (stepB L S Dk k = Dk) := by
                show _ = _
                unfold stepB
                rw [HX.out]
                simp only [Int.toNat_natCast, hap]
                simp
              have HAP : Hid (¬ ((nth Dk bn).length = 32 ∧ prightB ⟨bn, xo, xs, xd⟩ = true)) := by
                show ¬ _
                intro h
                unfold applyB at hap
                rw [if_pos h] at hap
                cases hap
              clear hap
              go_upto_region 9 with (go_at_call 74; (with_reducible refine (HCN.out _ (HS1.out _)).mono ?_); rintro e w3 ⟨rfl, rfl⟩)
              have k1 := new_cell wr #[.int .i64 bn, .int .i64 xo, .string xs, .slice A3 n3 c3] 44 0 _ rfl
              have k2 := new_cell wr #[.int .i64 bn, .int .i64 xo, .string xs, .slice A3 n3 c3] 44 1 _ rfl
              have k3 := new_cell wr #[.int .i64 bn, .int .i64 xo, .string xs, .slice A3 n3 c3] 44 2 _ rfl
              have k0 := keep_cell hgc (below_al wr (.cells #[.int .i64 bn, .int .i64 xo, .string xs, .slice A3 n3 c3] 44))
              have HA := HWA.out (.cells #[.int .i64 bn, .int .i64 xo, .string xs, .slice A3 n3 c3] 44)
              have HBB := HBA.out (.cells #[.int .i64 bn, .int .i64 xo, .string xs, .slice A3 n3 c3] 44)
              have HGR1 := Lib.hid (HGR.out.alloc (.cells #[.int .i64 bn, .int .i64 xo, .string xs, .slice A3 n3 c3] 44))
              generalize wr.alloc (.cells #[.int .i64 bn, .int .i64 xo, .string xs, .slice A3 n3 c3] 44) = wb at *
              have HA1 : Hid (Wb w.heap.size wb.drew (some ⟨g, 0, none⟩) n2 c' Dk) := HA.below (Sel.below_drewN wb 1)
              have HBB1 : Hid (Below w.heap.size w wb.drew) := HBB.drew
              have HS9 : At (fun w' : World => w'.cell? ⟨g, bn, none⟩ = some (.slice A4 n4 c4) ∧ w'.cell? ⟨wr.heap.size, 0, none⟩ = some (.int .i64 bn) ∧ w'.cell? ⟨wr.heap.size, 1, none⟩ = some (.int .i64 xo) ∧ w'.cell? ⟨wr.heap.size, 2, none⟩ = some (.string xs)) wb.drew := ⟨k0, k1, k2, k3⟩
              clear HA HBB k0 k1 k2 k3 hgc hgf q0 q1 q2 q3
              have a1 : (0 : Int) ≤ (bn : Int) := by omega
              have a2 : (bn : Int) < (n2 : Int) := by omega
              refine wp_region_lexD HS9 [0, 1, 2, 3, 4, 5, 7, 8, 9, 10, 11] (by kernel_rfl) (by kernel_rfl) (fun _ _ d _ _ h => by cases d <;> exact h) ?_
              repeat (refine lexD_take (by kernel_rfl) (by kernel_rfl) HS9 (fun w9 h9 => by obtain ⟨s0, s1, s2, s3⟩ := h9; go_simp; first | done | rfl) (fun K hK => ?_); go_simp; refine hK _ ?_; clear hK K)
              refine lexD_do (by kernel_rfl) (by kernel_rfl) (fun K hK => ?_)
              go_simp
              refine (Apply_no ⟨bn, xo, xs, xd⟩ A4 n4 c4 _ (by omega) (by rw [← HGN.out]; exact HAP.out)).mono ?_
              rintro e w5 ⟨rfl, hB⟩
              have HS5 : At (fun w' : World => w'.cell? ⟨g, bn, none⟩ = some (.slice A4 n4 c4) ∧ w'.cell? ⟨wr.heap.size, 0, none⟩ = some (.int .i64 bn) ∧ w'.cell? ⟨wr.heap.size, 1, none⟩ = some (.int .i64 xo) ∧ w'.cell? ⟨wr.heap.size, 2, none⟩ = some (.string xs)) w5 := by
                obtain ⟨s0, s1, s2, s3⟩ := HS9
                exact ⟨keep_cell s0 hB, keep_cell s1 hB, keep_cell s2 hB, keep_cell s3 hB⟩
              have HW5 := Lib.hid (HA1.out.below hB)
              have HB5 := Lib.hid (below_then HBB1.out hB)
              refine hK _ _ (fun _ => HS5) ?_
              clear hK K HS9 hB
              repeat (refine lexD_take (by kernel_rfl) (by kernel_rfl) HS5 (fun w9 h9 => by obtain ⟨s0, s1, s2, s3⟩ := h9; go_simp; first | done | rfl) (fun K hK => ?_); go_simp; refine hK _ ?_; clear hK K)
              refine lexD_nil ?_
              go_wp2
              go_roundw
              case rel => exact ⟨k + 1, by omega, by go_num, by rw [HEK.out, HST.out]; exact HW5, HB5⟩
              case measure => simp [intOf] <;> omega
            | some s =>
              have HST : Hid (stepB L S Dk k = Dk.set bn s) := by
                show _ = _
                unfold stepB
                rw [HX.out]
                simp only [Int.toNat_natCast, hap]
                rw [if_pos ⟨by rw [HKL.out]; omega, HIN.out⟩]
              have HLS := Lib.hid (applyB_length hap)
              have HBS := Lib.hid (applyB_byte hap HGX.out)
              clear hap
              have hn4 : n4 = 32 := by rw [← HGN.out]; exact HLS.out.2.1
              subst hn4
              go_upto_region 9 with (go_at_call 74; (with_reducible refine (HCN.out _ (HS1.out _)).mono ?_); rintro e w3 ⟨rfl, rfl⟩)
              have k1 := new_cell wr #[.int .i64 bn, .int .i64 xo, .string xs, .slice A3 n3 c3] 44 0 _ rfl
              have k2 := new_cell wr #[.int .i64 bn, .int .i64 xo, .string xs, .slice A3 n3 c3] 44 1 _ rfl
              have k3 := new_cell wr #[.int .i64 bn, .int .i64 xo, .string xs, .slice A3 n3 c3] 44 2 _ rfl
              have k0 := keep_cell hgc (below_al wr (.cells #[.int .i64 bn, .int .i64 xo, .string xs, .slice A3 n3 c3] 44))
              have HA := HWA.out (.cells #[.int .i64 bn, .int .i64 xo, .string xs, .slice A3 n3 c3] 44)
              have HBB := HBA.out (.cells #[.int .i64 bn, .int .i64 xo, .string xs, .slice A3 n3 c3] 44)
              have HGR1 := Lib.hid (HGR.out.alloc (.cells #[.int .i64 bn, .int .i64 xo, .string xs, .slice A3 n3 c3] 44))
              generalize wr.alloc (.cells #[.int .i64 bn, .int .i64 xo, .string xs, .slice A3 n3 c3] 44) = wb at *
              have HA1 : Hid (Wb w.heap.size wb.drew (some ⟨g, 0, none⟩) n2 c' Dk) := HA.below (Sel.below_drewN wb 1)
              have HBB1 : Hid (Below w.heap.size w wb.drew) := HBB.drew
              have HS9 : At (fun w' : World => w'.cell? ⟨g, bn, none⟩ = some (.slice A4 32 c4) ∧ w'.cell? ⟨wr.heap.size, 0, none⟩ = some (.int .i64 bn) ∧ w'.cell? ⟨wr.heap.size, 1, none⟩ = some (.int .i64 xo) ∧ w'.cell? ⟨wr.heap.size, 2, none⟩ = some (.string xs)) wb.drew := ⟨k0, k1, k2, k3⟩
              clear HA HBB k0 k1 k2 k3 hgc hgf q0 q1 q2 q3
              have a1 : (0 : Int) ≤ (bn : Int) := by omega
              have a2 : (bn : Int) < (n2 : Int) := by omega
              refine wp_region_lexD HS9 [0, 1, 2, 3, 4, 5, 7, 8, 9, 10, 11] (by kernel_rfl) (by kernel_rfl) (fun _ _ d _ _ h => by cases d <;> exact h) ?_
              repeat (refine lexD_take (by kernel_rfl) (by kernel_rfl) HS9 (fun w9 h9 => by obtain ⟨s0, s1, s2, s3⟩ := h9; go_simp; first | done | rfl) (fun K hK => ?_); go_simp; refine hK _ ?_; clear hK K)
              refine lexD_do (by kernel_rfl) (by kernel_rfl) (fun K hK => ?_)
              go_simp
              refine (Apply_ok ⟨bn, xo, xs, xd⟩ A4 c4 (nth Dk bn) _ (rd_drewN 1 HGR1.out) HGN.out HLS.out.2.2.1).mono ?_
              rintro e w5 ⟨⟨A5, rfl, hr5⟩, hB⟩
              have HS5 : At (fun w' : World => w'.cell? ⟨g, bn, none⟩ = some (.slice A4 32 c4) ∧ w'.cell? ⟨wr.heap.size, 0, none⟩ = some (.int .i64 bn) ∧ w'.cell? ⟨wr.heap.size, 1, none⟩ = some (.int .i64 xo) ∧ w'.cell? ⟨wr.heap.size, 2, none⟩ = some (.string xs)) w5 := by
                obtain ⟨s0, s1, s2, s3⟩ := HS9
                exact ⟨keep_cell s0 hB, keep_cell s1 hB, keep_cell s2 hB, keep_cell s3 hB⟩
              have HW5 := Lib.hid (HA1.out.below hB)
              have HB5 := Lib.hid (below_then HBB1.out hB)
              have HR5 := Lib.hid hr5
              refine hK _ _ (fun _ => HS5) ?_
              clear hK K HS9 hB hr5
              repeat (refine lexD_take (by kernel_rfl) (by kernel_rfl) HS5 (fun w9 h9 => by obtain ⟨s0, s1, s2, s3⟩ := h9; go_simp; first | done | rfl) (fun K hK => ?_); go_simp; refine hK _ ?_; clear hK K)
              refine lexD_nil ?_
              obtain ⟨g', A6, n6, c6, e, _, _, hc6, hf6, _⟩ := HW5.out.at_ hbl
              injection e with e; injection e with e; subst e
              have HW6 : Hid (Wb w.heap.size (w5.setCell ⟨g, bn, none⟩ (.slice A5 32 32)) (some ⟨g, 0, none⟩) n2 c' (Dk.set bn s)) := by
                rw [HLS.out.2.2.2]
                refine HW5.out.set hbl HR5.out ?_ ?_ rfl
                · rw [← HLS.out.2.2.2]; exact HLS.out.1
                · rw [← HLS.out.2.2.2]; exact HBS.out
              have HB6 : Hid (Below w.heap.size w (w5.setCell ⟨g, bn, none⟩ (.slice A5 32 32))) := HW5.out.below_set hbl rfl HB5.out _
              clear HS5
              go_wp2
              go_roundw
              case rel => exact ⟨k + 1, by omega, by go_num, by rw [HEK.out, HST.out]; exact HW6, HB6⟩
              case measure => simp [intOf] <;> omega
          · have HST : Hid (stepB L S Dk k = Dk) := by
              show _ = _
              unfold stepB
              rw [if_neg (fun h => hin h.2)]
            rw [decide_eq_false hin] at HCN
            clear hin
            go_wp2_with (go_at_call 74; (with_reducible refine (HCN.out _ (HS1.out _)).mono ?_); rintro e w3 ⟨rfl, rfl⟩)
            go_roundw
            case rel => exact ⟨k + 1, by omega, by go_num, by rw [HEK.out, HST.out]; exact HWA.out _, HBA.out _⟩
            case measure => simp [intOf] <;> omega
        · have HST : Hid (stepB L S Dk k = Dk) := by
            show _ = _
            unfold stepB
            rw [HX.out, if_neg (by rw [HKL.out]; simp only; omega)]
          go_wp2
          go_roundw
          case rel => exact ⟨k + 1, by omega, by go_num, by rw [HEK.out, HST.out]; exact HWA.out _, HBA.out _⟩
          case measure => simp [intOf] <;> omega
      · obtain rfl : k = n := by omega
        go_wp2
        go_ret
        exact ⟨⟨_, _, rfl, by rw [HE.out]; exact HW.out⟩, HB.out⟩
end Go.Proofs.Ytpicagcapgjiaaa
