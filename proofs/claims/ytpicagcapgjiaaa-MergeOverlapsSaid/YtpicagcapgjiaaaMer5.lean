/- Walks of merge: the functions of Deps. -/
import Derived.Test.YtpicagcapgjiaaaMer4
import Derived.Test.YtpicagcapgjiaaaMerR
import Derived.Test.YtpicagcapgjiaaaSel9
set_option linter.unusedSimpArgs false
set_option linter.unusedVariables false
namespace Go.Proofs.Ytpicagcapgjiaaa
open Go.RowKit Go.Sel Go.Sel.Gra Go.Sel.Mer Go.Shelf

set_option maxHeartbeats 1000000 in
theorem Deps1_any (obx ob n j : Nat) (g : Int) (vs : List Value) (w : World) (h1 : w.cell? ⟨obx, 0, none⟩ = some (.slice (some ⟨ob, 0, none⟩) n n)) (hb : Bk w ob 3 vs) (hl : vs.length = n) (hj : j < n) (hn : n ≤ 1000) :
    Calls Try.prog 72 #[.int .i64 g, .int .i64 (j : Int), .pointer (some ⟨obx, 0, none⟩)] w fun e w' => e = .returned (.tuple #[]) ∧ w' = w.setCell ⟨ob, j, none⟩ (.int .i64 g) := by
  obtain ⟨z, hz⟩ : ∃ z, w.cell? ⟨ob, j, none⟩ = some z := ⟨_, hb.cell j (by omega)⟩
  have hf := hb.free j
  clear hb
  go_enter Try.func72, Try.ntmps72
  go_wp2
  go_end0
  exact ⟨rfl, rfl⟩

def Deps2Post (B G : Nat) (rows : Nat → List Int) (W1 : World) (e : Ending) (w' : World) : Prop :=
  e = .returned (.tuple #[]) ∧ ∃ os, OutR B G rows (.slice (some ⟨B, 0, none⟩) G G) os w' ∧ Bk w' (B + 1) 22 [.slice (some ⟨B, 0, none⟩) G G] ∧ Below B W1 w'

set_option maxRecDepth 100000 in
set_option maxHeartbeats 4000000 in
theorem Deps2_any (W1 W : World) (A : Option Addr) (n c : Nat) (L : List It) (B lb obx ob G g i : Nat) (gi : List Int) (rows : Nat → List Int) (hB : W1.heap.size = B) (hL : Ip W1 A n c L) (hlb : W1.cell? ⟨lb, 0, none⟩ = some (.slice A n c)) (hobx : W1.cell? ⟨obx, 0, none⟩ = some (.slice (some ⟨ob, 0, none⟩) n n))
    (hob : Bk W1 ob 3 (iv .i64 gi)) (hgi : gi = (gls L n).map fun x : Nat => (x : Int)) (hP : ∃ os, OutR B G rows (.slice (some ⟨B, 0, none⟩) G G) os W) (hbx : Bk W (B + 1) 22 [.slice (some ⟨B, 0, none⟩) G G]) (hBW : Below B W1 W)
    (hg : g < G) (hG : G ≤ 64) (hi : i < n) (hn : n ≤ 64) (hds : ∀ d ∈ (nthI L i).ds, 0 ≤ d ∧ d < (n : Int)) (hle : ∀ t, (accI (gls L n) g (rows g) ((nthI L i).ds.take t)).length ≤ 64) :
    Calls Try.prog 73 #[.int .i64 (g : Int), .int .i64 (i : Int), .pointer (some ⟨lb, 0, none⟩), .pointer (some ⟨obx, 0, none⟩), .pointer (some ⟨B + 1, 0, none⟩)] W (Deps2Post B G (fun j => if j = g then accI (gls L n) g (rows g) (nthI L i).ds else rows j) W1) := by
  have HB1 : Hid (Below W1.heap.size W1 W) := by show Below _ _ _; rw [hB]; exact hBW
  have hlbB : lb < B := by rw [← hB]; exact World.block_lt_of_cell? _ _ hlb
  have hobxB : obx < B := by rw [← hB]; exact World.block_lt_of_cell? _ _ hobx
  have hobB : ob < B := by rw [← hB]; exact hob.lt
  obtain ⟨b, off, A', n', c', rfl, hb, c0, c1, c2, c3, hd, hrd⟩ := hL.at_ hi
  have k0 := keep_cell hlb HB1.out
  have k3 := keep_cell c3 HB1.out
  have HRD := Lib.hid hrd
  have HDL := Lib.hid hd
  have m1 := hrd.le
  have m2 := hrd.cap
  have HHB := Lib.hid hB
  have HOBX := Lib.hid hobx
  have HOB := Lib.hid hob
  have HGI := Lib.hid hgi
  have HP := Lib.hid hP
  have HBX := Lib.hid hbx
  have HBW := Lib.hid hBW
  have HDS := Lib.hid hds
  have HLE := Lib.hid hle
  have l2 := hL.cap
  have l1 := hL.le
  clear hL hlb hobx hob hgi hP hbx hBW hds hle c0 c1 c2 c3 hd hrd hB hb
  generalize (nthI L i).ds = D at *
  go_enter Try.func73, Try.ntmps73
  go_wp2
  go_loopw [8, 15] (fun _ v wr => ∃ t : Nat, t ≤ n' ∧ v = .int .i64 t ∧ Hid (∃ os, OutR B G (fun j => if j = g then accI (gls L n) g (rows g) (D.take t) else rows j) (.slice (some ⟨B, 0, none⟩) G G) os wr) ∧ Hid (Bk wr (B + 1) 22 [.slice (some ⟨B, 0, none⟩) G G]) ∧ Hid (Below B W1 wr)) (fun _ v _ => n' - (intOf v).toNat)
  case atStart =>
    refine ⟨0, by omega, rfl, ?_, HBX, HBW⟩
    have e : (fun j => if j = g then accI (gls L n) g (rows g) (D.take 0) else rows j) = rows := by
      funext j
      by_cases h : j = g
      · subst h; simp [accI]
      · rw [if_neg h]
    rw [e]; exact HP
  case round =>
    obtain ⟨t, ht, rfl, HO, HBt, HBl⟩ := hrel
    by_cases hlt : t < n'
    · have hxl : t < D.length := by have := HDL.out; omega
      have HB2 : Hid (Below W1.heap.size W1 wr) := by show Below _ _ _; rw [HHB.out]; exact HBl.out
      have HBS : Hid (B ≤ wr.heap.size) := by show _ ≤ _; have := HB2.out.size; rw [HHB.out] at this; exact this
      obtain ⟨b3, off3, rfl, _, hc3⟩ := (HRD.out.below HB2.out).form (by simp; omega)
      have hck := hc3 t (by simpa using hxl)
      rw [iv_at] at hck
      clear hc3
      have HTK : Hid (accI (gls L n) g (rows g) (D.take (t + 1)) = addD (gls L n) g (accI (gls L n) g (rows g) (D.take t)) D[t]) := by
        show _ = _
        rw [List.take_succ_eq_append_getElem hxl, accI_snoc]
      have hdb := HDS.out D[t] (List.getElem_mem hxl)
      have hle1 := HLE.out t
      generalize D[t] = d at *
      obtain ⟨dn, rfl⟩ := Int.eq_ofNat_of_zero_le hdb.1
      have hdn : dn < n := by omega
      have k1 := keep_cell HOBX.out HB2.out
      have hgl : gi.length = n := by rw [HGI.out]; simp
      have k2 := ((HOB.out).below HB2.out (by rw [HHB.out]; exact hobB)).cell dn (by simpa [hgl] using hdn)
      rw [iv_at] at k2
      obtain ⟨h, hh, hhA⟩ : ∃ h : Nat, gi[dn]'(by omega) = (h : Int) ∧ gAt (gls L n) (dn : Int) = (h : Int) := by
        refine ⟨(gls L n).getD dn 0, ?_, rfl⟩
        have := HGI.out
        subst this
        simp [List.getD_eq_getElem?_getD, gls_length, hdn]
      rw [hh] at k2
      have HH := Lib.hid hhA
      clear hh hhA hdb
      obtain ⟨os, ho⟩ := HO.out
      obtain ⟨vg, hvg, hrow⟩ := ho.row g hg
      simp only [if_true] at hrow
      have k4 := ho.own.cellAt g (by omega)
      rw [hvg] at k4
      have k4f := ho.own.frozenAt g
      have k3 := HBt.out.cell 0 (by simp)
      simp only [List.getElem_cons_zero] at k3
      generalize hacc : accI (gls L n) g (rows g) (D.take t) = acc at *
      obtain ⟨Ag, cg, rfl, hgl2, hgr⟩ := rd_own hrow
      have g1 := hgr.le
      have g2 := hgr.cap
      have HGR := Lib.hid hgr
      have HROW := Lib.hid hrow
      have HVG := Lib.hid hvg
      have HO1 := Lib.hid ho
      clear hgr hgl2 hrow hvg ho hgl hacc
      by_cases hhg : h = g
      · subst hhg
        have HA : Hid (addD (gls L n) h acc (dn : Int) = acc) := by show _ = _; rw [addD, HH.out, if_neg (by simp)]
        have e1 : ((h : Int) == (h : Int)) = true := by simp
        have e2 : ((h : Int) != (h : Int)) = false := by simp
        go_upto_region 3 with (fail)
        go_quiet (fail)
        go_wp2
        go_roundw
        case rel => exact ⟨t + 1, by omega, by go_num, by rw [HTK.out, HA.out]; exact ⟨_, HO1.out.after (Sel.below_drewN _ _)⟩, HBt.out.keep (Sel.below_drewN _ _), HBl.out.trans ((Sel.below_drewN _ _).mono HBS.out)⟩
        case measure => simp [intOf]; omega
      · have hhi : ¬ (h : Int) = (g : Int) := by omega
        have e1 : ((h : Int) == (g : Int)) = false := by simpa using hhi
        have e2 : ((h : Int) != (g : Int)) = true := by simpa using hhi
        have HCN : Hid (∀ wx, Rd wx Ag acc.length cg (iv .i64 acc) → Calls Try.prog 74 #[.slice Ag acc.length cg, .int .i64 (h : Int)] wx fun e w' => e = .returned (.bool (decide ((h : Int) ∈ acc))) ∧ w' = wx) := fun wx hx => Contains_any _ _ _ acc _ wx hx rfl
        cases hin : decide ((h : Int) ∈ acc) with
        | true =>
          have HA : Hid (addD (gls L n) g acc (dn : Int) = acc) := by show _ = _; rw [addD, HH.out, if_neg (fun hc => hc.2 (by simpa using hin))]
          rw [hin] at HCN
          clear hin
          go_upto_region 3 with (fail)
          go_quiet ((go_at_call 74; exact Calls.quiet_of_same (HCN.out _ (rd_drewN _ HGR.out))))
          go_wp2
          go_roundw
          case rel => exact ⟨t + 1, by omega, by go_num, by rw [HTK.out, HA.out]; exact ⟨_, HO1.out.after (Sel.below_drewN _ _)⟩, HBt.out.keep (Sel.below_drewN _ _), HBl.out.trans ((Sel.below_drewN _ _).mono HBS.out)⟩
          case measure => simp [intOf]; omega
        | false =>
          have hnin : (h : Int) ∉ acc := by simpa using hin
          have HA : Hid (addD (gls L n) g acc (dn : Int) = acc ++ [(h : Int)]) := by show _ = _; rw [addD, HH.out, if_pos ⟨hhi, hnin⟩]
          rw [hin] at HCN
          clear hin hnin
          go_upto_region 3 with (fail)
          go_quiet ((go_at_call 74; exact Calls.quiet_of_same (HCN.out _ (rd_drewN _ HGR.out))))
          have HWS := Lib.hid (Sel.below_drewN wr nq)
          have j1 := keep_cell k1 HWS.out
          have j2 := keep_cell k2 HWS.out
          have j3 := keep_cell k3 HWS.out
          have j4 := keep_cell k4 HWS.out
          have HO2 := Lib.hid (HO1.out.after HWS.out)
          have HB3 := Lib.hid (HBt.out.keep HWS.out)
          have HBl2 := Lib.hid (HBl.out.trans (HWS.out.mono HBS.out))
          have HBS2 : Hid (B ≤ (wr.drewN nq).heap.size) := by show _ ≤ _; have := HWS.out.size; have := HBS.out; omega
          have HROW2 := Lib.hid (own_below HROW.out HWS.out (Nat.le_refl _))
          clear k1 k2 k3 k4 k4f HWS HO1 HBt HBl HBS HROW HO HGR HB2
          generalize wr.drewN nq = ws at *
          have j4f := HO2.out.own.frozenAt g
          go_upto_region 4 with (fail)
          have HDR : Hid (Below ws.heap.size ws ws.drew) := ⟨rfl, rfl, rfl, Nat.le_refl _, fun _ _ => rfl⟩
          have HS9 : (fun w' : World => w'.cell? ⟨B + 1, 0, none⟩ = some (.slice (some ⟨B, 0, none⟩) G G) ∧ w'.cell? ⟨B, g, none⟩ = some (.slice Ag acc.length cg) ∧ w'.cell? ⟨obx, 0, none⟩ = some (.slice (some ⟨ob, 0, none⟩) n n) ∧ w'.cell? ⟨ob, dn, none⟩ = some (.int .i64 (h : Int))) ws.drew := ⟨j3, j4, j1, j2⟩
          have HO3 := Lib.hid (HO2.out.after HDR.out)
          have HB4 := Lib.hid (HB3.out.keep HDR.out)
          have HBl3 := Lib.hid (HBl2.out.trans (HDR.out.mono HBS2.out))
          have HROW3 := Lib.hid (own_below HROW2.out HDR.out (Nat.le_refl _))
          have HBS3 : Hid (B ≤ ws.drew.heap.size) := HBS2.out
          clear j1 j2 j3 j4 j4f HO2 HB3 HBl2 HROW2 HBS2 HDR
          refine wp_region_D (fun w' => w'.cell? ⟨B + 1, 0, none⟩ = some (.slice (some ⟨B, 0, none⟩) G G) ∧ w'.cell? ⟨B, g, none⟩ = some (.slice Ag acc.length cg) ∧ w'.cell? ⟨obx, 0, none⟩ = some (.slice (some ⟨ob, 0, none⟩) n n) ∧ w'.cell? ⟨ob, dn, none⟩ = some (.int .i64 (h : Int))) [0, 1, 2, 3, 4, 5, 6, 7, 8, 9, 12] (by kernel_rfl) ?_
          change wpAnyD _ _ _ _ _ _ 14 _ _ ws.drew
          generalize ws.drew = w0 at *
          refine wpAnyD_take (i := 0) (v := (.slice (some ⟨B, 0, none⟩) G G)) (by decide) rfl (by kernel_rfl) (by kernel_rfl) (by kernel_rfl) (fun _ _ _ h => h) (.inl ⟨by kernel_rfl, fun w9 h9 => by obtain ⟨s0, s1, s2, s3⟩ := h9; go_simp⟩) HS9 ?_
          refine wpAnyD_take (i := 1) (v := (.int .i64 (g : Int))) (by decide) rfl (by kernel_rfl) (by kernel_rfl) (by kernel_rfl) (fun _ _ _ h => h) (.inl ⟨by kernel_rfl, fun w9 h9 => by obtain ⟨s0, s1, s2, s3⟩ := h9; go_simp⟩) HS9 ?_
          refine wpAnyD_take (i := 2) (v := (.slice (some ⟨B, 0, none⟩) G G)) (by decide) rfl (by kernel_rfl) (by kernel_rfl) (by kernel_rfl) (fun _ _ _ h => h) (.inl ⟨by kernel_rfl, fun w9 h9 => by obtain ⟨s0, s1, s2, s3⟩ := h9; go_simp⟩) HS9 ?_
          refine wpAnyD_take (i := 3) (v := (.int .i64 (g : Int))) (by decide) rfl (by kernel_rfl) (by kernel_rfl) (by kernel_rfl) (fun _ _ _ h => h) (.inl ⟨by kernel_rfl, fun w9 h9 => by obtain ⟨s0, s1, s2, s3⟩ := h9; go_simp⟩) HS9 ?_
          refine wpAnyD_take (i := 4) (v := (.pointer (some ⟨B, g, none⟩))) (by decide) rfl (by kernel_rfl) (by kernel_rfl) (by kernel_rfl) (fun _ _ _ h => h) (.inl ⟨by kernel_rfl, fun w9 h9 => by obtain ⟨s0, s1, s2, s3⟩ := h9; go_simp⟩) HS9 ?_
          refine wpAnyD_take (i := 5) (v := (.slice Ag acc.length cg)) (by decide) rfl (by kernel_rfl) (by kernel_rfl) (by kernel_rfl) (fun _ _ _ h => h) (.inl ⟨by kernel_rfl, fun w9 h9 => by obtain ⟨s0, s1, s2, s3⟩ := h9; go_simp⟩) HS9 ?_
          refine wpAnyD_take (i := 6) (v := (.slice (some ⟨ob, 0, none⟩) n n)) (by decide) rfl (by kernel_rfl) (by kernel_rfl) (by kernel_rfl) (fun _ _ _ h => h) (.inl ⟨by kernel_rfl, fun w9 h9 => by obtain ⟨s0, s1, s2, s3⟩ := h9; go_simp⟩) HS9 ?_
          refine wpAnyD_take (i := 7) (v := (.int .i64 (dn : Int))) (by decide) rfl (by kernel_rfl) (by kernel_rfl) (by kernel_rfl) (fun _ _ _ h => h) (.inl ⟨by kernel_rfl, fun w9 h9 => by obtain ⟨s0, s1, s2, s3⟩ := h9; go_simp⟩) HS9 ?_
          refine wpAnyD_take (i := 8) (v := (.pointer (some ⟨ob, dn, none⟩))) (by decide) rfl (by kernel_rfl) (by kernel_rfl) (by kernel_rfl) (fun _ _ _ h => h) (.inl ⟨by kernel_rfl, fun w9 h9 => by obtain ⟨s0, s1, s2, s3⟩ := h9; go_simp⟩) HS9 ?_
          refine wpAnyD_take (i := 9) (v := (.int .i64 (h : Int))) (by decide) rfl (by kernel_rfl) (by kernel_rfl) (by kernel_rfl) (fun _ _ _ h => h) (.inl ⟨by kernel_rfl, fun w9 h9 => by obtain ⟨s0, s1, s2, s3⟩ := h9; go_simp⟩) HS9 ?_
          obtain ⟨g9, cap9, w1, hr9, hown9, hgr9, hat9, hlt9⟩ := run_push (P := Try.prog) (W := w0) B 23 23 3 (.int .i64 0) 8 Try.underlying23 infoInt rfl (by omega) (.slice Ag acc.length cg) acc.length (iv .i64 acc) (.int .i64 (h : Int)) rfl HROW3.out HBS3.out (by omega)
          have hvb : (Value.slice Ag acc.length cg).ownBlock ≠ some B := fun e => absurd (IsC.one (own_typed HROW3.out _ e).2 (own_typed HO3.out.own B rfl).2) (by decide)
          have hvb1 : (Value.slice Ag acc.length cg).ownBlock ≠ some (B + 1) := fun e => absurd (IsC.one (own_typed HROW3.out _ e).2 (Bk.isC HB4.out)) (by decide)
          obtain ⟨s0, s1, s2, s3⟩ := HS9
          refine wpAnyD_one (i := 10) (by kernel_rfl) rfl rfl ?_
          go_simp
          refine ⟨fun _ => ⟨keep_cell s0 (below_al _ _), keep_cell s1 (below_al _ _), keep_cell s2 (below_al _ _), keep_cell s3 (below_al _ _)⟩, ?_⟩
          refine wpAnyD_one (i := 11) (by kernel_rfl) rfl rfl ?_
          refine oper_append (.tmp 42) (.tmp 47) 23 rfl _ _ _ rfl rfl hr9 ?_
          have hv9 : ∀ q, q < B → (Value.slice Ag acc.length cg).ownBlock ≠ some q := fun q hq e => by have := (own_typed HROW3.out _ e).1; omega
          have r0 := (hgr9.cell_far ⟨B + 1, 0, none⟩ (World.block_lt_of_cell? _ _ s0) (Ne.symm hvb1)).trans s0
          have r1 := (hgr9.cell_far ⟨B, g, none⟩ (World.block_lt_of_cell? _ _ s1) (Ne.symm hvb)).trans s1
          have r2 := (hgr9.cell_far ⟨obx, 0, none⟩ (World.block_lt_of_cell? _ _ s2) (Ne.symm (hv9 _ hobxB))).trans s2
          have r3 := (hgr9.cell_far ⟨ob, dn, none⟩ (World.block_lt_of_cell? _ _ s3) (Ne.symm (hv9 _ hobB))).trans s3
          have r4 : w1.frozen? ⟨B, g, none⟩ = false := (hgr9.frozen_far ⟨B, g, none⟩ (World.block_lt_of_cell? _ _ s1) (Ne.symm hvb)).trans (HO3.out.own.frozenAt g)
          refine ⟨fun _ => ⟨r0, r1, r2, r3⟩, ?_⟩
          refine wpAnyD_take (i := 12) (v := (.pointer (some ⟨B, g, none⟩))) (by decide) rfl (by kernel_rfl) (by kernel_rfl) (by kernel_rfl) (fun _ _ _ h => h) (.inl ⟨by kernel_rfl, fun w9 h9 => by obtain ⟨s0, s1, s2, s3⟩ := h9; go_simp⟩) ⟨r0, r1, r2, r3⟩ ?_
          refine wpAnyD_one (i := 13) (by kernel_rfl) rfl rfl ?_
          go_simp
          refine ⟨by first | kernel_rfl | exact fun h9 => (Bool.eq_false_iff.1 h9 (by kernel_rfl)).elim, ?_⟩
          refine wpAnyD_done (by kernel_rfl) ?_ _
          obtain ⟨hO9, hF9⟩ := out_append (x := (h : Int)) (vg' := .slice (some ⟨g9, 0, none⟩) (acc.length + 1) cap9) HO3.out hg HVG.out (Below.refl _ _) hgr9 (by simpa using hown9) (hat9.imp id fun e => ⟨g9, rfl, e⟩)
          have HO9 := Lib.hid hO9
          have HF9 := Lib.hid hF9
          clear hO9 hF9 hgr9 hown9 hat9 hlt9 hr9 r0 r1 r2 r3 r4 s0 s1 s2 s3
          go_wp2
          go_roundw
          case rel =>
            refine ⟨t + 1, by omega, by go_num, ?_, HF9.out.far HB4.out ?_, HBl3.out.trans (HF9.out.below HBS3.out ?_)⟩
            · rw [HTK.out, HA.out]
              have e : (fun j => if j = g then acc ++ [(h : Int)] else rows j) = (fun j => if j = g then (if g = g then acc else rows g) ++ [(h : Int)] else if j = g then acc else rows j) := by
                funext j
                by_cases e : j = g
                · simp [e]
                · simp [e]
              rw [e]
              exact ⟨_, HO9.out⟩
            · rintro (e | e)
              · exact hvb1 e
              · omega
            · rintro q (e | e)
              · exact (own_typed HROW3.out _ e).1
              · omega
          case measure => simp [intOf]; omega
    · obtain rfl : t = n' := by omega
      have hE : D.take t = D := List.take_of_length_le (by have := HDL.out; omega)
      rw [hE] at HO
      clear hE
      go_wp2
      go_end0
      obtain ⟨os, ho⟩ := HO.out
      exact ⟨rfl, os, ho, HBt.out, HBl.out⟩
end Go.Proofs.Ytpicagcapgjiaaa
