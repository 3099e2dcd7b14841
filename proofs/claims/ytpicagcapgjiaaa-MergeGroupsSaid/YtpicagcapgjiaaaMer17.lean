/- Walks of merge's reference: ref06.Deps; MergeGroups. -/
import Derived.Test.YtpicagcapgjiaaaMer15
import Derived.Test.YtpicagcapgjiaaaMerO
set_option linter.unusedSimpArgs false
set_option linter.unusedVariables false
namespace Go.Proofs.Ytpicagcapgjiaaa
open Go.RowKit Go.Sel Go.Sel.Gra Go.Sel.Mer Go.Shelf

theorem grp_mem {L : List It} {n i m : Nat} (hN : L.length = n) (hi : i < (groupsL L).length) (hm : m < (nth (groupsL L) i).length) : ∃ a : Nat, (nth (groupsL L) i)[m] = (a : Int) ∧ a < n := by
  cases hr : mrightB L with
  | false => simp [groupsL, hr] at hi
  | true =>
    have h1 : (nth (groupsL L) i)[m] ∈ nth (groupsL L) i := List.getElem_mem hm
    rw [groupsL_length hr] at hi
    have h2 : ∀ x ∈ nth (groupsL L) i, x ∈ rowOf (gls L L.length) i := fun x hx => by rw [← nth_groupsL hr hi]; exact hx
    have h3 := row_nat (h2 _ h1)
    exact ⟨((nth (groupsL L) i)[m]).toNat, by omega, by omega⟩
theorem dp_form' {w : World} {A : Option Addr} {n c : Nat} {D : List (List Int)} (h : Dp w A n c D) (hn : 0 < n) : ∃ b off, A = some ⟨b, off, none⟩ := by
  obtain ⟨b, off, A', n', c', rfl, _⟩ := h.at_ hn
  exact ⟨b, off, rfl⟩
theorem dp_row {w : World} {b off n c i : Nat} {D : List (List Int)} (h : Dp w (some ⟨b, off, none⟩) n c D) (hi : i < n) : ∃ A' c', w.cell? ⟨b, off + i, none⟩ = some (.slice A' (nth D i).length c') ∧ Rd w A' (nth D i).length c' (iv .i64 (nth D i)) := by
  obtain ⟨b', off', A', n', c', e, h1, rfl, h3⟩ := h.at_ hi
  injection e with e; injection e with e1 e2; subst e1 e2
  exact ⟨A', c', h1, h3⟩
theorem rd_cell {w : World} {A : Option Addr} {n c : Nat} {xs : List Int} (h : Rd w A n c (iv .i64 xs)) {j : Nat} (hj : j < xs.length) : ∃ b off, A = some ⟨b, off, none⟩ ∧ w.cell? ⟨b, off + j, none⟩ = some (.int .i64 xs[j]) := by
  obtain ⟨b, off, rfl, _, hc⟩ := h.form (by simp; omega)
  refine ⟨b, off, rfl, ?_⟩
  rw [hc j (by simpa using hj), iv_at]

set_option maxRecDepth 100000 in
set_option maxHeartbeats 8000000 in
theorem rDeps_any (A : Option Addr) (n c : Nat) (L : List It) (w : World) (hL : Ip w A n c L) (hn : n ≤ 1000) :
    Calls Try.prog 30 #[.slice A n c] w fun e w' => (∃ A' c', e = .returned (.slice A' (mdepsL L).length c') ∧ Dp w' A' (mdepsL L).length c' (mdepsL L)) ∧ Below w.heap.size w w' := by
  have HL := Lib.hid hL
  have HN := Lib.hid hL.len
  have l1 := hL.le
  have l2 := hL.cap
  have HGL : Hid ((groupsL L).length ≤ n) := by show _ ≤ _; rw [← hL.len]; exact groupsL_le L
  have HALL : Hid (depR L (groupsL L).length = mdepsL L) := by
    show _ = _
    cases hr : mrightB L with
    | true => exact depR_all hr
    | false => rw [(depR_none hr).1, (depR_none hr).2]; rfl
  clear hL
  rw [← HALL.out]
  have HMEM : Hid (∀ i m (hi : i < (groupsL L).length) (hm : m < (nth (groupsL L) i).length), ∃ a : Nat, (nth (groupsL L) i)[m] = (a : Int) ∧ a < n) := fun i m hi hm => grp_mem HN.out hi hm
  have HRS := Lib.hid (depR_succ L)
  have HKS := Lib.hid (depK_succ L)
  have HKL := Lib.hid (depK_length L)
  have HDS := Lib.hid (fun i k m (h : m < (nth (groupsL L) i).length) => isD_succ L i k h)
  have HGR : Hid (groupsL L = groupsL L) := rfl
  generalize hgr : (groupsL L).length = G at *
  have HGG := Lib.hid hgr
  clear hgr
  have hG := HGL.out
  go_enter Try.func30, Try.ntmps30
  go_upto_region 3 with (go_at_call 28; (with_reducible refine (rGroups_any A n c L _ HL.out).mono ?_); rw [HGG.out]; rintro e w1 ⟨⟨Ag, cg, rfl, hg⟩, hB⟩; have HG := Lib.hid hg; have HB1 := Lib.hid hB; have HL1 := Lib.hid (HL.out.below hB); clear hg hB)
  have g1 := HG.out.le
  have g2 := HG.out.cap
  go_wp2
  go_loopw [4, 5, 6, 7, 8, 9, 10, 11] (fun v4 v5 _ _ _ _ _ _ wr => ∃ (i : Nat) (os : List Value), i ≤ G ∧ v5 = .int .i64 i ∧ Hid (RowsR w1.heap.size i (depR L i) v4 os wr) ∧ Hid (Below w1.heap.size w1 wr)) (fun _ v5 _ _ _ _ _ _ _ => G - (intOf v5).toNat)
  case atStart => exact ⟨0, [], by omega, rfl, RowsR.nil _ _, Below.refl _ _⟩
  case round =>
    obtain ⟨i, os, hi, rfl, HS, HW⟩ := hrel
    by_cases hlt : i < G
    · have HR1 := Lib.hid (HRS.out i)
      obtain ⟨gb, go, rfl⟩ := dp_form' HG.out (show 0 < G by omega)
      obtain ⟨Ao, co, hvo, hdp⟩ := HS.out.dp
      subst hvo
      have o1 := hdp.le
      have o2 := hdp.cap
      clear hdp
      go_wp2
      go_loopw [6, 7, 8, 9, 10, 11] (fun v6 v7 _ _ _ _ wx => ∃ k : Nat, k ≤ G ∧ v7 = .int .i64 k ∧ Hid (wx.ownsRow wr.heap.size 3 1 v6 (depK L i k).length (iv .i64 (depK L i k))) ∧ Hid (Below wr.heap.size wr wx)) (fun _ v7 _ _ _ _ _ => G - (intOf v7).toNat)
      case atStart => exact ⟨0, by omega, rfl, World.ownsRow_nil _ _ _ _, Below.refl _ _⟩
      case round =>
        rename World => wx
        obtain ⟨k, hk, rfl, HX, HWx⟩ := hrel
        obtain ⟨Ax, cx, hvx, _, hrx⟩ := rd_own HX.out
        subst hvx
        have x1 := hrx.le
        have x2 := hrx.cap
        have hkl := HKL.out i k
        clear hrx
        by_cases hkG : k < G
        · have HK1 := Lib.hid (HKS.out i k)
          go_wp2
          go_loopw [8, 9, 10, 11] (fun v8 v9 _ _ wy => ∃ m : Nat, m ≤ (nth (groupsL L) i).length ∧ v9 = .int .i64 m ∧ v8 = .bool (isD L i k m) ∧ Hid (Below wx.heap.size wx wy)) (fun _ v9 _ _ _ => (nth (groupsL L) i).length - (intOf v9).toNat)
          case atStart => exact ⟨0, by omega, rfl, by rw [isD_zero], Below.refl _ _⟩
          case round =>
            rename World => wy
            obtain ⟨m, hm, rfl, rfl, HWy⟩ := hrel
            have HBy : Hid (Below w1.heap.size w1 wy) := below_then (below_then HW.out HWx.out) HWy.out
            obtain ⟨Ai, ci, r1, r2⟩ := dp_row (HG.out.below HBy.out) hlt
            have r3 := r2.le
            have r4 := r2.cap
            by_cases hml : m < (nth (groupsL L) i).length
            · obtain ⟨ib, io, rfl, r5⟩ := rd_cell r2 hml
              obtain ⟨a, ha, han⟩ := HMEM.out i m hlt hml
              rw [ha] at r5
              have HD1 := Lib.hid (HDS.out i k m hml)
              rw [ha, Int.toNat_natCast] at HD1
              obtain ⟨eb, eo, A2, n2, c2, rfl, _, _, _, _, d1, d2, d3⟩ := (HL1.out.below HBy.out).at_ han
              subst d2
              have d4 := d3.le
              have d5 := d3.cap
              have HDX := Lib.hid d3
              clear r2 ha d3
              generalize (nthI L a).ds = ds at *
              go_wp2
              go_loopw [8, 11] (fun v8 v11 wz => ∃ t : Nat, t ≤ ds.length ∧ v11 = .int .i64 t ∧ v8 = .bool (isD L i k m || isD1 L k (ds.take t)) ∧ Hid (Below wy.heap.size wy wz)) (fun _ v11 _ => ds.length - (intOf v11).toNat)
              case atStart => exact ⟨0, by omega, rfl, by simp [isD1], Below.refl _ _⟩
              case round =>
                rename World => wz
                obtain ⟨t, ht, rfl, rfl, HWz⟩ := hrel
                by_cases htl : t < ds.length
                · have HT1 := Lib.hid (isD1_succ L k htl)
                  have HDD := HDX.out.below HWz.out
                  obtain ⟨db, dof, rfl, q1⟩ := rd_cell HDD htl
                  obtain ⟨Ak, ck, q2, q3⟩ := dp_row (HG.out.below (below_then HBy.out HWz.out)) hkG
                  have q4 := q3.le
                  have q5 := q3.cap
                  have HRk : Hid (Rd wz.drew Ak (nth (groupsL L) k).length ck (iv .i64 (nth (groupsL L) k))) := q3.below (drew1' wz)
                  have HWD : Hid (Below wy.heap.size wy wz.drew) := below_then HWz.out (drew1' wz)
                  clear q3 HDD
                  generalize ds[t] = dd at *
                  cases hbb : (isD L i k m || isD1 L k (ds.take t)) with
                  | true =>
                    have HNX : Hid ((isD L i k m || isD1 L k (ds.take (t + 1))) = true) := by show _ = _; rw [HT1.out, ← Bool.or_assoc, hbb]; rfl
                    clear hbb
                    go_wp2_with (fail)
                    go_region
                    go_wp2
                    go_roundw
                    case rel => exact ⟨t + 1, by omega, by go_num, by rw [HNX.out], HWD⟩
                    case measure => simp [intOf] <;> omega
                  | false =>
                    have HNX : Hid ((isD L i k m || isD1 L k (ds.take (t + 1))) = decide (dd ∈ nth (groupsL L) k)) := by show _ = _; rw [HT1.out, ← Bool.or_assoc, hbb]; rfl
                    clear hbb
                    go_wp2_with (fail)
                    have hb1 : ¬ (G ≤ k) := by omega
                    have hb2 : ¬ (ds.length ≤ t) := by omega
                    have hb3 : (k : Int) < (G : Int) := by omega
                    have hb4 : (t : Int) < (ds.length : Int) := by omega
                    go_region_held3 (fun w' => w'.cell? ⟨gb, go + k, none⟩ = some (.slice Ak (nth (groupsL L) k).length ck) ∧ w'.cell? ⟨db, dof + t, none⟩ = some (.int .i64 dd)) (go_keep) (first | (go_at_call 21; (with_reducible refine (Has_any _ _ _ (nth (groupsL L) k) _ _ HRk.out rfl).mono ?_); rw [← HNX.out]; rintro e w10 ⟨rfl, hw⟩; have hw := hw.symm; subst hw))
                    go_wp2
                    go_roundw
                    case rel => exact ⟨t + 1, by omega, by go_num, rfl, HWD⟩
                    case measure => simp [intOf] <;> omega
                · obtain rfl : t = ds.length := by omega
                  rw [List.take_length, ← HD1.out]
                  go_wp2
                  go_roundw
                  case rel => exact ⟨m + 1, by omega, by go_num, rfl, below_then HWy.out HWz.out⟩
                  case measure => simp [intOf] <;> omega
            · obtain rfl : m = (nth (groupsL L) i).length := by omega
              have HXy := Lib.hid (own_below HX.out HWy.out (Nat.le_refl _))
              have HWxy := Lib.hid (below_then HWx.out HWy.out)
              by_cases hki : k = i
              · subst hki
                rw [decide_eq_false (by simp), Bool.and_false, if_neg (by decide)] at HK1
                generalize isD L k k (nth (groupsL L) k).length = bb at *
                cases bb <;>
                · go_wp2
                  go_roundw
                  case rel => exact ⟨k + 1, by omega, by go_num, by rw [HK1.out]; exact HXy, HWxy⟩
                  case measure => simp [intOf] <;> omega
              · have hki2 : decide ((k : Int) = (i : Int)) = false := decide_eq_false (by omega)
                rw [decide_eq_true (show k ≠ i from hki), Bool.and_true] at HK1
                cases hbb : isD L i k (nth (groupsL L) i).length with
                | true =>
                  rw [hbb, if_pos rfl] at HK1
                  clear hbb
                  go_wp2_with (at_builtin; refine wpList_push wy rfl (.tmp 70) (.tmp 72) 23 3 rfl wr.heap.size (.int .i64 0) 8 Try.underlying23 infoInt rfl (by omega) _ (depK L i k).length _ (.int .i64 (k : Int)) rfl rfl rfl HXy.out HWxy.out.size (by omega) rfl ?_; intro g cap w5 ho hg hat hlt1; have HO5 := Lib.hid ho; have HW5 := Lib.hid (below_grown HWxy.out hg HWxy.out.size (own_row HXy.out)); clear ho hg hat)
                  go_roundw
                  case rel => exact ⟨k + 1, by omega, by go_num, by show World.ownsRow _ _ _ _ _ _ _; rw [HK1.out]; simpa [iv] using HO5.out, HW5⟩
                  case measure => simp [intOf] <;> omega
                | false =>
                  rw [hbb, if_neg (by decide)] at HK1
                  clear hbb
                  go_wp2
                  go_roundw
                  case rel => exact ⟨k + 1, by omega, by go_num, by rw [HK1.out]; exact HXy, HWxy⟩
                  case measure => simp [intOf] <;> omega
        · obtain rfl : k = G := by omega
          have HSx := Lib.hid (HS.out.below HWx.out)
          go_wp2_with (at_builtin; refine wpList_push wx rfl (.tmp 74) (.tmp 76) 22 23 rfl w1.heap.size (.slice none 0 0) 24 Try.underlying22 infoInts' rfl (by omega) _ i _ (.slice Ax (depK L i k).length cx) rfl rfl rfl HSx.out.own (below_then HW.out HWx.out).size (by omega) rfl ?_; intro g cap w5 ho hg hat hlt1; have HO5 := Lib.hid ho; have HG5 := Lib.hid hg; have HW5 := Lib.hid (below_grown (below_then HW.out HWx.out) hg (below_then HW.out HWx.out).size (own_row HSx.out.own)); clear ho hg hat)
          go_roundw
          case rel => exact ⟨i + 1, _, by omega, by go_num, by rw [HR1.out]; exact HSx.out.push HG5.out HO5.out (own_base HX.out HW.out.size), HW5⟩
          case measure => simp [intOf] <;> omega
    · obtain rfl : i = G := by omega
      obtain ⟨Ao, co, hvo, hdp⟩ := HS.out.dp
      have HDP := Lib.hid hdp
      have HLN := Lib.hid HS.out.len
      subst hvo
      clear hdp
      go_wp2
      go_ret
      exact ⟨⟨Ao, co, by rw [HLN.out]; rfl, by rw [HLN.out]; exact HDP.out⟩, below_then HB1.out HW.out⟩

set_option maxRecDepth 100000 in
set_option maxHeartbeats 4000000 in
theorem law_MergeGroups (A : Option Addr) (n c : Nat) (L : List It) (W : World) (hL : Ip W A n c L) :
    Calls Try.prog 4 #[.slice A n c] W fun e W' => e = .returned (.bool true) ∧ Below W.heap.size W W' := by
  have HL := Lib.hid hL
  have l1 := hL.le
  have l2 := hL.cap
  clear hL
  go_enter Try.func4, Try.ntmps4
  go_upto_region 2 with (go_at_call 22; (with_reducible refine (mfew_any _ _ _ L _ HL.out).mono ?_); rintro e w1 ⟨⟨A3, c3, rfl, hd⟩, hB⟩; have HE := Lib.hid hd; have HB1 := Lib.hid hB; clear hd hB)
  have hN24 : min n 24 ≤ 24 := by omega
  generalize fewI L = E at *
  generalize min n 24 = N at *
  generalize hg : groupsL E = GR at *
  have HG := Lib.hid hg
  clear hg
  generalize hm : mdepsL E = DR at *
  have HM := Lib.hid hm
  clear hm
  cases hr : mrightB E <;>
  · have HR := Lib.hid hr
    clear hr
    go_wp2_with (first
      | (go_at_call 23; (with_reducible refine (mlive_any _).mono ?_); rintro e w2 ⟨rfl, hB⟩; have HE2 := Lib.hid (HE.out.below hB); have HB2 := Lib.hid (below_then HB1.out hB); clear hB)
      | (go_at_call 24; (with_reducible refine (mRight_any _ _ _ E _ HE2.out).mono ?_); rw [HR.out]; rintro e w3 ⟨rfl, hB⟩; have HE3 := Lib.hid (HE2.out.below hB); have HB3 := Lib.hid (below_then HB2.out hB); clear hB)
      | (go_at_call 25; (with_reducible refine (rmRight_any _ _ _ E _ HE3.out).mono ?_); rw [HR.out]; rintro e w4 ⟨rfl, hB⟩; have HE4 := Lib.hid (HE3.out.below hB); have HB4 := Lib.hid (below_then HB3.out hB); clear hB)
      | (go_at_call 27; (with_reducible refine (mGroups_any _ _ _ E _ HE4.out).mono ?_); rw [HG.out]; rintro e w5 ⟨⟨A5, c5, rfl, hd5⟩, hB⟩; have HD5 := Lib.hid hd5; have HE5 := Lib.hid (HE4.out.below hB); have HB5 := Lib.hid (below_then HB4.out hB); clear hB hd5)
      | (go_at_call 28; (with_reducible refine (rGroups_any _ _ _ E _ HE5.out).mono ?_); rw [HG.out]; rintro e w6 ⟨⟨A6, c6, rfl, hd6⟩, hB⟩; have HD6 := Lib.hid hd6; have HD5 := Lib.hid (HD5.out.below hB); have HE6 := Lib.hid (HE5.out.below hB); have HB6 := Lib.hid (below_then HB5.out hB); clear hB hd6)
      | (go_at_call 29; (with_reducible refine (mDeps_any _ _ _ E _ HE7.out (by omega)).mono ?_); rw [HM.out]; rintro e w8 ⟨⟨A8, c8, rfl, hd8⟩, hB⟩; have HD8 := Lib.hid hd8; have HE8 := Lib.hid (HE7.out.below hB); have HB8 := Lib.hid (below_then HB7.out hB); clear hB hd8)
      | (go_at_call 30; (with_reducible refine (rDeps_any _ _ _ E _ HE8.out (by omega)).mono ?_); rw [HM.out]; rintro e w9 ⟨⟨A9, c9, rfl, hd9⟩, hB⟩; have HD9 := Lib.hid hd9; have HD8 := Lib.hid (HD8.out.below hB); have HB9 := Lib.hid (below_then HB8.out hB); clear hB hd9)
      | (go_at_call 26; (with_reducible refine (rSame_any _ _ _ _ _ GR _ HD5.out HD6.out).mono ?_); rintro e w7 ⟨rfl, q, hq⟩; have hBq : Below w6.heap.size w6 w7 := (by subst hq; exact Sel.below_drewN _ q); have HB7 := Lib.hid (below_then HB6.out hBq); have HE7 := Lib.hid (HE6.out.below hBq); clear hq hBq)
      | (go_at_call 26; (with_reducible refine (rSame_any _ _ _ _ _ DR _ HD8.out HD9.out).mono ?_); rintro e w10 ⟨rfl, q, hq⟩; have HB10 : Hid (Below W.heap.size W w10) := (by subst hq; exact below_then HB9.out (Sel.below_drewN _ q)); clear hq))
    go_ret
    exact ⟨rfl, HB10.out⟩
end Go.Proofs.Ytpicagcapgjiaaa
