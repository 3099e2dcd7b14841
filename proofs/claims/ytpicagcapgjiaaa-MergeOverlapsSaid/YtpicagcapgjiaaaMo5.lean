/- Walks of merge's reference: Overlaps. -/
import Derived.Test.YtpicagcapgjiaaaMo4
set_option linter.unusedSimpArgs false
set_option linter.unusedVariables false
namespace Go.Proofs.Ytpicagcapgjiaaa
open Go.RowKit Go.Sel Go.Sel.Gra Go.Sel.Mer Go.Shelf

theorem ovL_bad {L : List It} {k : Nat} (h : k < L.length) (hk : prightB (nthI L k) = false) : ovL L = [] := by
  rw [ovL, if_neg]
  rintro ⟨_, h2⟩
  rw [List.all_eq_true] at h2
  have := h2 _ (List.getElem_mem h)
  rw [nthI_get h] at hk
  rw [hk] at this
  cases this
theorem ovL_good {L : List It} {n : Nat} (h : L.length = n) (hl : n ≤ 64) (hk : ∀ j, j < n → prightB (nthI L j) = true) : ovL L = (List.range n).map (ovI L) := by
  rw [ovL, if_pos, h]
  refine ⟨by omega, ?_⟩
  rw [List.all_eq_true]
  intro x hx
  obtain ⟨j, hj, rfl⟩ := List.mem_iff_getElem.1 hx
  have := hk j (by omega)
  rwa [nthI_get hj] at this

set_option maxRecDepth 100000 in
set_option maxHeartbeats 8000000 in
theorem rOverlaps_any (A : Option Addr) (n c : Nat) (L : List It) (w : World) (hL : Pp w A n c L) :
    Calls Try.prog 40 #[.slice A n c] w fun e w' => (∃ A' c', e = .returned (.slice A' (ovL L).length c') ∧ Ip w' A' (ovL L).length c' (ovL L)) ∧ Below w.heap.size w w' := by
  have HL := Lib.hid hL
  have HN := Lib.hid hL.len
  have l1 := hL.le
  have l2 := hL.cap
  clear hL
  by_cases hl : n ≤ 64
  · have d0 : decide ((64 : Int) < (n : Int)) = false := decide_eq_false (by omega)
    go_enter Try.func40, Try.ntmps40
    go_wp2
    go_loopw [3, 4] (fun v i wr => ∃ k : Nat, k ≤ n ∧ i = .int .i64 k ∧ Hid (∀ j, j < k → prightB (nthI L j) = true) ∧ Hid (∃ ss, OvS w.heap.size wr v k L ss) ∧ Hid (Below w.heap.size w wr)) (fun _ i _ => n - (intOf i).toNat)
    case atStart => exact ⟨0, by omega, rfl, fun j hj => by omega, ⟨[], OvS.nil _ _ _⟩, Below.refl _ _⟩
    case round =>
      obtain ⟨k, hk, rfl, HJ, HO, HB⟩ := hrel
      by_cases hlt : k < n
      · obtain ⟨b, off, rfl, hb, c0, c1, c2⟩ := (HL.out.below HB.out).at_ hlt
        have HPR := Lib.hid (fun wx => rpRight_any (nthI L k) wx)
        cases hpk : prightB (nthI L k) with
        | false =>
          have HE : Hid (ovL L = []) := ovL_bad (by rw [HN.out]; exact hlt) hpk
          rw [hpk] at HPR
          clear hpk
          generalize nthI L k = x at *
          go_wp2_with (go_at_call 67; (with_reducible refine (HPR.out _).mono ?_); rintro e w1 ⟨rfl, hB⟩; have HB1 := Lib.hid (below_then HB.out hB); clear hB)
          go_ret
          exact ⟨⟨none, 0, by rw [HE.out]; rfl, by rw [HE.out]; exact Ip.nil (by omega)⟩, HB1.out⟩
        | true =>
          obtain ⟨ss, hov⟩ := HO.out
          have hsl := hov.slen
          have HOV := Lib.hid hov
          have HPK := Lib.hid hpk
          clear hov HO
          have HIT : Hid (∀ q, itv (ovI L k) q = [.int .i64 (nthI L k).b, .int .i64 (nthI L k).o, .string (nthI L k).s, sv q]) := fun q => rfl
          have HKS : Hid (∀ q, ovK L k (q + 1) = if ovB (nthI L k) (nthI L q) = true then ovK L k q ++ [(q : Int)] else ovK L k q) := fun q => ovK_succ L k q
          have HKL : Hid (∀ q, (ovK L k q).length ≤ q) := fun q => ovK_length L k q
          have HK0 : Hid (ovK L k 0 = []) := rfl
          have HOA : Hid (∀ y wx, Calls Try.prog 80 #[.agg #[.int .i64 y.b, .int .i64 y.o, .string y.s], .agg #[.int .i64 (nthI L k).b, .int .i64 (nthI L k).o, .string (nthI L k).s]] wx fun e w' => e = .returned (.bool (ovB (nthI L k) y)) ∧ Below wx.heap.size wx w') := fun y wx => by rw [ovB_comm]; exact rOverlap_any y (nthI L k) wx
          rw [hpk] at HPR
          clear hpk
          generalize hx : nthI L k = x at *
          have HX := Lib.hid hx
          clear hx
          go_wp2_with (go_at_call 67; (with_reducible refine (HPR.out _).mono ?_); rintro e w1 ⟨rfl, hB⟩; have HC := Lib.hid (And.intro (keep_cell c0 hB) (And.intro (keep_cell c1 hB) (keep_cell c2 hB))); have HW1 := Lib.hid hB; clear hB c0 c1 c2)
          go_loopw [5, 6] (fun dv v wx => ∃ q : Nat, q ≤ k ∧ v = .int .i64 q ∧ Hid (wx.ownsRow wr.heap.size 3 1 dv (ovK L k q).length (iv .i64 (ovK L k q))) ∧ Hid (wx.cell? ⟨b, off + k * 3, none⟩ = some (.int .i64 x.b) ∧ wx.cell? ⟨b, off + k * 3 + 1, none⟩ = some (.int .i64 x.o) ∧ wx.cell? ⟨b, off + k * 3 + 2, none⟩ = some (.string x.s)) ∧ Hid (Below wr.heap.size wr wx)) (fun _ v _ => k - (intOf v).toNat)
          case atStart => exact ⟨0, by omega, rfl, (by show World.ownsRow _ _ _ _ _ _ _; rw [HK0.out]; exact World.ownsRow_nil _ _ _ _), HC, HW1⟩
          case round =>
            rename World => wx
            clear HC HW1
            obtain ⟨q, hq, rfl, HDO, HC, HW⟩ := hrel
            have HBX := Lib.hid (below_then HB.out HW.out)
            by_cases hqk : q < k
            · obtain ⟨b', off', e, hb', d0', d1', d2'⟩ := (HL.out.below HBX.out).at_ (show q < n by omega)
              injection e with e; injection e with e1 e2; subst e1 e2
              obtain ⟨c0', c1', c2'⟩ := HC.out
              have HKQ := Lib.hid (HKS.out q)
              have hkl := HKL.out q
              have HOQ := Lib.hid (fun wx => HOA.out (nthI L q) wx)
              generalize nthI L q = y at *
              cases ho : ovB x y with
              | false =>
                have HKN : Hid (ovK L k (q + 1) = ovK L k q) := by show _ = _; rw [HKQ.out, ho]; simp
                rw [ho] at HOQ
                clear ho HKQ
                have HS : At (fun w' : World => w'.cell? ⟨b, off + q * 3, none⟩ = some (.int .i64 y.b) ∧ w'.cell? ⟨b, off + q * 3 + 1, none⟩ = some (.int .i64 y.o) ∧ w'.cell? ⟨b, off + q * 3 + 2, none⟩ = some (.string y.s) ∧ w'.cell? ⟨b, off + k * 3, none⟩ = some (.int .i64 x.b) ∧ w'.cell? ⟨b, off + k * 3 + 1, none⟩ = some (.int .i64 x.o) ∧ w'.cell? ⟨b, off + k * 3 + 2, none⟩ = some (.string x.s)) wx.drew := ⟨d0', d1', d2', c0', c1', c2'⟩
                have HDX := Lib.hid (own_drewN HDO.out 1)
                have HWX : Hid (Below wr.heap.size wr wx.drew) := HW.out.drew
                have HBXD : Hid (Below w.heap.size w wx.drew) := HBX.out.drew
                have a1 : (0 : Int) ≤ (q : Int) := by omega
                have a2 : (q : Int) < (n : Int) := by omega
                have a3 : (0 : Int) ≤ (k : Int) := by omega
                have a4 : (k : Int) < (n : Int) := by omega
                clear c0' c1' c2' d0' d1' d2'
                go_upto_region 13 with (fail)
                refine wp_region_lexD HS [0, 1, 2, 3, 4, 5, 6, 7] (by kernel_rfl) (by kernel_rfl) (fun _ _ d _ _ h => by cases d <;> exact h) ?_
                repeat (refine lexD_take (by decide) (by kernel_rfl) HS (fun w9 h9 => by obtain ⟨s0, s1, s2, s3, s4, s5⟩ := h9; go_simp; first | done | rfl) (fun K hK => ?_); go_simp; refine hK _ ?_; clear hK K)
                refine lexD_do (by decide) (by kernel_rfl) (fun K hK => ?_)
                go_simp
                refine (HOQ.out _).mono ?_
                rintro e w2 ⟨rfl, hB⟩
                have HS2 : At (fun w' : World => w'.cell? ⟨b, off + q * 3, none⟩ = some (.int .i64 y.b) ∧ w'.cell? ⟨b, off + q * 3 + 1, none⟩ = some (.int .i64 y.o) ∧ w'.cell? ⟨b, off + q * 3 + 2, none⟩ = some (.string y.s) ∧ w'.cell? ⟨b, off + k * 3, none⟩ = some (.int .i64 x.b) ∧ w'.cell? ⟨b, off + k * 3 + 1, none⟩ = some (.int .i64 x.o) ∧ w'.cell? ⟨b, off + k * 3 + 2, none⟩ = some (.string x.s)) w2 := by
                  obtain ⟨s0, s1, s2, s3, s4, s5⟩ := HS
                  exact ⟨keep_cell s0 hB, keep_cell s1 hB, keep_cell s2 hB, keep_cell s3 hB, keep_cell s4 hB, keep_cell s5 hB⟩
                have HDX2 := Lib.hid (own_below HDX.out hB (Nat.le_refl _))
                have HW2 := Lib.hid (below_then HWX.out hB)
                refine hK _ _ (fun _ => HS2) ?_
                have HSC := Lib.hid HS2
                clear hK K HS hB HS2
                refine lexD_nil ?_
                go_wp2
                go_roundw
                case rel => exact ⟨q + 1, by omega, by go_num, (by show World.ownsRow _ _ _ _ _ _ _; rw [HKN.out]; exact HDX2.out), ⟨HSC.out.2.2.2.1, HSC.out.2.2.2.2.1, HSC.out.2.2.2.2.2⟩, HW2⟩
                case measure => simp [intOf] <;> omega
              | true =>
                have HKN : Hid (ovK L k (q + 1) = ovK L k q ++ [(q : Int)]) := by show _ = _; rw [HKQ.out, ho]; simp
                rw [ho] at HOQ
                clear ho HKQ
                have HS : At (fun w' : World => w'.cell? ⟨b, off + q * 3, none⟩ = some (.int .i64 y.b) ∧ w'.cell? ⟨b, off + q * 3 + 1, none⟩ = some (.int .i64 y.o) ∧ w'.cell? ⟨b, off + q * 3 + 2, none⟩ = some (.string y.s) ∧ w'.cell? ⟨b, off + k * 3, none⟩ = some (.int .i64 x.b) ∧ w'.cell? ⟨b, off + k * 3 + 1, none⟩ = some (.int .i64 x.o) ∧ w'.cell? ⟨b, off + k * 3 + 2, none⟩ = some (.string x.s)) wx.drew := ⟨d0', d1', d2', c0', c1', c2'⟩
                have HDX := Lib.hid (own_drewN HDO.out 1)
                have HWX : Hid (Below wr.heap.size wr wx.drew) := HW.out.drew
                have HBXD : Hid (Below w.heap.size w wx.drew) := HBX.out.drew
                have a1 : (0 : Int) ≤ (q : Int) := by omega
                have a2 : (q : Int) < (n : Int) := by omega
                have a3 : (0 : Int) ≤ (k : Int) := by omega
                have a4 : (k : Int) < (n : Int) := by omega
                clear c0' c1' c2' d0' d1' d2'
                go_upto_region 13 with (fail)
                refine wp_region_lexD HS [0, 1, 2, 3, 4, 5, 6, 7] (by kernel_rfl) (by kernel_rfl) (fun _ _ d _ _ h => by cases d <;> exact h) ?_
                repeat (refine lexD_take (by decide) (by kernel_rfl) HS (fun w9 h9 => by obtain ⟨s0, s1, s2, s3, s4, s5⟩ := h9; go_simp; first | done | rfl) (fun K hK => ?_); go_simp; refine hK _ ?_; clear hK K)
                refine lexD_do (by decide) (by kernel_rfl) (fun K hK => ?_)
                go_simp
                refine (HOQ.out _).mono ?_
                rintro e w2 ⟨rfl, hB⟩
                have HS2 : At (fun w' : World => w'.cell? ⟨b, off + q * 3, none⟩ = some (.int .i64 y.b) ∧ w'.cell? ⟨b, off + q * 3 + 1, none⟩ = some (.int .i64 y.o) ∧ w'.cell? ⟨b, off + q * 3 + 2, none⟩ = some (.string y.s) ∧ w'.cell? ⟨b, off + k * 3, none⟩ = some (.int .i64 x.b) ∧ w'.cell? ⟨b, off + k * 3 + 1, none⟩ = some (.int .i64 x.o) ∧ w'.cell? ⟨b, off + k * 3 + 2, none⟩ = some (.string x.s)) w2 := by
                  obtain ⟨s0, s1, s2, s3, s4, s5⟩ := HS
                  exact ⟨keep_cell s0 hB, keep_cell s1 hB, keep_cell s2 hB, keep_cell s3 hB, keep_cell s4 hB, keep_cell s5 hB⟩
                have HDX2 := Lib.hid (own_below HDX.out hB (Nat.le_refl _))
                have HW2 := Lib.hid (below_then HWX.out hB)
                refine hK _ _ (fun _ => HS2) ?_
                have HSC := Lib.hid HS2
                clear hK K HS hB HS2
                refine lexD_nil ?_
                go_wp2_with (at_builtin; refine wpList_push w2 rfl (.tmp 36) (.tmp 38) 23 3 rfl wr.heap.size (.int .i64 0) 8 Try.underlying23 infoInt rfl (by omega) _ _ _ (.int .i64 q) rfl rfl rfl HDX2.out HW2.out.size (by omega) rfl ?_; intro g cap w3 ho hg hat hlt1; have HO3 := Lib.hid ho; have HG3 := Lib.hid (below_grown HW2.out hg HW2.out.size (own_row HDX2.out)); have HG4 := Lib.hid hg; clear ho hg hat)
                have HLN : Hid ((ovK L k (q + 1)).length = (ovK L k q).length + 1) := by show _ = _; rw [HKN.out]; simp
                go_roundw
                case rel => exact ⟨q + 1, by omega, by go_num, (by show World.ownsRow _ _ _ _ _ _ _; rw [HLN.out, HKN.out]; simpa [iv] using HO3.out), ⟨(HG3.out.cell (p := ⟨b, off + k * 3, none⟩) hb).trans ((HW2.out.cell (p := ⟨b, off + k * 3, none⟩) hb).symm.trans HSC.out.2.2.2.1), (HG3.out.cell (p := ⟨b, off + k * 3 + 1, none⟩) hb).trans ((HW2.out.cell (p := ⟨b, off + k * 3 + 1, none⟩) hb).symm.trans HSC.out.2.2.2.2.1), (HG3.out.cell (p := ⟨b, off + k * 3 + 2, none⟩) hb).trans ((HW2.out.cell (p := ⟨b, off + k * 3 + 2, none⟩) hb).symm.trans HSC.out.2.2.2.2.2)⟩, HG3⟩
                case measure => simp [intOf] <;> omega
            · obtain rfl : q = k := by omega
              obtain ⟨Ad, cd, rfl, _, hrd⟩ := rd_own HDO.out
              obtain ⟨c0, c1, c2⟩ := HC.out
              have HDB := Lib.hid (own_base HDO.out HB.out.size)
              have HOX := Lib.hid (HOV.out.below HW.out)
              clear hrd
              go_wp2_with (at_builtin; refine wpList_pushN wx rfl (.tmp 40) (.tmp 47) 33 44 rfl w.heap.size (.agg #[.int .i64 0, .int .i64 0, .string ⟨#[]⟩, .slice none 0 0]) 4 56 Try.underlying33 infoItem rfl (by omega) (by omega) _ q _ [.int .i64 x.b, .int .i64 x.o, .string x.s, .slice Ad (ovK L q q).length cd] rfl rfl rfl (by simp [Value.oneCell']) HOX.out.own HBX.out.size (by omega) rfl ?_; intro g cap w3 ho hg hat hlt1; have HO3 := Lib.hid (HOX.out.push (Ad, (ovK L q q).length, cd) HDB.out (by rw [HIT.out]; exact ho) hg); have HB3 := Lib.hid (below_grown HBX.out hg HBX.out.size (own_row HOX.out.own)); clear ho hg hat)
              go_roundw
              case rel => exact ⟨q + 1, by omega, by go_num, fun j hj => by
                by_cases e : j = q
                · subst e; rw [HX.out]; exact HPK.out
                · exact HJ.out j (by omega), ⟨_, HO3.out⟩, HB3⟩
              case measure => simp [intOf] <;> omega
      · obtain rfl : k = n := by omega
        obtain ⟨ss, hov⟩ := HO.out
        have HOV := Lib.hid hov
        have HE : Hid (ovL L = (List.range k).map (ovI L)) := ovL_good HN.out hl HJ.out
        clear hov HO
        go_wp2
        go_ret
        obtain ⟨A', c', rfl, hip⟩ := HOV.out.ip
        rw [HE.out]
        exact ⟨⟨A', c', by simp, by simpa using hip⟩, HB.out⟩
  · have d0 : decide ((64 : Int) < (n : Int)) = true := decide_eq_true (by omega)
    have HE : Hid (ovL L = []) := by show _ = _; rw [ovL, if_neg (by rw [HN.out]; intro h; exact hl h.1)]
    generalize ovL L = Z at *
    have hz := HE.out
    subst hz
    go_enter Try.func40, Try.ntmps40
    go_wp2
    go_ret
    exact ⟨⟨none, 0, rfl, Ip.nil (by omega)⟩, Below.refl _ _⟩
end Go.Proofs.Ytpicagcapgjiaaa
