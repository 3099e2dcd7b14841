/- Walks of layout: the inode that bytes say. -/
import Derived.Test.YtkmonkemkhigfaaDoorLay10
import Derived.Test.YtkmonkemkhigfaaDoorLayK
import Derived.Test.YtkmonkemkhigfaaDoorSel3
set_option linter.unusedSimpArgs false
set_option linter.unusedVariables false
namespace Go.Proofs.YtkmonkemkhigfaaDoor
open Go.RowKit Go.Sel Go.Sel.Lay

theorem own_rd {w : World} {base n c m : Nat} {e : TypeId} {A : Option Addr} {cs : List Value} (h : w.ownsRow base e 1 (.slice A n c) m cs) : Rd w A n c cs := by
  obtain ⟨A', c', hv, _, hr⟩ := rd_own h
  cases hv
  exact hr
/-- What ReadInode gives: the inode's slice reads as 'bs'. -/
def InoRet (xs : List Int) (w : World) (e : Ending) (w' : World) : Prop :=
  ∃ A c, e = .returned (.tuple #[.agg #[.int .u8 (rK xs), .int .i64 (rL xs), .int .i64 (rZ xs), .slice A (rB xs).length c], .int .i64 (rE xs)]) ∧ Rd w' A (rB xs).length c (iv .i64 (rB xs))
theorem inoRet_yes {xs : List Int} {w w' : World} {e : Ending} {x0 x1 : Int} {A : Option Addr} {j c : Nat} (h : riOk xs = true) (h01 : xs.getD 0 0 = x0 ∧ xs.getD 1 0 = x1) (hb : (riBs xs).length = j) (he : e = .returned (.tuple #[.agg #[.int .u8 x0, .int .i64 x1, .int .i64 (riZ xs), .slice A j c], .int .i64 0])) (hr : Rd w' A j c (iv .i64 (riBs xs))) : InoRet xs w e w' := by
  obtain ⟨h1, h2, h3, h4, h5⟩ := r_yes h
  refine ⟨A, c, ?_, ?_⟩
  · rw [he, h1, h2, h3, h4, h5, h01.1, h01.2, hb]
  · rw [h4, hb]; exact hr
theorem inoRet_no {xs : List Int} {w w' : World} {e : Ending} (h : riOk xs = false) (he : e = .returned (.tuple #[.agg #[.int .u8 0, .int .i64 0, .int .i64 0, .slice none 0 0], .int .i64 3])) : InoRet xs w e w' := by
  obtain ⟨h1, h2, h3, h4, h5⟩ := r_no h
  refine ⟨none, 0, ?_, ?_⟩
  · rw [he, h1, h2, h3, h4, h5]; rfl
  · rw [h4]; exact ⟨by simp, by omega, .inl rfl⟩

set_option maxHeartbeats 400000 in
theorem ReadInode_len (A : Option Addr) (n c : Nat) (xs : List Int) (w : World) (hn : xs.length = n) (h16 : n ≠ 16) (hm : n ≤ 9223372036854775807) :
    Calls Tryd.prog 30 #[.slice A n c] w fun e w' => InoRet xs w e w' ∧ Below w.heap.size w w' := by
  have HR := Lib.hid (riOk_len (xs := xs) (by omega))
  clear hn
  go_enter Tryd.func30, Tryd.ntmps30
  go_wp2
  refine bodyPost_ret (v := .tuple #[.agg #[.int .u8 0, .int .i64 0, .int .i64 0, .slice none 0 0], .int .i64 3]) (by simp [results, Tryd.results30, go_sem]) rfl ?_
  exact ⟨inoRet_no HR.out rfl, below_al _ _⟩

theorem u8_in (x : Int) (h : 0 ≤ x ∧ x ≤ 255) : IntKind.u8.wrap x = x := by rw [IntKind.wrap_u8]; omega

set_option maxHeartbeats 1000000 in
theorem ReadInode_16 (A : Option Addr) (c : Nat) (xs : List Int) (w : World) (ha : Rd w A 16 c (iv .u8 xs)) (hn : xs.length = 16) (hx : AllByte xs) :
    Calls Tryd.prog 30 #[.slice A 16 c] w fun e w' => InoRet xs w e w' ∧ Below w.heap.size w w' := by
  have l1 := ha.le
  have l2 := ha.cap
  obtain ⟨b, off, rfl, hbw, hc⟩ := ha.form (by simp; omega)
  have hc0 := hc 0 (by simp; omega)
  have hc1 := hc 1 (by simp; omega)
  have hc2 := hc 2 (by simp; omega)
  have hc3 := hc 3 (by simp; omega)
  rw [iv_at] at hc0 hc1 hc2 hc3
  have g0 : xs[0] = xs.getD 0 0 := by simp [List.getD_eq_getElem?_getD, List.getElem?_eq_getElem (show 0 < xs.length by omega)]
  have g1 : xs[1] = xs.getD 1 0 := by simp [List.getD_eq_getElem?_getD, List.getElem?_eq_getElem (show 1 < xs.length by omega)]
  have g2 : xs[2] = xs.getD 2 0 := by simp [List.getD_eq_getElem?_getD, List.getElem?_eq_getElem (show 2 < xs.length by omega)]
  have g3 : xs[3] = xs.getD 3 0 := by simp [List.getD_eq_getElem?_getD, List.getElem?_eq_getElem (show 3 < xs.length by omega)]
  rw [g0, Nat.add_zero] at hc0
  rw [g1] at hc1
  rw [g2] at hc2
  rw [g3] at hc3
  have b0 : 0 ≤ xs.getD 0 0 ∧ xs.getD 0 0 ≤ 255 := by rw [← g0]; exact hx _ (List.getElem_mem _)
  have b1 : 0 ≤ xs.getD 1 0 ∧ xs.getD 1 0 ≤ 255 := by rw [← g1]; exact hx _ (List.getElem_mem _)
  have b2 : 0 ≤ xs.getD 2 0 ∧ xs.getD 2 0 ≤ 255 := by rw [← g2]; exact hx _ (List.getElem_mem _)
  have b3 : 0 ≤ xs.getD 3 0 ∧ xs.getD 3 0 ≤ 255 := by rw [← g3]; exact hx _ (List.getElem_mem _)
  obtain ⟨b00, b01⟩ := b0
  obtain ⟨b10, b11⟩ := b1
  obtain ⟨b20, b21⟩ := b2
  obtain ⟨b30, b31⟩ := b3
  have hzb : 0 ≤ riZ xs ∧ riZ xs ≤ 65535 := by unfold riZ; omega
  obtain ⟨hz0, hz1⟩ := hzb
  have hor := or256 _ _ b20 b21 b30 b31
  have HT := Lib.hid (riOk_tests hn hx)
  have HZ : Hid (riZ xs = xs.getD 2 0 + xs.getD 3 0 * 256) := Lib.hid rfl
  have HN := Lib.hid hn
  have HX := Lib.hid hx
  have HD := Lib.hid (Rd.upto (Rd.from ha 4 (by omega)) 4 (by omega))
  have HD8 := Lib.hid (Rd.from ha 8 (by omega))
  have HS : Hid (((iv .u8 xs).drop 4).take 4 = iv .u8 ((xs.drop 4).take 4)) := by show _ = _; simp [iv]
  have HL4 : Hid (((xs.drop 4).take 4).length = 4) := by show _ = _; simp; omega
  rw [HS.out] at HD
  generalize hx0 : xs.getD 0 0 = x0 at *
  generalize hx1 : xs.getD 1 0 = x1 at *
  generalize hx2 : xs.getD 2 0 = x2 at *
  generalize hx3 : xs.getD 3 0 = x3 at *
  have HX01 := Lib.hid (And.intro hx0 hx1)
  clear hc hx hn ha g0 g1 g2 g3 hx0 hx1 hx2 hx3
  by_cases h4 : anyNZ ((xs.drop 4).take 4) = true
  · have HR : Hid (riOk xs = false) := by show _ = _; rw [HT.out, h4]; simp
    have H4 := Lib.hid h4
    clear h4 hor
    go_enter Tryd.func30, Tryd.ntmps30
    go_wp2_with (go_at_call 37; refine (ContainsFunc_nz _ (.inl rfl) _ _ _ ((xs.drop 4).take 4) _ (HD.out.alloc _) HL4.out).mono ?_; rintro e w' ⟨rfl, rfl⟩; rw [H4.out])
    refine bodyPost_ret (v := .tuple #[.agg #[.int .u8 0, .int .i64 0, .int .i64 0, .slice none 0 0], .int .i64 3]) (by simp [results, Tryd.results30, go_sem]) rfl ?_
    exact ⟨inoRet_no HR.out rfl, below_al _ _⟩
  · have h4' := Bool.eq_false_iff.2 h4
    have H4 := Lib.hid h4'
    clear h4 h4'
    go_enter Tryd.func30, Tryd.ntmps30
    go_wp2_with (go_at_call 37; refine (ContainsFunc_nz _ (.inl rfl) _ _ _ ((xs.drop 4).take 4) _ (HD.out.alloc _) HL4.out).mono ?_; rintro e w' ⟨rfl, rfl⟩; rw [H4.out])
    go_region
    clear hc0 hc1 hc2 hc3 hor
    have B1' := blk21 w (.cells #[.int .u8 0, .int .i64 0, .int .i64 0, .slice none 0 0] 45) (.cells #[.int .u8 x0, .int .i64 x1, .int .i64 (x2 + x3 * 256), .slice none 0 0] 45)
    have B2' := blk22 w (.cells #[.int .u8 0, .int .i64 0, .int .i64 0, .slice none 0 0] 45) (.cells #[.int .u8 x0, .int .i64 x1, .int .i64 (x2 + x3 * 256), .slice none 0 0] 45)
    have HBW : Below w.heap.size w ((w.alloc (.cells #[.int .u8 0, .int .i64 0, .int .i64 0, .slice none 0 0] 45)).alloc (.cells #[.int .u8 x0, .int .i64 x1, .int .i64 (x2 + x3 * 256), .slice none 0 0] 45)).drew := (((Below.refl _ _).alloc (Nat.le_refl _) _).alloc (by simp) _).drew
    have hsz : ((w.alloc (.cells #[.int .u8 0, .int .i64 0, .int .i64 0, .slice none 0 0] 45)).alloc (.cells #[.int .u8 x0, .int .i64 x1, .int .i64 (x2 + x3 * 256), .slice none 0 0] 45)).drew.heap.size = w.heap.size + 2 := by simp
    change ((w.alloc (.cells #[.int .u8 0, .int .i64 0, .int .i64 0, .slice none 0 0] 45)).alloc (.cells #[.int .u8 x0, .int .i64 x1, .int .i64 (x2 + x3 * 256), .slice none 0 0] 45)).drew.heap[w.heap.size]? = _ at B1'
    change ((w.alloc (.cells #[.int .u8 0, .int .i64 0, .int .i64 0, .slice none 0 0] 45)).alloc (.cells #[.int .u8 x0, .int .i64 x1, .int .i64 (x2 + x3 * 256), .slice none 0 0] 45)).drew.heap[w.heap.size + 1]? = _ at B2'
    rw [← HZ.out] at *
    generalize ((w.alloc (.cells #[.int .u8 0, .int .i64 0, .int .i64 0, .slice none 0 0] 45)).alloc (.cells #[.int .u8 x0, .int .i64 x1, .int .i64 (riZ xs), .slice none 0 0] 45)).drew = w2 at *
    have BB1 := Lib.hid B1'
    have BB2 := Lib.hid B2'
    have HBB := Lib.hid HBW
    clear B1' B2' HBW
    have E8 : Hid (List.drop 8 (iv .u8 xs) = iv .u8 (xs.drop 8)) := by show _ = _; simp [iv]
    rw [E8.out] at HD8
    go_wp2
    go_loopw [5] (fun v wr => ∃ (j m c' : Nat) (A' : Option Addr) (u : Value), j + m = 8 ∧ v = .slice A' m c' ∧ Hid (Rd w A' m c' (iv .u8 ((xs.drop 8).drop j))) ∧ Hid (wr.heap[w.heap.size]? = some (.cells #[.int .u8 0, .int .i64 0, .int .i64 0, .slice none 0 0] 45 (0, 0))) ∧
      Hid (wr.heap[w.heap.size + 1]? = some (.cells #[.int .u8 x0, .int .i64 x1, .int .i64 (riZ xs), u] 45 (0, 0))) ∧ Hid (wr.ownsRow (w.heap.size + 2) 3 1 u j (iv .i64 ((xs.drop 8).take j))) ∧
      Hid (∀ i (h : 8 + i < xs.length), i < j → xs[8 + i] ≠ 0) ∧ Hid (Below w.heap.size w wr) ∧ w.heap.size + 2 ≤ wr.heap.size) (fun v _ => slen v)
    case atStart => exact ⟨0, 8, _, _, _, rfl, rfl, HD8.out, BB1.out, BB2.out, World.ownsRow_nil _ _ _ _, fun i _ h => absurd h (by omega), HBB.out, by omega⟩
    case round =>
      obtain ⟨j, m, c', A', u, hjm, rfl, HR, HB1, HB2, HO, HNZ, HB, hws⟩ := hrel
      have c0 := blk_cell HB2.out 0
      have c1 := blk_cell HB2.out 1
      have c2 := blk_cell HB2.out 2
      have c3 := blk_cell HB2.out 3
      simp only [List.getElem?_toArray, List.getElem?_cons_zero, List.getElem?_cons_succ] at c0 c1 c2 c3
      by_cases hgo : ∃ h : 8 + j < xs.length, xs[8 + j] ≠ 0
      · obtain ⟨hxl, hx0⟩ := hgo
        have hm : 0 < m := by have := HN.out; omega
        obtain ⟨A2, hsl, hr2⟩ := slice_1 hu_bytes hz_bytes A' m c' hm HR.out.le
        have hr3 := Lib.hid (hr2 w (iv .u8 ((xs.drop 8).drop j)) (by simp; have := HN.out; omega) HR.out)
        obtain ⟨b', o', rfl, hbw', hcell⟩ := HR.out.form (by simp; have := HN.out; omega)
        have d0 := (HB.out.cell (p := ⟨b', o' + 0, none⟩) hbw').trans (hcell 0 (by simp; have := HN.out; omega))
        rw [iv_at] at d0
        simp only [List.getElem_drop, Nat.add_zero] at d0
        have hne : (xs[8 + j] != 0) = true := by simpa using hx0
        have hby := HX.out _ (List.getElem_mem hxl)
        have HX0 := Lib.hid hx0
        have f3 := blk_free HB2.out 3
        have hle := HR.out.le
        have hcp := HR.out.cap
        clear hcell hx0 hr2
        obtain ⟨by0, by1⟩ := hby
        generalize hy : xs[8 + j] = y at *
        have HY := Lib.hid hy
        clear hy
        have c3a : ∀ o, (wr.alloc o).cell? ⟨w.heap.size + 1, 3, none⟩ = some u := fun o => keep_cell c3 (below_al wr o)
        have hwy : IntKind.i64.wrap y = y := IntWalk.i64_in _ (by omega)
        go_wp2
        go_region_law (refine step_push wr.drew rfl (.tmp 45) (.tmp 50) 43 3 rfl (w.heap.size + 2) (.int .i64 0) 8 Tryd.underlying43 (by kernel_rfl) rfl (by omega) u j (iv .i64 ((xs.drop 8).take j)) (.int .i64 y) (by simp [Act.eval, Act.put]) (by simp [Act.eval, Act.put]) rfl HO.out.drew hws (by omega) (by first | rfl | (rw [hwy]; rfl)) ?_; intro g cap w1 ho hg hat hlt; have e1 := (hg.block w.heap.size (by simp; omega) (fun he => by have := own_row HO.out _ he.symm; omega)).trans HB1.out; have e2 := (hg.block (w.heap.size + 1) (by simp; omega) (fun he => by have := own_row HO.out _ he.symm; omega)).trans HB2.out; have d3 := blk_cell e2 3; have f3' := blk_free e2 3; simp only [List.getElem?_toArray, List.getElem?_cons_zero, List.getElem?_cons_succ] at d3; have E1 := Lib.hid e1; have E2 := Lib.hid e2; have HO1 := Lib.hid ho; have HBg := Lib.hid (below_grown (B := w.heap.size) HB.out.drew hg (by simp; omega) (fun k hk => by have := own_row HO.out k hk; omega)); have hs1 := hg.size; clear e1 e2 ho hg hat)
        all_goals
          have HTK : Hid (iv .i64 ((xs.drop 8).take j) ++ [.int .i64 y] = iv .i64 ((xs.drop 8).take (j + 1))) := by
            show _ = _
            rw [List.take_succ_eq_append_getElem (show j < (xs.drop 8).length by simp; omega), List.getElem_drop, HY.out]
            simp [iv]
          have HDR : Hid (List.drop 1 (iv .u8 ((xs.drop 8).drop j)) = iv .u8 ((xs.drop 8).drop (j + 1))) := by
            show _ = _
            simp [iv, Nat.add_comm, Nat.add_left_comm]
          rw [HTK.out] at HO1
          rw [HDR.out] at hr3
          have k1 := Lib.hid (blk_far (p := ⟨w.heap.size + 1, 3, none⟩) E1.out (by simp) (.slice (some ⟨g, 0, none⟩) (j + 1) cap))
          have k2 := Lib.hid (blk_set E2.out 3 (.slice (some ⟨g, 0, none⟩) (j + 1) cap))
          have k3 := Lib.hid (own_setCell HO1.out (p := ⟨w.heap.size + 1, 3, none⟩) (by simp) (.slice (some ⟨g, 0, none⟩) (j + 1) cap))
          have k4 := Lib.hid (HBg.out.setCell (p := ⟨w.heap.size + 1, 3, none⟩) (by simp) (.slice (some ⟨g, 0, none⟩) (j + 1) cap))
          have hs2 : w.heap.size + 2 ≤ (w1.setCell ⟨w.heap.size + 1, 3, none⟩ (.slice (some ⟨g, 0, none⟩) (j + 1) cap)).heap.size := by simp; simp at hs1; omega
          clear c0 c1 c2 c3 c3a d0 d3 f3 f3'
          go_wp2
          refine ⟨⟨j + 1, m - 1, c' - 1, A2, _, by omega, rfl, hr3, k1.out, k2.out, k3.out, ?_, k4.out, hs2⟩, by simp [slen]; omega⟩
          intro i hi hij
          by_cases he : i = j
          · subst he
            rw [HY.out]; exact HX0.out
          · exact HNZ.out i hi (by omega)
      · obtain ⟨Au, cu, rfl, hul, hru⟩ := rd_own HO.out
        have HRU := Lib.hid hru
        have hstop : xs.length ≤ 8 + j ∨ ∃ h : 8 + j < xs.length, xs[8 + j] = 0 := by
          by_cases hl : 8 + j < xs.length
          · exact .inr ⟨hl, Classical.not_not.1 fun hne => hgo ⟨hl, hne⟩⟩
          · exact .inl (by omega)
        have hbs := riBs_take HNZ.out hstop (by have := HN.out; omega)
        have HBS := Lib.hid hbs
        have HLJ : Hid (((xs.drop 8).take j).length = j) := by show _ = _; simp; have := HN.out; omega
        have HLM : Hid (((xs.drop 8).drop j).length = m) := by show _ = _; simp; have := HN.out; omega
        have HT2 := HT
        rw [H4.out, HBS.out, HLJ.out] at HT2
        have HRR := Lib.hid (HR.out.below HB.out)
        have q0 := blk_cell HB1.out 0
        have q1 := blk_cell HB1.out 1
        have q2 := blk_cell HB1.out 2
        have q3 := blk_cell HB1.out 3
        have r0 := blk_free HB1.out 0
        have r1 := blk_free HB1.out 1
        have r2 := blk_free HB1.out 2
        have r3 := blk_free HB1.out 3
        simp only [List.getElem?_toArray, List.getElem?_cons_zero, List.getElem?_cons_succ] at q0 q1 q2 q3
        have hcases : m = 0 ∨ 0 < m ∧ ∃ b' o', A' = some ⟨b', o', none⟩ ∧ wr.cell? ⟨b', o', none⟩ = some (.int .u8 0) := by
          by_cases hm : m = 0
          · exact .inl hm
          · right
            obtain ⟨b', o', rfl, hbw', hcell⟩ := HRR.out.form (by simp; have := HN.out; omega)
            have d0 := hcell 0 (by simp; have := HN.out; omega)
            rw [iv_at] at d0
            simp only [List.getElem_drop, Nat.add_zero] at d0
            rcases hstop with hs | ⟨hl, hs⟩
            · have := HN.out; omega
            · exact ⟨by omega, b', o', rfl, by rw [d0, hs]⟩
        have hmle := HR.out.le
        have hmcp := HR.out.cap
        clear hbs hul hru hgo hstop
        have HBJ := Lib.hid hjm
        rcases hcases with hm0 | ⟨hm, b', o', rfl, d0⟩
        rotate_left
        all_goals
          by_cases hnz : anyNZ ((xs.drop 8).drop j) = true
          · have HA := Lib.hid hnz
            have HNO : Hid (riOk xs = false) := by show _ = _; rw [HT2.out, hnz]; simp
            clear hnz
            try subst hm0
            go_wp2_with (go_at_call 37; refine (ContainsFunc_nz _ (.inr rfl) _ _ _ ((xs.drop 8).drop j) _ HRR.out HLM.out).mono ?_; rintro e w' ⟨rfl, rfl⟩; rw [HA.out])
            refine bodyPost_ret (v := .tuple #[.agg #[.int .u8 0, .int .i64 0, .int .i64 0, .slice none 0 0], .int .i64 3]) (by simp [results, Tryd.results30, go_sem, q0, q1, q2, q3, r0, r1, r2, r3]) rfl ?_
            exact ⟨inoRet_no HNO.out rfl, (((HB.out.setCell (by simp) _).setCell (by simp) _).setCell (by simp) _).setCell (by simp) _⟩
          · have hnz' := Bool.eq_false_iff.2 hnz
            have HA := Lib.hid hnz'
            rw [hnz'] at HT2
            clear hnz hnz'
            have hio : Hid (riOk xs = inoOk x0 x1 (riZ xs) ((xs.drop 8).take j)) := by show _ = _; rw [HT2.out]; simp
            by_cases hok : inoOk x0 x1 (riZ xs) ((xs.drop 8).take j) = true
            · have HOK := Lib.hid hok
              have HYES := Lib.hid (hio.out.trans hok)
              clear hok hio HT2 HT
              try subst hm0
              go_wp2_with (first
                | (go_at_call 37; refine (ContainsFunc_nz _ (.inr rfl) _ _ _ ((xs.drop 8).drop j) _ HRR.out HLM.out).mono ?_; rintro e w' ⟨rfl, rfl⟩; rw [HA.out])
                | (go_at_call 32; refine (Right_any x0 x1 (riZ xs) Au j cu ((xs.drop 8).take j) _ HRU.out HLJ.out b00 b01 (by omega) (by omega) (by omega) (by omega)).mono ?_; rintro e w4 ⟨rfl, hB⟩; rw [HOK.out]; have C0 := keep_cell c0 hB; have C1 := keep_cell c1 hB; have C2 := keep_cell c2 hB; have C3 := keep_cell c3 hB; have Q0 := keep_cell q0 hB; have Q1 := keep_cell q1 hB; have Q2 := keep_cell q2 hB; have Q3 := keep_cell q3 hB; have R0 := (hB.frozen (p := ⟨w.heap.size, 0, none⟩) (by simp; omega)).trans r0; have R1 := (hB.frozen (p := ⟨w.heap.size, 1, none⟩) (by simp; omega)).trans r1; have R2 := (hB.frozen (p := ⟨w.heap.size, 2, none⟩) (by simp; omega)).trans r2; have R3 := (hB.frozen (p := ⟨w.heap.size, 3, none⟩) (by simp; omega)).trans r3; have HB4 := Lib.hid (below_then HB.out hB); have HO4 := Lib.hid (own_below HO.out hB (Nat.le_refl _)); clear hB))
              refine bodyPost_ret (v := .tuple #[.agg #[.int .u8 x0, .int .i64 x1, .int .i64 (riZ xs), .slice Au j cu], .int .i64 0]) (by simp [results, Tryd.results30, go_sem, Q0, Q1, Q2, Q3, R0, R1, R2, R3]) rfl ?_
              refine ⟨inoRet_yes HYES.out HX01.out (by rw [HBS.out, HLJ.out]) rfl ?_, (((HB4.out.setCell (by simp) _).setCell (by simp) _).setCell (by simp) _).setCell (by simp) _⟩
              rw [HBS.out]
              exact own_rd (own_setCell (own_setCell (own_setCell (own_setCell HO4.out (by simp) _) (by simp) _) (by simp) _) (by simp) _)
            · have HOK := Lib.hid (Bool.eq_false_iff.2 hok)
              have HNO := Lib.hid (hio.out.trans HOK.out)
              clear hok hio HT2 HT
              try subst hm0
              go_wp2_with (first
                | (go_at_call 37; refine (ContainsFunc_nz _ (.inr rfl) _ _ _ ((xs.drop 8).drop j) _ HRR.out HLM.out).mono ?_; rintro e w' ⟨rfl, rfl⟩; rw [HA.out])
                | (go_at_call 32; refine (Right_any x0 x1 (riZ xs) Au j cu ((xs.drop 8).take j) _ HRU.out HLJ.out b00 b01 (by omega) (by omega) (by omega) (by omega)).mono ?_; rintro e w4 ⟨rfl, hB⟩; rw [HOK.out]; have Q0 := keep_cell q0 hB; have Q1 := keep_cell q1 hB; have Q2 := keep_cell q2 hB; have Q3 := keep_cell q3 hB; have R0 := (hB.frozen (p := ⟨w.heap.size, 0, none⟩) (by simp; omega)).trans r0; have R1 := (hB.frozen (p := ⟨w.heap.size, 1, none⟩) (by simp; omega)).trans r1; have R2 := (hB.frozen (p := ⟨w.heap.size, 2, none⟩) (by simp; omega)).trans r2; have R3 := (hB.frozen (p := ⟨w.heap.size, 3, none⟩) (by simp; omega)).trans r3; have HB4 := Lib.hid (below_then HB.out hB); clear hB))
              refine bodyPost_ret (v := .tuple #[.agg #[.int .u8 0, .int .i64 0, .int .i64 0, .slice none 0 0], .int .i64 3]) (by simp [results, Tryd.results30, go_sem, Q0, Q1, Q2, Q3, R0, R1, R2, R3]) rfl ?_
              exact ⟨inoRet_no HNO.out rfl, (((HB4.out.setCell (by simp) _).setCell (by simp) _).setCell (by simp) _).setCell (by simp) _⟩
theorem ReadInode_any (A : Option Addr) (n c : Nat) (xs : List Int) (w : World) (ha : Rd w A n c (iv .u8 xs)) (hn : xs.length = n) (hx : AllByte xs) :
    Calls Tryd.prog 30 #[.slice A n c] w fun e w' => InoRet xs w e w' ∧ Below w.heap.size w w' := by
  by_cases h : n = 16
  · subst h; exact ReadInode_16 A c xs w ha hn hx
  · exact ReadInode_len A n c xs w hn h (by have := ha.le; have := ha.cap; omega)
end Go.Proofs.YtkmonkemkhigfaaDoor
