/- Walks of layout: an entry out of bytes. -/
import Derived.Test.YtkmonkemkhigfaaDoorLay3
set_option linter.unusedSimpArgs false
set_option linter.unusedVariables false
namespace Go.Proofs.YtkmonkemkhigfaaDoor
open Go.RowKit Go.Sel Go.Sel.Lay

theorem Rd.from {w : World} {b off n c : Nat} {cs : List Value} (h : Rd w (some ⟨b, off, none⟩) n c cs) (k : Nat) (hk : k ≤ n) : Rd w (some ⟨b, off + k, none⟩) (n - k) (c - k) (cs.drop k) :=
  ⟨by have := h.le; omega, by have := h.cap; omega, by
    rcases h.at_ with h0 | ⟨b', off', e, hc⟩
    · exact .inl (by rw [h0]; simp)
    · injection e with e; injection e with e1 e2; subst e1; subst e2
      refine .inr ⟨b, off + k, rfl, fun j hj => ?_⟩
      have := hc (k + j) (by simpa using (by simp at hj; omega))
      rw [Nat.add_assoc, this, List.getElem_drop]⟩
theorem Rd.upto {w : World} {A : Option Addr} {n c : Nat} {cs : List Value} (h : Rd w A n c cs) (k : Nat) (hk : k ≤ n) : Rd w A k c (cs.take k) :=
  ⟨by have := h.le; omega, h.cap, by
    rcases h.at_ with h0 | ⟨b, off, e, hc⟩
    · exact .inl (by rw [h0]; simp)
    · exact .inr ⟨b, off, e, fun j hj => by rw [List.getElem_take]; exact hc j (by simp at hj; omega)⟩⟩

theorem rd_empty (w : World) : True := trivial

set_option maxHeartbeats 400000 in
theorem ReadEntry_len (A : Option Addr) (n c : Nat) (xs : List Int) (w : World) (hn : xs.length = n) (h8 : n ≠ 8) (hm : n ≤ 9223372036854775807) :
    Calls Tryd.prog 19 #[.slice A n c] w fun e w' => e = .returned (.tuple #[.agg #[.string (reName xs), .int .i64 (reIno xs)], .int .i64 (reErr xs)]) ∧ Below w.heap.size w w' := by
  have hr := re_no (xs := xs) (by simp [rdOk, hn, h8])
  have HR := Lib.hid hr
  clear hr hn
  go_enter Tryd.func19, Tryd.ntmps19
  go_wp2
  refine bodyPost_ret (v := .tuple #[.agg #[.string ⟨#[]⟩, .int .i64 0], .int .i64 3]) (by simp [results, Tryd.results19, go_sem]) rfl ?_
  exact ⟨by rw [HR.out.1, HR.out.2.1, HR.out.2.2]; rfl, below_al _ _⟩
set_option maxHeartbeats 400000 in
theorem ReadEntry_8 (A : Option Addr) (c : Nat) (xs : List Int) (w : World) (ha : Rd w A 8 c (iv .u8 xs)) (hn : xs.length = 8) (hx : AllByte xs) :
    Calls Tryd.prog 19 #[.slice A 8 c] w fun e w' => e = .returned (.tuple #[.agg #[.string (reName xs), .int .i64 (reIno xs)], .int .i64 (reErr xs)]) ∧ Below w.heap.size w w' := by
  have HA := Lib.hid ha
  have HN := Lib.hid hn
  have l1 := ha.le
  have l2 := ha.cap
  have HX := Lib.hid hx
  obtain ⟨b, off, rfl, hbw, hc⟩ := ha.form (by simp; omega)
  have hc0 := hc 0 (by simp; omega)
  rw [iv_at, Nat.add_zero, show xs[0] = rdIno xs by simp [rdIno, List.getD_eq_getElem?_getD, List.getElem?_eq_getElem (show 0 < xs.length by omega)]] at hc0
  have HD := Lib.hid (Rd.from ha 1 (by omega))
  have hi : 0 ≤ rdIno xs ∧ rdIno xs ≤ 255 := by
    rw [show rdIno xs = xs[0] by simp [rdIno, List.getD_eq_getElem?_getD, List.getElem?_eq_getElem (show 0 < xs.length by omega)]]
    exact hx _ (List.getElem_mem _)
  obtain ⟨hi0, hi1⟩ := hi
  have hnb : AllByte (rdName xs) := fun x hx' => hx x (by
    unfold rdName trimZ at hx'
    rw [List.mem_reverse] at hx'
    exact List.mem_of_mem_drop (List.mem_reverse.1 ((List.dropWhile_sublist _).subset hx')))
  have HNB := Lib.hid (nums_strOfNums hnb)
  clear hc hx hn ha hnb
  go_enter Tryd.func19, Tryd.ntmps19
  go_wp2_with (go_at_call 35; refine (TrimRight0 _ _ _ (xs.drop 1) _ (by rw [iv, List.map_drop]; exact HD.out.alloc _) (by rw [List.length_drop, HN.out])).mono ?_; rintro e w1 ⟨⟨k, hk, hz, rfl⟩, rfl⟩; have HZ := Lib.hid hz; clear hz)
  have hrd := Rd.upto (HD.out.alloc (.cells #[.string ⟨#[]⟩, .int .i64 0] 33)) k hk
  rw [show (List.drop 1 (iv .u8 xs)).take k = iv .u8 (rdName xs) by rw [iv, iv, rdName, HZ.out, List.map_take, List.map_drop]] at hrd
  have hb1 := blk11 w (.cells #[.string ⟨#[]⟩, .int .i64 0] 33)
  have hlt : w.heap.size < (w.alloc (.cells #[.string ⟨#[]⟩, .int .i64 0] 33)).heap.size := by simp
  have hB := below_al w (.cells #[.string ⟨#[]⟩, .int .i64 0] 33)
  have hc2 := hB.cell (p := ⟨b, off, none⟩) hbw
  rw [hc0] at hc2
  clear hc0
  generalize w.alloc (.cells #[.string ⟨#[]⟩, .int .i64 0] 33) = w2 at *
  have hbw2 : b < w2.heap.size := by have := hB.size; omega
  have hlr : (rdName xs).length = k := by rw [rdName, HZ.out]; simp [HN.out]; omega
  have e1 := (rd_drewN 1 hrd).str (P := Tryd.prog) (w := w2.drew) hlr Tryd.underlying22 Tryd.underlying5 Tryd.underlying9
  have e2 : (convert 22 9 (.slice (some ⟨b, off + 1, none⟩) k (c - 1))).run Tryd.prog (w2.alloc (.cells #[.string ⟨#[]⟩, .int .i64 0] 33)).drew = .ok (.string (strOfNums (rdName xs))) (w2.alloc (.cells #[.string ⟨#[]⟩, .int .i64 0] 33)).drew :=
    (rd_drewN 1 (hrd.alloc (.cells #[.string ⟨#[]⟩, .int .i64 0] 33))).str (w := (w2.alloc (.cells #[.string ⟨#[]⟩, .int .i64 0] 33)).drew) hlr Tryd.underlying22 Tryd.underlying5 Tryd.underlying9
  have HB := Lib.hid hB
  have HB1 := Lib.hid hb1
  have HLR := Lib.hid hlr
  clear hB hb1 hrd hlr
  go_region
  all_goals clear e1 e2
  all_goals
    change Exit.then _ _ _ _ (World.drew (w2.alloc (.cells #[.string (strOfNums (rdName xs)), .int .i64 (rdIno xs)] 33)))
    have b2 := blk11 w2 (.cells #[.string (strOfNums (rdName xs)), .int .i64 (rdIno xs)] 33)
    have b1 := blk_below HB1.out (below_al w2 (.cells #[.string (strOfNums (rdName xs)), .int .i64 (rdIno xs)] 33)) hlt
    have B3 := (below_then HB.out (below_al w2 (.cells #[.string (strOfNums (rdName xs)), .int .i64 (rdIno xs)] 33))).drew
    have s3 : w2.heap.size < (w2.alloc (.cells #[.string (strOfNums (rdName xs)), .int .i64 (rdIno xs)] 33)).heap.size := by simp
    change (World.drew (w2.alloc (.cells #[.string (strOfNums (rdName xs)), .int .i64 (rdIno xs)] 33))).heap[w2.heap.size]? = _ at b2
    change (World.drew (w2.alloc (.cells #[.string (strOfNums (rdName xs)), .int .i64 (rdIno xs)] 33))).heap[w.heap.size]? = _ at b1
    change w2.heap.size < (World.drew (w2.alloc (.cells #[.string (strOfNums (rdName xs)), .int .i64 (rdIno xs)] 33))).heap.size at s3
    generalize World.drew (w2.alloc (.cells #[.string (strOfNums (rdName xs)), .int .i64 (rdIno xs)] 33)) = w3 at *
    have c0 := blk_cell b2 0
    have c1 := blk_cell b2 1
    have d0 := blk_cell b1 0
    have d1 := blk_cell b1 1
    have f0 := blk_free b1 0
    have f1 := blk_free b1 1
    simp only [List.getElem?_toArray, List.getElem?_cons_zero, List.getElem?_cons_succ] at c0 c1 d0 d1
    have HB2 := Lib.hid b2
    have HB3 := Lib.hid b1
    have HBB := Lib.hid B3
    clear b1 b2 B3 HB HB1
    have HR : Hid (rdOk xs = entOk (nums (strOfNums (rdName xs))) (rdIno xs)) := by show _ = _; rw [rdOk, HN.out, HNB.out]; simp
    have HRN : Hid (rdOk xs = true → reName xs = strOfNums (rdName xs)) := fun h => (re_ok h).1
    have hsz : (strOfNums (rdName xs)).size ≤ 7 := by rw [strOfNums_size, HLR.out]; exact hk
    clear HNB HLR HZ
    generalize strOfNums (rdName xs) = s at *
    by_cases hok : entOk (nums s) (rdIno xs) = true
    · have hre := re_ok (HR.out.trans hok)
      rw [HRN.out (HR.out.trans hok)] at hre
      have HRE := Lib.hid hre
      clear hre
      have hne := HRN.out (HR.out.trans hok)
      have HNE := Lib.hid hne
      clear hne
      by_cases hz : s.size = 0 ∧ rdIno xs = 0
      · obtain ⟨hz1, hz2⟩ := hz
        obtain rfl := empty_of_size hz1
        rw [hz2] at c1 HRE
        have he : ByteArray.empty.toList.isEmpty = true := by rw [toList_empty]; rfl
        have hl : ByteArray.empty.toList = [] := by rw [← List.isEmpty_iff]; exact he
        clear hok hz2 hz1 hsz
        go_wp2
        refine bodyPost_ret (v := .tuple #[.agg #[.string ByteArray.empty, .int .i64 0], .int .i64 0]) (by simp [results, Tryd.results19, go_sem, d0, d1, f0, f1, c0, c1]) rfl ?_
        exact ⟨by rw [HNE.out, HRE.out.2.1, HRE.out.2.2], ((HBB.out.setCell (by simp) _).setCell (by simp) _)⟩
      · have hv : 1 ≤ rdIno xs ∧ rdIno xs ≤ 15 ∧ nameOk (nums s) = true := by
          simp only [entOk, nums_length, Bool.or_eq_true, Bool.and_eq_true, decide_eq_true_eq] at hok
          rcases hok with h | h
          · exact absurd h hz
          · exact ⟨h.1.1, h.1.2, h.2⟩
        obtain ⟨hv0, hv1, hv2⟩ := hv
        have HN := Lib.hid hv2
        clear hok hv2 hz
        go_wp2_with (go_at_call 18; refine (Name_any s _ (by omega)).mono ?_; rintro e w4 ⟨rfl, hB⟩; rw [HN.out]; have x0 := (hB.cell (p := ⟨w2.heap.size, 0, none⟩) s3).trans c0; have x1 := (hB.cell (p := ⟨w2.heap.size, 1, none⟩) s3).trans c1; have y0 := (hB.cell (p := ⟨w.heap.size, 0, none⟩) (by simp; omega)).trans d0; have y1 := (hB.cell (p := ⟨w.heap.size, 1, none⟩) (by simp; omega)).trans d1; have g0 := (hB.frozen (p := ⟨w.heap.size, 0, none⟩) (by simp; omega)).trans f0; have g1 := (hB.frozen (p := ⟨w.heap.size, 1, none⟩) (by simp; omega)).trans f1; have HB4 := Lib.hid hB; clear hB c0 c1 d0 d1 f0 f1)
        refine bodyPost_ret (v := .tuple #[.agg #[.string s, .int .i64 (rdIno xs)], .int .i64 0]) (by simp [results, Tryd.results19, go_sem, y0, y1, g0, g1]) rfl ?_
        exact ⟨by rw [HNE.out, HRE.out.2.1, HRE.out.2.2], ((below_then HBB.out HB4.out).setCell (by simp) _).setCell (by simp) _⟩
    · have hno := Bool.eq_false_iff.2 hok
      have hre := re_no (HR.out.trans hno)
      have HRE := Lib.hid hre
      have hz1 : ¬ (s.size = 0 ∧ rdIno xs = 0) := by intro h; simp [entOk, h.1, h.2] at hno
      clear hre hok
      by_cases hr : 1 ≤ rdIno xs ∧ rdIno xs ≤ 15
      · have hn : nameOk (nums s) = false := by
          simp [entOk, hr.1, hr.2] at hno
          exact hno.2
        obtain ⟨hr0, hr1⟩ := hr
        have HN := Lib.hid hn
        clear hn hz1 hno
        go_wp2_with (go_at_call 18; refine (Name_any s _ (by omega)).mono ?_; rintro e w4 ⟨rfl, hB⟩; rw [HN.out]; have x0 := (hB.cell (p := ⟨w2.heap.size, 0, none⟩) s3).trans c0; have x1 := (hB.cell (p := ⟨w2.heap.size, 1, none⟩) s3).trans c1; have y0 := (hB.cell (p := ⟨w.heap.size, 0, none⟩) (by simp; omega)).trans d0; have y1 := (hB.cell (p := ⟨w.heap.size, 1, none⟩) (by simp; omega)).trans d1; have g0 := (hB.frozen (p := ⟨w.heap.size, 0, none⟩) (by simp; omega)).trans f0; have g1 := (hB.frozen (p := ⟨w.heap.size, 1, none⟩) (by simp; omega)).trans f1; have HB4 := Lib.hid hB; clear hB c0 c1 d0 d1 f0 f1)
        refine bodyPost_ret (v := .tuple #[.agg #[.string ⟨#[]⟩, .int .i64 0], .int .i64 3]) (by simp [results, Tryd.results19, go_sem, y0, y1, g0, g1]) rfl ?_
        exact ⟨by rw [HRE.out.1, HRE.out.2.1, HRE.out.2.2]; rfl, ((below_then HBB.out HB4.out).setCell (by simp) _).setCell (by simp) _⟩
      · clear hno
        go_wp2
        all_goals first
          | (exfalso; simp only [toList_nil] at *; omega)
          | (refine bodyPost_ret (v := .tuple #[.agg #[.string ⟨#[]⟩, .int .i64 0], .int .i64 3]) (by simp [results, Tryd.results19, go_sem, d0, d1, f0, f1]) rfl ?_
             exact ⟨by rw [HRE.out.1, HRE.out.2.1, HRE.out.2.2]; rfl, (HBB.out.setCell (by simp) _).setCell (by simp) _⟩)
end Go.Proofs.YtkmonkemkhigfaaDoor
