/- Walks of layout: the reference's entry out of bytes. -/
import Derived.Test.YtkmonkemkhigfaaDoorLay4
import Derived.Test.YtkmonkemkhigfaaDoorLayQ
set_option linter.unusedSimpArgs false
set_option linter.unusedVariables false
namespace Go.Proofs.YtkmonkemkhigfaaDoor
open Go.RowKit Go.Sel Go.Sel.Lay

theorem Rd.strD {P : Program} {w : World} {A : Option Addr} {n c : Nat} {xs : List Int} (h : Rd w A n c (iv .u8 xs)) (hn : xs.length = n) {src dst e : TypeId} (hs : P.underlying src = some (.slice e)) (he : P.underlying e = some (.int .u8)) (hd : P.underlying dst = some .string) :
    (convert src dst (.slice A n c)).run P w.drew = .ok (.string (strOfNums xs)) w.drew := Rd.str (w := w.drew) (rd_drewN 1 h) hn hs he hd

theorem bytesExt {a b : ByteArray} (h : a.data = b.data) : a = b := by
  cases a; cases b; simp_all

set_option maxHeartbeats 400000 in
theorem rReadEntry_len (A : Option Addr) (n c : Nat) (xs : List Int) (w : World) (hn : xs.length = n) (h8 : n ≠ 8) (hm : n ≤ 9223372036854775807) :
    Calls Tryd.prog 21 #[.slice A n c] w fun e w' => e = .returned (.tuple #[.agg #[.string (reName xs), .int .i64 (reIno xs)], .int .i64 (reErr xs)]) ∧ Below w.heap.size w w' := by
  have hr := re_no (xs := xs) (by simp [rdOk, hn, h8])
  have HR := Lib.hid hr
  clear hr hn
  go_enter Tryd.func21, Tryd.ntmps21
  go_wp2
  refine bodyPost_ret (v := .tuple #[.agg #[.string ⟨#[]⟩, .int .i64 0], .int .i64 3]) (by simp [results, Tryd.results21, go_sem]) rfl ?_
  exact ⟨by rw [HR.out.1, HR.out.2.1, HR.out.2.2]; rfl, below_al _ _⟩

set_option maxHeartbeats 400000 in
theorem rReadEntry_8 (A : Option Addr) (c : Nat) (xs : List Int) (w : World) (ha : Rd w A 8 c (iv .u8 xs)) (hn : xs.length = 8) (hx : AllByte xs) :
    Calls Tryd.prog 21 #[.slice A 8 c] w fun e w' => e = .returned (.tuple #[.agg #[.string (reName xs), .int .i64 (reIno xs)], .int .i64 (reErr xs)]) ∧ Below w.heap.size w w' := by
  have HA := Lib.hid ha
  have HN := Lib.hid hn
  have l1 := ha.le
  have l2 := ha.cap
  have HX := Lib.hid hx
  obtain ⟨b, off, rfl, hbw, hc⟩ := ha.form (by simp; omega)
  have hc0 := hc 0 (by simp; omega)
  rw [iv_at, Nat.add_zero, show xs[0] = rdIno xs by simp [rdIno, List.getD_eq_getElem?_getD, List.getElem?_eq_getElem (show 0 < xs.length by omega)]] at hc0
  have HC := Lib.hid hc
  have hi : 0 ≤ rdIno xs ∧ rdIno xs ≤ 255 := by
    rw [show rdIno xs = xs[0] by simp [rdIno, List.getD_eq_getElem?_getD, List.getElem?_eq_getElem (show 0 < xs.length by omega)]]
    exact hx _ (List.getElem_mem _)
  obtain ⟨hi0, hi1⟩ := hi
  clear hc hx hn ha
  go_enter Tryd.func21, Tryd.ntmps21
  go_wp2
  go_loopw [5] (fun v wr => ∃ k : Nat, 1 ≤ k ∧ k ≤ 8 ∧ v = .int .i64 k ∧ Hid (wr.heap[w.heap.size]? = some (.cells #[.string ⟨#[]⟩, .int .i64 0] 33 (0, 0))) ∧
    Hid (wr.heap[w.heap.size + 1]? = some (.cells #[.string (strOfNums ((xs.drop 1).take (k - 1))), .int .i64 (rdIno xs)] 33 (0, 0))) ∧ Hid (∀ j (h : j < xs.length), 1 ≤ j → j < k → xs[j] ≠ 0) ∧ Hid (Below w.heap.size w wr)) (fun v _ => 8 - (intOf v).toNat)
  case atStart => exact ⟨1, by omega, by omega, rfl, blk21 _ _ _, blk22 _ _ _, fun j _ _ _ => by omega, ((Below.refl _ _).alloc (Nat.le_refl _) _).alloc (by simp) _⟩
  case round =>
    obtain ⟨k, hk1, hk8, rfl, HB1, HB2, HZ, HB⟩ := hrel
    have c0 := blk_cell HB2.out 0
    have c1 := blk_cell HB2.out 1
    have f0 := blk_free HB2.out 0
    simp only [List.getElem?_toArray, List.getElem?_cons_zero, List.getElem?_cons_succ] at c0 c1
    have hbwr : b < wr.heap.size := by have := HB.out.size; omega
    by_cases hgo : ∃ h : k < xs.length, xs[k] ≠ 0
    · obtain ⟨hxl, hx0⟩ := hgo
      have hlt : k < 8 := by have := HN.out; omega
      have hck := (HB.out.cell (p := ⟨b, off + k, none⟩) hbw).trans (HC.out k (by simpa using hxl))
      rw [iv_at] at hck
      have hne : (xs[k] != 0) = true := by simpa using hx0
      have HX0 := Lib.hid hx0
      have hrd : Rd wr (some ⟨b, off + k, none⟩) 1 (c - k) (iv .u8 [xs[k]]) := ⟨by omega, by omega, .inr ⟨b, off + k, rfl, fun j hj => by
        obtain rfl : j = 0 := by simp at hj; omega
        simpa [iv] using hck⟩⟩
      have e1 := Rd.strD (P := Tryd.prog) hrd rfl Tryd.underlying22 Tryd.underlying5 Tryd.underlying9
      have hw : IntKind.i64.wrap ((k : Int) + 1) = (k : Int) + 1 := IntWalk.i64_in _ (by omega)
      have hsl := slice_lh hu_bytes hz_bytes b off 8 c k (k + 1) k ((k : Int) + 1) rfl (by omega) (by omega) (by omega) (by omega)
      rw [Nat.mul_one, Nat.add_sub_cancel_left] at hsl
      clear hx0
      go_wp2
      have hcat : ¬ (9223372036854775807 < (strOfNums (List.take (k - 1) xs.tail)).size + (strOfNums [xs[k]]).size) := by
        rw [strOfNums_size, strOfNums_size]
        have := HN.out
        simp
        omega
      go_still_tail 10, (by kernel_rfl)
      clear hcat e1 hsl hw
      have hcc : strOfNums (List.take (k - 1) xs.tail) ++ strOfNums [xs[k]] = strOfNums ((xs.drop 1).take k) := by
        have h1 : k - 1 < (xs.drop 1).length := by simp; omega
        have h2 : (xs.drop 1).take k = (xs.drop 1).take (k - 1) ++ [xs[k]] := by
          conv => lhs; rw [show k = (k - 1) + 1 by omega]
          rw [List.take_succ_eq_append_getElem h1, List.getElem_drop]
          congr 2
          simp only [show 1 + (k - 1) = k by omega]
        rw [h2, ← List.drop_one]
        apply bytesExt
        simp [strOfNums, ByteArray.data_append]
      rw [hcc]
      have e1 := Lib.hid (blk_far (p := ⟨w.heap.size + 1, 0, none⟩) HB1.out (by simp) (.string (strOfNums ((xs.drop 1).take k))))
      have e2 := Lib.hid (blk_set HB2.out 0 (.string (strOfNums ((xs.drop 1).take k))))
      have e3 := Lib.hid (HB.out.setCell (p := ⟨w.heap.size + 1, 0, none⟩) (by simp) (.string (strOfNums ((xs.drop 1).take k))))
      rw [List.drop_one] at e1 e2 e3
      go_wp2
      refine ⟨⟨k + 1, by omega, by omega, by go_num, e1, ?_, fun j h hj1 hj2 => ?_, e3.out.drew⟩, by simp [intOf]; omega⟩
      · rw [Nat.add_sub_cancel, List.drop_one]; exact e2
      · by_cases hjk : j = k
        · subst hjk; exact HX0.out
        · exact HZ.out j h hj1 (by omega)
    · have hrf := rd_of_first HN.out (k - 1) (by omega) (fun j h h1 h2 => HZ.out j h h1 (by omega)) (by
        by_cases h8 : k = 8
        · exact .inl (by omega)
        · refine .inr ⟨by have := HN.out; omega, ?_⟩
          have h := fun hh hne => hgo ⟨hh, hne⟩
          have h2 : k < xs.length := by have := HN.out; omega
          have h3 := Classical.not_not.1 (h h2)
          simpa only [show k - 1 + 1 = k by omega] using h3)
      have HRF := Lib.hid hrf
      have hcond : k = 8 ∨ ∃ h : k < xs.length, xs[k] = 0 := by
        by_cases h8 : k = 8
        · exact .inl h8
        · have h2 : k < xs.length := by have := HN.out; omega
          exact .inr ⟨h2, Classical.not_not.1 (fun hne => hgo ⟨h2, hne⟩)⟩
      clear hgo hrf
      have hnb : AllByte ((xs.drop 1).take (k - 1)) := fun x hx => HX.out x (List.mem_of_mem_drop (List.mem_of_mem_take hx))
      have HNB := Lib.hid (nums_strOfNums hnb)
      have SZ0 := Lib.hid (show w.heap.size < wr.heap.size from (Array.getElem?_eq_some_iff.1 HB1.out).1)
      have SZ1 := Lib.hid (show w.heap.size + 1 < wr.heap.size from (Array.getElem?_eq_some_iff.1 HB2.out).1)
      have d0 := blk_cell HB1.out 0
      have d1 := blk_cell HB1.out 1
      have g0' := blk_free HB1.out 0
      have g1' := blk_free HB1.out 1
      simp only [List.getElem?_toArray, List.getElem?_cons_zero, List.getElem?_cons_succ] at d0 d1
      have hsz : (strOfNums ((xs.drop 1).take (k - 1))).size ≤ 7 := by rw [strOfNums_size]; simp; omega
      have HRB := Lib.hid (show Rd wr (some ⟨b, off, none⟩) 8 c (iv .u8 xs) from ⟨l1, l2, .inr ⟨b, off, rfl, fun j hj => (HB.out.cell (p := ⟨b, off + j, none⟩) hbw).trans (HC.out j hj)⟩⟩)
      have HEB : Hid (AllByte (entB ((xs.drop 1).take (k - 1)) (rdIno xs))) := by
        intro x hx
        rw [entB_cons, List.mem_cons, List.mem_append, List.mem_replicate] at hx
        rcases hx with rfl | hx | ⟨_, rfl⟩
        · exact ⟨hi0, hi1⟩
        · exact hnb x hx
        · omega
      have hck : k = 8 ∨ (∃ h : k < xs.length, k < 8 ∧ wr.cell? ⟨b, off + k, none⟩ = some (.int .u8 0)) := by
        rcases hcond with h | ⟨h, h0⟩
        · exact .inl h
        · refine .inr ⟨h, by have := HN.out; omega, ?_⟩
          have := (HB.out.cell (p := ⟨b, off + k, none⟩) hbw).trans (HC.out k (by simpa using h))
          rwa [iv_at, h0] at this
      clear hcond hnb
      have HNM : Hid (reName xs = if rdOk xs then strOfNums ((xs.drop 1).take (k - 1)) else ByteArray.empty) := by
        show _ = _
        by_cases h : rdOk xs = true
        · rw [(re_ok h).1, HRF.out.2 h, if_pos h]
        · rw [(re_no (Bool.eq_false_iff.2 h)).1, if_neg h]
      generalize hnm : (xs.drop 1).take (k - 1) = nm at *
      have HNMD := Lib.hid hnm
      clear hnm
      have HL : Hid (Below w.heap.size w wr) := HB
      by_cases hok : entOk (nums (strOfNums nm)) (rdIno xs) = true
      · have HOK := Lib.hid hok
        by_cases heq : entB nm (rdIno xs) = xs
        · have hrd : rdOk xs = true := by
            rw [HRF.out.1]
            have := HOK.out
            rw [HNB.out] at this
            simp [this, heq]
          have HRE := Lib.hid (re_ok hrd)
          have hn : reName xs = strOfNums nm := by rw [HNM.out, if_pos hrd]
          have HNN := Lib.hid hn
          have HEQ := Lib.hid heq
          clear hrd hok hn heq
          generalize strOfNums nm = s at *
          rcases hck with rfl | ⟨hx, hlt, hck⟩
          all_goals
            go_wp2_with (go_at_call 20; refine (rEntry_yes s (rdIno xs) _ HOK.out).mono ?_; rintro e w4 ⟨⟨A1, rfl, hr4⟩, hB⟩; rw [HNB.out, HEQ.out] at hr4; have e1 := hr4.str HN.out Tryd.underlying22 Tryd.underlying5 Tryd.underlying9; have e2 := (HRB.out.below hB).str HN.out Tryd.underlying22 Tryd.underlying5 Tryd.underlying9; have y0 := (hB.cell (p := ⟨w.heap.size, 0, none⟩) SZ0.out).trans d0; have y1 := (hB.cell (p := ⟨w.heap.size, 1, none⟩) SZ0.out).trans d1; have g0 := (hB.frozen (p := ⟨w.heap.size, 0, none⟩) SZ0.out).trans g0'; have g1 := (hB.frozen (p := ⟨w.heap.size, 1, none⟩) SZ0.out).trans g1'; have z0 := (hB.cell (p := ⟨w.heap.size + 1, 0, none⟩) SZ1.out).trans c0; have z1 := (hB.cell (p := ⟨w.heap.size + 1, 1, none⟩) SZ1.out).trans c1; have HBN := Lib.hid hB; clear hr4 hB c0 c1 d0 d1 g0' g1' f0)
            refine bodyPost_ret (v := .tuple #[.agg #[.string s, .int .i64 (rdIno xs)], .int .i64 0]) (by simp [results, Tryd.results21, go_sem, y0, y1, g0, g1]) rfl ?_
            exact ⟨by rw [HNN.out, HRE.out.2.1, HRE.out.2.2], ((below_then HL.out HBN.out).setCell (by simp) _).setCell (by simp) _⟩
        · have hrd : rdOk xs = false := by
            rw [HRF.out.1]
            simp [heq]
          have HRE := Lib.hid (re_no hrd)
          have hd : ((strOfNums (entB nm (rdIno xs))).toList == (strOfNums xs).toList) = false := by
            rw [strOfNums_beq HEB.out HX.out]
            exact decide_eq_false heq
          clear hrd hok heq
          generalize strOfNums nm = s at *
          rcases hck with rfl | ⟨hx, hlt, hck⟩
          all_goals
            go_wp2_with (go_at_call 20; refine (rEntry_yes s (rdIno xs) _ HOK.out).mono ?_; rintro e w4 ⟨⟨A1, rfl, hr4⟩, hB⟩; rw [HNB.out] at hr4; have e1 := hr4.str (entB_length nm (rdIno xs) (by have := entOk_le HOK.out; rwa [HNB.out] at this)) Tryd.underlying22 Tryd.underlying5 Tryd.underlying9; have e2 := (HRB.out.below hB).str HN.out Tryd.underlying22 Tryd.underlying5 Tryd.underlying9; have y0 := (hB.cell (p := ⟨w.heap.size, 0, none⟩) SZ0.out).trans d0; have y1 := (hB.cell (p := ⟨w.heap.size, 1, none⟩) SZ0.out).trans d1; have g0 := (hB.frozen (p := ⟨w.heap.size, 0, none⟩) SZ0.out).trans g0'; have g1 := (hB.frozen (p := ⟨w.heap.size, 1, none⟩) SZ0.out).trans g1'; have z0 := (hB.cell (p := ⟨w.heap.size + 1, 0, none⟩) SZ1.out).trans c0; have z1 := (hB.cell (p := ⟨w.heap.size + 1, 1, none⟩) SZ1.out).trans c1; have HBN := Lib.hid hB; clear hr4 hB c0 c1 d0 d1 g0' g1' f0)
            refine bodyPost_ret (v := .tuple #[.agg #[.string ⟨#[]⟩, .int .i64 0], .int .i64 3]) (by simp [results, Tryd.results21, go_sem, y0, y1, g0, g1]) rfl ?_
            exact ⟨by rw [HRE.out.1, HRE.out.2.1, HRE.out.2.2]; rfl, ((below_then HL.out HBN.out).setCell (by simp) _).setCell (by simp) _⟩
      · have hrd : rdOk xs = false := by
          rw [HRF.out.1]
          have h := HNB.out
          rw [h] at hok
          simp [Bool.eq_false_iff.2 hok]
        have HRE := Lib.hid (re_no hrd)
        have HOK := Lib.hid (Bool.eq_false_iff.2 hok)
        clear hrd hok
        generalize strOfNums nm = s at *
        rcases hck with rfl | ⟨hx, hlt, hck⟩
        all_goals
            go_wp2_with (go_at_call 20; refine (rEntry_no s (rdIno xs) _ HOK.out (by omega) (by omega) (by omega)).mono ?_; rintro e w4 ⟨rfl, hB⟩; have y0 := (hB.cell (p := ⟨w.heap.size, 0, none⟩) SZ0.out).trans d0; have y1 := (hB.cell (p := ⟨w.heap.size, 1, none⟩) SZ0.out).trans d1; have g0 := (hB.frozen (p := ⟨w.heap.size, 0, none⟩) SZ0.out).trans g0'; have g1 := (hB.frozen (p := ⟨w.heap.size, 1, none⟩) SZ0.out).trans g1'; have z0 := (hB.cell (p := ⟨w.heap.size + 1, 0, none⟩) SZ1.out).trans c0; have z1 := (hB.cell (p := ⟨w.heap.size + 1, 1, none⟩) SZ1.out).trans c1; have HBN := Lib.hid hB; clear hB c0 c1 d0 d1 g0' g1' f0)
            refine bodyPost_ret (v := .tuple #[.agg #[.string ⟨#[]⟩, .int .i64 0], .int .i64 3]) (by simp [results, Tryd.results21, go_sem, y0, y1, g0, g1]) rfl ?_
            exact ⟨by rw [HRE.out.1, HRE.out.2.1, HRE.out.2.2]; rfl, ((below_then HL.out HBN.out).setCell (by simp) _).setCell (by simp) _⟩
end Go.Proofs.YtkmonkemkhigfaaDoor
