/- Walks of big: Cut's closure. -/
import Derived.Test.YtcgfoaihfncppaaKBgCp
set_option linter.unusedSimpArgs false
set_option linter.unusedVariables false
namespace Go.Proofs.Ytcgfoaihfncppaa
open Go.RowKit Go.Sel Go.Sel.Gra Go.Sel.Bg Go.Sel.Mer Go.Shelf

set_option maxRecDepth 100000 in
set_option maxHeartbeats 8000000 in
theorem Cut1_ok (w0 w : World) (A : Option Addr) (n c : Nat) (D : List (List Int)) (t : List Int) (k : Nat) (hk : k ≤ 1062) (ht : t.length = 8) (b0 b1 b2 b3 b4 b5 : Nat) (h0 : w.cell? ⟨b0, 0, none⟩ = some (.slice A n c)) (h1 : boxB w b1 t) (h2 : boxI w b2 (k : Int))
    (h3 : w.heap[b3]? = some (.cells #[.slice none 0 0] 33 (0, 0))) (h4 : w.heap[b4]? = some (.cells #[.slice none 0 0] 23 (0, 0))) (h5 : boxB w b5 zB) (h34 : b3 ≠ b4) (h35 : b3 ≠ b5) (h45 : b4 ≠ b5) (h03 : b0 ≠ b3) (h04 : b0 ≠ b4) (h05 : b0 ≠ b5) (h23 : b2 ≠ b3) (h24 : b2 ≠ b4) (h25 : b2 ≠ b5)
    (hB0 : Below w0.heap.size w0 w) (hb3 : w0.heap.size ≤ b3) (hb4 : w0.heap.size ≤ b4) (hb5 : w0.heap.size ≤ b5) (hD : Bp w0 A n c D) (hR : Rt D t) :
    Calls Try.prog 49 #[.pointer (some ⟨b0, 0, none⟩), .pointer (some ⟨b1, 0, none⟩), .pointer (some ⟨b2, 0, none⟩), .pointer (some ⟨b3, 0, none⟩), .pointer (some ⟨b4, 0, none⟩), .pointer (some ⟨b5, 0, none⟩)] w fun e w' => e = .returned (.tuple #[]) ∧ Fr (fun x => x = b3 ∨ x = b4 ∨ x = b5) w w' ∧
      ∃ g c' gs A4 c4, w'.heap[b3]? = some (.cells #[.slice (some ⟨g, 0, none⟩) n c'] 33 (0, 0)) ∧ Wr w.heap.size w' g n c' (cutL D t k).out gs ∧ boxB w' b5 (cutL D t k).l ∧ w'.heap[b4]? = some (.cells #[.slice A4 (cutL D t k).free.length c4] 23 (0, 0)) ∧ Rd w' A4 (cutL D t k).free.length c4 (iv .i64 (cutL D t k).free) := by
  have HL := Lib.hid (look_ok A n c D t ht w (hD.below hB0) hR)
  have HR := Lib.hid hR
  have HDW := Lib.hid hR.1
  have HD0 := Lib.hid hD
  have HB0 := Lib.hid hB0
  have H3 := Lib.hid h3
  have H4 := Lib.hid h4
  have H5 := Lib.hid h5
  have l3 := (Array.getElem?_eq_some_iff.1 h3).1
  have l4 := (Array.getElem?_eq_some_iff.1 h4).1
  have l5 := (Array.getElem?_eq_some_iff.1 h5).1
  have H96 := Lib.hid (plL_len hR)
  have c2 := h2.cell
  have l0 := World.block_lt_of_cell? w _ h0
  have l2 := World.block_lt_of_cell? w _ c2
  simp only at l0 l2
  have hk0 : (0 : Int) ≤ (k : Int) := by omega
  have hk1 : (k : Int) ≤ 1062 := by omega
  have HT8 := Lib.hid ht
  obtain ⟨a0, a1, a2, a3, a4, a5, a6, a7, hte⟩ := len8 ht
  have HTE := Lib.hid hte
  have hbv : bigV t = .agg #[.int .i64 a0, .int .i64 a1, .int .i64 a2, .int .i64 a3, .int .i64 a4, .int .i64 a5, .int .i64 a6, .int .i64 a7] := by rw [hte]; rfl
  rw [hte] at h1
  obtain ⟨d0, d1, d2, d3, d4, d5, d6, d7⟩ := big8 h1
  rw [hbv] at HL
  clear hD hR h1 h2 h3 h4 h5 hbv hte hB0 ht
  go_enter Try.func49, Try.ntmps49
  go_upto_region 2 with (first
    | (go_at_call 36; (with_reducible refine HL.out.mono ?_); rintro e w2 ⟨vb, mp, mt, vi, rfl, hV⟩; have c2 := keep_cell c2 hV.hB; have h0 := keep_cell h0 hV.hB; have HV := Lib.hid hV; have HB := Lib.hid hV.hB; clear hV)
    | (go_at_call 37; (with_reducible refine (must_ok 2 _).mono ?_); rintro e w2 ⟨rfl, rfl⟩))
  have hsz2 := HB.out.size
  have HC := Lib.hid (copied_big_wr A n c D w2 ((HD0.out.below HB0.out).below HB.out) HDW.out)
  go_upto_region 3 with (go_at_call 32; refine HC.out.mono ?_; rintro e w3 ⟨⟨g, c', gs, rfl, hw⟩, hB⟩; have HWR := Lib.hid hw; have HB3 := Lib.hid hB; have Q3 := Lib.hid (blk_below (blk_below H3.out HB.out l3) hB (Nat.lt_of_lt_of_le l3 hsz2)); have r3 := blk_cell Q3.out 0; have z3 := blk_free Q3.out 0; simp only [List.getElem?_toArray, List.getElem?_cons_zero] at r3; clear hw hB)
  have H0 := Lib.hid (keep_cell h0 HB3.out)
  have C2 := Lib.hid (keep_cell c2 HB3.out)
  have HV3 := Lib.hid (HV.out.same HB3.out)
  have Q4 := Lib.hid (blk_below (blk_below H4.out HB.out l4) HB3.out (Nat.lt_of_lt_of_le l4 hsz2))
  have Q5 := Lib.hid (blk_below (blk_below H5.out HB.out l5) HB3.out (Nat.lt_of_lt_of_le l5 hsz2))
  have hsz3 := HB3.out.size
  have hlow := HWR.out.low
  have hgl := HWR.out.lt
  have HRL : Hid (∀ x, rowsOf gs x → w2.heap.size ≤ x ∧ x < w3.heap.size) := Lib.hid fun x hx => ⟨(HWR.out.mem_lt hx).2, (HWR.out.mem_lt hx).1⟩
  have hgv := HV.out.gv
  have hgp := HV.out.gp
  have hvl2 := (Array.getElem?_eq_some_iff.1 HV.out.blk).1
  have hml2 : mp < w2.heap.size := by
    obtain ⟨l, h1, _⟩ := HV.out.pl
    exact h1.lt
  have hfar : ∀ i, i ≠ b3 → (w3.setCell ⟨b3, 0, none⟩ (.slice (some ⟨g, 0, none⟩) n c')).heap[i]? = w3.heap[i]? := fun i hi => Below.heap_setCell _ _ _ _ hi
  have R3 : Hid ((w3.setCell ⟨b3, 0, none⟩ (.slice (some ⟨g, 0, none⟩) n c')).heap[b3]? = some (.cells #[.slice (some ⟨g, 0, none⟩) n c'] 33 (0, 0))) := Lib.hid (blk_set Q3.out 0 _)
  have R4 : Hid ((w3.setCell ⟨b3, 0, none⟩ (.slice (some ⟨g, 0, none⟩) n c')).heap[b4]? = _) := Lib.hid ((hfar b4 (Ne.symm h34)).trans Q4.out)
  have R5 : Hid ((w3.setCell ⟨b3, 0, none⟩ (.slice (some ⟨g, 0, none⟩) n c')).heap[b5]? = _) := Lib.hid ((hfar b5 (Ne.symm h35)).trans Q5.out)
  have HWR4 : Hid (Wr w2.heap.size (w3.setCell ⟨b3, 0, none⟩ (.slice (some ⟨g, 0, none⟩) n c')) g n c' D gs) := Lib.hid (HWR.out.same (hfar g (by omega)) fun x hx => hfar x (by have := (HRL.out x hx).1; omega))
  have h0d : (w3.setCell ⟨b3, 0, none⟩ (.slice (some ⟨g, 0, none⟩) n c')).cell? ⟨b0, 0, none⟩ = some (.slice A n c) := (World.cell?_of_block (a := ⟨b0, 0, none⟩) (hfar b0 h03)).trans H0.out
  have c2d : (w3.setCell ⟨b3, 0, none⟩ (.slice (some ⟨g, 0, none⟩) n c')).cell? ⟨b2, 0, none⟩ = some (.int .i64 (k : Int)) := (World.cell?_of_block (a := ⟨b2, 0, none⟩) (hfar b2 h23)).trans C2.out
  have HVB : Hid ((w3.setCell ⟨b3, 0, none⟩ (.slice (some ⟨g, 0, none⟩) n c')).heap[vb]? = _) := Lib.hid ((hfar vb (by omega)).trans HV3.out.blk)
  have HIM : Hid (∃ l, IMap (w3.setCell ⟨b3, 0, none⟩ (.slice (some ⟨g, 0, none⟩) n c')) mp l ∧ PlS D t 1096 l) := Lib.hid (by
    obtain ⟨l, h1, h2⟩ := HV3.out.pl
    exact ⟨l, imap_at h1 (hfar mp (by omega)), h2⟩)
  have HF4 : Hid (Fr (fun x => x = b3) w (w3.setCell ⟨b3, 0, none⟩ (.slice (some ⟨g, 0, none⟩) n c'))) := Lib.hid (Fr.setCell (S := fun x => x = b3) (fr_of_below (HB.out.trans (HB3.out.mono hsz2)) _) (p := ⟨b3, 0, none⟩) (.inl rfl) _)
  have hs4 : (w3.setCell ⟨b3, 0, none⟩ (.slice (some ⟨g, 0, none⟩) n c')).heap.size = w3.heap.size := by simp
  have HB04 := Lib.hid ((HB0.out.trans (fr_of_below (HB.out.trans (HB3.out.mono hsz2)) (fun _ => False) |>.below HB0.out.size (fun _ h => h.elim))).setCell (p := ⟨b3, 0, none⟩) hb3 (.slice (some ⟨g, 0, none⟩) n c'))
  clear h0 c2 r3 z3 hfar H0 C2 HV3 HV Q3 Q4 Q5 HWR HB HB3 H3 H4 H5 HC HL
  generalize w3.setCell ⟨b3, 0, none⟩ (.slice (some ⟨g, 0, none⟩) n c') = W3 at *
  have HS4 := Lib.hid hs4
  clear hs4
  obtain ⟨l, him, hps⟩ := HIM.out
  have HPS := Lib.hid hps
  clear hps HIM
  obtain ⟨e0, e1, e2, e3, e4, e5, e6, e7⟩ : W3.cell? ⟨vb, 1, none⟩ = some (.int .i64 a0) ∧ W3.cell? ⟨vb, 2, none⟩ = some (.int .i64 a1) ∧ W3.cell? ⟨vb, 3, none⟩ = some (.int .i64 a2) ∧ W3.cell? ⟨vb, 4, none⟩ = some (.int .i64 a3) ∧ W3.cell? ⟨vb, 5, none⟩ = some (.int .i64 a4) ∧ W3.cell? ⟨vb, 6, none⟩ = some (.int .i64 a5) ∧ W3.cell? ⟨vb, 7, none⟩ = some (.int .i64 a6) ∧ W3.cell? ⟨vb, 8, none⟩ = some (.int .i64 a7) := by
    have h1 := HVB.out
    rw [HTE.out] at h1
    refine ⟨?_, ?_, ?_, ?_, ?_, ?_, ?_, ?_⟩ <;> (rw [blk_cell h1]; rfl)
  have hvl := (Array.getElem?_eq_some_iff.1 HVB.out).1
  have HIM3 := Lib.hid him
  have HO := Lib.hid (order_any vb mp l D t (W3.alloc (.cells #[.int .i64 a0, .int .i64 a1, .int .i64 a2, .int .i64 a3, .int .i64 a4, .int .i64 a5, .int .i64 a6, .int .i64 a7] 66)) (by rw [blk_cell (blk_below HVB.out (below_al _ _) hvl), HTE.out]; rfl) (him.below (below_al _ _) him.lt) HPS.out HR.out)
  have HLA : Hid ((W3.alloc (.cells #[.int .i64 a0, .int .i64 a1, .int .i64 a2, .int .i64 a3, .int .i64 a4, .int .i64 a5, .int .i64 a6, .int .i64 a7] 66)).heap[W3.heap.size]? = some (.cells (iv .i64 t).toArray 66 (0, 0))) := Lib.hid (by rw [HTE.out]; exact blk11 W3 _)
  clear him
  go_upto_region 4 with (fail)
  clear e0 e1 e2 e3 e4 e5 e6 e7
  have HBA := Lib.hid (below_al W3 (.cells #[.int .i64 a0, .int .i64 a1, .int .i64 a2, .int .i64 a3, .int .i64 a4, .int .i64 a5, .int .i64 a6, .int .i64 a7] 66))
  have hsA : (W3.alloc (.cells #[.int .i64 a0, .int .i64 a1, .int .i64 a2, .int .i64 a3, .int .i64 a4, .int .i64 a5, .int .i64 a6, .int .i64 a7] 66)).heap.size = W3.heap.size + 1 := by simp
  have HSA := Lib.hid hsA
  clear hsA
  generalize W3.alloc (.cells #[.int .i64 a0, .int .i64 a1, .int .i64 a2, .int .i64 a3, .int .i64 a4, .int .i64 a5, .int .i64 a6, .int .i64 a7] 66) = W4 at *
  go_wp2_with (go_at_call 43; refine HO.out.mono ?_; rintro e w5 ⟨A2, c5, rfl, hown, hB⟩; have HOW := Lib.hid hown; have HB5 := Lib.hid hB; clear hown hB)
  have HBF : Hid (Below W3.heap.size W3 w5) := Lib.hid (HBA.out.trans (HB5.out.mono (by have := HSA.out; omega)))
  have hlb3 := HS4.out
  have HP3 := Lib.hid (blk_below R3.out HBF.out (by omega))
  have HP4 := Lib.hid (blk_below R4.out HBF.out (by omega))
  have HP5 := Lib.hid (blk_below R5.out HBF.out (by omega))
  have HLB := Lib.hid (blk_below HLA.out HB5.out (by have := HSA.out; omega))
  have HW5 := Lib.hid (HWR4.out.below HBF.out)
  have hg5 : g < w5.heap.size := HW5.out.lt
  have HVB5 := Lib.hid (blk_below HVB.out HBF.out hvl)
  have HIM5 := Lib.hid (HIM3.out.below HBF.out HIM3.out.lt)
  have h0e := keep_cell h0d HBF.out
  have c2e := keep_cell c2d HBF.out
  have HB05 := Lib.hid (HB04.out.trans (HBF.out.mono (by have := HB04.out.size; omega)))
  have HF5 : Hid (Fr (fun x => x = b3) w w5) := Lib.hid (HF4.out.trans (fr_of_below HBF.out _))
  have hs5 := HBF.out.size
  have hsl : W3.heap.size < w5.heap.size := by have := HSA.out; have := HB5.out.size; omega
  have HOW5 : Hid (w5.ownsRow (W3.heap.size + 1) 3 1 (.slice A2 (plL D t).length c5) (plL D t).length (iv .i64 (plL D t))) := Lib.hid (by have := HOW.out; rwa [HSA.out] at this)
  have hmpl := HIM3.out.lt
  have HLR : Hid (∀ x, x = b4 ∨ x = W3.heap.size ∨ rowsOf gs x → w0.heap.size ≤ x ∧ x < W3.heap.size + 1 ∧ (x = b4 ∨ w2.heap.size ≤ x)) := Lib.hid fun x hx => by
    have h1 := HB0.out.size
    rcases hx with rfl | rfl | hx
    · omega
    · omega
    · have := HRL.out x hx; omega
  have hlg : W3.heap.size ≠ g := by omega
  have HLN : Hid (¬ rowsOf gs W3.heap.size) := Lib.hid fun h => by have := (HRL.out _ h).2; omega
  clear hlb3 HBA HSA HO R3 R4 R5 HLA HWR4 HVB h0d c2d HB5 HBF HOW HB04 HIM3 HF4
  generalize W3.heap.size = lb at *
  go_loopw [9, 10, 11, 37] (fun _ _ _ v wr => ∃ (j n4 c4 : Nat) (A4 : Option Addr), j ≤ (plL D t).length ∧ v = .int .i64 j ∧ Hid (n4 = (cutA D t k j).free.length) ∧ Hid (wr.heap[b4]? = some (.cells #[.slice A4 n4 c4] 23 (0, 0))) ∧ Hid (wr.ownsRow w5.heap.size 3 1 (.slice A4 n4 c4) n4 (iv .i64 (cutA D t k j).free)) ∧ Hid (wr.heap[lb]? = some (.cells (iv .i64 (cutA D t k j).l).toArray 66 (0, 0))) ∧ Hid (Wr w2.heap.size wr g n c' (cutA D t k j).out gs) ∧ Hid (Fr (fun x => x = b4 ∨ x = lb ∨ rowsOf gs x) w5 wr)) (fun _ _ _ v _ => (plL D t).length - (Go.RowKit.intOf v).toNat)
  case atStart => exact ⟨0, 0, 0, none, by omega, rfl, Lib.hid rfl, HP4, World.ownsRow_nil _ _ _ _, HLB, HW5, Fr.refl _ _⟩
  case round =>
    obtain ⟨j, n4, c4, A4, hj, rfl, HN4, H4r, HOr, HLr, HWr, HFr⟩ := hrel
    have hsr := HFr.out.size
    by_cases hlt : j < (plL D t).length
    · have hjn : j < (plN D t).length := by rw [plN_len]; exact hlt
      have HG : Hid ((plL D t)[j]? = some (((plN D t).getD j 0 : Nat) : Int)) := Lib.hid (map_get _ 0 _ j hjn)
      have HS1 : Hid (cutA D t k (j + 1) = stepA D t k (cutA D t k j) ((plN D t).getD j 0)) := Lib.hid (cutA_succ hjn)
      have HSZ := Lib.hid (cutA_size (D := D) (t := t) (k := k) j (Nat.le_of_lt hjn))
      have HKM := Lib.hid (mem_plN.1 (getD_mem 0 _ j hjn))
      have hown := own_same HOW5.out (fun i hi => HFr.out.block i (HOW5.out.lt i hi).2 (fun e => by have := (HLR.out i e).2.1; have := (HOW5.out.lt i hi).1; omega))
      obtain ⟨A', c'', e, _, hrr⟩ := rd_own hown
      cases e
      obtain ⟨g2, o2, rfl, hg2, hc2⟩ := hrr.form (by rw [iv_length]; omega)
      have hcj := hc2 j (by rw [iv_length]; exact hlt)
      rw [iv_at, show (plL D t)[j]'hlt = (((plN D t).getD j 0 : Nat) : Int) from Option.some.inj ((List.getElem?_eq_getElem hlt).symm.trans HG.out)] at hcj
      have hl2 := hrr.le
      have hl3 := hrr.cap
      generalize (plN D t).getD j 0 = p at *
      have c2r : wr.cell? ⟨b2, 0, none⟩ = some (.int .i64 (k : Int)) := (World.cell?_of_block (a := ⟨b2, 0, none⟩) (HFr.out.block b2 (by omega) (fun h => by have := (HLR.out b2 h).2; omega))).trans c2e
      have h96 := H96.out
      have hpp := HKM.out.1
      clear hown hrr hc2
      by_cases hpk : p < k
      · have hpi : ((p : Int) < (k : Int)) := by omega
        have HS2 : Hid (cutA D t k (j + 1) = cutA D t k j) := Lib.hid (by rw [HS1.out, stepA, if_pos hpk])
        go_wp2
        exact ⟨⟨j + 1, n4, c4, A4, by omega, by go_num, HS2.out ▸ HN4, H4r, HS2.out ▸ HOr, HS2.out ▸ HLr, HS2.out ▸ HWr, HFr⟩, by simp [Go.RowKit.intOf]; omega⟩
      · have hpi : ¬ ((p : Int) < (k : Int)) := by omega
        have HS2 : Hid (cutA D t k (j + 1) = ⟨clrD D t (cutA D t k j).out p, clrT (cutA D t k j).l p, (cutA D t k j).free ++ [atK D t p]⟩) := Lib.hid (by rw [HS1.out, stepA, if_neg hpk])
        have HAT : Hid ((Sel.look l (p : Int)).getD (.int .i64 0) = .int .i64 (atK D t p)) := Lib.hid (HPS.out.at_ HKM.out.1)
        have hvn : ¬ (vb = b4 ∨ vb = lb ∨ rowsOf gs vb) := fun h => by have := (HLR.out vb h).2.2; omega
        have hmn : ¬ (mp = b4 ∨ mp = lb ∨ rowsOf gs mp) := fun h => by have := (HLR.out mp h).2.2; omega
        have HVr := Lib.hid ((HFr.out.block vb (by omega) hvn).trans HVB5.out)
        have c9r : wr.cell? ⟨vb, 9, none⟩ = some (.map (some mp)) := by rw [blk_cell HVr.out, HTE.out]; rfl
        have HMr := Lib.hid (imap_at HIM5.out (HFr.out.block mp HIM5.out.lt hmn))
        have HVN := Lib.hid hvn
        have HMN := Lib.hid hmn
        have r4 := blk_cell H4r.out 0
        simp only [List.getElem?_toArray, List.getElem?_cons_zero] at r4
        have z4 := blk_free H4r.out 0
        clear hvn hmn
        generalize hak : atK D t p = ak at *
        have HAK := Lib.hid hak
        have hlkA : Hid (∀ W', IMap W' mp l → (Instr.lookup 80 (.map (some mp)) (.int .i64 (p : Int)) false).run Try.prog W' = .ok (.int .i64 ak) W') := Lib.hid fun W' h => by rw [h.lookup (P := Try.prog) Try.underlying80 Try.underlying3 (zeroI W') (p : Int), HAT.out]
        clear hak
        go_upto_region 8 with (fail)
        have HS : At (fun w' : World => w'.cell? ⟨b4, 0, none⟩ = some (.slice A4 n4 c4) ∧ w'.cell? ⟨vb, 9, none⟩ = some (.map (some mp)) ∧ (Instr.lookup 80 (.map (some mp)) (.int .i64 (p : Int)) false).run Try.prog w' = .ok (.int .i64 ak) w') wr.drew := ⟨r4, c9r, hlkA.out _ (imap_at (w' := wr.drew) HMr.out rfl)⟩
        have HMd : Hid (IMap wr.drew mp l) := Lib.hid (imap_at (w' := wr.drew) HMr.out rfl)
        have HORd : Hid (wr.drew.ownsRow w5.heap.size 3 1 (.slice A4 n4 c4) n4 (iv .i64 (cutA D t k j).free)) := Lib.hid (own_below HOr.out (Sel.below_drewN wr 1) (Nat.le_refl _))
        have H4d : Hid (wr.drew.heap[b4]? = some (.cells #[.slice A4 n4 c4] 23 (0, 0))) := H4r
        have HLd : Hid (wr.drew.heap[lb]? = some (.cells (iv .i64 (cutA D t k j).l).toArray 66 (0, 0))) := HLr
        have HWd : Hid (Wr w2.heap.size wr.drew g n c' (cutA D t k j).out gs) := Lib.hid (HWr.out.same rfl fun _ _ => rfl)
        have HFd : Hid (Fr (fun x => x = b4 ∨ x = lb ∨ rowsOf gs x) w5 wr.drew) := Lib.hid (HFr.out.drewN 1)
        have hn4 : n4 ≤ 96 := by have := HN4.out; have := HSZ.out.2.2; omega
        clear r4 z4 c9r H4r HOr HFr HLr HWr HMr HVr hcj c2r
        refine wp_region_lexD HS [0, 1, 2, 3, 4, 5, 6] (by kernel_rfl) (by kernel_rfl) (fun _ _ d _ _ h => by cases d <;> exact h) ?_
        generalize wr.drew = Wd at *
        repeat (refine lexD_take (by decide) (by kernel_rfl) HS (fun w9 h9 => by obtain ⟨s0, s1, s2⟩ := h9; go_simp; first | done | rfl) (fun K hK => ?_); go_simp; refine hK _ ?_; clear hK K)
        have hsd := HFd.out.size
        refine lexD_do (by kernel_rfl) (by kernel_rfl) (fun K hK => ?_)
        go_simp
        refine hK _ _ (fun _ => ⟨keep_cell HS.1 (below_al _ _), keep_cell HS.2.1 (below_al _ _), hlkA.out _ (HMd.out.below (below_al _ _) HMd.out.lt)⟩) ?_
        have HS9 := HS
        clear hK K HS
        refine lexD_do (by kernel_rfl) (by kernel_rfl) (fun K hK => ?_)
        refine oper_push (ops := #[]) Wd rfl _ _ 23 3 rfl w5.heap.size (.int .i64 0) 8 Try.underlying23 infoInt8 rfl (by omega) (.slice A4 n4 c4) n4 _ (.int .i64 ak) rfl rfl rfl HORd.out hsd (by omega) rfl ?_
        intro g6 cap W6 ho hg hat hlt6
        have hlow6 := own_row HORd.out
        have hall : ∀ i, i < w5.heap.size → W6.heap[i]? = Wd.heap[i]? := fun i hi => hg.block i (by omega) (fun e => by have := hlow6 i e.symm; omega)
        have hk4 : W6.heap[b4]? = _ := (hall b4 (by omega)).trans H4d.out
        have r4 := blk_cell hk4 0
        simp only [List.getElem?_toArray, List.getElem?_cons_zero] at r4
        have z6 := blk_free hk4 0
        refine hK _ _ (fun _ => ⟨r4, (World.cell?_of_block (a := ⟨vb, 9, none⟩) (hall vb (by omega))).trans HS9.2.1, hlkA.out _ (imap_at HMd.out (hall mp (by omega)))⟩) ?_
        clear hK K HS9
        have HK4 := Lib.hid hk4
        have HO6 := Lib.hid ho
        have HL6 := Lib.hid ((hall lb (by omega)).trans HLd.out)
        have HW6 := Lib.hid (HWd.out.same (hall g (by omega)) fun b hb => hall b (by have := (HLR.out b (.inr (.inr hb))).2.1; omega))
        have HF6 : Hid (Fr (fun x => x = b4 ∨ x = lb ∨ rowsOf gs x) w5 W6) := Lib.hid ⟨hg.os.trans HFd.out.os, hg.tape.trans HFd.out.tape, hg.output.trans HFd.out.output, Nat.le_trans hsd hg.size, fun i hi hs => (hall i hi).trans (HFd.out.block i hi hs)⟩
        clear ho hk4 hall HLd HWd HFd H4d HORd HMd hlow6
        refine lexD_late (by kernel_rfl) (by kernel_rfl) (fun K hK => ?_)
        go_simp
        refine hK _ _ ?_
        clear hK K
        refine lexD_nil ?_
        have hfa : ∀ i, i ≠ b4 → (W6.setCell ⟨b4, 0, none⟩ (.slice (some ⟨g6, 0, none⟩) (n4 + 1) cap)).heap[i]? = W6.heap[i]? := fun i hi => Below.heap_setCell _ _ _ _ hi
        have HP7 : Hid ((W6.setCell ⟨b4, 0, none⟩ (.slice (some ⟨g6, 0, none⟩) (n4 + 1) cap)).heap[b4]? = some (.cells #[.slice (some ⟨g6, 0, none⟩) (n4 + 1) cap] 23 (0, 0))) := Lib.hid (blk_set HK4.out 0 _)
        have HO7 : Hid ((W6.setCell ⟨b4, 0, none⟩ (.slice (some ⟨g6, 0, none⟩) (n4 + 1) cap)).ownsRow w5.heap.size 3 1 (.slice (some ⟨g6, 0, none⟩) (n4 + 1) cap) (n4 + 1) (iv .i64 ((cutA D t k j).free ++ [ak]))) := Lib.hid (by
          have := own_setCell HO6.out (p := ⟨b4, 0, none⟩) (by simp only; omega) (.slice (some ⟨g6, 0, none⟩) (n4 + 1) cap)
          simpa [iv] using this)
        have HL7 : Hid ((W6.setCell ⟨b4, 0, none⟩ (.slice (some ⟨g6, 0, none⟩) (n4 + 1) cap)).heap[lb]? = _) := Lib.hid ((hfa lb (by omega)).trans HL6.out)
        have HW7 := Lib.hid (HW6.out.same (hfa g (by omega)) fun b hb => hfa b (by have := (HRL.out b hb).1; omega))
        have HF7 : Hid (Fr (fun x => x = b4 ∨ x = lb ∨ rowsOf gs x) w5 (W6.setCell ⟨b4, 0, none⟩ (.slice (some ⟨g6, 0, none⟩) (n4 + 1) cap))) := Lib.hid (Fr.setCell (S := fun x => x = b4 ∨ x = lb ∨ rowsOf gs x) HF6.out (p := ⟨b4, 0, none⟩) (.inl (.inl rfl)) _)
        have hs7 := HF7.out.size
        clear hfa HK4 HO6 HL6 HW6 HF6 r4 z6
        generalize W6.setCell ⟨b4, 0, none⟩ (.slice (some ⟨g6, 0, none⟩) (n4 + 1) cap) = W7 at *
        have HWAY := Lib.hid (Way_ok (p : Int) ⟨by omega, by omega⟩ W7)
        go_upto_region 10 with (go_at_call 9; refine HWAY.out.mono ?_; rintro e W8 ⟨⟨Aw, cw, rfl, hrw⟩, hB8⟩; have HB8 := Lib.hid hB8; have HRW := Lib.hid hrw; clear hB8 hrw)
        clear HWAY
        have HP8 := Lib.hid (blk_below HP7.out HB8.out (by omega))
        have HO8 := Lib.hid (own_below HO7.out HB8.out (Nat.le_refl _))
        have HL8 := Lib.hid (blk_below HL7.out HB8.out (by omega))
        have HW8 := Lib.hid (HW7.out.below HB8.out)
        have HF8 : Hid (Fr (fun x => x = b4 ∨ x = lb ∨ rowsOf gs x) w5 W8) := Lib.hid (HF7.out.trans (fr_of_below HB8.out _))
        have HV8 := Lib.hid ((HF8.out.block vb (by omega) HVN.out).trans HVB5.out)
        have r3 : W8.cell? ⟨b3, 0, none⟩ = some (.slice (some ⟨g, 0, none⟩) n c') := by
          rw [World.cell?_of_block (a := ⟨b3, 0, none⟩) (HF8.out.block b3 (by omega) fun h => by have := (HLR.out b3 h).2.2; omega), blk_cell HP3.out]
          rfl
        have HCL := Lib.hid (clear_any vb lb g n c' c A D t (cutA D t k j).l (cutA D t k j).out gs w2.heap.size p Aw cw 66 W8 hpp (HAK.out ▸ HKM.out.2) HR.out HT8.out (HSZ.out.2.1.trans HT8.out) (by rw [blk_cell HV8.out]; rfl) (fun i hi => by
          rw [blk_cell HV8.out]
          simp only [vcells, List.getElem?_toArray, List.getElem?_cons_succ]
          have h8 : i < t.length := by have := HT8.out; omega
          rw [List.getElem?_append_left (by simpa using h8), iv, List.getElem?_map, List.getElem?_eq_getElem h8]
          simp [tp, h8]) (HD0.out.below (HB05.out.trans (HF8.out.below HB05.out.size (fun x hx => (HLR.out x hx).1)))) HL8.out HW8.out HRW.out hlg HLN.out)
        have hb48 := (Array.getElem?_eq_some_iff.1 HP8.out).1
        have hsz8 := HF8.out.size
        clear HB8 HRW HP7 HO7 HL7 HW7 HF7 HV8 HW8 HL8
        go_upto_region 11 with (go_at_call 50; (with_reducible refine HCL.out.mono ?_); rintro e W9 ⟨rfl, hL, hW, hF⟩; have HL9 := Lib.hid hL; have HW9 := Lib.hid hW; have HF9 := Lib.hid hF; clear hL hW hF)
        have HN9 : Hid (¬ (b4 = lb ∨ rowsOf gs b4)) := Lib.hid fun h => by
          rcases h with h | h
          · omega
          · have := (HRL.out b4 h).1; omega
        have HP9 := Lib.hid ((HF9.out.block b4 hb48 HN9.out).trans HP8.out)
        have HO9 := Lib.hid (own_same HO8.out (fun i hi => HF9.out.block i (HO8.out.lt i hi).2 (fun e => by have := (HLR.out i (.inr e)).2.1; have := (HO8.out.lt i hi).1; omega)))
        have HF10 : Hid (Fr (fun x => x = b4 ∨ x = lb ∨ rowsOf gs x) w5 W9) := Lib.hid (HF8.out.trans (HF9.out.mono fun i _ h => .inr h))
        have HN10 : Hid (n4 + 1 = (cutA D t k (j + 1)).free.length) := Lib.hid (by rw [HS2.out, HN4.out]; simp)
        have HO10 : Hid (W9.ownsRow w5.heap.size 3 1 (.slice (some ⟨g6, 0, none⟩) (n4 + 1) cap) (n4 + 1) (iv .i64 (cutA D t k (j + 1)).free)) := Lib.hid (by rw [HS2.out]; simp only [HAK.out]; exact HO9.out)
        have HL10 : Hid (W9.heap[lb]? = some (.cells (iv .i64 (cutA D t k (j + 1)).l).toArray 66 (0, 0))) := Lib.hid (by rw [HS2.out]; exact HL9.out)
        have HW10 : Hid (Wr w2.heap.size W9 g n c' (cutA D t k (j + 1)).out gs) := Lib.hid (by rw [HS2.out]; exact HW9.out)
        go_wp2
        exact ⟨⟨j + 1, n4 + 1, cap, some ⟨g6, 0, none⟩, by omega, by go_num, HN10, HP9, HO10, HL10, HW10, HF10⟩, by simp [Go.RowKit.intOf]; omega⟩
    · obtain rfl : j = (plL D t).length := by omega
      have HLE : Hid ((plL D t).length = (plN D t).length) := Lib.hid (plN_len D t).symm
      have HSZ := Lib.hid (cutA_size (D := D) (t := t) (k := k) (plL D t).length (Nat.le_of_eq HLE.out))
      have HIB := Lib.hid (cutA_inB (k := k) HR.out HT8.out _ (Nat.le_of_eq HLE.out))
      have H7 := Lib.hid ((cutA_tp (k := k) (D := D) (t := t) (plL D t).length (Nat.le_of_eq HLE.out) 7).1 (by omega))
      have hce := cutL_eq D t k
      rw [← HLE.out] at hce
      have HCE := Lib.hid hce
      have hn4 : n4 ≤ 96 := by have := HN4.out; have := HSZ.out.2.2; have := H96.out; omega
      have h0r : wr.cell? ⟨b0, 0, none⟩ = some (.slice A n c) := (World.cell?_of_block (a := ⟨b0, 0, none⟩) (HFr.out.block b0 (by omega) (fun h => by have := HLR.out b0 h; omega))).trans h0e
      have HDN := Lib.hid HD0.out.len
      clear hce hlt hj
      generalize cutA D t k (plL D t).length = s at *
      obtain ⟨x0, x1, x2, x3, x4, x5, x6, x7, hsx⟩ := len8 (HSZ.out.2.1.trans HT8.out)
      have HSX := Lib.hid hsx
      have hx7 : tp s.l 7 = x7 := by rw [hsx]; rfl
      have H7X := Lib.hid hx7
      have HCE := HCE.out
      rw [hx7] at HCE
      have HCE := Lib.hid HCE
      have hi7 := HIB.out 7
      rw [hx7] at hi7
      have hlr := HLr.out
      rw [hsx] at hlr
      obtain ⟨q0, q1, q2, q3, q4, q5, q6, q7⟩ := big8 hlr
      clear hsx hx7 hlr q0 q1 q2 q3 q4 q5
      by_cases h7 : x7 = 0
      case pos =>
        subst h7
        have HCE2 : Hid (cutL D t k = cutCj s 2) := Lib.hid (by rw [HCE.out, if_pos rfl])
        have HIS := Lib.hid HIB.out
        have HLS : Hid (s.l.length = 8) := Lib.hid (by rw [HSX.out]; rfl)
        clear HCE
        go_wp2
        go_loopw [16, 17, 99] (fun _ _ v wr3 => ∃ (i n6 c7 : Nat) (A7 : Option Addr), i ≤ 2 ∧ v = .int .i64 i ∧ Hid (n6 = (cutCj s i).free.length) ∧ Hid (wr3.heap[b4]? = some (.cells #[.slice A7 n6 c7] 23 (0, 0))) ∧ Hid (wr3.ownsRow w5.heap.size 3 1 (.slice A7 n6 c7) n6 (iv .i64 (cutCj s i).free)) ∧ Hid (wr3.heap[lb]? = some (.cells (iv .i64 (cutCj s i).l).toArray 66 (0, 0))) ∧ Hid (Wr w2.heap.size wr3 g n c' (cutCj s i).out gs) ∧ Hid (Fr (fun x => x = b4 ∨ x = lb ∨ rowsOf gs x) w5 wr3)) (fun _ _ v _ => 2 - (Go.RowKit.intOf v).toNat)
        case atStart => exact ⟨0, n4, _, _, by omega, rfl, HN4, H4r, HOr, HLr, HWr, HFr⟩
        case round =>
          obtain ⟨i, n6, c7, A7, hi, rfl, HN6, H4c, HOc, HLc, HWc, HFc⟩ := hrel
          by_cases hlt : i < 2
          · rcases (by omega : i = 0 ∨ i = 1) with rfl | rfl
            · have HSU := Lib.hid (cutCj_succ s (j := 0) (by omega))
              have HSZc := Lib.hid (cutCj_size HIS.out 0 (by omega))
              have hsr2 := HFc.out.size
              have hidx := fun w : World => (by kernel_rfl : (Instr.index 96 (.agg #[.int .i64 6, .int .i64 7]) (.int .i64 0)).run Try.prog w = .ok (.int .i64 6) w)
              have hn6 : n6 ≤ 140 := by have := HN6.out; have := HSZc.out.2.2.2; have := HN4.out; omega
              have hlc := HSZc.out.2.1.trans HLS.out
              generalize cutCj s 0 = sc at *
              obtain ⟨y0, y1, y2, y3, y4, y5, y6, y7, hsy⟩ := len8 hlc
              have hyq : tp sc.l 6 = y6 := by rw [hsy]; rfl
              have hib := HSZc.out.1 6
              rw [hyq] at hib
              have HYQ := Lib.hid hyq
              have HLy := Lib.hid HLc.out
              have hlr := HLc.out
              rw [hsy] at hlr
              obtain ⟨q0, q1, q2, q3, q4, q5, q6, q7⟩ := big8 hlr
              clear hsy hlr hyq hlc q0 q1 q2 q3 q4 q5 q7
              have hnn := HDN.out
              by_cases hy0 : y6 = 0
              · have HS2 : Hid (cutCj s (0 + 1) = sc) := Lib.hid (by rw [HSU.out, Go.Sel.Bg.stepC, if_neg (fun h => h.1 (HYQ.out.trans hy0))])
                subst hy0
                go_wp2
                exact ⟨⟨0 + 1, n6, c7, A7, by omega, by first | rfl | go_num, HS2.out.symm ▸ HN6, H4c, HS2.out.symm ▸ HOc, HS2.out.symm ▸ HLc, HS2.out.symm ▸ HWc, HFc⟩, by simp [Go.RowKit.intOf]⟩
              · obtain ⟨vn, rfl⟩ : ∃ vn : Nat, y6 = (vn : Int) := ⟨y6.toNat, by omega⟩
                have hvn : vn < n := by omega
                have hv0 : (0 : Int) ≤ (vn : Int) := by omega
                have hv1 : (vn : Int) < (n : Int) := by omega
                have hvne : ((vn : Int) != 0) = true := by simpa using hy0
                have hvg : vn < gs.length := by rw [HWc.out.glen]; exact hvn
                have hwle := HWc.out.le
                have hwcap := HWc.out.cap
                obtain ⟨hoc, hof⟩ := HWc.out.cell hvg
                have HBL := Lib.hid (blankP_any (some ⟨gs[vn].1, 0, none⟩) 32 gs[vn].2 (nth sc.out vn) wr (HWc.out.row vn hvg).rd (by obtain ⟨_, _, _, _, _, _, _, h, _⟩ := HWc.out.row vn hvg; exact h))
                have b3r : wr.cell? ⟨b3, 0, none⟩ = some (.slice (some ⟨g, 0, none⟩) n c') := by
                  rw [World.cell?_of_block (a := ⟨b3, 0, none⟩) (HFc.out.block b3 (by omega) fun h => by have := (HLR.out b3 h).2.2; omega), blk_cell HP3.out]
                  rfl
                have r4 := blk_cell H4c.out 0
                simp only [List.getElem?_toArray, List.getElem?_cons_zero] at r4
                generalize gs[vn] = gc at *
                obtain ⟨rv, rcv⟩ := gc
                simp only at hoc
                cases hbb : blankB (nth sc.out vn) with
                | false =>
                  rw [hbb] at HBL
                  have HS2 : Hid (cutCj s (0 + 1) = sc) := Lib.hid (by rw [HSU.out, Go.Sel.Bg.stepC, if_neg (fun h => by rw [HYQ.out, Int.toNat_natCast, hbb] at h; simp at h)])
                  clear hbb
                  go_upto_region 28 with (go_at_call 51; refine HBL.out.mono ?_; rintro e W6 ⟨rfl, hx⟩; have hx := hx.symm; subst hx)
                  go_wp2
                  exact ⟨⟨0 + 1, n6, c7, A7, by omega, by first | rfl | go_num, HS2.out.symm ▸ HN6, H4c, HS2.out.symm ▸ HOc, HS2.out.symm ▸ HLc, HS2.out.symm ▸ HWc, HFc⟩, by simp [Go.RowKit.intOf]⟩
                | true =>
                  rw [hbb] at HBL
                  have HS2 : Hid (cutCj s (0 + 1) = ⟨sc.out, sc.l.set 6 0, sc.free ++ [(vn : Int)]⟩) := Lib.hid (by rw [HSU.out, Go.Sel.Bg.stepC, if_pos ⟨by rw [HYQ.out]; exact hy0, by rw [HYQ.out, Int.toNat_natCast, hbb]⟩, HYQ.out])
                  clear hbb
                  go_upto_region 26 with (go_at_call 51; refine HBL.out.mono ?_; rintro e W6 ⟨rfl, hx⟩; have hx := hx.symm; subst hx)
                  clear hoc hof b3r HBL
                  have hlow6 := own_row HOc.out
                  go_upto_region 27 with (at_builtin; refine wpList_push wr rfl _ _ 23 3 rfl w5.heap.size (.int .i64 0) 8 Try.underlying23 infoInt8 rfl (by omega) (.slice A7 n6 c7) n6 _ (.int .i64 (vn : Int)) rfl rfl rfl HOc.out hsr2 (by omega) rfl ?_; intro g6 cap W6 ho hg hat hlt6; have hall : Hid (∀ i, i < w5.heap.size → W6.heap[i]? = wr.heap[i]?) := Lib.hid (fun i hi => hg.block i (by omega) (fun e => by have := hlow6 i e.symm; omega)); have HK4 : Hid (W6.heap[b4]? = _) := Lib.hid ((hall.out b4 (by omega)).trans H4c.out); have r46 := blk_cell HK4.out 0; simp only [List.getElem?_toArray, List.getElem?_cons_zero] at r46; have z6 := blk_free HK4.out 0; have HO6 := Lib.hid ho; have HG6 := Lib.hid hg; clear ho hg hat)
                  have HL6 := Lib.hid ((hall.out lb (by omega)).trans HLy.out)
                  have HW6 := Lib.hid (HWc.out.same (hall.out g (by omega)) fun b hb => hall.out b (by have := (HLR.out b (.inr (.inr hb))).2.1; omega))
                  have HF6 : Hid (Fr (fun x => x = b4 ∨ x = lb ∨ rowsOf gs x) w5 W6) := Lib.hid ⟨HG6.out.os.trans HFc.out.os, HG6.out.tape.trans HFc.out.tape, HG6.out.output.trans HFc.out.output, Nat.le_trans hsr2 HG6.out.size, fun i hi hs => (hall.out i hi).trans (HFc.out.block i hi hs)⟩
                  have hfa : ∀ i, i ≠ b4 → (W6.setCell ⟨b4, 0, none⟩ (.slice (some ⟨g6, 0, none⟩) (n6 + 1) cap)).heap[i]? = W6.heap[i]? := fun i hi => Below.heap_setCell _ _ _ _ hi
                  have HP7 : Hid ((W6.setCell ⟨b4, 0, none⟩ (.slice (some ⟨g6, 0, none⟩) (n6 + 1) cap)).heap[b4]? = some (.cells #[.slice (some ⟨g6, 0, none⟩) (n6 + 1) cap] 23 (0, 0))) := Lib.hid (blk_set HK4.out 0 _)
                  have HO7 : Hid ((W6.setCell ⟨b4, 0, none⟩ (.slice (some ⟨g6, 0, none⟩) (n6 + 1) cap)).ownsRow w5.heap.size 3 1 (.slice (some ⟨g6, 0, none⟩) (n6 + 1) cap) (n6 + 1) (iv .i64 (sc.free ++ [(vn : Int)]))) := Lib.hid (by
                    have := own_setCell HO6.out (p := ⟨b4, 0, none⟩) (by simp only; omega) (.slice (some ⟨g6, 0, none⟩) (n6 + 1) cap)
                    simpa [iv] using this)
                  have HL7 : Hid ((W6.setCell ⟨b4, 0, none⟩ (.slice (some ⟨g6, 0, none⟩) (n6 + 1) cap)).heap[lb]? = _) := Lib.hid ((hfa lb (by omega)).trans HL6.out)
                  have HW7 := Lib.hid (HW6.out.same (hfa g (by omega)) fun b hb => hfa b (by have := (HRL.out b hb).1; omega))
                  have HF7 : Hid (Fr (fun x => x = b4 ∨ x = lb ∨ rowsOf gs x) w5 (W6.setCell ⟨b4, 0, none⟩ (.slice (some ⟨g6, 0, none⟩) (n6 + 1) cap))) := Lib.hid (Fr.setCell (S := fun x => x = b4 ∨ x = lb ∨ rowsOf gs x) HF6.out (p := ⟨b4, 0, none⟩) (.inl (.inl rfl)) _)
                  clear hfa HK4 HO6 HL6 HW6 HF6 r46 z6 hall HG6 hlow6 q6
                  generalize W6.setCell ⟨b4, 0, none⟩ (.slice (some ⟨g6, 0, none⟩) (n6 + 1) cap) = W7 at *
                  have hs7 := HF7.out.size
                  have qs : W7.cell? ⟨lb, 6, none⟩ = some (.int .i64 (vn : Int)) := by
                    rw [blk_cell HL7.out, List.getElem?_toArray, iv, List.getElem?_map, List.getElem?_eq_getElem (by rw [HSZc.out.2.1, HLS.out]; omega)]
                    have := HYQ.out
                    rw [tp, List.getD_eq_getElem?_getD, List.getElem?_eq_getElem (by rw [HSZc.out.2.1, HLS.out]; omega)] at this
                    simpa using this
                  have zs := blk_free HL7.out 6
                  go_upto_region 28 with (fail)
                  have hlb3 := HS4.out
                  have hfa : ∀ j, j ≠ lb → (W7.setCell ⟨lb, 6, none⟩ (.int .i64 0)).heap[j]? = W7.heap[j]? := fun j hj => Below.heap_setCell _ _ _ _ hj
                  have HP8 : Hid ((W7.setCell ⟨lb, 6, none⟩ (.int .i64 0)).heap[b4]? = some (.cells #[.slice (some ⟨g6, 0, none⟩) (n6 + 1) cap] 23 (0, 0))) := Lib.hid ((hfa b4 (by omega)).trans HP7.out)
                  have HO8 : Hid ((W7.setCell ⟨lb, 6, none⟩ (.int .i64 0)).ownsRow w5.heap.size 3 1 (.slice (some ⟨g6, 0, none⟩) (n6 + 1) cap) (n6 + 1) (iv .i64 (cutCj s (0 + 1)).free)) := Lib.hid (by rw [HS2.out]; exact own_same HO7.out (fun j hj => hfa j (by have := (HO7.out.lt j hj).1; omega)))
                  have HL8 : Hid ((W7.setCell ⟨lb, 6, none⟩ (.int .i64 0)).heap[lb]? = some (.cells (iv .i64 (cutCj s (0 + 1)).l).toArray 66 (0, 0))) := Lib.hid (by
                    rw [HS2.out]
                    have := blk_set HL7.out 6 (.int .i64 0)
                    rw [this]
                    simp [iv, List.map_set])
                  have HW8 : Hid (Wr w2.heap.size (W7.setCell ⟨lb, 6, none⟩ (.int .i64 0)) g n c' (cutCj s (0 + 1)).out gs) := Lib.hid (by rw [HS2.out]; exact HW7.out.same (hfa g (by omega)) fun b hb => hfa b (by have := (HRL.out b hb).2; omega))
                  have HF8 : Hid (Fr (fun x => x = b4 ∨ x = lb ∨ rowsOf gs x) w5 (W7.setCell ⟨lb, 6, none⟩ (.int .i64 0))) := Lib.hid (Fr.setCell (S := fun x => x = b4 ∨ x = lb ∨ rowsOf gs x) HF7.out (p := ⟨lb, 6, none⟩) (.inl (.inr (.inl rfl))) _)
                  have HN8 : Hid (n6 + 1 = (cutCj s (0 + 1)).free.length) := Lib.hid (by rw [HS2.out, HN6.out]; simp)
                  clear hfa qs zs hlb3
                  generalize W7.setCell ⟨lb, 6, none⟩ (.int .i64 0) = W8 at *
                  go_wp2
                  exact ⟨⟨0 + 1, n6 + 1, cap, some ⟨g6, 0, none⟩, by omega, by first | rfl | go_num, HN8, HP8, HO8, HL8, HW8, HF8⟩, by simp [Go.RowKit.intOf]⟩
            · have HSU := Lib.hid (cutCj_succ s (j := 1) (by omega))
              have HSZc := Lib.hid (cutCj_size HIS.out 1 (by omega))
              have hsr2 := HFc.out.size
              have hidx := fun w : World => (by kernel_rfl : (Instr.index 96 (.agg #[.int .i64 6, .int .i64 7]) (.int .i64 1)).run Try.prog w = .ok (.int .i64 7) w)
              have hn6 : n6 ≤ 140 := by have := HN6.out; have := HSZc.out.2.2.2; have := HN4.out; omega
              have hlc := HSZc.out.2.1.trans HLS.out
              generalize cutCj s 1 = sc at *
              obtain ⟨y0, y1, y2, y3, y4, y5, y6, y7, hsy⟩ := len8 hlc
              have hyq : tp sc.l 7 = y7 := by rw [hsy]; rfl
              have hib := HSZc.out.1 7
              rw [hyq] at hib
              have HYQ := Lib.hid hyq
              have HLy := Lib.hid HLc.out
              have hlr := HLc.out
              rw [hsy] at hlr
              obtain ⟨q0, q1, q2, q3, q4, q5, q6, q7⟩ := big8 hlr
              clear hsy hlr hyq hlc q0 q1 q2 q3 q4 q5 q6
              have hnn := HDN.out
              by_cases hy0 : y7 = 0
              · have HS2 : Hid (cutCj s (1 + 1) = sc) := Lib.hid (by rw [HSU.out, Go.Sel.Bg.stepC, if_neg (fun h => h.1 (HYQ.out.trans hy0))])
                subst hy0
                go_wp2
                exact ⟨⟨1 + 1, n6, c7, A7, by omega, by first | rfl | go_num, HS2.out.symm ▸ HN6, H4c, HS2.out.symm ▸ HOc, HS2.out.symm ▸ HLc, HS2.out.symm ▸ HWc, HFc⟩, by simp [Go.RowKit.intOf]⟩
              · obtain ⟨vn, rfl⟩ : ∃ vn : Nat, y7 = (vn : Int) := ⟨y7.toNat, by omega⟩
                have hvn : vn < n := by omega
                have hv0 : (0 : Int) ≤ (vn : Int) := by omega
                have hv1 : (vn : Int) < (n : Int) := by omega
                have hvne : ((vn : Int) != 0) = true := by simpa using hy0
                have hvg : vn < gs.length := by rw [HWc.out.glen]; exact hvn
                have hwle := HWc.out.le
                have hwcap := HWc.out.cap
                obtain ⟨hoc, hof⟩ := HWc.out.cell hvg
                have HBL := Lib.hid (blankP_any (some ⟨gs[vn].1, 0, none⟩) 32 gs[vn].2 (nth sc.out vn) wr (HWc.out.row vn hvg).rd (by obtain ⟨_, _, _, _, _, _, _, h, _⟩ := HWc.out.row vn hvg; exact h))
                have b3r : wr.cell? ⟨b3, 0, none⟩ = some (.slice (some ⟨g, 0, none⟩) n c') := by
                  rw [World.cell?_of_block (a := ⟨b3, 0, none⟩) (HFc.out.block b3 (by omega) fun h => by have := (HLR.out b3 h).2.2; omega), blk_cell HP3.out]
                  rfl
                have r4 := blk_cell H4c.out 0
                simp only [List.getElem?_toArray, List.getElem?_cons_zero] at r4
                generalize gs[vn] = gc at *
                obtain ⟨rv, rcv⟩ := gc
                simp only at hoc
                cases hbb : blankB (nth sc.out vn) with
                | false =>
                  rw [hbb] at HBL
                  have HS2 : Hid (cutCj s (1 + 1) = sc) := Lib.hid (by rw [HSU.out, Go.Sel.Bg.stepC, if_neg (fun h => by rw [HYQ.out, Int.toNat_natCast, hbb] at h; simp at h)])
                  clear hbb
                  go_upto_region 28 with (go_at_call 51; refine HBL.out.mono ?_; rintro e W6 ⟨rfl, hx⟩; have hx := hx.symm; subst hx)
                  go_wp2
                  exact ⟨⟨1 + 1, n6, c7, A7, by omega, by first | rfl | go_num, HS2.out.symm ▸ HN6, H4c, HS2.out.symm ▸ HOc, HS2.out.symm ▸ HLc, HS2.out.symm ▸ HWc, HFc⟩, by simp [Go.RowKit.intOf]⟩
                | true =>
                  rw [hbb] at HBL
                  have HS2 : Hid (cutCj s (1 + 1) = ⟨sc.out, sc.l.set 7 0, sc.free ++ [(vn : Int)]⟩) := Lib.hid (by rw [HSU.out, Go.Sel.Bg.stepC, if_pos ⟨by rw [HYQ.out]; exact hy0, by rw [HYQ.out, Int.toNat_natCast, hbb]⟩, HYQ.out])
                  clear hbb
                  go_upto_region 26 with (go_at_call 51; refine HBL.out.mono ?_; rintro e W6 ⟨rfl, hx⟩; have hx := hx.symm; subst hx)
                  clear hoc hof b3r HBL
                  have hlow6 := own_row HOc.out
                  go_upto_region 27 with (at_builtin; refine wpList_push wr rfl _ _ 23 3 rfl w5.heap.size (.int .i64 0) 8 Try.underlying23 infoInt8 rfl (by omega) (.slice A7 n6 c7) n6 _ (.int .i64 (vn : Int)) rfl rfl rfl HOc.out hsr2 (by omega) rfl ?_; intro g6 cap W6 ho hg hat hlt6; have hall : Hid (∀ i, i < w5.heap.size → W6.heap[i]? = wr.heap[i]?) := Lib.hid (fun i hi => hg.block i (by omega) (fun e => by have := hlow6 i e.symm; omega)); have HK4 : Hid (W6.heap[b4]? = _) := Lib.hid ((hall.out b4 (by omega)).trans H4c.out); have r46 := blk_cell HK4.out 0; simp only [List.getElem?_toArray, List.getElem?_cons_zero] at r46; have z6 := blk_free HK4.out 0; have HO6 := Lib.hid ho; have HG6 := Lib.hid hg; clear ho hg hat)
                  have HL6 := Lib.hid ((hall.out lb (by omega)).trans HLy.out)
                  have HW6 := Lib.hid (HWc.out.same (hall.out g (by omega)) fun b hb => hall.out b (by have := (HLR.out b (.inr (.inr hb))).2.1; omega))
                  have HF6 : Hid (Fr (fun x => x = b4 ∨ x = lb ∨ rowsOf gs x) w5 W6) := Lib.hid ⟨HG6.out.os.trans HFc.out.os, HG6.out.tape.trans HFc.out.tape, HG6.out.output.trans HFc.out.output, Nat.le_trans hsr2 HG6.out.size, fun i hi hs => (hall.out i hi).trans (HFc.out.block i hi hs)⟩
                  have hfa : ∀ i, i ≠ b4 → (W6.setCell ⟨b4, 0, none⟩ (.slice (some ⟨g6, 0, none⟩) (n6 + 1) cap)).heap[i]? = W6.heap[i]? := fun i hi => Below.heap_setCell _ _ _ _ hi
                  have HP7 : Hid ((W6.setCell ⟨b4, 0, none⟩ (.slice (some ⟨g6, 0, none⟩) (n6 + 1) cap)).heap[b4]? = some (.cells #[.slice (some ⟨g6, 0, none⟩) (n6 + 1) cap] 23 (0, 0))) := Lib.hid (blk_set HK4.out 0 _)
                  have HO7 : Hid ((W6.setCell ⟨b4, 0, none⟩ (.slice (some ⟨g6, 0, none⟩) (n6 + 1) cap)).ownsRow w5.heap.size 3 1 (.slice (some ⟨g6, 0, none⟩) (n6 + 1) cap) (n6 + 1) (iv .i64 (sc.free ++ [(vn : Int)]))) := Lib.hid (by
                    have := own_setCell HO6.out (p := ⟨b4, 0, none⟩) (by simp only; omega) (.slice (some ⟨g6, 0, none⟩) (n6 + 1) cap)
                    simpa [iv] using this)
                  have HL7 : Hid ((W6.setCell ⟨b4, 0, none⟩ (.slice (some ⟨g6, 0, none⟩) (n6 + 1) cap)).heap[lb]? = _) := Lib.hid ((hfa lb (by omega)).trans HL6.out)
                  have HW7 := Lib.hid (HW6.out.same (hfa g (by omega)) fun b hb => hfa b (by have := (HRL.out b hb).1; omega))
                  have HF7 : Hid (Fr (fun x => x = b4 ∨ x = lb ∨ rowsOf gs x) w5 (W6.setCell ⟨b4, 0, none⟩ (.slice (some ⟨g6, 0, none⟩) (n6 + 1) cap))) := Lib.hid (Fr.setCell (S := fun x => x = b4 ∨ x = lb ∨ rowsOf gs x) HF6.out (p := ⟨b4, 0, none⟩) (.inl (.inl rfl)) _)
                  clear hfa HK4 HO6 HL6 HW6 HF6 r46 z6 hall HG6 hlow6 q7
                  generalize W6.setCell ⟨b4, 0, none⟩ (.slice (some ⟨g6, 0, none⟩) (n6 + 1) cap) = W7 at *
                  have hs7 := HF7.out.size
                  have qs : W7.cell? ⟨lb, 7, none⟩ = some (.int .i64 (vn : Int)) := by
                    rw [blk_cell HL7.out, List.getElem?_toArray, iv, List.getElem?_map, List.getElem?_eq_getElem (by rw [HSZc.out.2.1, HLS.out]; omega)]
                    have := HYQ.out
                    rw [tp, List.getD_eq_getElem?_getD, List.getElem?_eq_getElem (by rw [HSZc.out.2.1, HLS.out]; omega)] at this
                    simpa using this
                  have zs := blk_free HL7.out 7
                  go_upto_region 28 with (fail)
                  have hlb3 := HS4.out
                  have hfa : ∀ j, j ≠ lb → (W7.setCell ⟨lb, 7, none⟩ (.int .i64 0)).heap[j]? = W7.heap[j]? := fun j hj => Below.heap_setCell _ _ _ _ hj
                  have HP8 : Hid ((W7.setCell ⟨lb, 7, none⟩ (.int .i64 0)).heap[b4]? = some (.cells #[.slice (some ⟨g6, 0, none⟩) (n6 + 1) cap] 23 (0, 0))) := Lib.hid ((hfa b4 (by omega)).trans HP7.out)
                  have HO8 : Hid ((W7.setCell ⟨lb, 7, none⟩ (.int .i64 0)).ownsRow w5.heap.size 3 1 (.slice (some ⟨g6, 0, none⟩) (n6 + 1) cap) (n6 + 1) (iv .i64 (cutCj s (1 + 1)).free)) := Lib.hid (by rw [HS2.out]; exact own_same HO7.out (fun j hj => hfa j (by have := (HO7.out.lt j hj).1; omega)))
                  have HL8 : Hid ((W7.setCell ⟨lb, 7, none⟩ (.int .i64 0)).heap[lb]? = some (.cells (iv .i64 (cutCj s (1 + 1)).l).toArray 66 (0, 0))) := Lib.hid (by
                    rw [HS2.out]
                    have := blk_set HL7.out 7 (.int .i64 0)
                    rw [this]
                    simp [iv, List.map_set])
                  have HW8 : Hid (Wr w2.heap.size (W7.setCell ⟨lb, 7, none⟩ (.int .i64 0)) g n c' (cutCj s (1 + 1)).out gs) := Lib.hid (by rw [HS2.out]; exact HW7.out.same (hfa g (by omega)) fun b hb => hfa b (by have := (HRL.out b hb).2; omega))
                  have HF8 : Hid (Fr (fun x => x = b4 ∨ x = lb ∨ rowsOf gs x) w5 (W7.setCell ⟨lb, 7, none⟩ (.int .i64 0))) := Lib.hid (Fr.setCell (S := fun x => x = b4 ∨ x = lb ∨ rowsOf gs x) HF7.out (p := ⟨lb, 7, none⟩) (.inl (.inr (.inl rfl))) _)
                  have HN8 : Hid (n6 + 1 = (cutCj s (1 + 1)).free.length) := Lib.hid (by rw [HS2.out, HN6.out]; simp)
                  clear hfa qs zs hlb3
                  generalize W7.setCell ⟨lb, 7, none⟩ (.int .i64 0) = W8 at *
                  go_wp2
                  exact ⟨⟨1 + 1, n6 + 1, cap, some ⟨g6, 0, none⟩, by omega, by first | rfl | go_num, HN8, HP8, HO8, HL8, HW8, HF8⟩, by simp [Go.RowKit.intOf]⟩
          · obtain rfl : i = 2 := by omega
            have HSZc := Lib.hid (cutCj_size HIS.out 2 (by omega))
            have hlc := HSZc.out.2.1.trans HLS.out
            have hs5r := HFc.out.size
            generalize cutCj s 2 = sc at *
            have HP5r := Lib.hid ((HFc.out.block b5 (by omega) (fun h => by have := (HLR.out b5 h).2.2; omega)).trans HP5.out)
            have HP3r := Lib.hid ((HFc.out.block b3 (by omega) (fun h => by have := (HLR.out b3 h).2.2; omega)).trans HP3.out)
            obtain ⟨y0, y1, y2, y3, y4, y5, y6, y7, hsy⟩ := len8 hlc
            have hlr := HLc.out
            rw [hsy] at hlr
            obtain ⟨q0, q1, q2, q3, q4, q5, q6, q7⟩ := big8 hlr
            have HFI := Lib.hid (file_any sc.l hlc wr)
            have HSY := Lib.hid hsy
            rw [hsy] at HFI
            simp only [bigV, iv, List.map_cons, List.map_nil] at HFI
            clear hsy hlr hlc
            go_upto_region 29 with (fail)
            go_wp2_with (go_at_call 33; refine HFI.out.mono ?_; rintro e W6 ⟨rfl, hB⟩; have HB6 := Lib.hid hB; have Q5 : Hid (W6.heap[b5]? = _) := Lib.hid (blk_below HP5r.out hB (by omega)); have h6a := Q5.out; simp only [zB, iv, List.map_cons, List.map_nil] at h6a; obtain ⟨u0, u1, u2, u3, u4, u5, u6, u7⟩ := big8 h6a; have v5 := blk_free h6a; have Q5 := Lib.hid h6a; clear hB h6a)
            have HP4e := Lib.hid (blk_below H4c.out HB6.out (by omega))
            have HP3e := Lib.hid (blk_below HP3r.out HB6.out (by omega))
            have HWe := Lib.hid (HWc.out.below HB6.out)
            have HOe := Lib.hid (own_below HOc.out HB6.out (Nat.le_refl _))
            have HFe : Hid (Fr (fun x => x = b4 ∨ x = lb ∨ rowsOf gs x) w5 W6) := Lib.hid (HFc.out.trans (fr_of_below HB6.out _))
            have q6' := set8 Q5.out (.int .i64 y0) (.int .i64 y1) (.int .i64 y2) (.int .i64 y3) (.int .i64 y4) (.int .i64 y5) (.int .i64 y6) (.int .i64 y7)
            have hF8 : Fr (fun x => x = b5) W6 ((((((((W6.setCell ⟨b5, 0, none⟩ (.int .i64 y0)).setCell ⟨b5, 1, none⟩ (.int .i64 y1)).setCell ⟨b5, 2, none⟩ (.int .i64 y2)).setCell ⟨b5, 3, none⟩ (.int .i64 y3)).setCell ⟨b5, 4, none⟩ (.int .i64 y4)).setCell ⟨b5, 5, none⟩ (.int .i64 y5)).setCell ⟨b5, 6, none⟩ (.int .i64 y6)).setCell ⟨b5, 7, none⟩ (.int .i64 y7)) := Fr.setCell (S := fun x => x = b5) (Fr.setCell (S := fun x => x = b5) (Fr.setCell (S := fun x => x = b5) (Fr.setCell (S := fun x => x = b5) (Fr.setCell (S := fun x => x = b5) (Fr.setCell (S := fun x => x = b5) (Fr.setCell (S := fun x => x = b5) (Fr.setCell (S := fun x => x = b5) (Fr.refl _ W6) (p := ⟨b5, 0, none⟩) (.inl rfl) _) (p := ⟨b5, 1, none⟩) (.inl rfl) _) (p := ⟨b5, 2, none⟩) (.inl rfl) _) (p := ⟨b5, 3, none⟩) (.inl rfl) _) (p := ⟨b5, 4, none⟩) (.inl rfl) _) (p := ⟨b5, 5, none⟩) (.inl rfl) _) (p := ⟨b5, 6, none⟩) (.inl rfl) _) (p := ⟨b5, 7, none⟩) (.inl rfl) _
            generalize ((((((((W6.setCell ⟨b5, 0, none⟩ (.int .i64 y0)).setCell ⟨b5, 1, none⟩ (.int .i64 y1)).setCell ⟨b5, 2, none⟩ (.int .i64 y2)).setCell ⟨b5, 3, none⟩ (.int .i64 y3)).setCell ⟨b5, 4, none⟩ (.int .i64 y4)).setCell ⟨b5, 5, none⟩ (.int .i64 y5)).setCell ⟨b5, 6, none⟩ (.int .i64 y6)).setCell ⟨b5, 7, none⟩ (.int .i64 y7)) = W9 at *
            go_end0
            have hs6 := HB6.out.size
            have hw5 := HF5.out.size
            refine ⟨rfl, ?_, g, c', gs, A7, c7, ?_, ?_, ?_, ?_, ?_⟩
            · refine ⟨hF8.os.trans (HFe.out.os.trans HF5.out.os), hF8.tape.trans (HFe.out.tape.trans HF5.out.tape), hF8.output.trans (HFe.out.output.trans HF5.out.output), by have := HFe.out.size; have := hF8.size; omega, fun x hx hn => ?_⟩
              have h3' : x ≠ b3 := fun e => hn (.inl e)
              have h4' : x ≠ b4 := fun e => hn (.inr (.inl e))
              have h5' : x ≠ b5 := fun e => hn (.inr (.inr e))
              exact (hF8.block x (by have := HFe.out.size; omega) h5').trans ((HFe.out.block x (by omega) (fun h => by have := (HLR.out x h).2.2; omega)).trans (HF5.out.block x hx h3'))
            · exact (hF8.block b3 (by have := HFe.out.size; omega) h35).trans HP3e.out
            · rw [HCE2.out]
              exact (HWe.out.fr hF8 (fun b hb => by omega)).mono (by omega)
            · rw [HCE2.out, HSY.out]
              exact q6'
            · rw [HCE2.out, ← HN6.out]
              exact (hF8.block b4 (by have := HFe.out.size; omega) h45).trans HP4e.out
            · rw [HCE2.out, ← HN6.out]
              obtain ⟨A', c'', e, _, hr⟩ := rd_own (own_same HOe.out (fun j hj => hF8.block j (HOe.out.lt j hj).2 (by have := (HOe.out.lt j hj).1; omega)))
              cases e
              exact hr
      case neg =>
        obtain ⟨xn, rfl⟩ : ∃ xn : Nat, x7 = (xn : Int) := ⟨x7.toNat, by omega⟩
        have hnn := HDN.out
        have hxn : xn < n := by omega
        have hx0 : (0 : Int) ≤ (xn : Int) := by omega
        have hx1 : (xn : Int) < (n : Int) := by omega
        obtain ⟨ab, ao, Ar, nr, cr, hAe, hab, hac, hrn, hrr, hrx⟩ := HD0.out.at_ hxn
        subst hAe
        have hn32 : nr = 32 := by rw [← hrn]; have hm : nth D xn ∈ D := by
                                    rw [nth, List.getD_eq_getElem?_getD, List.getElem?_eq_getElem (by omega)]
                                    exact List.getElem_mem _
                                  exact HDW.out.2 _ hm
        subst hn32
        obtain ⟨rb0, ro, rfl, hrb, hrc0⟩ := hrr.form (by rw [iv_length]; omega)
        have hcl := HD0.out.le
        have hcp := HD0.out.cap
        have hrl0 := hrr.le
        have hrl1 := hrr.cap
        have HRC0 := Lib.hid hrc0
        have HRN := Lib.hid hrn
        have HRX := Lib.hid hrx
        have HBr : Hid (Below w0.heap.size w0 wr) := Lib.hid (HB05.out.trans (HFr.out.below HB05.out.size (fun x hx => (HLR.out x hx).1)))
        have hacr := keep_cell hac HBr.out
        clear hac hrc0 hrr hrn hrx
        have hxne : ((xn : Int) != 0) = true := by simpa using h7
        go_wp2
        go_loopw [13, 14, 72] (fun _ _ v wr2 => ∃ (i n5 c4 : Nat) (A4 : Option Addr), i ≤ 32 ∧ v = .int .i64 i ∧ Hid (n5 = (cutBj D (xn : Int) s i).free.length) ∧ Hid (wr2.heap[b4]? = some (.cells #[.slice A4 n5 c4] 23 (0, 0))) ∧ Hid (wr2.ownsRow w5.heap.size 3 1 (.slice A4 n5 c4) n5 (iv .i64 (cutBj D (xn : Int) s i).free)) ∧ Hid (wr2.heap[lb]? = some (.cells (iv .i64 s.l).toArray 66 (0, 0))) ∧ Hid (Wr w2.heap.size wr2 g n c' (cutBj D (xn : Int) s i).out gs) ∧ Hid (Fr (fun x => x = b4 ∨ x = lb ∨ rowsOf gs x) w5 wr2)) (fun _ _ v _ => 32 - (Go.RowKit.intOf v).toNat)
        case atStart => exact ⟨0, n4, c4, A4, by omega, rfl, HN4, H4r, HOr, HLr, HWr, HFr⟩
        case round =>
          obtain ⟨i, n5, c6, A6, hi, rfl, HN5, H4b, HOb, HLb, HWb, HFb⟩ := hrel
          by_cases hlt : i < 32
          · have hi0 : (0 : Int) ≤ (i : Int) := by omega
            have hi1 : (i : Int) < 32 := by omega
            have HBr2 : Hid (Below w0.heap.size w0 wr) := Lib.hid (HB05.out.trans (HFb.out.below HB05.out.size (fun x hx => (HLR.out x hx).1)))
            have hix : i < (nth D xn).length := by rw [HRN.out]; exact hlt
            have hbc := keep_cell (HRC0.out i (by rw [iv_length]; exact hix)) HBr2.out
            rw [iv_at] at hbc
            have HX : Hid ((nth D (xn : Int).toNat).getD i 0 = (nth D xn)[i]) := Lib.hid (by rw [Int.toNat_natCast, List.getD_eq_getElem?_getD, List.getElem?_eq_getElem hix]; rfl)
            have hent := ent_in HR.out (by rw [← H7.out, H7X.out]; exact h7) hlt
            rw [← H7.out, H7X.out, HX.out] at hent
            have hbyt := HRX.out _ (List.getElem_mem hix)
            have HSU := Lib.hid (cutBj_succ D (xn : Int) s i)
            have HSI := Lib.hid (cutBj_size D (xn : Int) s i)
            generalize (nth D xn)[i] = x at *
            have hsr2 := HFb.out.size
            by_cases hx0' : x = 0
            · subst hx0'
              have HS2 : Hid (cutBj D (xn : Int) s (i + 1) = cutBj D (xn : Int) s i) := Lib.hid (by rw [HSU.out, Go.Sel.Bg.stepB, if_neg (fun h => h.1 HX.out)])
              go_wp2
              exact ⟨⟨i + 1, n5, c6, A6, by omega, by go_num, HS2.out ▸ HN5, H4b, HS2.out ▸ HOb, HLb, HS2.out ▸ HWb, HFb⟩, by simp [Go.RowKit.intOf]; omega⟩
            · obtain ⟨vn, rfl⟩ : ∃ vn : Nat, x = (vn : Int) := ⟨x.toNat, by omega⟩
              have hvn : vn < n := by omega
              have hv0 : (0 : Int) ≤ (vn : Int) := by omega
              have hv1 : (vn : Int) < (n : Int) := by omega
              have hvg : vn < gs.length := by rw [HWb.out.glen]; exact hvn
              have hwle := HWb.out.le
              have hwcap := HWb.out.cap
              have hwx : IntKind.i64.wrap (vn : Int) = vn := IntWalk.i64_in _ (by omega)
              obtain ⟨hoc, hof⟩ := HWb.out.cell hvg
              have HBL := Lib.hid (blankP_any (some ⟨gs[vn].1, 0, none⟩) 32 gs[vn].2 (nth (cutBj D (xn : Int) s i).out vn) wr (HWb.out.row vn hvg).rd (by obtain ⟨_, _, _, _, _, _, _, h, _⟩ := HWb.out.row vn hvg; exact h))
              have b3r : wr.cell? ⟨b3, 0, none⟩ = some (.slice (some ⟨g, 0, none⟩) n c') := by
                rw [World.cell?_of_block (a := ⟨b3, 0, none⟩) (HFb.out.block b3 (by omega) fun h => by have := (HLR.out b3 h).2.2; omega), blk_cell HP3.out]
                rfl
              have r4 := blk_cell H4b.out 0
              simp only [List.getElem?_toArray, List.getElem?_cons_zero] at r4
              generalize gs[vn] = gc at *
              obtain ⟨rv, rcv⟩ := gc
              simp only at hoc
              cases hbb : blankB (nth (cutBj D (xn : Int) s i).out vn) with
              | false =>
                rw [hbb] at HBL
                have HS2 : Hid (cutBj D (xn : Int) s (i + 1) = cutBj D (xn : Int) s i) := Lib.hid (by rw [HSU.out, Go.Sel.Bg.stepB, if_neg (fun h => by rw [HX.out, Int.toNat_natCast, hbb] at h; simp at h)])
                clear hbb
                go_upto_region 20 with (go_at_call 51; refine HBL.out.mono ?_; rintro e W6 ⟨rfl, hx⟩; have hx := hx.symm; subst hx)
                go_wp2
                exact ⟨⟨i + 1, n5, c6, A6, by omega, by go_num, HS2.out ▸ HN5, H4b, HS2.out ▸ HOb, HLb, HS2.out ▸ HWb, HFb⟩, by simp [Go.RowKit.intOf]; omega⟩
              | true =>
                rw [hbb] at HBL
                have HS2 : Hid (cutBj D (xn : Int) s (i + 1) = ⟨(cutBj D (xn : Int) s i).out.set xn ((nth (cutBj D (xn : Int) s i).out xn).set i 0), (cutBj D (xn : Int) s i).l, (cutBj D (xn : Int) s i).free ++ [(vn : Int)]⟩) := Lib.hid (by rw [HSU.out, Go.Sel.Bg.stepB, if_pos ⟨by rw [HX.out]; exact hx0', by rw [HX.out, Int.toNat_natCast, hbb]⟩, HX.out, Int.toNat_natCast])
                have hn5 : n5 ≤ 128 := by have := HN5.out; have := HSI.out.2.2; have := HN4.out; omega
                clear hbb
                go_upto_region 18 with (go_at_call 51; refine HBL.out.mono ?_; rintro e W6 ⟨rfl, hx⟩; have hx := hx.symm; subst hx)
                clear hoc hof b3r HBL hacr
                have hlow6 := own_row HOb.out
                have hb4l := hb4
                go_upto_region 19 with (at_builtin; refine wpList_push wr rfl _ _ 23 3 rfl w5.heap.size (.int .i64 0) 8 Try.underlying23 infoInt8 rfl (by omega) (.slice A6 n5 c6) n5 _ (.int .i64 (vn : Int)) rfl rfl rfl HOb.out hsr2 (by omega) rfl ?_; intro g6 cap W6 ho hg hat hlt6; have hall : Hid (∀ i, i < w5.heap.size → W6.heap[i]? = wr.heap[i]?) := Lib.hid (fun i hi => hg.block i (by omega) (fun e => by have := hlow6 i e.symm; omega)); have HK4 : Hid (W6.heap[b4]? = _) := Lib.hid ((hall.out b4 (by omega)).trans H4b.out); have r46 := blk_cell HK4.out 0; simp only [List.getElem?_toArray, List.getElem?_cons_zero] at r46; have z6 := blk_free HK4.out 0; have HO6 := Lib.hid ho; have HG6 := Lib.hid hg; clear ho hg hat)
                have HL6 := Lib.hid ((hall.out lb (by omega)).trans HLb.out)
                have HW6 := Lib.hid (HWb.out.same (hall.out g (by omega)) fun b hb => hall.out b (by have := (HLR.out b (.inr (.inr hb))).2.1; omega))
                have HF6 : Hid (Fr (fun x => x = b4 ∨ x = lb ∨ rowsOf gs x) w5 W6) := Lib.hid ⟨HG6.out.os.trans HFb.out.os, HG6.out.tape.trans HFb.out.tape, HG6.out.output.trans HFb.out.output, Nat.le_trans hsr2 HG6.out.size, fun i hi hs => (hall.out i hi).trans (HFb.out.block i hi hs)⟩
                have hfa : ∀ i, i ≠ b4 → (W6.setCell ⟨b4, 0, none⟩ (.slice (some ⟨g6, 0, none⟩) (n5 + 1) cap)).heap[i]? = W6.heap[i]? := fun i hi => Below.heap_setCell _ _ _ _ hi
                have HP7 : Hid ((W6.setCell ⟨b4, 0, none⟩ (.slice (some ⟨g6, 0, none⟩) (n5 + 1) cap)).heap[b4]? = some (.cells #[.slice (some ⟨g6, 0, none⟩) (n5 + 1) cap] 23 (0, 0))) := Lib.hid (blk_set HK4.out 0 _)
                have HO7 : Hid ((W6.setCell ⟨b4, 0, none⟩ (.slice (some ⟨g6, 0, none⟩) (n5 + 1) cap)).ownsRow w5.heap.size 3 1 (.slice (some ⟨g6, 0, none⟩) (n5 + 1) cap) (n5 + 1) (iv .i64 ((cutBj D (xn : Int) s i).free ++ [(vn : Int)]))) := Lib.hid (by
                  have := own_setCell HO6.out (p := ⟨b4, 0, none⟩) (by simp only; omega) (.slice (some ⟨g6, 0, none⟩) (n5 + 1) cap)
                  simpa [iv] using this)
                have HL7 : Hid ((W6.setCell ⟨b4, 0, none⟩ (.slice (some ⟨g6, 0, none⟩) (n5 + 1) cap)).heap[lb]? = _) := Lib.hid ((hfa lb (by omega)).trans HL6.out)
                have HW7 := Lib.hid (HW6.out.same (hfa g (by omega)) fun b hb => hfa b (by have := (HRL.out b hb).1; omega))
                have HF7 : Hid (Fr (fun x => x = b4 ∨ x = lb ∨ rowsOf gs x) w5 (W6.setCell ⟨b4, 0, none⟩ (.slice (some ⟨g6, 0, none⟩) (n5 + 1) cap))) := Lib.hid (Fr.setCell (S := fun x => x = b4 ∨ x = lb ∨ rowsOf gs x) HF6.out (p := ⟨b4, 0, none⟩) (.inl (.inl rfl)) _)
                clear hfa HK4 HO6 HL6 HW6 HF6 r46 z6 hall HG6 hlow6
                generalize W6.setCell ⟨b4, 0, none⟩ (.slice (some ⟨g6, 0, none⟩) (n5 + 1) cap) = W7 at *
                have hs7 := HF7.out.size
                have hxg : xn < gs.length := by rw [HW7.out.glen]; exact hxn
                obtain ⟨hoc, hof⟩ := HW7.out.cell hxg
                obtain ⟨hrc, hrf⟩ := (HW7.out.row xn hxg).cell hlt
                have hcc : 32 ≤ gs[xn].2 ∧ gs[xn].2 ≤ 9223372036854775807 := by obtain ⟨_, _, _, _, h1, h2, _⟩ := HW7.out.row xn hxg; exact ⟨h1, h2⟩
                have HSTR := Lib.hid (HW7.out.store hxg hlt (x := 0) (by omega))
                have HMEM := Lib.hid (show rowsOf gs gs[xn].1 from List.mem_map.2 ⟨_, List.getElem_mem hxg, rfl⟩)
                have b3r : W7.cell? ⟨b3, 0, none⟩ = some (.slice (some ⟨g, 0, none⟩) n c') := by
                  rw [World.cell?_of_block (a := ⟨b3, 0, none⟩) (HF7.out.block b3 (by omega) fun h => by have := (HLR.out b3 h).2.2; omega), blk_cell HP3.out]
                  rfl
                generalize gs[xn] = gc at *
                obtain ⟨rx, rxc⟩ := gc
                simp only at hoc hrc hrf hcc HSTR HMEM
                have hlb3 := HS4.out
                have hrxl := HRL.out rx HMEM.out
                go_upto_region 20 with (fail)
                have hfa : ∀ j, j ≠ rx → (W7.setCell ⟨rx, i, none⟩ (.int .u8 0)).heap[j]? = W7.heap[j]? := fun j hj => Below.heap_setCell _ _ _ _ hj
                have HP8 : Hid ((W7.setCell ⟨rx, i, none⟩ (.int .u8 0)).heap[b4]? = some (.cells #[.slice (some ⟨g6, 0, none⟩) (n5 + 1) cap] 23 (0, 0))) := Lib.hid ((hfa b4 (by omega)).trans HP7.out)
                have HO8 : Hid ((W7.setCell ⟨rx, i, none⟩ (.int .u8 0)).ownsRow w5.heap.size 3 1 (.slice (some ⟨g6, 0, none⟩) (n5 + 1) cap) (n5 + 1) (iv .i64 (cutBj D (xn : Int) s (i + 1)).free)) := Lib.hid (by rw [HS2.out]; exact own_same HO7.out (fun j hj => hfa j (by have := (HO7.out.lt j hj).1; omega)))
                have HL8 : Hid ((W7.setCell ⟨rx, i, none⟩ (.int .u8 0)).heap[lb]? = _) := Lib.hid ((hfa lb (by omega)).trans HL7.out)
                have HW8 : Hid (Wr w2.heap.size (W7.setCell ⟨rx, i, none⟩ (.int .u8 0)) g n c' (cutBj D (xn : Int) s (i + 1)).out gs) := Lib.hid (by rw [HS2.out]; exact HSTR.out)
                have HF8 : Hid (Fr (fun x => x = b4 ∨ x = lb ∨ rowsOf gs x) w5 (W7.setCell ⟨rx, i, none⟩ (.int .u8 0))) := Lib.hid (Fr.setCell (S := fun x => x = b4 ∨ x = lb ∨ rowsOf gs x) HF7.out (p := ⟨rx, i, none⟩) (.inl (.inr (.inr HMEM.out))) _)
                have HN8 : Hid (n5 + 1 = (cutBj D (xn : Int) s (i + 1)).free.length) := Lib.hid (by rw [HS2.out, HN5.out]; simp)
                clear hfa HSTR hoc hof hrc hrf b3r hlb3
                generalize W7.setCell ⟨rx, i, none⟩ (.int .u8 0) = W8 at *
                go_wp2
                exact ⟨⟨i + 1, n5 + 1, cap, some ⟨g6, 0, none⟩, by omega, by go_num, HN8, HP8, HO8, HL8, HW8, HF8⟩, by simp [Go.RowKit.intOf]; omega⟩
          · have HI32 : Hid (i = 32) := Lib.hid (by omega)
            have HSI := Lib.hid (cutBj_size D (xn : Int) s i)
            have hn5 : n5 ≤ 128 := by have := HN5.out; have := HSI.out.2.2; have := HN4.out; omega
            have HCE2 : Hid (cutL D t k = cutCj (cutBj D (xn : Int) s i) 2) := Lib.hid (by rw [HCE.out, if_neg h7, HI32.out])
            have HIS : Hid (inB D.length (cutBj D (xn : Int) s i).l) := Lib.hid (by rw [HSI.out.2.1]; exact HIB.out)
            have HLS : Hid ((cutBj D (xn : Int) s i).l.length = 8) := Lib.hid (by rw [HSI.out.2.1, HSX.out]; rfl)
            have HLb2 : Hid (wr.heap[lb]? = some (.cells (iv .i64 (cutBj D (xn : Int) s i).l).toArray 66 (0, 0))) := Lib.hid (by rw [HSI.out.2.1]; exact HLb.out)
            clear HSI HCE HLb hacr h0r
            generalize cutBj D (xn : Int) s i = sB at *
            go_wp2
            go_loopw [16, 17, 99] (fun _ _ v wr3 => ∃ (i n6 c7 : Nat) (A7 : Option Addr), i ≤ 2 ∧ v = .int .i64 i ∧ Hid (n6 = (cutCj sB i).free.length) ∧ Hid (wr3.heap[b4]? = some (.cells #[.slice A7 n6 c7] 23 (0, 0))) ∧ Hid (wr3.ownsRow w5.heap.size 3 1 (.slice A7 n6 c7) n6 (iv .i64 (cutCj sB i).free)) ∧ Hid (wr3.heap[lb]? = some (.cells (iv .i64 (cutCj sB i).l).toArray 66 (0, 0))) ∧ Hid (Wr w2.heap.size wr3 g n c' (cutCj sB i).out gs) ∧ Hid (Fr (fun x => x = b4 ∨ x = lb ∨ rowsOf gs x) w5 wr3)) (fun _ _ v _ => 2 - (Go.RowKit.intOf v).toNat)
            case atStart => exact ⟨0, n5, _, _, by omega, rfl, HN5, H4b, HOb, HLb2, HWb, HFb⟩
            case round =>
              obtain ⟨i, n6, c7, A7, hi, rfl, HN6, H4c, HOc, HLc, HWc, HFc⟩ := hrel
              by_cases hlt : i < 2
              · rcases (by omega : i = 0 ∨ i = 1) with rfl | rfl
                · have HSU := Lib.hid (cutCj_succ sB (j := 0) (by omega))
                  have HSZc := Lib.hid (cutCj_size HIS.out 0 (by omega))
                  have hsr2 := HFc.out.size
                  have hidx := fun w : World => (by kernel_rfl : (Instr.index 96 (.agg #[.int .i64 6, .int .i64 7]) (.int .i64 0)).run Try.prog w = .ok (.int .i64 6) w)
                  have hn6 : n6 ≤ 140 := by have := HN6.out; have := HSZc.out.2.2.2; have := HN5.out; omega
                  have hlc := HSZc.out.2.1.trans HLS.out
                  generalize cutCj sB 0 = sc at *
                  obtain ⟨y0, y1, y2, y3, y4, y5, y6, y7, hsy⟩ := len8 hlc
                  have hyq : tp sc.l 6 = y6 := by rw [hsy]; rfl
                  have hib := HSZc.out.1 6
                  rw [hyq] at hib
                  have HYQ := Lib.hid hyq
                  have HLy := Lib.hid HLc.out
                  have hlr := HLc.out
                  rw [hsy] at hlr
                  obtain ⟨q0, q1, q2, q3, q4, q5, q6, q7⟩ := big8 hlr
                  clear hsy hlr hyq hlc q0 q1 q2 q3 q4 q5 q7
                  have hnn := HDN.out
                  by_cases hy0 : y6 = 0
                  · have HS2 : Hid (cutCj sB (0 + 1) = sc) := Lib.hid (by rw [HSU.out, Go.Sel.Bg.stepC, if_neg (fun h => h.1 (HYQ.out.trans hy0))])
                    subst hy0
                    go_wp2
                    exact ⟨⟨0 + 1, n6, c7, A7, by omega, by first | rfl | go_num, HS2.out.symm ▸ HN6, H4c, HS2.out.symm ▸ HOc, HS2.out.symm ▸ HLc, HS2.out.symm ▸ HWc, HFc⟩, by simp [Go.RowKit.intOf]⟩
                  · obtain ⟨vn, rfl⟩ : ∃ vn : Nat, y6 = (vn : Int) := ⟨y6.toNat, by omega⟩
                    have hvn : vn < n := by omega
                    have hv0 : (0 : Int) ≤ (vn : Int) := by omega
                    have hv1 : (vn : Int) < (n : Int) := by omega
                    have hvne : ((vn : Int) != 0) = true := by simpa using hy0
                    have hvg : vn < gs.length := by rw [HWc.out.glen]; exact hvn
                    have hwle := HWc.out.le
                    have hwcap := HWc.out.cap
                    obtain ⟨hoc, hof⟩ := HWc.out.cell hvg
                    have HBL := Lib.hid (blankP_any (some ⟨gs[vn].1, 0, none⟩) 32 gs[vn].2 (nth sc.out vn) wr (HWc.out.row vn hvg).rd (by obtain ⟨_, _, _, _, _, _, _, h, _⟩ := HWc.out.row vn hvg; exact h))
                    have b3r : wr.cell? ⟨b3, 0, none⟩ = some (.slice (some ⟨g, 0, none⟩) n c') := by
                      rw [World.cell?_of_block (a := ⟨b3, 0, none⟩) (HFc.out.block b3 (by omega) fun h => by have := (HLR.out b3 h).2.2; omega), blk_cell HP3.out]
                      rfl
                    have r4 := blk_cell H4c.out 0
                    simp only [List.getElem?_toArray, List.getElem?_cons_zero] at r4
                    generalize gs[vn] = gc at *
                    obtain ⟨rv, rcv⟩ := gc
                    simp only at hoc
                    cases hbb : blankB (nth sc.out vn) with
                    | false =>
                      rw [hbb] at HBL
                      have HS2 : Hid (cutCj sB (0 + 1) = sc) := Lib.hid (by rw [HSU.out, Go.Sel.Bg.stepC, if_neg (fun h => by rw [HYQ.out, Int.toNat_natCast, hbb] at h; simp at h)])
                      clear hbb
                      go_upto_region 28 with (go_at_call 51; refine HBL.out.mono ?_; rintro e W6 ⟨rfl, hx⟩; have hx := hx.symm; subst hx)
                      go_wp2
                      exact ⟨⟨0 + 1, n6, c7, A7, by omega, by first | rfl | go_num, HS2.out.symm ▸ HN6, H4c, HS2.out.symm ▸ HOc, HS2.out.symm ▸ HLc, HS2.out.symm ▸ HWc, HFc⟩, by simp [Go.RowKit.intOf]⟩
                    | true =>
                      rw [hbb] at HBL
                      have HS2 : Hid (cutCj sB (0 + 1) = ⟨sc.out, sc.l.set 6 0, sc.free ++ [(vn : Int)]⟩) := Lib.hid (by rw [HSU.out, Go.Sel.Bg.stepC, if_pos ⟨by rw [HYQ.out]; exact hy0, by rw [HYQ.out, Int.toNat_natCast, hbb]⟩, HYQ.out])
                      clear hbb
                      go_upto_region 26 with (go_at_call 51; refine HBL.out.mono ?_; rintro e W6 ⟨rfl, hx⟩; have hx := hx.symm; subst hx)
                      clear hoc hof b3r HBL
                      have hlow6 := own_row HOc.out
                      go_upto_region 27 with (at_builtin; refine wpList_push wr rfl _ _ 23 3 rfl w5.heap.size (.int .i64 0) 8 Try.underlying23 infoInt8 rfl (by omega) (.slice A7 n6 c7) n6 _ (.int .i64 (vn : Int)) rfl rfl rfl HOc.out hsr2 (by omega) rfl ?_; intro g6 cap W6 ho hg hat hlt6; have hall : Hid (∀ i, i < w5.heap.size → W6.heap[i]? = wr.heap[i]?) := Lib.hid (fun i hi => hg.block i (by omega) (fun e => by have := hlow6 i e.symm; omega)); have HK4 : Hid (W6.heap[b4]? = _) := Lib.hid ((hall.out b4 (by omega)).trans H4c.out); have r46 := blk_cell HK4.out 0; simp only [List.getElem?_toArray, List.getElem?_cons_zero] at r46; have z6 := blk_free HK4.out 0; have HO6 := Lib.hid ho; have HG6 := Lib.hid hg; clear ho hg hat)
                      have HL6 := Lib.hid ((hall.out lb (by omega)).trans HLy.out)
                      have HW6 := Lib.hid (HWc.out.same (hall.out g (by omega)) fun b hb => hall.out b (by have := (HLR.out b (.inr (.inr hb))).2.1; omega))
                      have HF6 : Hid (Fr (fun x => x = b4 ∨ x = lb ∨ rowsOf gs x) w5 W6) := Lib.hid ⟨HG6.out.os.trans HFc.out.os, HG6.out.tape.trans HFc.out.tape, HG6.out.output.trans HFc.out.output, Nat.le_trans hsr2 HG6.out.size, fun i hi hs => (hall.out i hi).trans (HFc.out.block i hi hs)⟩
                      have hfa : ∀ i, i ≠ b4 → (W6.setCell ⟨b4, 0, none⟩ (.slice (some ⟨g6, 0, none⟩) (n6 + 1) cap)).heap[i]? = W6.heap[i]? := fun i hi => Below.heap_setCell _ _ _ _ hi
                      have HP7 : Hid ((W6.setCell ⟨b4, 0, none⟩ (.slice (some ⟨g6, 0, none⟩) (n6 + 1) cap)).heap[b4]? = some (.cells #[.slice (some ⟨g6, 0, none⟩) (n6 + 1) cap] 23 (0, 0))) := Lib.hid (blk_set HK4.out 0 _)
                      have HO7 : Hid ((W6.setCell ⟨b4, 0, none⟩ (.slice (some ⟨g6, 0, none⟩) (n6 + 1) cap)).ownsRow w5.heap.size 3 1 (.slice (some ⟨g6, 0, none⟩) (n6 + 1) cap) (n6 + 1) (iv .i64 (sc.free ++ [(vn : Int)]))) := Lib.hid (by
                        have := own_setCell HO6.out (p := ⟨b4, 0, none⟩) (by simp only; omega) (.slice (some ⟨g6, 0, none⟩) (n6 + 1) cap)
                        simpa [iv] using this)
                      have HL7 : Hid ((W6.setCell ⟨b4, 0, none⟩ (.slice (some ⟨g6, 0, none⟩) (n6 + 1) cap)).heap[lb]? = _) := Lib.hid ((hfa lb (by omega)).trans HL6.out)
                      have HW7 := Lib.hid (HW6.out.same (hfa g (by omega)) fun b hb => hfa b (by have := (HRL.out b hb).1; omega))
                      have HF7 : Hid (Fr (fun x => x = b4 ∨ x = lb ∨ rowsOf gs x) w5 (W6.setCell ⟨b4, 0, none⟩ (.slice (some ⟨g6, 0, none⟩) (n6 + 1) cap))) := Lib.hid (Fr.setCell (S := fun x => x = b4 ∨ x = lb ∨ rowsOf gs x) HF6.out (p := ⟨b4, 0, none⟩) (.inl (.inl rfl)) _)
                      clear hfa HK4 HO6 HL6 HW6 HF6 r46 z6 hall HG6 hlow6 q6
                      generalize W6.setCell ⟨b4, 0, none⟩ (.slice (some ⟨g6, 0, none⟩) (n6 + 1) cap) = W7 at *
                      have hs7 := HF7.out.size
                      have qs : W7.cell? ⟨lb, 6, none⟩ = some (.int .i64 (vn : Int)) := by
                        rw [blk_cell HL7.out, List.getElem?_toArray, iv, List.getElem?_map, List.getElem?_eq_getElem (by rw [HSZc.out.2.1, HLS.out]; omega)]
                        have := HYQ.out
                        rw [tp, List.getD_eq_getElem?_getD, List.getElem?_eq_getElem (by rw [HSZc.out.2.1, HLS.out]; omega)] at this
                        simpa using this
                      have zs := blk_free HL7.out 6
                      go_upto_region 28 with (fail)
                      have hlb3 := HS4.out
                      have hfa : ∀ j, j ≠ lb → (W7.setCell ⟨lb, 6, none⟩ (.int .i64 0)).heap[j]? = W7.heap[j]? := fun j hj => Below.heap_setCell _ _ _ _ hj
                      have HP8 : Hid ((W7.setCell ⟨lb, 6, none⟩ (.int .i64 0)).heap[b4]? = some (.cells #[.slice (some ⟨g6, 0, none⟩) (n6 + 1) cap] 23 (0, 0))) := Lib.hid ((hfa b4 (by omega)).trans HP7.out)
                      have HO8 : Hid ((W7.setCell ⟨lb, 6, none⟩ (.int .i64 0)).ownsRow w5.heap.size 3 1 (.slice (some ⟨g6, 0, none⟩) (n6 + 1) cap) (n6 + 1) (iv .i64 (cutCj sB (0 + 1)).free)) := Lib.hid (by rw [HS2.out]; exact own_same HO7.out (fun j hj => hfa j (by have := (HO7.out.lt j hj).1; omega)))
                      have HL8 : Hid ((W7.setCell ⟨lb, 6, none⟩ (.int .i64 0)).heap[lb]? = some (.cells (iv .i64 (cutCj sB (0 + 1)).l).toArray 66 (0, 0))) := Lib.hid (by
                        rw [HS2.out]
                        have := blk_set HL7.out 6 (.int .i64 0)
                        rw [this]
                        simp [iv, List.map_set])
                      have HW8 : Hid (Wr w2.heap.size (W7.setCell ⟨lb, 6, none⟩ (.int .i64 0)) g n c' (cutCj sB (0 + 1)).out gs) := Lib.hid (by rw [HS2.out]; exact HW7.out.same (hfa g (by omega)) fun b hb => hfa b (by have := (HRL.out b hb).2; omega))
                      have HF8 : Hid (Fr (fun x => x = b4 ∨ x = lb ∨ rowsOf gs x) w5 (W7.setCell ⟨lb, 6, none⟩ (.int .i64 0))) := Lib.hid (Fr.setCell (S := fun x => x = b4 ∨ x = lb ∨ rowsOf gs x) HF7.out (p := ⟨lb, 6, none⟩) (.inl (.inr (.inl rfl))) _)
                      have HN8 : Hid (n6 + 1 = (cutCj sB (0 + 1)).free.length) := Lib.hid (by rw [HS2.out, HN6.out]; simp)
                      clear hfa qs zs hlb3
                      generalize W7.setCell ⟨lb, 6, none⟩ (.int .i64 0) = W8 at *
                      go_wp2
                      exact ⟨⟨0 + 1, n6 + 1, cap, some ⟨g6, 0, none⟩, by omega, by first | rfl | go_num, HN8, HP8, HO8, HL8, HW8, HF8⟩, by simp [Go.RowKit.intOf]⟩
                · have HSU := Lib.hid (cutCj_succ sB (j := 1) (by omega))
                  have HSZc := Lib.hid (cutCj_size HIS.out 1 (by omega))
                  have hsr2 := HFc.out.size
                  have hidx := fun w : World => (by kernel_rfl : (Instr.index 96 (.agg #[.int .i64 6, .int .i64 7]) (.int .i64 1)).run Try.prog w = .ok (.int .i64 7) w)
                  have hn6 : n6 ≤ 140 := by have := HN6.out; have := HSZc.out.2.2.2; have := HN5.out; omega
                  have hlc := HSZc.out.2.1.trans HLS.out
                  generalize cutCj sB 1 = sc at *
                  obtain ⟨y0, y1, y2, y3, y4, y5, y6, y7, hsy⟩ := len8 hlc
                  have hyq : tp sc.l 7 = y7 := by rw [hsy]; rfl
                  have hib := HSZc.out.1 7
                  rw [hyq] at hib
                  have HYQ := Lib.hid hyq
                  have HLy := Lib.hid HLc.out
                  have hlr := HLc.out
                  rw [hsy] at hlr
                  obtain ⟨q0, q1, q2, q3, q4, q5, q6, q7⟩ := big8 hlr
                  clear hsy hlr hyq hlc q0 q1 q2 q3 q4 q5 q6
                  have hnn := HDN.out
                  by_cases hy0 : y7 = 0
                  · have HS2 : Hid (cutCj sB (1 + 1) = sc) := Lib.hid (by rw [HSU.out, Go.Sel.Bg.stepC, if_neg (fun h => h.1 (HYQ.out.trans hy0))])
                    subst hy0
                    go_wp2
                    exact ⟨⟨1 + 1, n6, c7, A7, by omega, by first | rfl | go_num, HS2.out.symm ▸ HN6, H4c, HS2.out.symm ▸ HOc, HS2.out.symm ▸ HLc, HS2.out.symm ▸ HWc, HFc⟩, by simp [Go.RowKit.intOf]⟩
                  · obtain ⟨vn, rfl⟩ : ∃ vn : Nat, y7 = (vn : Int) := ⟨y7.toNat, by omega⟩
                    have hvn : vn < n := by omega
                    have hv0 : (0 : Int) ≤ (vn : Int) := by omega
                    have hv1 : (vn : Int) < (n : Int) := by omega
                    have hvne : ((vn : Int) != 0) = true := by simpa using hy0
                    have hvg : vn < gs.length := by rw [HWc.out.glen]; exact hvn
                    have hwle := HWc.out.le
                    have hwcap := HWc.out.cap
                    obtain ⟨hoc, hof⟩ := HWc.out.cell hvg
                    have HBL := Lib.hid (blankP_any (some ⟨gs[vn].1, 0, none⟩) 32 gs[vn].2 (nth sc.out vn) wr (HWc.out.row vn hvg).rd (by obtain ⟨_, _, _, _, _, _, _, h, _⟩ := HWc.out.row vn hvg; exact h))
                    have b3r : wr.cell? ⟨b3, 0, none⟩ = some (.slice (some ⟨g, 0, none⟩) n c') := by
                      rw [World.cell?_of_block (a := ⟨b3, 0, none⟩) (HFc.out.block b3 (by omega) fun h => by have := (HLR.out b3 h).2.2; omega), blk_cell HP3.out]
                      rfl
                    have r4 := blk_cell H4c.out 0
                    simp only [List.getElem?_toArray, List.getElem?_cons_zero] at r4
                    generalize gs[vn] = gc at *
                    obtain ⟨rv, rcv⟩ := gc
                    simp only at hoc
                    cases hbb : blankB (nth sc.out vn) with
                    | false =>
                      rw [hbb] at HBL
                      have HS2 : Hid (cutCj sB (1 + 1) = sc) := Lib.hid (by rw [HSU.out, Go.Sel.Bg.stepC, if_neg (fun h => by rw [HYQ.out, Int.toNat_natCast, hbb] at h; simp at h)])
                      clear hbb
                      go_upto_region 28 with (go_at_call 51; refine HBL.out.mono ?_; rintro e W6 ⟨rfl, hx⟩; have hx := hx.symm; subst hx)
                      go_wp2
                      exact ⟨⟨1 + 1, n6, c7, A7, by omega, by first | rfl | go_num, HS2.out.symm ▸ HN6, H4c, HS2.out.symm ▸ HOc, HS2.out.symm ▸ HLc, HS2.out.symm ▸ HWc, HFc⟩, by simp [Go.RowKit.intOf]⟩
                    | true =>
                      rw [hbb] at HBL
                      have HS2 : Hid (cutCj sB (1 + 1) = ⟨sc.out, sc.l.set 7 0, sc.free ++ [(vn : Int)]⟩) := Lib.hid (by rw [HSU.out, Go.Sel.Bg.stepC, if_pos ⟨by rw [HYQ.out]; exact hy0, by rw [HYQ.out, Int.toNat_natCast, hbb]⟩, HYQ.out])
                      clear hbb
                      go_upto_region 26 with (go_at_call 51; refine HBL.out.mono ?_; rintro e W6 ⟨rfl, hx⟩; have hx := hx.symm; subst hx)
                      clear hoc hof b3r HBL
                      have hlow6 := own_row HOc.out
                      go_upto_region 27 with (at_builtin; refine wpList_push wr rfl _ _ 23 3 rfl w5.heap.size (.int .i64 0) 8 Try.underlying23 infoInt8 rfl (by omega) (.slice A7 n6 c7) n6 _ (.int .i64 (vn : Int)) rfl rfl rfl HOc.out hsr2 (by omega) rfl ?_; intro g6 cap W6 ho hg hat hlt6; have hall : Hid (∀ i, i < w5.heap.size → W6.heap[i]? = wr.heap[i]?) := Lib.hid (fun i hi => hg.block i (by omega) (fun e => by have := hlow6 i e.symm; omega)); have HK4 : Hid (W6.heap[b4]? = _) := Lib.hid ((hall.out b4 (by omega)).trans H4c.out); have r46 := blk_cell HK4.out 0; simp only [List.getElem?_toArray, List.getElem?_cons_zero] at r46; have z6 := blk_free HK4.out 0; have HO6 := Lib.hid ho; have HG6 := Lib.hid hg; clear ho hg hat)
                      have HL6 := Lib.hid ((hall.out lb (by omega)).trans HLy.out)
                      have HW6 := Lib.hid (HWc.out.same (hall.out g (by omega)) fun b hb => hall.out b (by have := (HLR.out b (.inr (.inr hb))).2.1; omega))
                      have HF6 : Hid (Fr (fun x => x = b4 ∨ x = lb ∨ rowsOf gs x) w5 W6) := Lib.hid ⟨HG6.out.os.trans HFc.out.os, HG6.out.tape.trans HFc.out.tape, HG6.out.output.trans HFc.out.output, Nat.le_trans hsr2 HG6.out.size, fun i hi hs => (hall.out i hi).trans (HFc.out.block i hi hs)⟩
                      have hfa : ∀ i, i ≠ b4 → (W6.setCell ⟨b4, 0, none⟩ (.slice (some ⟨g6, 0, none⟩) (n6 + 1) cap)).heap[i]? = W6.heap[i]? := fun i hi => Below.heap_setCell _ _ _ _ hi
                      have HP7 : Hid ((W6.setCell ⟨b4, 0, none⟩ (.slice (some ⟨g6, 0, none⟩) (n6 + 1) cap)).heap[b4]? = some (.cells #[.slice (some ⟨g6, 0, none⟩) (n6 + 1) cap] 23 (0, 0))) := Lib.hid (blk_set HK4.out 0 _)
                      have HO7 : Hid ((W6.setCell ⟨b4, 0, none⟩ (.slice (some ⟨g6, 0, none⟩) (n6 + 1) cap)).ownsRow w5.heap.size 3 1 (.slice (some ⟨g6, 0, none⟩) (n6 + 1) cap) (n6 + 1) (iv .i64 (sc.free ++ [(vn : Int)]))) := Lib.hid (by
                        have := own_setCell HO6.out (p := ⟨b4, 0, none⟩) (by simp only; omega) (.slice (some ⟨g6, 0, none⟩) (n6 + 1) cap)
                        simpa [iv] using this)
                      have HL7 : Hid ((W6.setCell ⟨b4, 0, none⟩ (.slice (some ⟨g6, 0, none⟩) (n6 + 1) cap)).heap[lb]? = _) := Lib.hid ((hfa lb (by omega)).trans HL6.out)
                      have HW7 := Lib.hid (HW6.out.same (hfa g (by omega)) fun b hb => hfa b (by have := (HRL.out b hb).1; omega))
                      have HF7 : Hid (Fr (fun x => x = b4 ∨ x = lb ∨ rowsOf gs x) w5 (W6.setCell ⟨b4, 0, none⟩ (.slice (some ⟨g6, 0, none⟩) (n6 + 1) cap))) := Lib.hid (Fr.setCell (S := fun x => x = b4 ∨ x = lb ∨ rowsOf gs x) HF6.out (p := ⟨b4, 0, none⟩) (.inl (.inl rfl)) _)
                      clear hfa HK4 HO6 HL6 HW6 HF6 r46 z6 hall HG6 hlow6 q7
                      generalize W6.setCell ⟨b4, 0, none⟩ (.slice (some ⟨g6, 0, none⟩) (n6 + 1) cap) = W7 at *
                      have hs7 := HF7.out.size
                      have qs : W7.cell? ⟨lb, 7, none⟩ = some (.int .i64 (vn : Int)) := by
                        rw [blk_cell HL7.out, List.getElem?_toArray, iv, List.getElem?_map, List.getElem?_eq_getElem (by rw [HSZc.out.2.1, HLS.out]; omega)]
                        have := HYQ.out
                        rw [tp, List.getD_eq_getElem?_getD, List.getElem?_eq_getElem (by rw [HSZc.out.2.1, HLS.out]; omega)] at this
                        simpa using this
                      have zs := blk_free HL7.out 7
                      go_upto_region 28 with (fail)
                      have hlb3 := HS4.out
                      have hfa : ∀ j, j ≠ lb → (W7.setCell ⟨lb, 7, none⟩ (.int .i64 0)).heap[j]? = W7.heap[j]? := fun j hj => Below.heap_setCell _ _ _ _ hj
                      have HP8 : Hid ((W7.setCell ⟨lb, 7, none⟩ (.int .i64 0)).heap[b4]? = some (.cells #[.slice (some ⟨g6, 0, none⟩) (n6 + 1) cap] 23 (0, 0))) := Lib.hid ((hfa b4 (by omega)).trans HP7.out)
                      have HO8 : Hid ((W7.setCell ⟨lb, 7, none⟩ (.int .i64 0)).ownsRow w5.heap.size 3 1 (.slice (some ⟨g6, 0, none⟩) (n6 + 1) cap) (n6 + 1) (iv .i64 (cutCj sB (1 + 1)).free)) := Lib.hid (by rw [HS2.out]; exact own_same HO7.out (fun j hj => hfa j (by have := (HO7.out.lt j hj).1; omega)))
                      have HL8 : Hid ((W7.setCell ⟨lb, 7, none⟩ (.int .i64 0)).heap[lb]? = some (.cells (iv .i64 (cutCj sB (1 + 1)).l).toArray 66 (0, 0))) := Lib.hid (by
                        rw [HS2.out]
                        have := blk_set HL7.out 7 (.int .i64 0)
                        rw [this]
                        simp [iv, List.map_set])
                      have HW8 : Hid (Wr w2.heap.size (W7.setCell ⟨lb, 7, none⟩ (.int .i64 0)) g n c' (cutCj sB (1 + 1)).out gs) := Lib.hid (by rw [HS2.out]; exact HW7.out.same (hfa g (by omega)) fun b hb => hfa b (by have := (HRL.out b hb).2; omega))
                      have HF8 : Hid (Fr (fun x => x = b4 ∨ x = lb ∨ rowsOf gs x) w5 (W7.setCell ⟨lb, 7, none⟩ (.int .i64 0))) := Lib.hid (Fr.setCell (S := fun x => x = b4 ∨ x = lb ∨ rowsOf gs x) HF7.out (p := ⟨lb, 7, none⟩) (.inl (.inr (.inl rfl))) _)
                      have HN8 : Hid (n6 + 1 = (cutCj sB (1 + 1)).free.length) := Lib.hid (by rw [HS2.out, HN6.out]; simp)
                      clear hfa qs zs hlb3
                      generalize W7.setCell ⟨lb, 7, none⟩ (.int .i64 0) = W8 at *
                      go_wp2
                      exact ⟨⟨1 + 1, n6 + 1, cap, some ⟨g6, 0, none⟩, by omega, by first | rfl | go_num, HN8, HP8, HO8, HL8, HW8, HF8⟩, by simp [Go.RowKit.intOf]⟩
              · obtain rfl : i = 2 := by omega
                have HSZc := Lib.hid (cutCj_size HIS.out 2 (by omega))
                have hlc := HSZc.out.2.1.trans HLS.out
                have hs5r := HFc.out.size
                generalize cutCj sB 2 = sc at *
                have HP5r := Lib.hid ((HFc.out.block b5 (by omega) (fun h => by have := (HLR.out b5 h).2.2; omega)).trans HP5.out)
                have HP3r := Lib.hid ((HFc.out.block b3 (by omega) (fun h => by have := (HLR.out b3 h).2.2; omega)).trans HP3.out)
                obtain ⟨y0, y1, y2, y3, y4, y5, y6, y7, hsy⟩ := len8 hlc
                have hlr := HLc.out
                rw [hsy] at hlr
                obtain ⟨q0, q1, q2, q3, q4, q5, q6, q7⟩ := big8 hlr
                have HFI := Lib.hid (file_any sc.l hlc wr)
                have HSY := Lib.hid hsy
                rw [hsy] at HFI
                simp only [bigV, iv, List.map_cons, List.map_nil] at HFI
                clear hsy hlr hlc
                go_upto_region 29 with (fail)
                go_wp2_with (go_at_call 33; refine HFI.out.mono ?_; rintro e W6 ⟨rfl, hB⟩; have HB6 := Lib.hid hB; have Q5 : Hid (W6.heap[b5]? = _) := Lib.hid (blk_below HP5r.out hB (by omega)); have h6a := Q5.out; simp only [zB, iv, List.map_cons, List.map_nil] at h6a; obtain ⟨u0, u1, u2, u3, u4, u5, u6, u7⟩ := big8 h6a; have v5 := blk_free h6a; have Q5 := Lib.hid h6a; clear hB h6a)
                have HP4e := Lib.hid (blk_below H4c.out HB6.out (by omega))
                have HP3e := Lib.hid (blk_below HP3r.out HB6.out (by omega))
                have HWe := Lib.hid (HWc.out.below HB6.out)
                have HOe := Lib.hid (own_below HOc.out HB6.out (Nat.le_refl _))
                have HFe : Hid (Fr (fun x => x = b4 ∨ x = lb ∨ rowsOf gs x) w5 W6) := Lib.hid (HFc.out.trans (fr_of_below HB6.out _))
                have q6' := set8 Q5.out (.int .i64 y0) (.int .i64 y1) (.int .i64 y2) (.int .i64 y3) (.int .i64 y4) (.int .i64 y5) (.int .i64 y6) (.int .i64 y7)
                have hF8 : Fr (fun x => x = b5) W6 ((((((((W6.setCell ⟨b5, 0, none⟩ (.int .i64 y0)).setCell ⟨b5, 1, none⟩ (.int .i64 y1)).setCell ⟨b5, 2, none⟩ (.int .i64 y2)).setCell ⟨b5, 3, none⟩ (.int .i64 y3)).setCell ⟨b5, 4, none⟩ (.int .i64 y4)).setCell ⟨b5, 5, none⟩ (.int .i64 y5)).setCell ⟨b5, 6, none⟩ (.int .i64 y6)).setCell ⟨b5, 7, none⟩ (.int .i64 y7)) := Fr.setCell (S := fun x => x = b5) (Fr.setCell (S := fun x => x = b5) (Fr.setCell (S := fun x => x = b5) (Fr.setCell (S := fun x => x = b5) (Fr.setCell (S := fun x => x = b5) (Fr.setCell (S := fun x => x = b5) (Fr.setCell (S := fun x => x = b5) (Fr.setCell (S := fun x => x = b5) (Fr.refl _ W6) (p := ⟨b5, 0, none⟩) (.inl rfl) _) (p := ⟨b5, 1, none⟩) (.inl rfl) _) (p := ⟨b5, 2, none⟩) (.inl rfl) _) (p := ⟨b5, 3, none⟩) (.inl rfl) _) (p := ⟨b5, 4, none⟩) (.inl rfl) _) (p := ⟨b5, 5, none⟩) (.inl rfl) _) (p := ⟨b5, 6, none⟩) (.inl rfl) _) (p := ⟨b5, 7, none⟩) (.inl rfl) _
                generalize ((((((((W6.setCell ⟨b5, 0, none⟩ (.int .i64 y0)).setCell ⟨b5, 1, none⟩ (.int .i64 y1)).setCell ⟨b5, 2, none⟩ (.int .i64 y2)).setCell ⟨b5, 3, none⟩ (.int .i64 y3)).setCell ⟨b5, 4, none⟩ (.int .i64 y4)).setCell ⟨b5, 5, none⟩ (.int .i64 y5)).setCell ⟨b5, 6, none⟩ (.int .i64 y6)).setCell ⟨b5, 7, none⟩ (.int .i64 y7)) = W9 at *
                go_end0
                have hs6 := HB6.out.size
                have hw5 := HF5.out.size
                refine ⟨rfl, ?_, g, c', gs, A7, c7, ?_, ?_, ?_, ?_, ?_⟩
                · refine ⟨hF8.os.trans (HFe.out.os.trans HF5.out.os), hF8.tape.trans (HFe.out.tape.trans HF5.out.tape), hF8.output.trans (HFe.out.output.trans HF5.out.output), by have := HFe.out.size; have := hF8.size; omega, fun x hx hn => ?_⟩
                  have h3' : x ≠ b3 := fun e => hn (.inl e)
                  have h4' : x ≠ b4 := fun e => hn (.inr (.inl e))
                  have h5' : x ≠ b5 := fun e => hn (.inr (.inr e))
                  exact (hF8.block x (by have := HFe.out.size; omega) h5').trans ((HFe.out.block x (by omega) (fun h => by have := (HLR.out x h).2.2; omega)).trans (HF5.out.block x hx h3'))
                · exact (hF8.block b3 (by have := HFe.out.size; omega) h35).trans HP3e.out
                · rw [HCE2.out]
                  exact (HWe.out.fr hF8 (fun b hb => by omega)).mono (by omega)
                · rw [HCE2.out, HSY.out]
                  exact q6'
                · rw [HCE2.out, ← HN6.out]
                  exact (hF8.block b4 (by have := HFe.out.size; omega) h45).trans HP4e.out
                · rw [HCE2.out, ← HN6.out]
                  obtain ⟨A', c'', e, _, hr⟩ := rd_own (own_same HOe.out (fun j hj => hF8.block j (HOe.out.lt j hj).2 (by have := (HOe.out.lt j hj).1; omega)))
                  cases e
                  exact hr
end Go.Proofs.Ytcgfoaihfncppaa
