/- Walks of laws on layout: what is read of what was written, and written of what was read. -/
import Derived.Test.YtkmonkemkhigfaaDoorLay16
import Derived.Test.YtkmonkemkhigfaaDoorLayL
import Derived.Deep.DeepCutAuto
set_option linter.unusedSimpArgs false
set_option linter.unusedVariables false
namespace Go.Proofs.YtkmonkemkhigfaaDoor
open Go.RowKit Go.Sel Go.Sel.Lay

/-- Behind a struct's store, another block. -/
theorem stored4g {w1 : World} {b c : Nat} {o : Option Obj} (hb : w1.heap[c]? = o) (hc : b ≠ c) (v0 v1 v2 v3 : Value) :
    ((((w1.setCell ⟨b, 0, none⟩ v0).setCell ⟨b, 1, none⟩ v1).setCell ⟨b, 2, none⟩ v2).setCell ⟨b, 3, none⟩ v3).heap[c]? = o :=
  blk_far (blk_far (blk_far (blk_far hb (by simpa using hc) v0) (by simpa using hc) v1) (by simpa using hc) v2) (by simpa using hc) v3
def eoB (l : List Int) (i : Int) : List Int := if entOk l i then entB l i else []
def eoE (l : List Int) (i : Int) : Int := if entOk l i then 0 else 3
theorem entB_byte {s : ByteArray} {i : Int} (h : entOk (nums s) i = true) : AllByte (entB (nums s) i) := by
  have hi : 0 ≤ i ∧ i ≤ 255 := by
    simp only [entOk, Bool.or_eq_true, Bool.and_eq_true, decide_eq_true_eq] at h
    omega
  intro x hx
  simp only [entB, List.mem_append, List.mem_singleton, List.mem_replicate] at hx
  rcases hx with (rfl | hx) | ⟨_, rfl⟩
  · exact hi
  · exact nums_byte s x hx
  · omega
theorem rdName_byte {xs : List Int} (h : AllByte xs) : AllByte (rdName xs) := by
  intro x hx
  have h1 : x ∈ xs.drop 1 := by
    have : x ∈ (xs.drop 1).reverse.dropWhile (· == 0) := by simpa [rdName, trimZ] using hx
    simpa using (List.dropWhile_suffix _).subset this
  exact h x (List.mem_of_mem_drop h1)
theorem below_of_eq {w w' : World} (h : w' = w) : Below w.heap.size w w' := by subst h; exact Below.refl _ _
theorem Entry_any (s : ByteArray) (i : Int) (w : World) (hs : s.size ≤ 9223372036854775807) (h0 : -9223372036854775808 ≤ i) (h1 : i ≤ 9223372036854775807) :
    Calls Tryd.prog 17 #[.agg #[.string s, .int .i64 i]] w fun e w' => (∃ A c, e = .returned (.tuple #[.slice A (eoB (nums s) i).length c, .int .i64 (eoE (nums s) i)]) ∧ Rd w' A (eoB (nums s) i).length c (iv .u8 (eoB (nums s) i))) ∧ Below w.heap.size w w' := by
  by_cases h : entOk (nums s) i = true
  · have hl := entB_length (nums s) i (entOk_le h)
    have e1 : eoB (nums s) i = entB (nums s) i := by simp [eoB, h]
    have e2 : eoE (nums s) i = 0 := by simp [eoE, h]
    rw [e1, e2, hl]
    refine (Entry_yes s i w h).mono ?_
    rintro e w' ⟨⟨A, rfl, hr⟩, hB⟩
    exact ⟨⟨A, 8, rfl, hr⟩, hB⟩
  · have h := Bool.eq_false_iff.2 h
    have e1 : eoB (nums s) i = [] := by simp [eoB, h]
    have e2 : eoE (nums s) i = 3 := by simp [eoE, h]
    rw [e1, e2]
    refine (Entry_no s i w h hs h0 h1).mono ?_
    rintro e w' ⟨rfl, hB⟩
    exact ⟨⟨none, 0, rfl, Rd.nil (by omega)⟩, hB⟩

set_option maxRecDepth 100000 in
set_option maxHeartbeats 4000000 in
theorem law_LayoutBack (k l z : Int) (A : Option Addr) (n c : Nat) (xs : List Int) (s : ByteArray) (i : Int) (B : Option Addr) (m d : Nat) (ys : List Int) (w : World) (ha : Rd w A n c (iv .i64 xs)) (hn : xs.length = n)
    (k0 : 0 ≤ k) (k1 : k ≤ 255) (l0 : -9223372036854775808 ≤ l) (l1 : l ≤ 9223372036854775807) (z0 : -9223372036854775808 ≤ z) (z1 : z ≤ 9223372036854775807)
    (hs : s.size ≤ 9223372036854775807) (i0 : -9223372036854775808 ≤ i) (i1 : i ≤ 9223372036854775807)
    (hb : Rd w B m d (iv .u8 ys)) (hm : ys.length = m) (hy : AllByte ys) :
    Calls Tryd.prog 9 #[.agg #[.int .u8 k, .int .i64 l, .int .i64 z, .slice A n c], .agg #[.string s, .int .i64 i], .slice B m d] w fun e w' => e = .returned (.bool true) ∧ Below w.heap.size w w' := by
  have hyt : AllByte (ys.take 40) := fun x h => hy x (List.mem_of_mem_take h)
  have HS := take_rd ha hn 12
  have HF := take_rd hb hm 40
  have hc1 := ha.le
  have hc2 := ha.cap
  have hd1 := hb.le
  have hd2 := hb.cap
  have HSA := Lib.hid HS.1
  have HSL := Lib.hid HS.2
  have HFA := Lib.hid HF.1
  have HFL := Lib.hid HF.2
  have HY := Lib.hid hyt
  clear ha hn hb hm hy hyt HS HF
  go_enter Tryd.func9, Tryd.ntmps9
  go_upto_if 31 with (first
    | (go_at_call 25; refine (small_any k l z A n c _ hc1 hc2).mono ?_; rintro e w1 ⟨rfl, hB⟩; have p0 := blk_below (blk21 w (.cells #[.int .u8 k, .int .i64 l, .int .i64 z, .slice A n c] 45) (.cells #[.string s, .int .i64 i] 33)) hB (by simp; omega); have p1 := blk_below (blk22 w (.cells #[.int .u8 k, .int .i64 l, .int .i64 z, .slice A n c] 45) (.cells #[.string s, .int .i64 i] 33)) hB (by simp); have c0 := blk_cell p0 0; have c1 := blk_cell p0 1; have c2 := blk_cell p0 2; have c3 := blk_cell p0 3; have f0 := blk_free p0 0; have f1 := blk_free p0 1; have f2 := blk_free p0 2; have f3 := blk_free p0 3; simp only [List.getElem?_toArray, List.getElem?_cons_zero, List.getElem?_cons_succ] at c0 c1 c2 c3; have HST := Lib.hid (stored4c p0 (((((Below.refl _ w).alloc (Nat.le_refl _) (.cells #[.int .u8 k, .int .i64 l, .int .i64 z, .slice A n c] 45)).alloc (by simp) (.cells #[.string s, .int .i64 i] 33))).trans (hB.mono (by simp; omega))) (.int .u8 k) (.int .i64 l) (.int .i64 z) (.slice A (min n 12) c)); have HX := Lib.hid (stored4g (b := w.heap.size) p1 (by omega) (.int .u8 k) (.int .i64 l) (.int .i64 z) (.slice A (min n 12) c)); have s0 := blk_cell HST.out.1 0; have s1 := blk_cell HST.out.1 1; have s2 := blk_cell HST.out.1 2; have s3 := blk_cell HST.out.1 3; have t0 := blk_cell HX.out 0; have t1 := blk_cell HX.out 1; simp only [List.getElem?_toArray, List.getElem?_cons_zero, List.getElem?_cons_succ] at s0 s1 s2 s3 t0 t1; clear hB p0 p1)
    | (go_at_call 26; (with_reducible refine (Inode_any k l z A (min n 12) c (xs.take 12) _ (HSA.out.below HST.out.2) HSL.out k0 k1 l0 l1 z0 z1).mono ?_); rintro e w5 ⟨⟨A6, c6, rfl, hr6⟩, hB⟩; have HR6 := Lib.hid hr6; have s0 := keep_cell s0 hB; have s1 := keep_cell s1 hB; have s2 := keep_cell s2 hB; have s3 := keep_cell s3 hB; have t0 := keep_cell t0 hB; have t1 := keep_cell t1 hB; have HB5 := Lib.hid (below_then HST.out.2 hB); clear hB hr6 HST HX))
  go_cut [7, 8] (fun _ _ wx => wx.cell? ⟨w.heap.size + 1, 0, none⟩ = some (.string s) ∧ wx.cell? ⟨w.heap.size + 1, 1, none⟩ = some (.int .i64 i) ∧ Hid (Below w.heap.size w wx))
  case first =>
    by_cases hok : inoOk k l z (xs.take 12) = true
    · have h8 : (ioB k l z (xs.take 12)).length = 16 := by rw [ioB, if_pos hok]; exact inoB_length _ _ _ _ (blksOk_parts (inoOk_parts hok).1).2.2
      have hE : ioE k l z (xs.take 12) = 0 := by simp [ioE, hok]
      have hL : ioB k l z (xs.take 12) = inoB k l z (xs.take 12) := by simp [ioB, hok]
      have hby := ioB_byte k l z (xs.take 12)
      obtain ⟨q1, q2, q3, q4, q5⟩ := ri_inoB hok
      rw [← hL] at q1 q2 q3 q4 q5
      rw [hE, h8]
      rw [h8] at HR6
      generalize ioB k l z (xs.take 12) = L at *
      obtain ⟨r1, r2, r3, r4, r5⟩ := r_yes q5
      rw [q1] at r1
      rw [q2] at r2
      rw [q3] at r3
      rw [q4] at r4
      have H1 := Lib.hid r1
      have H2 := Lib.hid r2
      have H3 := Lib.hid r3
      have H4 := Lib.hid r4
      have H5 := Lib.hid r5
      have HBY := Lib.hid hby
      have H8 := Lib.hid h8
      clear hok h8 hE hL hby q1 q2 q3 q4 q5 r1 r2 r3 r4 r5
      generalize xs.take 12 = T at *
      go_wp2_with (first
        | (go_at_call 30; refine (ReadInode_any A6 16 c6 L _ HR6.out H8.out HBY.out).mono ?_; rintro e w8 ⟨⟨A8, c8, rfl, hr8⟩, hB⟩; rw [H1.out, H2.out, H3.out, H4.out, H5.out]; rw [H4.out] at hr8; have HR8 := Lib.hid hr8; have s0 := fun o => keep_cell (keep_cell s0 hB) (below_al _ o); have s1 := fun o => keep_cell (keep_cell s1 hB) (below_al _ o); have s2 := fun o => keep_cell (keep_cell s2 hB) (below_al _ o); have s3 := fun o => keep_cell (keep_cell s3 hB) (below_al _ o); have HB8 := Lib.hid hB; clear hB hr8)
        | (go_at_call 27; (with_reducible refine (Same_any k l z A8 _ c8 T k l z A (min n 12) c T _ (HR8.out.alloc _) rfl (HSA.out.below (below_then HB5.out (below_then HB8.out (below_al _ _)))) HSL.out).mono ?_); rw [sameOk_self]; rintro e w9 ⟨rfl, hB⟩; have HB9 := Lib.hid (below_then HB8.out (below_then (below_al _ _) hB)); clear hB))
      go_meet
      exact ⟨keep_cell t0 HB9.out, keep_cell t1 HB9.out, below_then HB5.out HB9.out⟩
    · have hE : ioE k l z (xs.take 12) = 3 := by simp [ioE, hok]
      rw [hE]
      clear hok hE
      go_wp2
      go_meet
      exact ⟨t0, t1, HB5.out⟩
  case rest =>
    obtain ⟨t0, t1, HC⟩ := hcut
    go_upto_if 56 with (go_at_call 17; (with_reducible refine (Entry_any s i _ hs i0 i1).mono ?_); rintro e w5 ⟨⟨A6, c6, rfl, hr6⟩, hB⟩; have HR6 := Lib.hid hr6; have t0 := keep_cell t0 hB; have t1 := keep_cell t1 hB; have HB5 := Lib.hid (below_then HC.out hB); clear hB hr6)
    go_cut [11, 12] (fun _ _ wx => Hid (Below w.heap.size w wx))
    case first =>
      by_cases hok : entOk (nums s) i = true
      · have h8 : (eoB (nums s) i).length = 8 := by rw [eoB, if_pos hok]; exact entB_length _ _ (entOk_le hok)
        have hE : eoE (nums s) i = 0 := by simp [eoE, hok]
        have hL : eoB (nums s) i = entB (nums s) i := by simp [eoB, hok]
        have hby : AllByte (eoB (nums s) i) := by rw [hL]; exact entB_byte hok
        obtain ⟨q1, q2, q3⟩ := rd_entB hok
        rw [← hL] at q1 q2 q3
        rw [hE, h8]
        rw [h8] at HR6
        generalize eoB (nums s) i = L at *
        obtain ⟨r1, r2, r3⟩ := re_ok q3
        rw [q1, strOfNums_nums] at r1
        rw [q2] at r2
        have H1 := Lib.hid r1
        have H2 := Lib.hid r2
        have H3 := Lib.hid r3
        have HBY := Lib.hid hby
        have H8 := Lib.hid h8
        clear hok h8 hE hL hby q1 q2 q3 r1 r2 r3
        go_wp2_with (go_at_call 19; refine (ReadEntry_any A6 8 c6 L _ HR6.out H8.out HBY.out).mono ?_; rintro e w8 ⟨rfl, hB⟩; rw [H1.out, H2.out, H3.out]; have t0 := fun o => keep_cell (keep_cell t0 hB) (below_al _ o); have t1 := fun o => keep_cell (keep_cell t1 hB) (below_al _ o); have HB8 := Lib.hid hB; clear hB)
        go_meet
        exact below_then HB5.out (below_then HB8.out (below_al _ _))
      · have hE : eoE (nums s) i = 3 := by simp [eoE, hok]
        rw [hE]
        clear hok hE
        go_wp2
        go_meet
        exact HB5.out
    case rest =>
      clear t0 t1 HC
      have HC := Lib.hid hcut.out
      clear hcut
      go_upto_if 81 with (first
        | (go_at_call 14; refine (few_any _ _ _ _ hd1 hd2).mono ?_; rintro e w3 ⟨rfl, rfl⟩)
        | (go_at_call 30; refine (ReadInode_any B (min m 40) d (ys.take 40) _ (HFA.out.below HC.out) HFL.out HY.out).mono ?_; rintro e w5 ⟨⟨A8, c8, rfl, hr8⟩, hB⟩; have HR8 := Lib.hid (hr8.alloc (.cells #[.int .u8 (rK (ys.take 40)), .int .i64 (rL (ys.take 40)), .int .i64 (rZ (ys.take 40)), .slice A8 (rB (ys.take 40)).length c8] 45)); have HB5 := Lib.hid (below_then (below_then HC.out hB) (below_al _ (.cells #[.int .u8 (rK (ys.take 40)), .int .i64 (rL (ys.take 40)), .int .i64 (rZ (ys.take 40)), .slice A8 (rB (ys.take 40)).length c8] 45))); clear hB hr8))
      go_cut [16] (fun _ wx => Hid (Below w.heap.size w wx))
      case first =>
        by_cases hok : riOk (ys.take 40) = true
        · have hE : rE (ys.take 40) = 0 := (r_yes hok).2.2.2.2
          rw [hE]
          obtain ⟨q1, q2⟩ := inoB_ri hok
          have h16 : (ys.take 40).length = 16 := by simp [riOk] at hok; simp; omega
          have HL16 := Lib.hid h16
          have H1 := Lib.hid q1
          have H2 := Lib.hid q2
          generalize rK (ys.take 40) = qk at *
          generalize rL (ys.take 40) = ql at *
          generalize rZ (ys.take 40) = qz at *
          generalize rB (ys.take 40) = qb at *
          generalize ys.take 40 = L at *
          clear hok hE q1 q2 h16
          go_upto_region 15 with (go_at_call 26; (with_reducible refine (Inode_ok qk ql qz A8 _ c8 qb _ HR8.out rfl H1.out).mono ?_); rintro e w9 ⟨⟨A9, rfl, hr9⟩, hB⟩; rw [H2.out] at hr9; have HR9 := Lib.hid hr9; have HB9 := Lib.hid (below_then HB5.out hB); clear hB hr9)
          have HRD : Hid (Rds w9 [(A9, 16, 16, iv .u8 L), (B, min m 40, d, iv .u8 L)]) := Rds.cons HR9.out (Rds.cons (HFA.out.below HB9.out) (Rds.nil _))
          clear HR8 HR9 HB5
          go_region_held3 (fun w' => Hid (Rds w' [(A9, 16, 16, iv .u8 L), (B, min m 40, d, iv .u8 L)]) ∧ (convert 22 9 (.slice A9 16 16)).run Tryd.prog w' = .ok (.string (strOfNums L)) w' ∧ (convert 22 9 (.slice B (min m 40) d)).run Tryd.prog w' = .ok (.string (strOfNums L)) w' ∧ Hid (Below w.heap.size w w'))
            (first
              | exact ⟨Rds.below (by assumption) (Below.refl _ _).drew, Rd.str (Rds.get (Rds.below (L := [(A9, 16, 16, iv .u8 L), (B, min m 40, d, iv .u8 L)]) (by assumption) (Below.refl _ _).drew) (.head _)) HL16.out Tryd.underlying22 Tryd.underlying5 Tryd.underlying9, Rd.str (Rds.get (Rds.below (L := [(A9, 16, 16, iv .u8 L), (B, min m 40, d, iv .u8 L)]) (by assumption) (Below.refl _ _).drew) (.tail _ (.head _))) HFL.out Tryd.underlying22 Tryd.underlying5 Tryd.underlying9, below_then (Hid.out (by assumption)) (Below.refl _ _).drew⟩
              | ((try go_split_ands); exact ⟨Rds.below (by assumption) hB, Rd.str (Rds.get (Rds.below (L := [(A9, 16, 16, iv .u8 L), (B, min m 40, d, iv .u8 L)]) (by assumption) hB) (.head _)) HL16.out Tryd.underlying22 Tryd.underlying5 Tryd.underlying9, Rd.str (Rds.get (Rds.below (L := [(A9, 16, 16, iv .u8 L), (B, min m 40, d, iv .u8 L)]) (by assumption) hB) (.tail _ (.head _))) HFL.out Tryd.underlying22 Tryd.underlying5 Tryd.underlying9, below_then (Hid.out (by assumption)) hB⟩))
            (first
              | (go_at_call 14; refine (few_any _ _ _ _ hd1 hd2).mono ?_; rintro e w11 ⟨rfl, hw⟩; have hB := below_of_eq hw; clear hw))
          go_split_ands
          go_wp2
          go_meet
          exact Hid.out (by assumption)
        · have hE : rE (ys.take 40) = 3 := (r_no (Bool.eq_false_iff.2 hok)).2.2.2.2
          rw [hE]
          clear hok hE
          go_wp2
          go_meet
          exact HB5.out
      case rest =>
        clear HC
        have HC := Lib.hid hcut.out
        clear hcut
        go_upto_if 104 with (first
          | (go_at_call 14; refine (few_any _ _ _ _ hd1 hd2).mono ?_; rintro e w3 ⟨rfl, rfl⟩)
          | (go_at_call 19; refine (ReadEntry_any B (min m 40) d (ys.take 40) _ (HFA.out.below HC.out) HFL.out HY.out).mono ?_; rintro e w5 ⟨rfl, hB⟩; have HB5 := Lib.hid (below_then (below_then HC.out hB) (below_al _ (.cells #[.string (reName (ys.take 40)), .int .i64 (reIno (ys.take 40))] 33))); have m0 := new_cell w5 #[.string (reName (ys.take 40)), .int .i64 (reIno (ys.take 40))] 33 0 _ rfl; have m1 := new_cell w5 #[.string (reName (ys.take 40)), .int .i64 (reIno (ys.take 40))] 33 1 _ rfl; clear hB))
        by_cases hok : rdOk (ys.take 40) = true
        · obtain ⟨r1, r2, r3⟩ := re_ok hok
          have hbn : AllByte (rdName (ys.take 40)) := rdName_byte HY.out
          have hen : entOk (nums (reName (ys.take 40))) (reIno (ys.take 40)) = true := by
            rw [r1, r2, nums_strOfNums hbn]
            simp only [rdOk, Bool.and_eq_true] at hok
            exact hok.2
          have hcd : entB (nums (reName (ys.take 40))) (reIno (ys.take 40)) = ys.take 40 := by rw [r1, r2, nums_strOfNums hbn]; exact entB_rd hok
          have h8 : (ys.take 40).length = 8 := by simp only [rdOk, Bool.and_eq_true, decide_eq_true_eq] at hok; exact hok.1
          have H8 := Lib.hid h8
          have HEN := Lib.hid hen
          have HCD := Lib.hid hcd
          rw [r3]
          clear hok r1 r2 r3 hbn hen hcd h8
          generalize reName (ys.take 40) = qs at *
          generalize reIno (ys.take 40) = qi at *
          generalize ys.take 40 = L at *
          generalize w5.heap.size = b5 at *
          generalize w5.alloc (.cells #[.string qs, .int .i64 qi] 33) = w6 at *
          go_upto_region 21 with (go_at_call 17; (with_reducible refine (Entry_yes qs qi _ HEN.out).mono ?_); rintro e w9 ⟨⟨A9, rfl, hr9⟩, hB⟩; rw [HCD.out] at hr9; have HR9 := Lib.hid hr9; have HB9 := Lib.hid (below_then HB5.out hB); clear hB hr9)
          have HRD : Hid (Rds w9 [(A9, 8, 8, iv .u8 L), (B, min m 40, d, iv .u8 L)]) := Rds.cons HR9.out (Rds.cons (HFA.out.below HB9.out) (Rds.nil _))
          clear HR9 HB5
          go_region_held3 (fun w' => Hid (Rds w' [(A9, 8, 8, iv .u8 L), (B, min m 40, d, iv .u8 L)]) ∧ (convert 22 9 (.slice A9 8 8)).run Tryd.prog w' = .ok (.string (strOfNums L)) w' ∧ (convert 22 9 (.slice B (min m 40) d)).run Tryd.prog w' = .ok (.string (strOfNums L)) w' ∧ Hid (Below w.heap.size w w'))
            (first
              | exact ⟨Rds.below (by assumption) (Below.refl _ _).drew, Rd.str (Rds.get (Rds.below (L := [(A9, 8, 8, iv .u8 L), (B, min m 40, d, iv .u8 L)]) (by assumption) (Below.refl _ _).drew) (.head _)) H8.out Tryd.underlying22 Tryd.underlying5 Tryd.underlying9, Rd.str (Rds.get (Rds.below (L := [(A9, 8, 8, iv .u8 L), (B, min m 40, d, iv .u8 L)]) (by assumption) (Below.refl _ _).drew) (.tail _ (.head _))) HFL.out Tryd.underlying22 Tryd.underlying5 Tryd.underlying9, below_then (Hid.out (by assumption)) (Below.refl _ _).drew⟩
              | ((try go_split_ands); exact ⟨Rds.below (by assumption) hB, Rd.str (Rds.get (Rds.below (L := [(A9, 8, 8, iv .u8 L), (B, min m 40, d, iv .u8 L)]) (by assumption) hB) (.head _)) H8.out Tryd.underlying22 Tryd.underlying5 Tryd.underlying9, Rd.str (Rds.get (Rds.below (L := [(A9, 8, 8, iv .u8 L), (B, min m 40, d, iv .u8 L)]) (by assumption) hB) (.tail _ (.head _))) HFL.out Tryd.underlying22 Tryd.underlying5 Tryd.underlying9, below_then (Hid.out (by assumption)) hB⟩))
            (first
              | (go_at_call 16; refine (live_any _).mono ?_; rintro e w11 ⟨rfl, hB⟩)
              | (go_at_call 14; refine (few_any _ _ _ _ hd1 hd2).mono ?_; rintro e w11 ⟨rfl, hw⟩; have hB := below_of_eq hw; clear hw))
          go_split_ands
          go_wp2
          go_ret
          exact ⟨rfl, Hid.out (by assumption)⟩
        · obtain ⟨r1, r2, r3⟩ := re_no (Bool.eq_false_iff.2 hok)
          rw [r1, r2] at m0 m1 HB5
          rw [r1, r2, r3]
          clear hok r1 r2 r3
          generalize w5.heap.size = b5 at *
          generalize w5.alloc (.cells #[.string ByteArray.empty, .int .i64 0] 33) = w6 at *
          go_wp2_with (go_at_call 16; refine (live_any _).mono ?_; rintro e w9 ⟨rfl, hB⟩; have m0 := keep_cell m0 hB; have m1 := keep_cell m1 hB; have HB9 := Lib.hid (below_then HB5.out hB); clear hB)
          go_ret
          exact ⟨rfl, HB9.out⟩
end Go.Proofs.YtkmonkemkhigfaaDoor
