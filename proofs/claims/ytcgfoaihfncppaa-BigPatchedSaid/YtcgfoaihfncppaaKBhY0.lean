/- Walks of what BigPatched needs: ref05.Right, ref06.DepsOf, Right, Blocks, SameBlocks, ref04.Apply (printed by gen_bhy0.py). -/
import Derived.Test.YtcgfoaihfncppaaKBgWr
import Derived.Test.YtcgfoaihfncppaaKBhw0
set_option linter.unusedSimpArgs false
set_option linter.unusedVariables false
namespace Go.Proofs.Ytcgfoaihfncppaa
open Go.RowKit Go.Sel Go.Sel.Gra Go.Sel.Bg Go.Sel.Mer Go.Shelf
theorem infoInts' : (Try.prog.info? 23).map (fun i => (i.zero, i.size, i.bytes)) = some (some (.slice none 0 0), 1, 24) := by kernel_rfl
def RowOK (D : List (List Int)) (i : Nat) : Prop := (nth D i).length ≤ 256 ∧ ∀ d ∈ nth D i, 0 ≤ d ∧ d < (i : Int)
theorem right_of_rows {D : List (List Int)} (h : D.length ≤ 256) (k : ∀ i, i < D.length → RowOK D i) : rightD D = true := right_iff.2 ⟨h, k⟩
theorem not_right_row {D : List (List Int)} {i : Nat} (hi : i < D.length) (h : ¬ RowOK D i) : rightD D = false := by
  cases hr : rightD D with
  | false => rfl
  | true => exact absurd ((right_iff.1 hr).2 i hi) h
theorem not_right_len {D : List (List Int)} (h : 256 < D.length) : rightD D = false := by
  cases hr : rightD D with
  | false => rfl
  | true => have := (right_iff.1 hr).1; omega

set_option maxRecDepth 100000 in
set_option maxHeartbeats 4000000 in
theorem rRight_any (A : Option Addr) (n c : Nat) (D : List (List Int)) (w : World) (hD : Dp w A n c D) :
    Calls Try.prog 66 #[.slice A n c] w fun e w' => e = .returned (.bool (rightD D)) ∧ w' = w := by
  have HD := Lib.hid hD
  have hl := Lib.hid hD.len
  have l1 := hD.le
  have l2 := hD.cap
  clear hD
  go_enter Try.func66, Try.ntmps66
  rcases (show 256 < n ∨ n ≤ 256 by omega) with hn | hn
  · have HF : Hid (rightD D = false) := not_right_len (by rw [hl.out]; exact hn)
    go_wp2
    go_ret
    exact ⟨ret_bool HF.out.symm, rfl⟩
  · go_wp2
    go_loopw [3, 4] (fun i _ wr => ∃ k : Nat, k ≤ n ∧ i = .int .i64 k ∧ wr = w ∧ Hid (∀ j, j < k → RowOK D j)) (fun i _ _ => n - (intOf i).toNat)
    case atStart => exact ⟨0, by omega, by go_num, rfl, fun j h => by omega⟩
    case round =>
      obtain ⟨k, hk, rfl, rfl, HO⟩ := hrel
      by_cases hlt : k < n
      · obtain ⟨b, off, A', n', c', rfl, hc, hn', hrd⟩ := HD.out.at_ hlt
        have hl1 := hrd.le
        have hl2 := hrd.cap
        have HNL := Lib.hid hn'
        have HRD := Lib.hid hrd
        have hkD : Hid (k < D.length) := by show _ < _; rw [hl.out]; exact hlt
        clear hn' hrd
        rcases (show 256 < n' ∨ n' ≤ 256 by omega) with hn2 | hn2
        · have HF : Hid (rightD D = false) := not_right_row hkD.out (fun h => by have := h.1; have := HNL.out; omega)
          go_wp2
          go_ret
          exact ⟨ret_bool HF.out.symm, rfl⟩
        · go_wp2
          go_loopw [4] (fun i w3 => ∃ t : Nat, t ≤ n' ∧ i = .int .i64 t ∧ w3 = wr ∧ Hid (∀ j (h : j < (nth D k).length), j < t → 0 ≤ (nth D k)[j] ∧ (nth D k)[j] < (k : Int))) (fun i _ => n' - (intOf i).toNat)
          case atStart => exact ⟨0, by omega, by go_num, rfl, fun j _ h => by omega⟩
          case round =>
            obtain ⟨t, ht, rfl, rfl, HI⟩ := hrel
            by_cases hlt2 : t < n'
            · obtain ⟨b', off', rfl, _, hcc⟩ := HRD.out.form (by have := HNL.out; simp; omega)
              have htl : t < (nth D k).length := by have := HNL.out; omega
              have hck := hcc t (by simpa using htl)
              rw [iv_at] at hck
              have HX : Hid ((nth D k)[t] ∈ nth D k) := List.getElem_mem htl
              have HN : Hid (0 ≤ (nth D k)[t] ∧ (nth D k)[t] < (k : Int) → ∀ j (h : j < (nth D k).length), j < t + 1 → 0 ≤ (nth D k)[j] ∧ (nth D k)[j] < (k : Int)) := fun h j hj hjt => by
                by_cases e : j = t
                · subst e; exact h
                · exact HI.out j hj (by omega)
              clear hcc
              generalize (nth D k)[t] = x at HX HN hck
              rcases (show x < 0 ∨ (0 ≤ x ∧ (k : Int) ≤ x) ∨ (0 ≤ x ∧ x < (k : Int)) by omega) with h | ⟨h, h'⟩ | ⟨h, h'⟩
              · have HF : Hid (rightD D = false) := not_right_row hkD.out (fun hr => by have := hr.2 x HX.out; omega)
                have q1 : decide (x < 0) = true := by simpa using h
                go_wp2
                go_ret
                exact ⟨ret_bool HF.out.symm, rfl⟩
              · have HF : Hid (rightD D = false) := not_right_row hkD.out (fun hr => by have := hr.2 x HX.out; omega)
                have q1 : decide (x < 0) = false := by simp; omega
                have q2 : decide ((k : Int) ≤ x) = true := by simpa using h'
                go_wp2
                go_ret
                exact ⟨ret_bool HF.out.symm, rfl⟩
              · have HN2 := Lib.hid (HN.out ⟨h, h'⟩)
                have q1 : decide (x < 0) = false := by simp; omega
                have q2 : decide ((k : Int) ≤ x) = false := by simp; omega
                go_wp2
                go_roundw
                case rel => exact ⟨t + 1, by omega, by go_num, trivial, HN2⟩
                case measure => simp [intOf]; omega
            · obtain rfl : t = n' := by omega
              go_wp2
              go_roundw
              case rel =>
                refine ⟨k + 1, by omega, by go_num, trivial, fun j hj => ?_⟩
                by_cases e : j = k
                · subst e
                  refine ⟨by have := HNL.out; omega, fun d hd => ?_⟩
                  obtain ⟨q, hq, rfl⟩ := List.mem_iff_getElem.1 hd
                  exact HI.out q hq (by have := HNL.out; omega)
                · exact HO.out j (by omega)
              case measure => simp [intOf]; omega
      · have HT : Hid (rightD D = true) := right_of_rows (by rw [hl.out]; exact hn) (fun i hi => HO.out i (by have := hl.out; omega))
        go_wp2
        go_ret
        exact ⟨ret_bool HT.out.symm, rfl⟩


set_option maxRecDepth 100000 in
set_option maxHeartbeats 4000000 in
theorem DepsOf_any (A : Option Addr) (n c : Nat) (L : List It) (w : World) (hL : Ip w A n c L) (hn : n ≤ 1000) :
    Calls Try.prog 67 #[.slice A n c] w fun e w' => (∃ A' c', e = .returned (.slice A' n c') ∧ Dp w' A' n c' (depsL L)) ∧ Below w.heap.size w w' := by
  have l1 := hL.le
  have l2 := hL.cap
  obtain ⟨ss, hS⟩ := hL
  have HS := Lib.hid hS
  have HLN := Lib.hid hS.len
  have HSN := Lib.hid hS.slen
  clear hS
  go_enter Try.func67, Try.ntmps67
  go_wp2
  go_loopw [3, 4] (fun v i wr => ∃ k : Nat, k ≤ n ∧ i = .int .i64 k ∧ Hid (wr.ownsRow w.heap.size 23 1 v k ((ss.take k).map sv)) ∧ Hid (Below w.heap.size w wr)) (fun _ i _ => n - (intOf i).toNat)
  case atStart => exact ⟨0, by omega, rfl, World.ownsRow_nil _ _ _ _, Below.refl _ _⟩
  case round =>
    obtain ⟨k, hk, rfl, HO, HW⟩ := hrel
    by_cases hlt : k < n
    · have hks : k < ss.length := by have := HSN.out; omega
      obtain ⟨b, off, rfl, hb, c0, c1, c2, c3⟩ := (HS.out.below HW.out).at_ hlt
      have HTK : Hid ((ss.take (k + 1)).map sv = (ss.take k).map sv ++ [sv ss[k]]) := by
        show _ = _
        rw [List.take_succ_eq_append_getElem hks, List.map_append]; rfl
      generalize hs : ss[k] = q at *
      obtain ⟨qa, qn, qc⟩ := q
      simp only [sv] at c3 HTK
      clear hs
      go_wp2_with (at_builtin; refine wpList_push wr rfl (.tmp 11) (.tmp 17) 107 23 rfl w.heap.size (.slice none 0 0) 24 Try.underlying107 infoInts' rfl (by omega) _ k _ (.slice qa qn qc) rfl rfl rfl HO.out HW.out.size (by omega) rfl ?_; intro g cap w1 ho hg hat hlt1; have HO1 := Lib.hid ho; have HW1 := Lib.hid (below_grown HW.out hg HW.out.size (own_row HO.out)); clear ho hg hat)
      go_roundw
      case rel => exact ⟨k + 1, by omega, by go_num, by rw [HTK.out]; exact HO1.out, HW1⟩
      case measure => simp [intOf] <;> omega
    · obtain rfl : k = n := by omega
      go_wp2
      go_ret
      obtain ⟨A5, c5, rfl, hl5, hr5⟩ := rd_own HO.out
      rw [List.take_of_length_le (by have := HSN.out; omega)] at hr5
      refine ⟨⟨A5, c5, rfl, Dp.mk_ ss (by rw [depsL_length]; exact HLN.out) HSN.out hr5 fun j hj => ?_⟩, HW.out⟩
      have h5 := (HS.out.below HW.out).deps j hj
      rw [nth_depsL (by have := HLN.out; have := HSN.out; omega)]
      exact h5



set_option maxHeartbeats 1000000 in
theorem rpRight_any (x : It) (w : World) :
    Calls Try.prog 65 #[.agg #[.int .i64 x.b, .int .i64 x.o, .string x.s]] w fun e w' => e = .returned (.bool (prightB x)) ∧ Below w.heap.size w w' := by
  have HE : Hid (∀ b : Bool, (prightB x = true ↔ b = true) → prightB x = b) := fun b h => Bool.eq_iff_iff.2 h
  have HI := Lib.hid (pright_iff (x := x))
  generalize prightB x = r at *
  obtain ⟨b, o, s, ds⟩ := x
  simp only at *
  by_cases h1 : ¬ (0 ≤ b)
  · have hr : r = false := HE.out _ (by rw [HI.out]; simp; omega)
    subst hr
    go_enter Try.func65, Try.ntmps65
    go_wp2
    go_ret
    exact ⟨rfl, below_al _ _⟩
  by_cases h2 : ¬ (b < 96)
  · have hr : r = false := HE.out _ (by rw [HI.out]; simp; omega)
    subst hr
    go_enter Try.func65, Try.ntmps65
    go_wp2
    go_ret
    exact ⟨rfl, below_al _ _⟩
  by_cases h3 : ¬ (0 ≤ o)
  · have hr : r = false := HE.out _ (by rw [HI.out]; simp; omega)
    subst hr
    go_enter Try.func65, Try.ntmps65
    go_wp2
    go_ret
    exact ⟨rfl, below_al _ _⟩
  by_cases h4 : ¬ (o < 32)
  · have hr : r = false := HE.out _ (by rw [HI.out]; simp; omega)
    subst hr
    go_enter Try.func65, Try.ntmps65
    go_wp2
    go_ret
    exact ⟨rfl, below_al _ _⟩
  by_cases h5 : ¬ (1 ≤ (s.size : Int))
  · have hr : r = false := HE.out _ (by rw [HI.out]; simp; omega)
    subst hr
    go_enter Try.func65, Try.ntmps65
    go_wp2
    go_ret
    exact ⟨rfl, below_al _ _⟩
  by_cases h6 : ¬ ((s.size : Int) ≤ 32 - o)
  · have hr : r = false := HE.out _ (by rw [HI.out]; simp; omega)
    subst hr
    go_enter Try.func65, Try.ntmps65
    go_wp2
    go_ret
    exact ⟨rfl, below_al _ _⟩
  · have hr : r = true := HE.out _ (by rw [HI.out]; simp; omega)
    subst hr
    simp only [Classical.not_not] at h1 h2 h3 h4 h5 h6
    go_enter Try.func65, Try.ntmps65
    go_wp2
    go_ret
    exact ⟨rfl, below_al _ _⟩

set_option maxRecDepth 100000 in
set_option maxHeartbeats 2000000 in
theorem rmRight_any (A : Option Addr) (n c : Nat) (L : List It) (w : World) (hL : Ip w A n c L) :
    Calls Try.prog 45 #[.slice A n c] w fun e w' => e = .returned (.bool (mrightB L)) ∧ Below w.heap.size w w' := by
  have HL := Lib.hid hL
  have HN := Lib.hid hL.len
  have l1 := hL.le
  have l2 := hL.cap
  clear hL
  by_cases hl : n ≤ 64
  · have hq0 : decide ((64 : Int) < (n : Int)) = false := decide_eq_false (by omega)
    go_enter Try.func45, Try.ntmps45
    go_wp2
    go_loopw [3] (fun v wr => ∃ k : Nat, k ≤ n ∧ v = .int .i64 k ∧ Hid (∀ j, j < k → prightB (nthI L j) = true) ∧ Hid (Below w.heap.size w wr)) (fun v _ => n - (intOf v).toNat)
    case atStart => exact ⟨0, by omega, rfl, Lib.hid (fun j hj => by omega), Below.refl _ _⟩
    case round =>
      obtain ⟨k, hk, rfl, hz, HB⟩ := hrel
      by_cases hlt : k < n
      · obtain ⟨b, off, A', n', c', rfl, hb, c0, c1, c2, c3, hd, hr⟩ := (HL.out.below HB.out).at_ hlt
        clear hd hr
        have HP : Hid (∀ wx, Calls Try.prog 65 #[.agg #[.int .i64 (nthI L k).b, .int .i64 (nthI L k).o, .string (nthI L k).s]] wx fun e w' => e = .returned (.bool (prightB (nthI L k))) ∧ Below wx.heap.size wx w') := fun wx => rpRight_any (nthI L k) wx
        cases hq : prightB (nthI L k) with
        | true =>
          have HQ := Lib.hid hq
          rw [hq] at HP
          clear hq
          generalize hx : nthI L k = x at *
          have HX := Lib.hid hx
          clear hx
          go_wp2_with (go_at_call 65; (with_reducible refine (HP.out _).mono ?_); rintro e w2 ⟨rfl, hB⟩; have HB2 := Lib.hid (below_then HB.out hB); clear hB)
          go_roundw
          case rel => exact ⟨k + 1, by omega, by go_num, Lib.hid (fun j hj => by
            by_cases hjk : j = k
            · subst hjk; rw [HX.out]; exact HQ.out
            · exact hz.out j (by omega)), HB2⟩
          case measure => simp [intOf]; omega
        | false =>
          have HF := Lib.hid (mright_bad (L := L) (k := k) (by have := HN.out; omega) hq)
          rw [hq] at HP
          clear hq
          generalize nthI L k = x at *
          go_wp2_with (go_at_call 65; (with_reducible refine (HP.out _).mono ?_); rintro e w2 ⟨rfl, hB⟩; have HB2 := Lib.hid (below_then HB.out hB); clear hB)
          go_ret
          exact ⟨ret_bool HF.out.symm, HB2.out⟩
      · obtain rfl : k = n := by omega
        have HE := Lib.hid (mright_end (L := L) (by have := HN.out; omega) (fun j hj => hz.out j (by have := HN.out; omega)))
        go_wp2_with (first
          | (go_at_call 67; (with_reducible refine (DepsOf_any A _ c L _ (HL.out.below HB.out) (by omega)).mono ?_); rintro e w2 ⟨⟨A2, c2, rfl, hd⟩, hB⟩; have HD := Lib.hid hd; have HB2 := Lib.hid (below_then HB.out hB); clear hd hB)
          | (go_at_call 66; (with_reducible refine (rRight_any A2 _ _ (depsL L) _ HD.out).mono ?_); rw [← HE.out]; rintro e w3 ⟨rfl, hw⟩; have hw := hw.symm; subst hw))
        go_ret
        exact ⟨rfl, HB2.out⟩
  · have HF := Lib.hid (mright_long (L := L) (by have := HN.out; omega))
    have hq0 : decide ((64 : Int) < (n : Int)) = true := decide_eq_true (by omega)
    go_enter Try.func45, Try.ntmps45
    go_wp2
    go_ret
    exact ⟨ret_bool HF.out.symm, Below.refl _ _⟩


set_option maxRecDepth 100000 in
set_option maxHeartbeats 2000000 in
theorem rApply_no (x : It) (A : Option Addr) (n c : Nat) (w : World) (hn : n ≤ 9223372036854775807) (h : ¬ (n = 32 ∧ prightB x = true)) :
    Calls Try.prog 47 #[.slice A n c, .agg #[.int .i64 x.b, .int .i64 x.o, .string x.s]] w fun e w' => e = .returned (.tuple #[.slice none 0 0, .int .i64 3]) ∧ Below w.heap.size w w' := by
  have HP := Lib.hid (fun wx => rpRight_any x wx)
  by_cases hn : n = 32
  · subst hn
    have hp : prightB x = false := by simpa using h
    have q0 : (((32 : Nat) : Int) != 32) = false := by decide
    have HF := Lib.hid hp
    clear h hp
    go_enter Try.func47, Try.ntmps47
    go_wp2_with (go_at_call 65; (with_reducible refine (HP.out _).mono ?_); rintro e w1 ⟨rfl, hB⟩; rw [HF.out]; have HB := Lib.hid ((below_al w (.cells #[.int .i64 x.b, .int .i64 x.o, .string x.s] 73)).trans (hB.mono (by simp))); clear hB)
    go_ret2
    exact ⟨rfl, HB.out⟩
  · have q0 : ((n : Int) != 32) = true := by simp; omega
    clear h
    go_enter Try.func47, Try.ntmps47
    go_wp2
    go_ret2
    exact ⟨rfl, below_al _ _⟩

/-- Block g begins with the bytes ys, and may be written. -/
def RowQ (w : World) (g : Nat) (T : TypeId) (ys : List Int) : Prop := ∃ cur, w.heap[g]? = some (.cells cur T (0, 0)) ∧ ∀ j (h : j < ys.length), cur[j]? = some (.int .u8 ys[j])
theorem RowQ.lt {w : World} {g : Nat} {T : TypeId} {ys : List Int} (h : RowQ w g T ys) : g < w.heap.size := by obtain ⟨cur, h, _⟩ := h; exact (Array.getElem?_eq_some_iff.1 h).1
theorem RowQ.below {w w' : World} {g : Nat} {T : TypeId} {ys : List Int} (h : RowQ w g T ys) (hb : Below w.heap.size w w') : RowQ w' g T ys := by
  have hl := h.lt
  obtain ⟨cur, h1, h2⟩ := h
  exact ⟨cur, blk_below h1 hb hl, h2⟩
theorem RowQ.cell {w : World} {g : Nat} {T : TypeId} {ys : List Int} (h : RowQ w g T ys) (j : Nat) (hj : j < ys.length) : w.cell? ⟨g, j, none⟩ = some (.int .u8 ys[j]) := by
  obtain ⟨cur, h1, h2⟩ := h
  rw [blk_cell h1, h2 j hj]
theorem RowQ.free {w : World} {g : Nat} {T : TypeId} {ys : List Int} (h : RowQ w g T ys) (j : Nat) : w.frozen? ⟨g, j, none⟩ = false := by
  obtain ⟨cur, h1, h2⟩ := h
  exact blk_free h1 j
theorem RowQ.set {w : World} {g : Nat} {T : TypeId} {ys : List Int} (h : RowQ w g T ys) (j : Nat) (hj : j < ys.length) (x : Int) : RowQ (w.setCell ⟨g, j, none⟩ (.int .u8 x)) g T (ys.set j x) := by
  obtain ⟨cur, h1, h2⟩ := h
  refine ⟨_, blk_set h1 j _, fun i hi => ?_⟩
  have hi' : i < ys.length := by simpa using hi
  have hs : i < cur.size := (Array.getElem?_eq_some_iff.1 (h2 i hi')).1
  by_cases e : j = i
  · subst e; simp [hs]
  · rw [Array.getElem?_setIfInBounds_ne e, h2 i hi', List.getElem_set_ne e]
theorem RowQ.rd {w : World} {g : Nat} {T : TypeId} {ys : List Int} (h : RowQ w g T ys) (n c : Nat) (hn : n ≤ c) (hc : c ≤ 9223372036854775807) : Rd w (some ⟨g, 0, none⟩) n c (iv .u8 ys) := by
  obtain ⟨cur, h1, h2⟩ := h
  exact rd_block h1 n c _ 0 hn hc fun j hj => by rw [Nat.zero_add, iv_at]; exact h2 j (by simpa using hj)
theorem rowQ_own {w : World} {base n : Nat} {v : Value} {ys : List Int} (h : w.ownsRow base 5 1 v n (iv .u8 ys)) (hn : 0 < n) : ∃ g c, v = .slice (some ⟨g, 0, none⟩) n c ∧ base ≤ g ∧ n ≤ c ∧ c ≤ 9223372036854775807 ∧ RowQ w g 5 ys := by
  have hl := h.1
  rcases h.2 with ⟨rfl, h0⟩ | ⟨g, cap, cur, rfl, hb, hh, hnc, hc, hs, ht⟩
  · omega
  · refine ⟨g, cap, rfl, hb, hnc, by simpa [maxLen] using hc, cur, hh, fun j hj => ?_⟩
    have hj' : j < n * 1 := by rw [← hl]; simpa using hj
    have h1 : (cur.toList.take (n * 1))[j]? = (iv .u8 ys)[j]? := by rw [ht]
    rw [List.getElem?_take_of_lt hj', Array.getElem?_toList, List.getElem?_eq_getElem (by rw [iv_length]; exact hj), iv_at] at h1
    exact h1
theorem byte_at (xs : ByteArray) (k : Nat) (h : k < xs.size) : (nums xs)[k]'(by simpa using h) = (xs[k].toNat : Int) := by
  simp [nums]; rfl

set_option maxRecDepth 100000 in
set_option maxHeartbeats 4000000 in
theorem rApply_ok (x : It) (A : Option Addr) (c : Nat) (cs : List Int) (w : World) (hr : Rd w A 32 c (iv .u8 cs)) (hl : cs.length = 32) (hp : prightB x = true) :
    Calls Try.prog 47 #[.slice A 32 c, .agg #[.int .i64 x.b, .int .i64 x.o, .string x.s]] w fun e w' => (∃ A' c', e = .returned (.tuple #[.slice A' 32 c', .int .i64 0]) ∧ Rd w' A' 32 c' (iv .u8 (spl cs x.o.toNat (nums x.s)))) ∧ Below w.heap.size w w' := by
  have HP := Lib.hid (fun wx => rpRight_any x wx)
  have hp' := pright_iff.1 hp
  have HT := Lib.hid hp
  obtain ⟨on, hon⟩ : ∃ on : Nat, x.o = (on : Int) := ⟨x.o.toNat, by omega⟩
  have ho : on < 32 := by omega
  have hs : x.s.size ≤ 32 - on := by omega
  have HR := Lib.hid hr
  have HL := Lib.hid hl
  have q0 : (((32 : Nat) : Int) != 32) = false := by decide
  obtain ⟨xb, xo, xs, xd⟩ := x
  simp only at hon hs
  subst hon
  simp only [Int.toNat_natCast]
  clear hr hl hp hp'
  go_enter Try.func47, Try.ntmps47
  go_wp2_with (first
    | (go_at_call 65; (with_reducible refine (HP.out _).mono ?_); rintro e w1 ⟨rfl, hB⟩; rw [HT.out]; have hbx := blk_below (blk1 w ⟨xb, on, xs, xd⟩) hB (by simp); have HB := Lib.hid ((below_al w (.cells #[.int .i64 xb, .int .i64 on, .string xs] 73)).trans (hB.mono (by simp))); obtain ⟨v2, w2, hc2, hg2, hgr2, _⟩ := run_extend (P := Try.prog) (w := w1.alloc (.cells #[] 5)) w1.heap.size 45 45 5 (.int .u8 0) 1 Try.underlying45 infoU8 rfl _ 0 [] (own_empty w1 5 w1.heap.size (Nat.le_refl _)) A 32 c (iv .u8 cs) ((HR.out.below HB.out).alloc _) (by simpa using HL.out) (one_iv _ _) (by simp only [maxLen]; omega) (by omega) (by simp); have hB2 : Below w1.heap.size w1 w2 := below_grown (below_al w1 _) hgr2 (by simp) (fun k hk => by simp [Value.ownBlock] at hk; omega); have hbx1 := (Array.getElem?_eq_some_iff.1 hbx).1; have hbx2 := blk_below hbx hB2 hbx1; have HC := Lib.hid hc2; have HG := Lib.hid hg2; have HX := Lib.hid hbx2; have HB2 := Lib.hid (below_then HB.out hB2); clear hB hbx hc2 hg2 hB2 hbx2 hgr2)
    | (at_builtin; refine wpList_append_run rfl _ _ _ _ rfl _ _ _ rfl rfl HC.out ?_))
  have hg0 := HG.out
  rw [Nat.zero_add, List.nil_append] at hg0
  obtain ⟨g, cap, rfl, hgb, hcap, hcap2, hrow⟩ := rowQ_own hg0 (by omega)
  have HRW : Hid (RowQ w2 g 5 (spl cs on ((nums xs).take 0))) := by show RowQ _ _ _ _; rw [List.take_zero, spl_nil]; exact hrow
  have c1 := blk_cell HX.out 1
  have c2 := blk_cell HX.out 2
  simp only [List.getElem?_toArray, List.getElem?_cons_zero, List.getElem?_cons_succ] at c1 c2
  have hbg : w.heap.size ≠ g := by have := HB.out.size; have := (Array.getElem?_eq_some_iff.1 HX.out).1; have := hbx1; omega
  clear hg0 hrow
  go_loopw [7] (fun v wr => ∃ k : Nat, k ≤ xs.size ∧ v = .int .i64 k ∧ Hid (RowQ wr g 5 (spl cs on ((nums xs).take k))) ∧ Hid (Below w.heap.size w wr) ∧ wr.cell? ⟨w.heap.size, 1, none⟩ = some (.int .i64 on) ∧ wr.cell? ⟨w.heap.size, 2, none⟩ = some (.string xs)) (fun v _ => xs.size - (intOf v).toNat)
  case atStart => exact ⟨0, by omega, rfl, HRW, HB2, c1, c2⟩
  case round =>
    clear c1 c2 HX HRW HG HB2
    obtain ⟨k, hk, rfl, HRk, HBk, c1, c2⟩ := hrel
    by_cases hlt : k < xs.size
    · have hlen : (spl cs on ((nums xs).take k)).length = 32 := by rw [spl_length (by simp [HL.out]; omega)]; exact HL.out
      obtain ⟨z, d1⟩ : ∃ z, wr.cell? ⟨g, on + k, none⟩ = some (.int .u8 z) := ⟨_, HRk.out.cell (on + k) (by omega)⟩
      have d2 := HRk.out.free (on + k)
      have HSN : Hid ((spl cs on ((nums xs).take k)).set (on + k) (xs[k].toNat : Int) = spl cs on ((nums xs).take (k + 1))) := by
        show _ = _
        rw [← byte_at xs k hlt]
        exact spl_snoc (by simpa using hlt) (by simp [HL.out]; omega)
      have HST : Hid (RowQ (wr.setCell ⟨g, on + k, none⟩ (.int .u8 (xs[k].toNat : Int))).drew g 5 (spl cs on ((nums xs).take (k + 1)))) := by
        show RowQ _ _ _ _
        rw [← HSN.out]
        exact HRk.out.set (on + k) (by omega) _
      have HS : At (fun w' : World => w'.cell? ⟨w.heap.size, 1, none⟩ = some (.int .i64 on) ∧ w'.cell? ⟨w.heap.size, 2, none⟩ = some (.string xs)) wr.drew := ⟨c1, c2⟩
      clear hlen HSN
      go_upto_region 7 with (fail)
      have a1 : IntKind.i64.wrap ((on : Int) + (k : Int)) = (on : Int) + (k : Int) := IntWalk.i64_in _ (by omega)
      have a2 : (0 : Int) ≤ (on : Int) + (k : Int) := by omega
      have a3 : (on : Int) + (k : Int) < 32 := by omega
      have a4 : ((on : Int) + (k : Int)).toNat = on + k := by omega
      refine wp_region_lexD HS [0, 1, 2, 3, 4, 5, 6, 7, 8, 9] (by kernel_rfl) (by kernel_rfl) (fun _ _ d _ _ h => by cases d <;> exact h) ?_
      repeat (refine lexD_take (by kernel_rfl) (by kernel_rfl) HS (fun w9 h9 => by obtain ⟨s0, s1⟩ := h9; go_simp; first | done | rfl) (fun K hK => ?_); go_simp; refine hK _ ?_; clear hK K)
      refine lexD_late (by kernel_rfl) (by kernel_rfl) (fun K hK => ?_)
      go_simp
      refine hK _ _ ?_
      clear hK K a1 a2 a3 a4
      refine lexD_nil ?_
      have c1' : (wr.setCell ⟨g, on + k, none⟩ (.int .u8 (xs[k].toNat : Int))).drew.cell? ⟨w.heap.size, 1, none⟩ = some (.int .i64 on) := (World.cell?_setCell_far wr ⟨g, on + k, none⟩ _ _ (by simpa using Ne.symm hbg)).trans c1
      have c2' : (wr.setCell ⟨g, on + k, none⟩ (.int .u8 (xs[k].toNat : Int))).drew.cell? ⟨w.heap.size, 2, none⟩ = some (.string xs) := (World.cell?_setCell_far wr ⟨g, on + k, none⟩ _ _ (by simpa using Ne.symm hbg)).trans c2
      have HB' : Hid (Below w.heap.size w (wr.setCell ⟨g, on + k, none⟩ (.int .u8 (xs[k].toNat : Int))).drew) := (HBk.out.setCell (by simp; omega) _).drew
      clear c1 c2 d1 d2 HS HBk HRk
      generalize (wr.setCell ⟨g, on + k, none⟩ (.int .u8 (xs[k].toNat : Int))).drew = wn at *
      go_wp2
      go_roundw
      case rel => exact ⟨k + 1, by omega, by go_num, HST, HB', c1', c2'⟩
      case measure => simp [intOf] <;> omega
    · obtain rfl : k = xs.size := by omega
      have hE : (nums xs).take xs.size = nums xs := List.take_of_length_le (by simp)
      rw [hE] at HRk
      clear hE
      go_wp2
      go_ret2
      exact ⟨⟨_, _, rfl, HRk.out.rd 32 cap (by omega) hcap2⟩, HBk.out⟩

theorem Wr.wb {B : Nat} {w : World} {g n c : Nat} {D : List (List Int)} {gs : List (Nat × Nat)} (h : Wr B w g n c D gs) : Wb B w (some ⟨g, 0, none⟩) n c D := by
  obtain ⟨cur, T, h1, h2, h3⟩ := h.arr
  obtain ⟨ss, hb⟩ := h.bp
  refine ⟨gs.map fun x => (some ⟨x.1, 0, none⟩, 32, x.2), h.len, by simpa using h.glen, h.le, h.cap, .inr ⟨g, cur, T, rfl, h.low, h1, fun j hj => ?_⟩, fun j hj => ?_⟩
  · have hj' : j < gs.length := by simpa using hj
    rw [h3 j hj']
    simp [sv]
  · have hj' : j < gs.length := by simpa using hj
    have h4 := h.row j hj'
    have h5 := h4.rd
    obtain ⟨_, _, _, _, _, _, _, h6, h7⟩ := h4
    simp only [List.getElem_map]
    exact ⟨h6, h5, h7⟩
theorem CopyW_any (A : Option Addr) (n c : Nat) (D : List (List Int)) (w : World) (hD : Bp w A n c D) (hs : whole D ∧ 0 < n) :
    Calls Try.prog 44 #[.slice A n c] w fun e w' => (∃ A' c', e = .returned (.slice A' n c') ∧ Wb w.heap.size w' A' n c' D) ∧ Below w.heap.size w w' := by
  refine (rCopy_wr A n c D w hD hs.1 hs.2).mono ?_
  rintro e w' ⟨⟨g, c', gs, rfl, hw⟩, hB⟩
  exact ⟨⟨_, _, rfl, Wr.wb hw⟩, hB⟩

set_option maxRecDepth 100000 in
set_option maxHeartbeats 8000000 in
theorem rBlocks_any (A : Option Addr) (n c : Nat) (L : List It) (A1 : Option Addr) (n1 c1 : Nat) (S : List Int) (A2 : Option Addr) (n2 c2 : Nat) (D : List (List Int)) (w : World)
    (hL : Ip w A n c L) (hr1 : Rd w A1 n1 c1 (iv .i64 S)) (hl1 : S.length = n1) (hD : Bp w A2 n2 c2 D) (hs : whole D ∧ 0 < n2) :
    Calls Try.prog 23 #[.slice A n c, .slice A1 n1 c1, .slice A2 n2 c2] w fun e w' => (∃ A' c', e = .returned (.slice A' n2 c') ∧ Wb w.heap.size w' A' n2 c' (blocksL L S D)) ∧ Below w.heap.size w w' := by
  have HL := Lib.hid hL
  have HLN := Lib.hid hL.len
  have HS := Lib.hid hr1
  have HSL := Lib.hid hl1
  have HD := Lib.hid hD
  have HDN := Lib.hid hD.len
  have HSZ := Lib.hid hs
  have l1 := hL.le
  have l2 := hL.cap
  have m1 := hr1.le
  have m2 := hr1.cap
  clear hL hr1 hl1 hD hs
  cases hr : mrightB L with
  | false =>
    have HR := Lib.hid hr
    have HE : Hid (blocksL L S D = D) := by show _ = _; simp [blocksL, hr]
    clear hr
    go_enter Try.func23, Try.ntmps23
    go_wp2_with (go_at_call 44; (with_reducible refine (CopyW_any A2 n2 c2 D _ HD.out HSZ.out).mono ?_); rintro e w1 ⟨⟨A', c', rfl, hw⟩, hB⟩; have HW := Lib.hid hw; have HB := Lib.hid hB; have HL1 := Lib.hid (HL.out.below hB); clear hw hB)
    refine wp_loop_rounds 1 ?_
    rw [rounds_succ]
    go_wp2_with (go_at_call 45; (with_reducible refine (rmRight_any _ _ _ L _ HL1.out).mono ?_); rw [HR.out]; rintro e w2 ⟨rfl, hB⟩; have HW2 := Lib.hid (HW.out.below hB); have HB2 := Lib.hid (below_then HB.out hB); clear hB)
    go_ret
    exact ⟨⟨_, _, rfl, by rw [HE.out]; exact HW2.out⟩, HB2.out⟩
  | true =>
    have HR := Lib.hid hr
    have HE : Hid (blocksL L S D = blocksK L S D n) := by show _ = _; rw [blocksL, if_pos hr, HLN.out]
    have HP : Hid (∀ k, k < n → prightB (nthI L k) = true) := fun k hk => by
      rw [nthI_get (by rw [HLN.out]; exact hk)]
      exact (mright_iff.1 hr).2.1 _ (List.getElem_mem _)
    clear hr
    go_enter Try.func23, Try.ntmps23
    go_wp2_with (go_at_call 44; (with_reducible refine (CopyW_any A2 n2 c2 D _ HD.out HSZ.out).mono ?_); rintro e w1 ⟨⟨A', c', rfl, hw⟩, hB⟩; have HW2 := Lib.hid hw; have HB2 := Lib.hid hB; clear hw hB)
    go_loopw [8] (fun v wr => ∃ k : Nat, k ≤ n ∧ v = .int .i64 k ∧ Hid (Wb w.heap.size wr A' n2 c' (blocksK L S D k)) ∧ Hid (Below w.heap.size w wr)) (fun v _ => n - (intOf v).toNat)
    case atStart => exact ⟨0, by omega, rfl, HW2, HB2⟩
    case round =>
      clear HW2 HB2
      obtain ⟨k, hk, rfl, HW, HB⟩ := hrel
      by_cases hlt : k < n
      · obtain ⟨b, off, A3, n3, c3, rfl, hb, q0, q1, q2, q3, hd, hr⟩ := (HL.out.below HB.out).at_ hlt
        have hp := pright_iff.1 (HP.out k hlt)
        have HPK := Lib.hid (HP.out k hlt)
        have HEK := Lib.hid (blocksK_succ L S D k)
        have HKL : Hid ((blocksK L S D k).length = n2) := by show _ = _; rw [blocksK_length, HDN.out]
        obtain ⟨bn, hbn⟩ : ∃ bn : Nat, (nthI L k).b = (bn : Int) := ⟨(nthI L k).b.toNat, by omega⟩
        generalize blocksK L S D k = Dk at *
        generalize hx : nthI L k = x at *
        have HX := Lib.hid hx
        have hw0 := HW.out.le
        have hw1 := HW.out.cap
        clear hd hr hp hx q3
        obtain ⟨xb, xo, xs, xd⟩ := x
        simp only at hbn q0 q1 q2
        subst hbn
        have HCN : Hid (∀ wx, Rd wx A1 n1 c1 (iv .i64 S) → Calls Try.prog 46 #[.slice A1 n1 c1, .int .i64 (k : Int)] wx fun e w' => e = .returned (.bool (decide ((k : Int) ∈ S))) ∧ w' = wx) := fun wx hx => Has_any _ _ _ S _ wx hx HSL.out
        by_cases hin : (k : Int) ∈ S
        · have HIN := Lib.hid hin
          rw [decide_eq_true hin] at HCN
          clear hin
          by_cases hbl : bn < n2
          · cases hap : applyB (nth Dk bn) ⟨bn, xo, xs, xd⟩ with
            | none =>
              have HST : Hid (stepB L S Dk k = Dk) := by
                show _ = _
                unfold stepB
                rw [HX.out]
                simp only [Int.toNat_natCast, hap]
                simp
              have HAP : Hid (¬ ((nth Dk bn).length = 32 ∧ prightB ⟨bn, xo, xs, xd⟩ = true)) := by
                show ¬ _
                intro h
                unfold applyB at hap
                rw [if_pos h] at hap
                cases hap
              clear hap
              go_upto_region 7 with (first | (go_at_call 45; (with_reducible refine (rmRight_any _ _ _ L _ (HL.out.below HB.out)).mono ?_); rw [HR.out]; rintro e wa ⟨rfl, hB⟩; have q0 := keep_cell q0 hB; have q1 := keep_cell q1 hB; have q2 := keep_cell q2 hB; have HWa := Lib.hid (HW.out.below hB); have HBa := Lib.hid (below_then HB.out hB); have hgz := hB.size; clear hB) | (go_at_call 46; (with_reducible refine (HCN.out _ ((HS.out.below HBa.out).alloc _)).mono ?_); rintro e w3 ⟨rfl, rfl⟩))
              have k1 := new_cell wa #[.int .i64 bn, .int .i64 xo, .string xs] 73 0 _ rfl
              have k2 := new_cell wa #[.int .i64 bn, .int .i64 xo, .string xs] 73 1 _ rfl
              have k3 := new_cell wa #[.int .i64 bn, .int .i64 xo, .string xs] 73 2 _ rfl
              have HA := HWa.out.below (below_al wa (.cells #[.int .i64 bn, .int .i64 xo, .string xs] 73))
              have HBB := HBa.out.alloc HBa.out.size (.cells #[.int .i64 bn, .int .i64 xo, .string xs] 73)
              generalize wa.alloc (.cells #[.int .i64 bn, .int .i64 xo, .string xs] 73) = wb at *
              obtain ⟨g, A4, n4, c4, rfl, hgb, hgl, hgc, hgf, hgn, hgr, hgx⟩ := HA.at_ hbl
              have HGN := Lib.hid hgn
              have HGR1 := Lib.hid hgr
              have hg4 := hgr.cap
              have hg5 := hgr.le
              have HA1 : Hid (Wb w.heap.size wb.drew (some ⟨g, 0, none⟩) n2 c' Dk) := HA.below (Sel.below_drewN wb 1)
              have HBB1 : Hid (Below w.heap.size w wb.drew) := HBB.drew
              have HS9 : At (fun w' : World => w'.cell? ⟨g, bn, none⟩ = some (.slice A4 n4 c4) ∧ w'.cell? ⟨wa.heap.size, 0, none⟩ = some (.int .i64 bn) ∧ w'.cell? ⟨wa.heap.size, 1, none⟩ = some (.int .i64 xo) ∧ w'.cell? ⟨wa.heap.size, 2, none⟩ = some (.string xs)) wb.drew := ⟨hgc, k1, k2, k3⟩
              clear HA HBB k1 k2 k3 hgc hgf hgn hgr hgx q0 q1 q2 HWa HBa
              have a1 : (0 : Int) ≤ (bn : Int) := by omega
              have a2 : (bn : Int) < (n2 : Int) := by omega
              refine wp_region_lexD HS9 [0, 1, 2, 3, 4, 5, 7, 8, 9, 10, 11] (by kernel_rfl) (by kernel_rfl) (fun _ _ d _ _ h => by cases d <;> exact h) ?_
              repeat (refine lexD_take (by kernel_rfl) (by kernel_rfl) HS9 (fun w9 h9 => by obtain ⟨s0, s1, s2, s3⟩ := h9; go_simp; first | done | rfl) (fun K hK => ?_); go_simp; refine hK _ ?_; clear hK K)
              refine lexD_do (by kernel_rfl) (by kernel_rfl) (fun K hK => ?_)
              go_simp
              refine (rApply_no ⟨bn, xo, xs, xd⟩ A4 n4 c4 _ (by omega) (by rw [← HGN.out]; exact HAP.out)).mono ?_
              rintro e w5 ⟨rfl, hB⟩
              have HS5 : At (fun w' : World => w'.cell? ⟨g, bn, none⟩ = some (.slice A4 n4 c4) ∧ w'.cell? ⟨wa.heap.size, 0, none⟩ = some (.int .i64 bn) ∧ w'.cell? ⟨wa.heap.size, 1, none⟩ = some (.int .i64 xo) ∧ w'.cell? ⟨wa.heap.size, 2, none⟩ = some (.string xs)) w5 := by
                obtain ⟨s0, s1, s2, s3⟩ := HS9
                exact ⟨keep_cell s0 hB, keep_cell s1 hB, keep_cell s2 hB, keep_cell s3 hB⟩
              have HW5 := Lib.hid (HA1.out.below hB)
              have HB5 := Lib.hid (below_then HBB1.out hB)
              refine hK _ _ (fun _ => HS5) ?_
              clear hK K HS9 hB
              repeat (refine lexD_take (by kernel_rfl) (by kernel_rfl) HS5 (fun w9 h9 => by obtain ⟨s0, s1, s2, s3⟩ := h9; go_simp; first | done | rfl) (fun K hK => ?_); go_simp; refine hK _ ?_; clear hK K)
              refine lexD_nil ?_
              go_wp2
              go_roundw
              case rel => exact ⟨k + 1, by omega, by go_num, by rw [HEK.out, HST.out]; exact HW5, HB5⟩
              case measure => simp [intOf] <;> omega
            | some s =>
              have HST : Hid (stepB L S Dk k = Dk.set bn s) := by
                show _ = _
                unfold stepB
                rw [HX.out]
                simp only [Int.toNat_natCast, hap]
                rw [if_pos ⟨by rw [HKL.out]; omega, HIN.out⟩]
              have HLS := Lib.hid (applyB_length hap)
              have HBS : Hid (AllByte s) := applyB_byte hap (HW.out.bp.byte hbl)
              clear hap
              go_upto_region 7 with (first | (go_at_call 45; (with_reducible refine (rmRight_any _ _ _ L _ (HL.out.below HB.out)).mono ?_); rw [HR.out]; rintro e wa ⟨rfl, hB⟩; have q0 := keep_cell q0 hB; have q1 := keep_cell q1 hB; have q2 := keep_cell q2 hB; have HWa := Lib.hid (HW.out.below hB); have HBa := Lib.hid (below_then HB.out hB); have hgz := hB.size; clear hB) | (go_at_call 46; (with_reducible refine (HCN.out _ ((HS.out.below HBa.out).alloc _)).mono ?_); rintro e w3 ⟨rfl, rfl⟩))
              have k1 := new_cell wa #[.int .i64 bn, .int .i64 xo, .string xs] 73 0 _ rfl
              have k2 := new_cell wa #[.int .i64 bn, .int .i64 xo, .string xs] 73 1 _ rfl
              have k3 := new_cell wa #[.int .i64 bn, .int .i64 xo, .string xs] 73 2 _ rfl
              have HA := HWa.out.below (below_al wa (.cells #[.int .i64 bn, .int .i64 xo, .string xs] 73))
              have HBB := HBa.out.alloc HBa.out.size (.cells #[.int .i64 bn, .int .i64 xo, .string xs] 73)
              generalize wa.alloc (.cells #[.int .i64 bn, .int .i64 xo, .string xs] 73) = wb at *
              obtain ⟨g, A4, n4, c4, rfl, hgb, hgl, hgc, hgf, hgn, hgr, hgx⟩ := HA.at_ hbl
              have hn4 : n4 = 32 := by rw [← hgn]; exact HLS.out.2.1
              subst hn4
              have HGN := Lib.hid hgn
              have HGR1 := Lib.hid hgr
              have hg4 := hgr.cap
              have hg5 := hgr.le
              have HA1 : Hid (Wb w.heap.size wb.drew (some ⟨g, 0, none⟩) n2 c' Dk) := HA.below (Sel.below_drewN wb 1)
              have HBB1 : Hid (Below w.heap.size w wb.drew) := HBB.drew
              have HS9 : At (fun w' : World => w'.cell? ⟨g, bn, none⟩ = some (.slice A4 32 c4) ∧ w'.cell? ⟨wa.heap.size, 0, none⟩ = some (.int .i64 bn) ∧ w'.cell? ⟨wa.heap.size, 1, none⟩ = some (.int .i64 xo) ∧ w'.cell? ⟨wa.heap.size, 2, none⟩ = some (.string xs)) wb.drew := ⟨hgc, k1, k2, k3⟩
              clear HA HBB k1 k2 k3 hgc hgf hgn hgr hgx q0 q1 q2 HWa HBa
              have a1 : (0 : Int) ≤ (bn : Int) := by omega
              have a2 : (bn : Int) < (n2 : Int) := by omega
              refine wp_region_lexD HS9 [0, 1, 2, 3, 4, 5, 7, 8, 9, 10, 11] (by kernel_rfl) (by kernel_rfl) (fun _ _ d _ _ h => by cases d <;> exact h) ?_
              repeat (refine lexD_take (by kernel_rfl) (by kernel_rfl) HS9 (fun w9 h9 => by obtain ⟨s0, s1, s2, s3⟩ := h9; go_simp; first | done | rfl) (fun K hK => ?_); go_simp; refine hK _ ?_; clear hK K)
              refine lexD_do (by kernel_rfl) (by kernel_rfl) (fun K hK => ?_)
              go_simp
              refine (rApply_ok ⟨bn, xo, xs, xd⟩ A4 c4 (nth Dk bn) _ (rd_drewN 1 HGR1.out) HGN.out HLS.out.2.2.1).mono ?_
              rintro e w5 ⟨⟨A5, c5, rfl, hr5⟩, hB⟩
              have HS5 : At (fun w' : World => w'.cell? ⟨g, bn, none⟩ = some (.slice A4 32 c4) ∧ w'.cell? ⟨wa.heap.size, 0, none⟩ = some (.int .i64 bn) ∧ w'.cell? ⟨wa.heap.size, 1, none⟩ = some (.int .i64 xo) ∧ w'.cell? ⟨wa.heap.size, 2, none⟩ = some (.string xs)) w5 := by
                obtain ⟨s0, s1, s2, s3⟩ := HS9
                exact ⟨keep_cell s0 hB, keep_cell s1 hB, keep_cell s2 hB, keep_cell s3 hB⟩
              have HW5 := Lib.hid (HA1.out.below hB)
              have HB5 := Lib.hid (below_then HBB1.out hB)
              have HR5 := Lib.hid hr5
              refine hK _ _ (fun _ => HS5) ?_
              clear hK K HS9 hB hr5
              repeat (refine lexD_take (by kernel_rfl) (by kernel_rfl) HS5 (fun w9 h9 => by obtain ⟨s0, s1, s2, s3⟩ := h9; go_simp; first | done | rfl) (fun K hK => ?_); go_simp; refine hK _ ?_; clear hK K)
              refine lexD_nil ?_
              obtain ⟨g', A6, n6, c6, e, _, _, hc6, hf6, _⟩ := HW5.out.at_ hbl
              injection e with e; injection e with e; subst e
              have HW6 : Hid (Wb w.heap.size (w5.setCell ⟨g, bn, none⟩ (.slice A5 32 c5)) (some ⟨g, 0, none⟩) n2 c' (Dk.set bn s)) := by
                rw [HLS.out.2.2.2]
                refine HW5.out.set hbl HR5.out ?_ ?_ rfl
                · rw [← HLS.out.2.2.2]; exact HLS.out.1
                · rw [← HLS.out.2.2.2]; exact HBS.out
              have HB6 : Hid (Below w.heap.size w (w5.setCell ⟨g, bn, none⟩ (.slice A5 32 c5))) := HW5.out.below_set hbl rfl HB5.out _
              have k1 := HS5.2.1
              clear HS5
              go_wp2
              go_roundw
              case rel => exact ⟨k + 1, by omega, by go_num, by rw [HEK.out, HST.out]; exact HW6, HB6⟩
              case measure => simp [intOf] <;> omega
          · have HST : Hid (stepB L S Dk k = Dk) := by
              show _ = _
              unfold stepB
              rw [HX.out, if_neg (by rw [HKL.out]; simp only; omega)]
            go_wp2_with (first | (go_at_call 45; (with_reducible refine (rmRight_any _ _ _ L _ (HL.out.below HB.out)).mono ?_); rw [HR.out]; rintro e wa ⟨rfl, hB⟩; have q0 := keep_cell q0 hB; have q1 := keep_cell q1 hB; have q2 := keep_cell q2 hB; have HWa := Lib.hid (HW.out.below hB); have HBa := Lib.hid (below_then HB.out hB); have hgz := hB.size; clear hB) | (go_at_call 46; (with_reducible refine (HCN.out _ ((HS.out.below HBa.out).alloc _)).mono ?_); rintro e w3 ⟨rfl, rfl⟩))
            go_roundw
            case rel => exact ⟨k + 1, by omega, by go_num, by rw [HEK.out, HST.out]; exact HWa.out.below (below_al _ _), HBa.out.alloc HBa.out.size _⟩
            case measure => simp [intOf] <;> omega
        · have HST : Hid (stepB L S Dk k = Dk) := by
            show _ = _
            unfold stepB
            rw [if_neg (fun h => hin h.2)]
          rw [decide_eq_false hin] at HCN
          clear hin
          go_wp2_with (first | (go_at_call 45; (with_reducible refine (rmRight_any _ _ _ L _ (HL.out.below HB.out)).mono ?_); rw [HR.out]; rintro e wa ⟨rfl, hB⟩; have q0 := keep_cell q0 hB; have q1 := keep_cell q1 hB; have q2 := keep_cell q2 hB; have HWa := Lib.hid (HW.out.below hB); have HBa := Lib.hid (below_then HB.out hB); have hgz := hB.size; clear hB) | (go_at_call 46; (with_reducible refine (HCN.out _ ((HS.out.below HBa.out).alloc _)).mono ?_); rintro e w3 ⟨rfl, rfl⟩))
          go_roundw
          case rel => exact ⟨k + 1, by omega, by go_num, by rw [HEK.out, HST.out]; exact HWa.out.below (below_al _ _), HBa.out.alloc HBa.out.size _⟩
          case measure => simp [intOf] <;> omega
      · obtain rfl : k = n := by omega
        go_wp2_with (go_at_call 45; (with_reducible refine (rmRight_any _ _ _ L _ (HL.out.below HB.out)).mono ?_); rw [HR.out]; rintro e wa ⟨rfl, hB⟩; have HWa := Lib.hid (HW.out.below hB); have HBa := Lib.hid (below_then HB.out hB); clear hB)
        go_ret
        exact ⟨⟨_, _, rfl, by rw [HE.out]; exact HWa.out⟩, HBa.out⟩

theorem same_blocks {D E : List (List Int)} {n : Nat} (h1 : D.length = n) (h2 : E.length = n) : D = E ↔ ∀ j, j < n → nth D j = nth E j := by
  constructor
  · rintro rfl; simp
  · intro h
    apply List.ext_getElem (by omega)
    intro j h3 h4
    have := h j (by omega)
    simpa [nth, List.getD_eq_getElem?_getD, h3, h4] using this

set_option maxRecDepth 100000 in
set_option maxHeartbeats 4000000 in
theorem SameBlocks_any (A : Option Addr) (n c : Nat) (D : List (List Int)) (A1 : Option Addr) (n1 c1 : Nat) (E : List (List Int)) (w : World) (hD : Bp w A n c D) (hE : Bp w A1 n1 c1 E) :
    Calls Try.prog 24 #[.slice A n c, .slice A1 n1 c1] w fun e w' => e = .returned (.bool (decide (D = E))) ∧ Below w.heap.size w w' := by
  have HD := Lib.hid hD
  have HE := Lib.hid hE
  have HDN := Lib.hid hD.len
  have HEN := Lib.hid hE.len
  have l1 := hD.le
  have l2 := hD.cap
  have l3 := hE.le
  have l4 := hE.cap
  clear hD hE
  by_cases hnn : n = n1
  · subst hnn
    have q0 : ((n : Int) != (n : Int)) = false := by simp
    go_enter Try.func24, Try.ntmps24
    go_wp2
    go_loopw [5] (fun v wr => ∃ k : Nat, k ≤ n ∧ v = .int .i64 k ∧ Hid (∀ j, j < k → nth D j = nth E j) ∧ Hid (Below w.heap.size w wr)) (fun v _ => n - (intOf v).toNat)
    case atStart => exact ⟨0, by omega, rfl, fun j hj => by omega, Below.refl _ _⟩
    case round =>
      obtain ⟨k, hk, rfl, HJ, HB⟩ := hrel
      by_cases hlt : k < n
      · obtain ⟨b, off, A', n', c', rfl, hb, hc, hl, hr, hx⟩ := (HD.out.below HB.out).at_ hlt
        obtain ⟨b1, off1, A1', n1', c1', rfl, hb1, hc1, hl1, hr1, hx1⟩ := (HE.out.below HB.out).at_ hlt
        have HQ : Hid (((strOfNums (nth D k)).toList == (strOfNums (nth E k)).toList) = decide (nth D k = nth E k)) := strOfNums_beq hx hx1
        have HEQ : Hid (nth D k = nth E k ↔ decide (nth D k = nth E k) = true) := by show _ ↔ _; simp
        generalize decide (nth D k = nth E k) = q at *
        have HS : At (fun w' : World => w'.cell? ⟨b, off + k, none⟩ = some (.slice A' n' c') ∧ w'.cell? ⟨b1, off1 + k, none⟩ = some (.slice A1' n1' c1') ∧ (convert 45 9 (.slice A' n' c')).run Try.prog w' = .ok (.string (strOfNums (nth D k))) w' ∧ (convert 45 9 (.slice A1' n1' c1')).run Try.prog w' = .ok (.string (strOfNums (nth E k))) w') wr.drew :=
          ⟨hc, hc1, Rd.str (P := Try.prog) (rd_drewN 1 hr) hl Try.underlying45 Try.underlying5 Try.underlying9, Rd.str (P := Try.prog) (rd_drewN 1 hr1) hl1 Try.underlying45 Try.underlying5 Try.underlying9⟩
        have HBD : Hid (Below w.heap.size w wr.drew) := HB.out.drew
        have k1 : (0 : Int) ≤ (k : Int) := by omega
        have k2 : (k : Int) < (n : Int) := by omega
        clear hc hc1 hl hl1 hr hr1 hx hx1 hb hb1
        have HQ2 := HQ.out
        generalize strOfNums (nth D k) = sx at *
        generalize strOfNums (nth E k) = sy at *
        go_upto_region 6 with (fail)
        refine wp_region_lexD HS [0, 1, 2, 3, 4, 5, 6, 7, 8, 9, 10] (by kernel_rfl) (by kernel_rfl) (fun _ _ d _ _ h => by cases d <;> exact h) ?_
        repeat (refine lexD_take (by kernel_rfl) (by kernel_rfl) HS (fun w9 h9 => by obtain ⟨s0, s1, s2, s3⟩ := h9; go_simp; first | done | rfl) (fun K hK => ?_); go_simp; refine hK _ ?_; clear hK K)
        refine lexD_nil ?_
        cases q with
        | true =>
          go_wp2
          go_roundw
          case rel => exact ⟨k + 1, by omega, by go_num, fun j hj => by
            by_cases e : j = k
            · subst e; exact HEQ.out.2 rfl
            · exact HJ.out j (by omega), HBD⟩
          case measure => simp [intOf] <;> omega
        | false =>
          go_wp2
          go_ret
          have : ¬ D = E := fun e => by have := HEQ.out.1 (by rw [e]); cases this
          exact ⟨ret_bool (by simp [this]), HBD.out⟩
      · obtain rfl : k = n := by omega
        go_wp2
        go_ret
        have : D = E := (same_blocks HDN.out HEN.out).2 HJ.out
        exact ⟨ret_bool (by simp [this]), HB.out⟩
  · have q0 : ((n : Int) != (n1 : Int)) = true := by simp; omega
    have HNE : Hid (¬ D = E) := by show ¬ _; rintro rfl; exact hnn (HDN.out.symm.trans HEN.out)
    go_enter Try.func24, Try.ntmps24
    go_wp2
    go_ret
    exact ⟨ret_bool (by simp [HNE.out]), Below.refl _ _⟩
end Go.Proofs.Ytcgfoaihfncppaa
