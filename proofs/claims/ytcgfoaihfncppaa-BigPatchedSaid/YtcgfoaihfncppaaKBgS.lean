/- ref05.Has and ref01.Same for big (from XGpH, by sed: the import). -/
import Derived.Test.YtcgfoaihfncppaaKBg5
import Derived.Test.YtcgfoaihfncppaaKBg6
import Derived.Test.YtcgfoaihfncppaaKBgO
import Derived.Laws.EntriesVeiled
import Derived.Test.YtcgfoaihfncppaaKBg4
import Derived.Test.YtcgfoaihfncppaaKSel7
set_option linter.unusedSimpArgs false
set_option linter.unusedVariables false
namespace Go.Proofs.Ytcgfoaihfncppaa
open Go.RowKit Go.Sel

set_option maxHeartbeats 1000000 in
theorem Has_any (A : Option Addr) (n c : Nat) (xs : List Int) (x : Int) (w : World) (ha : Rd w A n c (iv .i64 xs)) (hn : xs.length = n) :
    Calls Try.prog 46 #[.slice A n c, .int .i64 x] w fun e w' => e = .returned (.bool (decide (x ∈ xs))) ∧ w' = w := by
  have HA := Lib.hid ha
  have HN := Lib.hid hn
  have l1 := ha.le
  have l2 := ha.cap
  clear ha hn
  go_enter Try.func46, Try.ntmps46
  go_wp2
  go_loop [5] (fun v => ∃ k : Nat, k ≤ n ∧ v = .int .i64 k ∧ Hid (∀ j (h : j < xs.length), j < k → xs[j] ≠ x)) (fun v => n - (Go.RowKit.intOf v).toNat)
  case atStart => exact ⟨0, by omega, rfl, Lib.hid (fun j h hj => by omega)⟩
  case round =>
    obtain ⟨k, hk, rfl, hz⟩ := hrel
    by_cases hlt : k < n
    · have hxl : k < xs.length := by have := HN.out; omega
      obtain ⟨b, off, rfl, _, hc⟩ := HA.out.form (by simp; omega)
      have hck := hc k (by simpa using hxl)
      rw [iv_at] at hck
      clear hc
      by_cases hx : xs[k] = x
      · have he : (xs[k] == x) = true := by simpa using hx
        have HX := Lib.hid hx
        clear hx
        go_wp2
        go_ret
        exact ⟨ret_bool (by symm; rw [decide_eq_true_eq, ← HX.out]; exact List.getElem_mem hxl), rfl⟩
      · have he : (xs[k] == x) = false := by simpa using hx
        have HX := Lib.hid hx
        clear hx
        go_wp2
        refine ⟨⟨k + 1, by omega, by go_num, fun j h hj => ?_⟩, by simp [Go.RowKit.intOf] <;> omega⟩
        by_cases hjk : j = k
        · subst hjk; exact HX.out
        · exact hz.out j h (by omega)
    · go_wp2
      go_ret
      refine ⟨ret_bool ?_, rfl⟩
      symm
      rw [decide_eq_false_iff_not]
      intro hx
      obtain ⟨j, hj, he⟩ := List.mem_iff_getElem.1 hx
      exact hz.out j hj (by have := HN.out; omega) he

set_option maxHeartbeats 1000000 in
theorem Same1_any (A A' : Option Addr) (n n' c c' : Nat) (xs ys : List Int) (w : World) (ha : Rd w A n c (iv .i64 xs)) (hb : Rd w A' n' c' (iv .i64 ys)) (hn : xs.length = n) (hn' : ys.length = n') :
    Calls Try.prog 11 #[.slice A n c, .slice A' n' c'] w fun e w' => e = .returned (.bool (decide (xs = ys))) ∧ ∃ q, w' = w.drewN q := by
  have HA := Lib.hid ha
  have HB := Lib.hid hb
  have HN := Lib.hid hn
  have HN' := Lib.hid hn'
  have a1 := ha.le
  have a2 := ha.cap
  have b1 := hb.le
  have b2 := hb.cap
  clear ha hb hn hn'
  by_cases h : n = n'
  · subst h
    go_enter Try.func11, Try.ntmps11
    go_wp2
    go_loopw [5] (fun v wr => ∃ j : Nat, j ≤ n ∧ v = .int .i64 j ∧ Hid (xs.take j = ys.take j) ∧ ∃ q, wr = w.drewN q) (fun v _ => n - (Go.RowKit.intOf v).toNat)
    case atStart => exact ⟨0, by omega, rfl, rfl, 0, rfl⟩
    case round =>
      obtain ⟨j, hj, rfl, HT, q, rfl⟩ := hrel
      by_cases hlt : j < n
      · have hxl : j < xs.length := by have := HN.out; omega
        have hyl : j < ys.length := by have := HN'.out; omega
        obtain ⟨b, off, rfl, _, hc⟩ := HA.out.form (by simp; omega)
        obtain ⟨b2, off2, rfl, _, hd⟩ := HB.out.form (by simp; omega)
        have hck := hc j (by simpa using hxl)
        have hdk := hd j (by simpa using hyl)
        rw [iv_at] at hck hdk
        clear hc hd
        by_cases hxy : xs[j] = ys[j]
        · have hne : (xs[j] != ys[j]) = false := by simp [hxy]
          have HX := Lib.hid hxy
          clear hxy
          go_wp2
          go_quiet (fail)
          go_wp2
          refine ⟨⟨j + 1, by omega, by go_num, ?_, ⟨_, rfl⟩⟩, by simp [Go.RowKit.intOf]; omega⟩
          show xs.take (j + 1) = ys.take (j + 1)
          rw [List.take_succ_eq_append_getElem hxl, List.take_succ_eq_append_getElem hyl, HT.out, HX.out]
        · have hne : (xs[j] != ys[j]) = true := by simp [hxy]
          have HX := Lib.hid hxy
          clear hxy
          go_wp2
          go_quiet (fail)
          go_wp2
          go_ret
          exact ⟨ret_bool (by symm; rw [decide_eq_false_iff_not]; rintro rfl; exact HX.out rfl), by simp; exact ⟨_, rfl⟩⟩
      · go_wp2
        go_ret
        refine ⟨ret_bool ?_, q, rfl⟩
        have h := HT.out
        rw [List.take_of_length_le (by have := HN.out; omega), List.take_of_length_le (by have := HN'.out; omega)] at h
        simp [h]
  · have HS : Hid (decide (xs = ys) = false) := by
      show _ = _
      rw [decide_eq_false_iff_not]; rintro rfl; exact h (by rw [← HN.out, ← HN'.out])
    have hne : ¬ ((n : Int) = n') := by omega
    go_enter Try.func11, Try.ntmps11
    go_wp2
    go_ret
    exact ⟨ret_bool HS.out.symm, 0, rfl⟩

/-! ### few -/
end Go.Proofs.Ytcgfoaihfncppaa
/- Walks of big: plan. -/
set_option linter.unusedSimpArgs false
set_option linter.unusedVariables false
namespace Go.Proofs.Ytcgfoaihfncppaa
open Go.RowKit Go.Sel Go.Sel.Gra Go.Sel.Bg Go.Sel.Mer Go.Shelf

theorem plan1_any (b : Int) (ib : Nat) (A : Option Addr) (n c : Nat) (w : World) (h : w.cell? ⟨ib, 0, none⟩ = some (.slice A n c)) :
    Calls Try.prog 54 #[.int .i64 b, .pointer (some ⟨ib, 0, none⟩)] w fun e w' => e = .returned (.bool (decide (0 < b) && decide (b < n))) ∧ w' = w := by
  by_cases h0 : 0 < b
  · have hq : decide (0 < b) = true := by simpa using h0
    rw [hq, Bool.true_and]
    clear hq
    go_enter Try.func54, Try.ntmps54
    go_wp2
    go_ret
    exact ⟨rfl, rfl⟩
  · have hq : decide (0 < b) = false := by simpa using h0
    rw [hq, Bool.false_and]
    clear hq
    go_enter Try.func54, Try.ntmps54
    go_wp2
    go_ret
    exact ⟨rfl, rfl⟩
theorem plan2_tells (fb ib : Nat) (A : Option Addr) (n c : Nat) (F : List Int) (w : World) (h1 : w.cell? ⟨fb, 0, none⟩ = some (.func (.func 54) #[] #[.pointer (some ⟨ib, 0, none⟩)])) (h2 : w.cell? ⟨ib, 0, none⟩ = some (.slice A n c)) :
    Tells 56 #[.pointer (some ⟨fb, 0, none⟩)] (fun b => !decide (0 < b) || !decide (b < n)) F w := by
  intro x _ q
  have HP := Lib.hid (plan1_any x ib A n c (w.drewN q) h2)
  have h1' : (w.drewN q).cell? ⟨fb, 0, none⟩ = some (.func (.func 54) #[] #[.pointer (some ⟨ib, 0, none⟩)]) := h1
  clear h1 h2
  generalize w.drewN q = W at *
  simp only [List.append_toArray, List.cons_append, List.nil_append]
  go_enter Try.func56, Try.ntmps56
  go_wp2_with (go_at_call 54; (refine HP.out.mono ?_); rintro e w2 ⟨rfl, rfl⟩)
  go_ret
  exact ⟨rfl, 0, rfl⟩
theorem _root_.Go.Sel.Bg.TkS.notIn {D : List (List Int)} {t : List Int} {l : List (Int × Value)} {b : Int} (h : TkS D t 1096 l) (hb : notIn D t b) : Sel.look l b = none := h.2 b fun p hp e => absurd e (hb p hp)
theorem _root_.Go.Sel.Bg.Vw.same {w0 w w' : World} {A : Option Addr} {n c : Nat} {D : List (List Int)} {t : List Int} {vb mp mt m k : Nat} {inn : List (Int × Int)} {vi : Value} (h : Vw w0 w A n c D t vb mp mt m k inn vi) (hb : Below w.heap.size w w') : Vw w0 w' A n c D t vb mp mt m k inn vi := by
  obtain ⟨q1, q2, q3, q4, q5, q6, q7, ⟨l, i1, p1⟩, l', i2, p2⟩ := h
  exact ⟨q1.trans (hb.mono q1.size), blk_below q2 hb (Array.getElem?_eq_some_iff.1 q2).1, q3, q4, q5, q6, own_below q7 hb (Nat.le_refl _), ⟨l, i1.below hb i1.lt, p1⟩, l', i2.below hb i2.lt, p2⟩
theorem nodup_take {F : List Int} (h : F.Nodup) {i : Nat} (hi : i < F.length) : F[i] ∉ F.take i := by
  intro hm
  obtain ⟨j, hj, e⟩ := List.mem_iff_getElem.1 hm
  rw [List.getElem_take] at e
  have hj' : j < i := by rw [List.length_take] at hj; omega
  exact List.pairwise_iff_getElem.1 h j i (by omega) hi hj' e
theorem infoItm : (Try.prog.info? 75).map (fun i => (i.zero, i.size, i.bytes)) = some (some (.agg #[.int .i64 0, .int .i64 0, .string ⟨#[]⟩, .slice none 0 0]), 4, 56) := by kernel_rfl
theorem z32_pt (s : Nat) (x : Int) : z32.setIfInBounds s (.int .u8 x) = (iv .u8 (pt s x)).toArray := by
  apply Array.toList_inj.1
  simp only [z32, pt, List.setIfInBounds_toArray, iv, List.map_set, List.map_replicate]
theorem set10 {w : World} {B : Nat} {T : TypeId} {o0 o1 o2 o3 o4 o5 o6 o7 o8 o9 : Value} (h : w.heap[B]? = some (.cells #[o0, o1, o2, o3, o4, o5, o6, o7, o8, o9] T (0, 0))) (v0 v1 v2 v3 v4 v5 v6 v7 v8 v9 : Value) :
    ((((((((((w.setCell ⟨B, 0, none⟩ v0).setCell ⟨B, 1, none⟩ v1).setCell ⟨B, 2, none⟩ v2).setCell ⟨B, 3, none⟩ v3).setCell ⟨B, 4, none⟩ v4).setCell ⟨B, 5, none⟩ v5).setCell ⟨B, 6, none⟩ v6).setCell ⟨B, 7, none⟩ v7).setCell ⟨B, 8, none⟩ v8).setCell ⟨B, 9, none⟩ v9).heap[B]? = some (.cells #[v0, v1, v2, v3, v4, v5, v6, v7, v8, v9] T (0, 0)) := by
  have := (blk_set (blk_set (blk_set (blk_set (blk_set (blk_set (blk_set (blk_set (blk_set (blk_set h 0 v0) 1 v1) 2 v2) 3 v3) 4 v4) 5 v5) 6 v6) 7 v7) 8 v8) 9 v9)
  simpa using this
/-- Items in a row of the call's own. -/
def PI (base : Nat) (w : World) (v : Value) (m : Nat) (L : List It) : Prop :=
  ∃ ss : List (Option Addr × Nat × Nat), w.ownsRow base 75 4 v m (itvs L ss) ∧ L.length = m ∧ ss.length = m ∧ ∀ j (hj : j < ss.length), (nthI L j).ds.length = ss[j].2.1 ∧ Rd w ss[j].1 ss[j].2.1 ss[j].2.2 (iv .i64 (nthI L j).ds)
/-- A put's cells. -/
def putC (t : List Int) (vi : Value) (u : Int) : Array Value := (iv .i64 t ++ [vi, .int .i64 u]).toArray
def putZ : Array Value := #[.int .i64 0, .int .i64 0, .int .i64 0, .int .i64 0, .int .i64 0, .int .i64 0, .int .i64 0, .int .i64 0, .slice none 0 0, .int .i64 0]

set_option maxRecDepth 100000 in
set_option maxHeartbeats 8000000 in
theorem plan_30 (A : Option Addr) (n c : Nat) (D : List (List Int)) (t : List Int) (k : Nat) (b : Int) (Af : Option Addr) (nf cf : Nat) (F F' : List Int) (f0 f1 : Int) (hFe : F = f0 :: f1 :: F') (ht : t.length = 8) (w : World) (hD : Bp w A n c D) (hR : Rt D t) (hF : Rd w Af nf cf (iv .i64 F)) (hlF : F.length = nf) (hO : OkPut D t n k b F) (hk38 : 38 ≤ k) (h7 : tp t 7 = 0) :
    Calls Try.prog 31 #[.slice A n c, bigV t, .int .i64 (k : Int), .int .i64 b, .slice Af nf cf] w fun e w' => ∃ Ai ci, e = .returned (.agg (putC (t.set 7 f0) (.slice Ai 2 ci) 2)) ∧ PI w.heap.size w' (.slice Ai 2 ci) 2 [⟨f0, 0, strOfNums (pt ((k - 38) / 32) f1), []⟩, ⟨f1, 0, strOfNums (pt ((k - 38) % 32) b), []⟩] ∧ Below w.heap.size w w' := by
  have HFE := Lib.hid hFe
  have hn2 : 2 ≤ nf := by rw [← hlF, hFe]; simp
  clear hFe
  have HF := Lib.hid hF
  have HLF := Lib.hid hlF
  have HO := Lib.hid hO
  have HD := Lib.hid hD
  have HN96 : Hid (n ≤ 96) := Lib.hid (by rw [← hD.len]; exact hR.1.1)
  have hf1 := hF.le
  have hf2 := hF.cap
  have hk0 : (0 : Int) ≤ (k : Int) := by omega
  have hk1 : (k : Int) < 1062 := by have := hO.hk; omega
  have HLK : Hid (∀ W, Below w.heap.size w W → Calls Try.prog 36 #[.slice A n c, bigV t] W fun e w' => ∃ vb mp mt vi, e = .returned (.pointer (some ⟨vb, 0, none⟩)) ∧ Vw W w' A n c D t vb mp mt 1096 1096 (innD D t) vi) := Lib.hid fun W hB => look_ok A n c D t ht W (hD.below hB) hR
  have hmf : ∀ (fn : Fn) (first cap : Array Value) (w : World), (Instr.makeFunc fn first cap).run Try.prog w = .ok (.func fn first cap) w := fun _ _ _ _ => rfl
  have H8 := Lib.hid ht
  clear hF hlF hO hD hR
  obtain ⟨a0, a1, a2, a3, a4, a5, a6, a7, rfl⟩ := len8 ht
  clear ht
  have e7 : a7 = 0 := h7
  subst e7
  clear h7
  simp only [bigV, iv, List.map_cons, List.map_nil] at HLK ⊢
  go_enter Try.func31, Try.ntmps31
  have HN2 := Lib.hid hn2
  have HK38 := Lib.hid hk38
  clear hn2 hk38
  have HWX : Hid (∀ o p q : Obj, Below w.heap.size w (((w.alloc o).alloc p).alloc q)) := Lib.hid fun o p q => ((below_al w _).alloc (by simp) _).alloc (by simp <;> omega) _
  have HW1 : Hid (∀ p q : Obj, (((w.alloc (.cells #[.slice A n c] 33)).alloc p).alloc q).cell? ⟨w.heap.size, 0, none⟩ = some (.slice A n c)) := Lib.hid fun p q => keep_cell (keep_cell (by rw [blk_cell (blk11 w _)]; rfl) (below_al _ _)) (below_al _ _)
  have HW3 : Hid (∀ o p : Obj, (((w.alloc o).alloc p).alloc (.cells putZ 68)).heap[w.heap.size + 2]? = some (.cells putZ 68 (0, 0)) ∧ (((w.alloc o).alloc p).alloc (.cells putZ 68)).heap.size = w.heap.size + 3) := Lib.hid fun o p => by
    have h := blk11 ((w.alloc o).alloc p) (.cells putZ 68)
    exact ⟨by simpa using h, by simp⟩
  simp only [putZ] at HW3
  go_upto_region 2 with (go_at_call 36; refine (HLK.out _ (HWX.out _ _ _)).mono ?_; rintro e w2 ⟨vb, mp, mt, vi, rfl, hV⟩; have HV := Lib.hid hV; have HB := Lib.hid ((HWX.out _ _ _).trans (hV.hB.mono (by simp <;> omega))); have c5 := keep_cell (HW1.out _ _) hV.hB; have HPZ := Lib.hid (blk_below (HW3.out _ _).1 hV.hB (by simp)); clear hV)
  obtain ⟨W0, hW0, HV⟩ : ∃ W0 : World, W0.heap.size = w.heap.size + 3 ∧ Hid (Vw W0 w2 A n c D [a0, a1, a2, a3, a4, a5, a6, 0] vb mp mt 1096 1096 (innD D [a0, a1, a2, a3, a4, a5, a6, 0]) vi) := ⟨_, by simp, HV⟩
  have HW0 := Lib.hid hW0
  clear hW0 HLK HW1 HW3 HWX
  have HP1 : Hid (∀ W, W.cell? ⟨w.heap.size, 0, none⟩ = some (.slice A n c) → Calls Try.prog 54 #[.int .i64 b, .pointer (some ⟨w.heap.size, 0, none⟩)] W fun e w' => e = .returned (.bool true) ∧ w' = W) := Lib.hid fun W h => (plan1_any b w.heap.size A n c W h).mono (by
    rintro e w' ⟨rfl, rfl⟩
    exact ⟨by simp [HO.out.b0, HO.out.b1], rfl⟩)
  have HP2 : Hid (∀ W (fb : Nat), W.cell? ⟨fb, 0, none⟩ = some (.func (.func 54) #[] #[.pointer (some ⟨w.heap.size, 0, none⟩)]) → W.cell? ⟨w.heap.size, 0, none⟩ = some (.slice A n c) → Rd W Af nf cf (iv .i64 F) →
      Calls Try.prog 55 #[.slice Af nf cf, .func (.func 56) #[] #[.pointer (some ⟨fb, 0, none⟩)]] W fun e w' => e = .returned (.bool false) ∧ ∃ q, w' = W.drewN q) := Lib.hid fun W fb h1 h2 h3 => (ContainsFunc_any 56 _ (enters_of Try.func56 (by kernel_rfl) rfl) _ Af nf cf F W h3 HLF.out (plan2_tells fb w.heap.size A n c F W h1 h2)).mono (by
    rintro e w' ⟨rfl, q, rfl⟩
    refine ⟨?_, q, rfl⟩
    congr 2
    rw [List.any_eq_false]
    intro x hx
    have := HO.out.f x hx
    simp [this.1, this.2])
  have hw2 : Hid (w.heap.size + 2 < w2.heap.size) := Lib.hid (Array.getElem?_eq_some_iff.1 HPZ.out).1
  go_upto_region 4 with (first
    | (go_at_call 37; (with_reducible refine (must_ok 2 _).mono ?_); rintro e W3 ⟨rfl, rfl⟩)
    | (go_at_call 54; refine (HP1.out _ (keep_cell c5 (below_al _ _))).mono ?_; rintro e w4 ⟨rfl, rfl⟩)
    | (go_at_call 55; refine (HP2.out _ w2.heap.size (by rw [blk_cell (blk11 w2 _)]; rfl) (keep_cell c5 (below_al _ _)) ((HF.out.below HB.out).below (below_al _ _))).mono ?_; rintro e w4 ⟨rfl, q, hq⟩; have hB3 : Below w2.heap.size w2 w4 := (by rw [hq]; exact Below.then_drewN (below_al w2 _) _); clear hq; have HB3 := Lib.hid (HB.out.trans (hB3.mono (by have := hw2.out; omega))); have HV3 := Lib.hid (HV.out.same hB3); have c5 := keep_cell c5 hB3; have HPZ3 := Lib.hid (blk_below HPZ.out hB3 (by have := hw2.out; omega)); clear hB3))
  clear HB HV HP1 HP2 HPZ
  obtain ⟨l, hl, hp⟩ := HV3.out.pl
  obtain ⟨l2, hl2, ht2⟩ := HV3.out.tk
  obtain ⟨c0, c9, c10, c11, ct, cz⟩ := HV3.out.cell rfl
  have HL2 := Lib.hid hl2
  have HT2 := Lib.hid ht2
  have hlk : (Instr.lookup 82 (.map (some mt)) (.int .i64 b) false).run Try.prog W3 = .ok (.bool false) W3 := by
    rw [hl2.lookup (P := Try.prog) Try.underlying82 Try.underlying3 (zeroB W3) b, ht2.notIn HO.out.nb]; rfl
  have hpl : (Instr.lookup 80 (.map (some mp)) (.int .i64 (k : Int)) false).run Try.prog W3 = .ok (.int .i64 0) W3 := by
    rw [hl.lookup (P := Try.prog) Try.underlying80 Try.underlying3 (zeroI W3) (k : Int), hp.at_ HO.out.hk, HO.out.at_]
  have HC := Lib.hid ((Contains_any Af nf cf F b W3 (HF.out.below HB3.out) HLF.out).mono (R' := fun e w' => e = .returned (.bool false) ∧ w' = W3) (by rintro e w' ⟨rfl, rfl⟩; exact ⟨by have := HO.out.bF; simp [this], rfl⟩))
  clear hl hp hl2 ht2 c0 c10 ct cz
  go_upto_region 5 with (first
    | (go_at_call 37; (with_reducible refine (must_ok 6 _).mono ?_); rintro e W3 ⟨rfl, rfl⟩)
    | (go_at_call 57; refine HC.out.mono ?_; rintro e W3 ⟨rfl, rfl⟩))
  go_wp2
  go_loopw [13, 14, 68] (fun _ _ v wr => ∃ i : Nat, i ≤ nf ∧ v = .int .i64 i ∧ wr = W3) (fun _ _ v _ => nf - (Go.RowKit.intOf v).toNat)
  case atStart => exact ⟨0, by omega, rfl, rfl⟩
  case round =>
    obtain ⟨i, hi, rfl, rfl⟩ := hrel
    by_cases hlt : i < nf
    · have hil : i < F.length := by rw [HLF.out]; exact hlt
      obtain ⟨rb, ro, hAf, hrb, hrc⟩ := HF.out.form (by simp; omega)
      have hcx := hrc i (by simpa using hil)
      rw [iv_at] at hcx
      have hcy := keep_cell hcx HB3.out
      have hmem := List.getElem_mem hil
      have hlx : (Instr.lookup 82 (.map (some mt)) (.int .i64 F[i]) false).run Try.prog wr = .ok (.bool false) wr := by
        rw [HL2.out.lookup (P := Try.prog) Try.underlying82 Try.underlying3 (zeroB wr) F[i], HT2.out.notIn (HO.out.nf _ hmem)]; rfl
      have hrt := (HF.out.below HB3.out).upto i (by omega)
      have e : (iv .i64 F).take i = iv .i64 (F.take i) := by simp [iv, List.map_take]
      rw [e] at hrt
      have HCX := Lib.hid ((Contains_any Af i cf (F.take i) F[i] wr hrt (by simp; omega)).mono (R' := fun e w' => e = .returned (.bool false) ∧ w' = wr) (by rintro e w' ⟨rfl, rfl⟩; exact ⟨by have := nodup_take HO.out.nd hil; simp [this], rfl⟩))
      clear hrc hcx hmem hrt e HC hlk hpl
      generalize F[i] = x at *
      subst hAf
      go_wp2_with (first
        | (go_at_call 37; (with_reducible refine (must_ok 6 _).mono ?_); rintro e W3 ⟨rfl, rfl⟩)
        | (go_at_call 57; refine HCX.out.mono ?_; rintro e W3 ⟨rfl, rfl⟩))
      exact ⟨⟨i + 1, by omega, by go_num, by simp⟩, by simp [Go.RowKit.intOf]; omega⟩
    · clear HC hlk HL2 HT2
      have HWAY := Lib.hid (Way_ok k ⟨hk0, hk1⟩ wr)
      obtain ⟨j1, hj1⟩ : ∃ j1 : Nat, j1 = (k - 38) / 32 := ⟨_, rfl⟩
      obtain ⟨j2, hj2⟩ : ∃ j2 : Nat, j2 = (k - 38) % 32 := ⟨_, rfl⟩
      have hl1 : j1 < 32 := by omega
      have hl2 : j2 < 32 := by omega
      have hwl : wayL k = [7, (j1 : Int), (j2 : Int)] := by
        have := HK38.out
        simp only [wayL]
        rw [if_neg (by omega), if_neg (by omega)]
        congr 1
        congr 1
        · omega
        · congr 1
          omega
      rw [hwl] at HWAY
      have HJ1 := Lib.hid hj1
      have HJ2 := Lib.hid hj2
      clear hj1 hj2 hwl
      go_upto_region 12 with (first
        | (go_at_call 37; (with_reducible refine (must_ok 12 _).mono ?_); rintro e W3 ⟨rfl, rfl⟩)
        | (go_at_call 9; refine HWAY.out.mono ?_; rintro e W4 ⟨⟨Aw, cw, rfl, hrw⟩, hB4⟩))
      have hw3 : W3.heap.size ≤ W4.heap.size := hB4.size
      have hl3 : w.heap.size + 2 < W3.heap.size := (Array.getElem?_eq_some_iff.1 HPZ3.out).1
      have HB4 := Lib.hid (HB3.out.trans (hB4.mono (by omega)))
      have HV4 := Lib.hid (HV3.out.same hB4)
      have c5 := keep_cell c5 hB4
      have HPZ4 := Lib.hid (blk_below HPZ3.out hB4 hl3)
      have HWB := Lib.hid hB4
      have HRW := Lib.hid hrw
      have hpz4 : w.heap.size + 1 + 1 < W4.heap.size := by omega
      clear hB4 hrw hpl HB3 HV3 HPZ3 HWAY hl3 c9 c11
      obtain ⟨r0, r9, r10, r11, ct, rz⟩ := HV4.out.cell rfl
      clear r0 r9 r10 r11 rz
      have e0 := ct 0 (by simp)
      have e1 := ct 1 (by simp)
      have e2 := ct 2 (by simp)
      have e3 := ct 3 (by simp)
      have e4 := ct 4 (by simp)
      have e5 := ct 5 (by simp)
      have e6 := ct 6 (by simp)
      have e7 := ct 7 (by simp)
      simp only [List.getElem_cons_succ, List.getElem_cons_zero, Nat.reduceAdd] at e0 e1 e2 e3 e4 e5 e6 e7
      obtain ⟨yb, yo, rfl, hyb, hyc⟩ := HRW.out.form (by simp)
      have y0 := hyc 0 (by simp)
      have y1 := hyc 1 (by simp)
      have y2 := hyc 2 (by simp)
      simp only [iv, List.map_cons, List.map_nil, List.getElem_cons_succ, List.getElem_cons_zero, Nat.add_zero] at y0 y1 y2
      clear ct hyc
      try simp only [List.length_cons, List.length_nil, Nat.reduceAdd]
      have hFe2 := HFE.out
      subst hFe2
      clear HFE
      obtain ⟨fb, fo, rfl, hfb, hfc⟩ := (HF.out.below HB4.out).form (by simp)
      have g0 := hfc 0 (by simp)
      have g1 := hfc 1 (by simp)
      simp only [iv, List.map_cons, List.map_nil, List.getElem_cons_succ, List.getElem_cons_zero, Nat.add_zero] at g0 g1
      have hn2 : (2 : Int) ≤ (nf : Int) := by have := HN2.out; omega
      have hn3 : 2 ≤ cf := by have := HN2.out; omega
      clear hfc
      go_upto_region 31 with (go_at_call 37; (with_reducible refine (must_ok 4 _).mono ?_); rintro e W5 ⟨rfl, rfl⟩)
      go_wp2
      have hmk := mk32
      have hF0 := HO.out.f f0 (by simp)
      have hF1 := HO.out.f f1 (by simp)
      have hb0 := HO.out.b0
      have hb1 := HO.out.b1
      have hn96 := HN96.out
      go_loopw [24, 25, 26, 27, 164] (fun _ _ _ _ v wr => ∃ (i : Nat) (vi : Value), i ≤ 2 ∧ v = .int .i64 i ∧ Hid (wr.heap[W4.heap.size]? = some (.cells (putC [a0, a1, a2, a3, a4, a5, a6, 0] vi 2) 68 (0, 0))) ∧ Hid (wr.ownsRow W4.heap.size 75 4 vi i (itvs ([⟨f0, 0, strOfNums (pt j1 f1), []⟩, ⟨f1, 0, strOfNums (pt j2 b), []⟩].take i) (List.replicate i (none, 0, 0)))) ∧ Hid (Below W4.heap.size W4 wr)) (fun _ _ _ _ v _ => 2 - (Go.RowKit.intOf v).toNat)
      case atStart => exact ⟨0, _, by omega, rfl, blk11 W4 _, World.ownsRow_nil _ _ _ _, below_al _ _⟩
      case round =>
        obtain ⟨i, vi, hi, rfl, HP, HOW, HB5⟩ := hrel
        have hw5 := HB5.out.size
        have hpl5 := (Array.getElem?_eq_some_iff.1 HP.out).1
        have g0' := keep_cell g0 HB5.out
        have g1' := keep_cell g1 HB5.out
        have y1' := keep_cell y1 HB5.out
        have y2' := keep_cell y2 HB5.out
        have y0' := keep_cell y0 HB5.out
        have p8 : wr.cell? ⟨W4.heap.size, 8, none⟩ = some vi := by rw [blk_cell HP.out]; rfl
        have hz1 : (wr.alloc (.cells z32 5)).cell? ⟨wr.heap.size, j1, none⟩ = some (.int .u8 0) := by rw [blk_cell (blk11 wr _)]; unfold z32; rw [List.getElem?_toArray, List.getElem?_replicate, if_pos hl1]
        have hz2 : (wr.alloc (.cells z32 5)).cell? ⟨wr.heap.size, j2, none⟩ = some (.int .u8 0) := by rw [blk_cell (blk11 wr _)]; unfold z32; rw [List.getElem?_toArray, List.getElem?_replicate, if_pos hl2]
        have y1a : (wr.alloc (.cells z32 5)).cell? ⟨yb, yo + 1, none⟩ = some (.int .i64 (j1 : Int)) := keep_cell y1' (below_al _ _)
        have y2a : (wr.alloc (.cells z32 5)).cell? ⟨yb, yo + 2, none⟩ = some (.int .i64 (j2 : Int)) := keep_cell y2' (below_al _ _)
        clear g0 g1 y0 y1 y2
        rcases (show i = 0 ∨ i = 1 ∨ i = 2 by omega) with rfl | rfl | rfl
        · go_upto_region 39 with (fail)
          obtain ⟨W6, hw6⟩ : ∃ W6 : World, wr.alloc (.cells (z32.setIfInBounds j1 (.int .u8 f1)) 5) = W6 := ⟨_, rfl⟩
          have hB6 : Below wr.heap.size wr W6 := hw6 ▸ below_al _ _
          have HS6 : Hid (W6.heap.size = wr.heap.size + 1) := by show _ = _; rw [← hw6]; simp
          have hk6 : W6.heap[wr.heap.size]? = some (.cells (iv .u8 (pt j1 f1)).toArray 5 (0, 0)) := by rw [← hw6, z32_pt]; exact blk11 wr _
          have hrd6 : Rd W6 (some ⟨wr.heap.size, 0, none⟩) 32 32 (iv .u8 (pt j1 f1)) := rd_block hk6 32 32 _ 0 (Nat.le_refl _) (by omega) fun j hj => by simp
          have hconv : (convert 45 9 (.slice (some ⟨wr.heap.size, 0, none⟩) 32 32)).run Try.prog W6 = .ok (.string (strOfNums (pt j1 f1))) W6 :=
            hrd6.str (pt_len _ _) Try.underlying45 Try.underlying5 Try.underlying9
          have p8a := keep_cell p8 hB6
          have HP6 := Lib.hid (blk_below HP.out hB6 hpl5)
          have HO6 := Lib.hid (own_below HOW.out hB6 (Nat.le_refl _))
          have HB6 := Lib.hid (HB5.out.trans (hB6.mono hw5))
          have hne6 : Hid (vi.ownBlock ≠ some W4.heap.size) := Lib.hid fun e => by
            obtain ⟨cur, hc⟩ := own_block HO6.out _ e
            rw [HP6.out] at hc; cases hc
          rw [hw6]
          clear hk6 hrd6 hw6 hB6 HOW HP HB5 p8 hz1 hz2 y1a y2a g0' g1' y0' y1' y2'
          go_wp2_with (at_builtin; (refine wpList_pushN W6 rfl _ _ 51 75 rfl W4.heap.size (.agg #[.int .i64 0, .int .i64 0, .string ⟨#[]⟩, .slice none 0 0]) 4 56 Try.underlying51 infoItm rfl (by omega) (by omega) vi 0 _ [.int .i64 f0, .int .i64 0, .string (strOfNums (pt j1 f1)), .slice none 0 0] rfl rfl rfl (by simp [Value.oneCell']) HO6.out (by have := HS6.out; omega) (by omega) rfl ?_; intro g cap w9 ho hg hat hlt9; have hpk : w9.heap[W4.heap.size]? = some (.cells (putC [a0, a1, a2, a3, a4, a5, a6, 0] vi 2) 68 (0, 0)) := (hg.block _ (by have := HS6.out; omega) (fun e => hne6.out e.symm)).trans HP6.out; have HPK := Lib.hid hpk; have HO9 := Lib.hid ho; have HB9 := Lib.hid (below_grown HB6.out hg (by have := HS6.out; omega) (own_row HO6.out)); have p9 : w9.cell? ⟨W4.heap.size, 8, none⟩ = some vi := (by rw [blk_cell hpk]; rfl); have z9 := blk_free hpk 8; clear hpk ho hg hat))
          have hgn : g ≠ W4.heap.size := fun e => by
            obtain ⟨cur, hc⟩ := own_block HO9.out g rfl
            rw [e, HPK.out] at hc; cases hc
          exact ⟨⟨0 + 1, .slice (some ⟨g, 0, none⟩) (0 + 1) cap, by omega, by go_num, blk_set HPK.out 8 _, own_same HO9.out (fun j hj => by cases hj; exact Below.heap_setCell _ _ _ _ hgn), HB9.out.setCell (Nat.le_refl _) _⟩, by simp [Go.RowKit.intOf]⟩
        · go_upto_region 39 with (fail)
          obtain ⟨W6, hw6⟩ : ∃ W6 : World, wr.alloc (.cells (z32.setIfInBounds j2 (.int .u8 b)) 5) = W6 := ⟨_, rfl⟩
          have hB6 : Below wr.heap.size wr W6 := hw6 ▸ below_al _ _
          have HS6 : Hid (W6.heap.size = wr.heap.size + 1) := by show _ = _; rw [← hw6]; simp
          have hk6 : W6.heap[wr.heap.size]? = some (.cells (iv .u8 (pt j2 b)).toArray 5 (0, 0)) := by rw [← hw6, z32_pt]; exact blk11 wr _
          have hrd6 : Rd W6 (some ⟨wr.heap.size, 0, none⟩) 32 32 (iv .u8 (pt j2 b)) := rd_block hk6 32 32 _ 0 (Nat.le_refl _) (by omega) fun j hj => by simp
          have hconv : (convert 45 9 (.slice (some ⟨wr.heap.size, 0, none⟩) 32 32)).run Try.prog W6 = .ok (.string (strOfNums (pt j2 b))) W6 :=
            hrd6.str (pt_len _ _) Try.underlying45 Try.underlying5 Try.underlying9
          have p8a := keep_cell p8 hB6
          have HP6 := Lib.hid (blk_below HP.out hB6 hpl5)
          have HO6 := Lib.hid (own_below HOW.out hB6 (Nat.le_refl _))
          have HB6 := Lib.hid (HB5.out.trans (hB6.mono hw5))
          have hne6 : Hid (vi.ownBlock ≠ some W4.heap.size) := Lib.hid fun e => by
            obtain ⟨cur, hc⟩ := own_block HO6.out _ e
            rw [HP6.out] at hc; cases hc
          rw [hw6]
          clear hk6 hrd6 hw6 hB6 HOW HP HB5 p8 hz1 hz2 y1a y2a g0' g1' y0' y1' y2'
          go_wp2_with (at_builtin; (refine wpList_pushN W6 rfl _ _ 51 75 rfl W4.heap.size (.agg #[.int .i64 0, .int .i64 0, .string ⟨#[]⟩, .slice none 0 0]) 4 56 Try.underlying51 infoItm rfl (by omega) (by omega) vi 1 _ [.int .i64 f1, .int .i64 0, .string (strOfNums (pt j2 b)), .slice none 0 0] rfl rfl rfl (by simp [Value.oneCell']) HO6.out (by have := HS6.out; omega) (by omega) rfl ?_; intro g cap w9 ho hg hat hlt9; have hpk : w9.heap[W4.heap.size]? = some (.cells (putC [a0, a1, a2, a3, a4, a5, a6, 0] vi 2) 68 (0, 0)) := (hg.block _ (by have := HS6.out; omega) (fun e => hne6.out e.symm)).trans HP6.out; have HPK := Lib.hid hpk; have HO9 := Lib.hid ho; have HB9 := Lib.hid (below_grown HB6.out hg (by have := HS6.out; omega) (own_row HO6.out)); have p9 : w9.cell? ⟨W4.heap.size, 8, none⟩ = some vi := (by rw [blk_cell hpk]; rfl); have z9 := blk_free hpk 8; clear hpk ho hg hat))
          have hgn : g ≠ W4.heap.size := fun e => by
            obtain ⟨cur, hc⟩ := own_block HO9.out g rfl
            rw [e, HPK.out] at hc; cases hc
          exact ⟨⟨1 + 1, .slice (some ⟨g, 0, none⟩) (1 + 1) cap, by omega, by go_num, blk_set HPK.out 8 _, own_same HO9.out (fun j hj => by cases hj; exact Below.heap_setCell _ _ _ _ hgn), HB9.out.setCell (Nat.le_refl _) _⟩, by simp [Go.RowKit.intOf]⟩
        · have hPB := blk_cell HP.out
          have p0 := hPB 0
          have p1 := hPB 1
          have p2 := hPB 2
          have p3 := hPB 3
          have p4 := hPB 4
          have p5 := hPB 5
          have p6 := hPB 6
          have p7 := hPB 7
          have p9 := hPB 9
          have hPZ : wr.heap[w.heap.size + 1 + 1]? = _ := blk_below HPZ4.out HB5.out hpz4
          have hZ := blk_cell hPZ
          have q0 := hZ 0
          have q1 := hZ 1
          have q2 := hZ 2
          have q3 := hZ 3
          have q4 := hZ 4
          have q5 := hZ 5
          have q6 := hZ 6
          have q7 := hZ 7
          have q8 := hZ 8
          have q9 := hZ 9
          simp only [putC, iv, List.map_cons, List.map_nil, List.cons_append, List.nil_append, List.getElem?_toArray, List.getElem?_cons_zero, List.getElem?_cons_succ] at p0 p1 p2 p3 p4 p5 p6 p7 p9 q0 q1 q2 q3 q4 q5 q6 q7 q8 q9
          have zP := blk_free HP.out
          have zZ := blk_free hPZ
          have hneB : W4.heap.size ≠ w.heap.size + 1 + 1 := by omega
          have hneC : w.heap.size + 1 + 1 ≠ W4.heap.size := by omega
          have HPZ5 := Lib.hid hPZ
          obtain ⟨Ai, ci, rfl, hIl, hIr⟩ := rd_ownN (by omega) HOW.out
          have HIR := Lib.hid hIr
          clear hPB hZ hPZ hIr hIl y1' y2' y1a y2a hz1 hz2 g0' g1'
          go_wp2
          have hZ9 := set10 (w := wr.setCell ⟨W4.heap.size, 7, none⟩ (.int .i64 f0)) (Below.heap_setCell _ ⟨W4.heap.size, 7, none⟩ _ _ hneC ▸ HPZ5.out) (.int .i64 a0) (.int .i64 a1) (.int .i64 a2) (.int .i64 a3) (.int .i64 a4) (.int .i64 a5) (.int .i64 a6) (.int .i64 f0) (.slice Ai 2 ci) (.int .i64 2)
          have hFr : Fr (fun x => x = W4.heap.size ∨ x = w.heap.size + 1 + 1) wr (((((((((((wr.setCell ⟨W4.heap.size, 7, none⟩ (.int .i64 f0)).setCell ⟨w.heap.size + 1 + 1, 0, none⟩ (.int .i64 a0)).setCell ⟨w.heap.size + 1 + 1, 1, none⟩ (.int .i64 a1)).setCell ⟨w.heap.size + 1 + 1, 2, none⟩ (.int .i64 a2)).setCell ⟨w.heap.size + 1 + 1, 3, none⟩ (.int .i64 a3)).setCell ⟨w.heap.size + 1 + 1, 4, none⟩ (.int .i64 a4)).setCell ⟨w.heap.size + 1 + 1, 5, none⟩ (.int .i64 a5)).setCell ⟨w.heap.size + 1 + 1, 6, none⟩ (.int .i64 a6)).setCell ⟨w.heap.size + 1 + 1, 7, none⟩ (.int .i64 f0)).setCell ⟨w.heap.size + 1 + 1, 8, none⟩ (.slice Ai 2 ci)).setCell ⟨w.heap.size + 1 + 1, 9, none⟩ (.int .i64 2)) := Fr.setCell (S := fun x => x = W4.heap.size ∨ x = w.heap.size + 1 + 1) (Fr.setCell (S := fun x => x = W4.heap.size ∨ x = w.heap.size + 1 + 1) (Fr.setCell (S := fun x => x = W4.heap.size ∨ x = w.heap.size + 1 + 1) (Fr.setCell (S := fun x => x = W4.heap.size ∨ x = w.heap.size + 1 + 1) (Fr.setCell (S := fun x => x = W4.heap.size ∨ x = w.heap.size + 1 + 1) (Fr.setCell (S := fun x => x = W4.heap.size ∨ x = w.heap.size + 1 + 1) (Fr.setCell (S := fun x => x = W4.heap.size ∨ x = w.heap.size + 1 + 1) (Fr.setCell (S := fun x => x = W4.heap.size ∨ x = w.heap.size + 1 + 1) (Fr.setCell (S := fun x => x = W4.heap.size ∨ x = w.heap.size + 1 + 1) (Fr.setCell (S := fun x => x = W4.heap.size ∨ x = w.heap.size + 1 + 1) (Fr.setCell (S := fun x => x = W4.heap.size ∨ x = w.heap.size + 1 + 1) (Fr.refl _ wr) (p := ⟨W4.heap.size, 7, none⟩) (.inl (.inl rfl)) _) (p := ⟨w.heap.size + 1 + 1, 0, none⟩) (.inl (.inr rfl)) _) (p := ⟨w.heap.size + 1 + 1, 1, none⟩) (.inl (.inr rfl)) _) (p := ⟨w.heap.size + 1 + 1, 2, none⟩) (.inl (.inr rfl)) _) (p := ⟨w.heap.size + 1 + 1, 3, none⟩) (.inl (.inr rfl)) _) (p := ⟨w.heap.size + 1 + 1, 4, none⟩) (.inl (.inr rfl)) _) (p := ⟨w.heap.size + 1 + 1, 5, none⟩) (.inl (.inr rfl)) _) (p := ⟨w.heap.size + 1 + 1, 6, none⟩) (.inl (.inr rfl)) _) (p := ⟨w.heap.size + 1 + 1, 7, none⟩) (.inl (.inr rfl)) _) (p := ⟨w.heap.size + 1 + 1, 8, none⟩) (.inl (.inr rfl)) _) (p := ⟨w.heap.size + 1 + 1, 9, none⟩) (.inl (.inr rfl)) _
          generalize (((((((((((wr.setCell ⟨W4.heap.size, 7, none⟩ (.int .i64 f0)).setCell ⟨w.heap.size + 1 + 1, 0, none⟩ (.int .i64 a0)).setCell ⟨w.heap.size + 1 + 1, 1, none⟩ (.int .i64 a1)).setCell ⟨w.heap.size + 1 + 1, 2, none⟩ (.int .i64 a2)).setCell ⟨w.heap.size + 1 + 1, 3, none⟩ (.int .i64 a3)).setCell ⟨w.heap.size + 1 + 1, 4, none⟩ (.int .i64 a4)).setCell ⟨w.heap.size + 1 + 1, 5, none⟩ (.int .i64 a5)).setCell ⟨w.heap.size + 1 + 1, 6, none⟩ (.int .i64 a6)).setCell ⟨w.heap.size + 1 + 1, 7, none⟩ (.int .i64 f0)).setCell ⟨w.heap.size + 1 + 1, 8, none⟩ (.slice Ai 2 ci)).setCell ⟨w.heap.size + 1 + 1, 9, none⟩ (.int .i64 2)) = Wf at *
          have hown := own_same (w' := Wf) HOW.out (fun j hj => by
            obtain ⟨cur, hc⟩ := own_block HOW.out j hj
            refine hFr.block j (Array.getElem?_eq_some_iff.1 hc).1 ?_
            rintro (e | e)
            · rw [e, HP.out] at hc; cases hc
            · rw [e, HPZ5.out] at hc; cases hc)
          obtain ⟨A2, c2, e2, hl2', hr2'⟩ := rd_ownN (by omega) hown
          cases e2
          have hHB : Below w.heap.size w Wf := (HB4.out.trans (HB5.out.mono (by omega))).trans (hFr.below (B := w.heap.size) (by omega) (fun k h => by rcases h with h | h <;> omega))
          clear p0 p1 p2 p3 p4 p5 p6 p7 p8 p9 q0 q1 q2 q3 q4 q5 q6 q7 q8 q9 zP zZ hFr
          refine bodyPost_ret (v := .agg (putC [a0, a1, a2, a3, a4, a5, a6, f0] (.slice Ai 2 ci) 2)) ?_ rfl ?_
          · have d := blk_cell hZ9
            have d0 := d 0
            have d1 := d 1
            have d2 := d 2
            have d3 := d 3
            have d4 := d 4
            have d5 := d 5
            have d6 := d 6
            have d7 := d 7
            have d8 := d 8
            have d9 := d 9
            simp only [List.getElem?_toArray, List.getElem?_cons_zero, List.getElem?_cons_succ] at d0 d1 d2 d3 d4 d5 d6 d7 d8 d9
            simp [results, Try.results31, go_sem, d0, d1, d2, d3, d4, d5, d6, d7, d8, d9, putC, iv]
          · refine ⟨Ai, ci, rfl, ?_, hHB⟩
            rw [← HJ1.out, ← HJ2.out]
            refine ⟨[(none, 0, 0), (none, 0, 0)], ⟨hown.1, hown.2.imp id fun ⟨g, cap, cur, e, hb, r⟩ => ⟨g, cap, cur, e, by omega, r⟩⟩, rfl, rfl, fun j hj => ?_⟩
            match j, hj with
            | 0, _ => exact ⟨rfl, Rd.nil (c := 0) (by omega)⟩
            | 1, _ => exact ⟨rfl, Rd.nil (c := 0) (by omega)⟩
end Go.Proofs.Ytcgfoaihfncppaa
/- A region that draws its order, operation by operation in an order of one's own: loads and the like first; what is left comes up as the edges let it. No program in sight. -/
set_option linter.unusedSimpArgs false
set_option linter.unusedVariables false
namespace Go.Sel
open Go

section
variable {P : Program} {ops : Array Oper} {Q : Exit → Act → World → Prop} {md : Region.Mode} {S : World → Prop} {ds : List Nat}
/-- What may be taken now, said in one Bool. -/
def okB (md : Region.Mode) (ops : Array Oper) (ds : List Nat) (i : Nat) (L : Array Bool) : Bool := ds.contains i && Region.noSelect ops && Region.free md ops L i && (Region.ready md ops L).contains i
/-- Operation i is taken first. -/
theorem any_take (i : Nat) {oi : Oper} {v : Value} {fuel : Nat} {L : Array Bool} {a : Act} {w : World} (hi : ops[i]? = some oi) (hok : okB md ops ds i L = true)
    (hQ : ∀ c a d v w, Q (.panic c) (Act.put a d v) w → Q (.panic c) a w) (hw : Region.wanted oi (yielded ops a.tmps) = true) (hS : S w)
    (hrun : ∀ w, S w → (execOp a.eval oi).run P w = .ok (.value v) w) (h : ∀ K : Act → Prop, (∀ a, wpAnyD P md ops Q S ds fuel (L.setIfInBounds i true) a w → K a) → K (a.put oi.dst v)) :
    wpAnyD P md ops Q S ds (fuel + 1) L a w := by
  simp only [okB, Bool.and_eq_true] at hok
  obtain ⟨⟨⟨h1, h2⟩, h3⟩, h4⟩ := hok
  exact wpAnyD_take (by simpa using h1) hi h2 h3 h4 (fun c a w h => hQ c a _ _ w h) (.inl ⟨hw, hrun⟩) hS (h _ (fun _ h => h))
/-- One comes up, and none beside it. -/
theorem any_one (i : Nat) {oi : Oper} {fuel : Nat} {L : Array Bool} {a : Act} {w : World} (hi : ops[i]? = some oi) (hr : Region.ready md ops L = [i]) (hw : Region.wanted oi (yielded ops a.tmps) = true)
    (h : ∀ K : Act → World → Prop, (∀ a' w', (lateB md ops ds i = false → S w') → wpAnyD P md ops Q S ds fuel (L.setIfInBounds i true) a' w' → K a' w') → oi.wp P a w K Q) :
    wpAnyD P md ops Q S ds (fuel + 1) L a w := by
  refine wpAnyD_all hr (by simp) fun j hj => ?_
  obtain rfl : j = i := by simpa using hj
  unfold wpOp
  rw [hi]
  simp only [hw, if_true]
  exact .inl (h _ fun a' w' h1 h2 => ⟨h1, h2⟩)
/-- One of two comes up. -/
theorem any_two (i j : Nat) {oi oj : Oper} {fuel : Nat} {L : Array Bool} {a : Act} {w : World} (hi : ops[i]? = some oi) (hj : ops[j]? = some oj) (hr : Region.ready md ops L = [i, j]) (hwi : Region.wanted oi (yielded ops a.tmps) = true) (hwj : Region.wanted oj (yielded ops a.tmps) = true)
    (h1 : ∀ K : Act → World → Prop, (∀ a' w', (lateB md ops ds i = false → S w') → wpAnyD P md ops Q S ds fuel (L.setIfInBounds i true) a' w' → K a' w') → oi.wp P a w K Q)
    (h2 : ∀ K : Act → World → Prop, (∀ a' w', (lateB md ops ds j = false → S w') → wpAnyD P md ops Q S ds fuel (L.setIfInBounds j true) a' w' → K a' w') → oj.wp P a w K Q) :
    wpAnyD P md ops Q S ds (fuel + 1) L a w := by
  refine wpAnyD_all hr (by simp) fun k hk => ?_
  simp only [List.mem_cons, List.not_mem_nil, or_false] at hk
  rcases hk with rfl | rfl
  · unfold wpOp
    rw [hi]
    simp only [hwi, if_true]
    exact .inl (h1 _ fun a' w' h1 h2 => ⟨h1, h2⟩)
  · unfold wpOp
    rw [hj]
    simp only [hwj, if_true]
    exact .inl (h2 _ fun a' w' h1 h2 => ⟨h1, h2⟩)
theorem any_start {id : Nat} {a : Act} {w : World} {S : World → Prop} (hS : At S w.drew) (ds : List Nat) (hm : P.follows .mixedOrders = true)
    (h : wpAnyD P .any ops Q S ds ops.size (Array.replicate ops.size false) a w.drew) : (Code.region id ops true).wp P Q a w := wp_region_D S ds hm h
theorem any_end {fuel : Nat} {L : Array Bool} {a : Act} {w : World} (hr : Region.ready md ops L = []) (h : Q .normal a w) : wpAnyD P md ops Q S ds fuel L a w := wpAnyD_done hr h fuel
end
end Go.Sel
/- Rows of bytes in an array of the call's own, kept where older blocks that hold no bytes are turned. No program in sight. -/
set_option linter.unusedSimpArgs false
set_option linter.unusedVariables false
namespace Go.Sel
open Go.RowKit Go.Sel.Gra
theorem Rd.farB {S : Nat → Prop} {w w' : World} {A : Option Addr} {n c : Nat} {xs : List Int} (h : Rd w A n c (iv .u8 xs)) (hf : Fr S w w') (hS : ∀ b, S b → ∀ j x, w.cell? ⟨b, j, none⟩ ≠ some (.int .u8 x)) : Rd w' A n c (iv .u8 xs) := by
  refine ⟨h.le, h.cap, ?_⟩
  rcases h.at_ with h0 | ⟨b, off, rfl, hc⟩
  · exact .inl h0
  · by_cases hx : xs = []
    · exact .inl (by rw [hx]; rfl)
    · refine .inr ⟨b, off, rfl, fun j hj => ?_⟩
      have hj0 := hc j hj
      rw [iv_at] at hj0
      have hns : ¬ S b := fun hs => hS b hs (off + j) _ hj0
      rw [hf.cell (p := ⟨b, off + j, none⟩) hns hj0, hj0, iv_at]
theorem Wb.fr {S : Nat → Prop} {B : Nat} {w w' : World} {A : Option Addr} {n c : Nat} {D : List (List Int)} (h : Wb B w A n c D) (hf : Fr S w w') (hS : ∀ b, S b → b < B ∧ ∀ j x, w.cell? ⟨b, j, none⟩ ≠ some (.int .u8 x)) : Wb B w' A n c D := by
  obtain ⟨ss, h1, h2, h3, h4, h5, h6⟩ := h
  refine ⟨ss, h1, h2, h3, h4, ?_, fun j hj => ⟨(h6 j hj).1, (h6 j hj).2.1.farB hf (fun b hb => (hS b hb).2), (h6 j hj).2.2⟩⟩
  rcases h5 with h0 | ⟨g, cur, T, e, hg, hb, hc⟩
  · exact .inl h0
  · exact .inr ⟨g, cur, T, e, hg, (hf.block g (Array.getElem?_eq_some_iff.1 hb).1 (fun hs => by have := (hS g hs).1; omega)).trans hb, hc⟩
end Go.Sel
