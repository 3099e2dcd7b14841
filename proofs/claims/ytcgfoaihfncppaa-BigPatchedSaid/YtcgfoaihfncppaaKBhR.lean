/- Walks of big's reference: Put through blocks of pointers (printed by gen_bhr.py). -/
import Derived.Test.YtcgfoaihfncppaaKBhQ
set_option linter.unusedSimpArgs false
set_option linter.unusedVariables false
namespace Go.Proofs.Ytcgfoaihfncppaa
open Go.RowKit Go.Sel Go.Sel.Gra Go.Sel.Bg Go.Sel.Mer Go.Shelf

theorem zrow_get (i : Nat) : zrow.getD i 0 = 0 := by
  unfold zrow
  rw [List.getD_eq_getElem?_getD, List.getElem?_replicate]
  split <;> rfl
theorem free_at {w : World} {Af : Option Addr} {nf cf : Nat} {F : List Int} (h : Rd w Af nf cf (iv .i64 F)) {j : Nat} (hj : j < F.length) : ∃ fb fo, Af = some ⟨fb, fo, none⟩ ∧ w.cell? ⟨fb, fo + j, none⟩ = some (.int .i64 (F.getD j 0)) := by
  obtain ⟨fb, fo, rfl, _, hc⟩ := h.form (by rw [iv_length]; omega)
  have h1 := hc j (by rw [iv_length]; exact hj)
  rw [iv_at] at h1
  exact ⟨fb, fo, rfl, by rw [h1, List.getD_eq_getElem?_getD, List.getElem?_eq_getElem hj]; rfl⟩
theorem set_tp {t : List Int} {j : Nat} {x : Int} (h : tp t j = x) (hj : j < t.length) : t.set j x = t := by
  have e : x = t[j] := by rw [← h, tp, List.getD_eq_getElem?_getD, List.getElem?_eq_getElem hj]; rfl
  rw [e, List.set_getElem_self]
set_option maxRecDepth 100000 in
set_option maxHeartbeats 4000000 in
theorem rPut_k38 (A : Option Addr) (n c : Nat) (D : List (List Int)) (t : List Int) (k : Nat) (b : Int) (Af : Option Addr) (nf cf : Nat) (F : List Int) (ht : t.length = 8) (w : World) (hD : Bp w A n c D) (hR : Rt D t) (hF : Rd w Af nf cf (iv .i64 F)) (hlF : F.length = nf) (hO : RgPut n k b F) (hE : errL D t k b F = 0) (hf22 : 2 ≤ nf) (h6 : ¬ k < 6) (h38 : k < 38) (q : Nat) (hq : tp t 6 = (q : Int)) (hq0 : q ≠ 0) (hqn : q < n) :
    Calls Try.prog 28 #[.slice A n c, bigV t, .int .i64 (k : Int), .int .i64 b, .slice Af nf cf] w fun e w' => PutPost w n (D.set q ((nth D q).set (k - 6) b)) t 0 e w' := by
  have hwn := (wayN k).2.1 h6 h38
  obtain ⟨j, hj⟩ : ∃ j, j = k - 6 := ⟨_, rfl⟩
  rw [← hj] at hwn ⊢
  have hj32 : j < 32 := by omega
  have hcF : (0 : Int) ≤ (nf : Int) := by omega
  have hcF2 : (2 : Int) ≤ (nf : Int) := by omega
  clear hj
  have HD := Lib.hid hD
  have HF := Lib.hid hF
  have HLF := Lib.hid hlF
  have HR := Lib.hid hR
  have HO := Lib.hid hO
  have hdn := hD.len
  have hn : n ≤ 96 := by rw [← hdn]; exact hR.1.1
  have hn0 : 0 < n := by have := hO.b0; have := hO.b1; omega
  have hl1 := hD.le
  have hl2 := hD.cap
  have hf1 := hF.le
  have hf2 := hF.cap
  have HMAY := Lib.hid (fun W (h : Bp W A n c D) (h2 : Rd W Af nf cf (iv .i64 F)) => rmay_any A n c D t k b Af nf cf F ht W h hR h2 hlF hO)
  have HCP := Lib.hid (fun W (h : Bp W A n c D) => rCopy_wr A n c D W h hR.1 hn0)
  have HWY := Lib.hid (fun W => rWay_at (k : Int) (show big (k : Int) by unfold big; have := hO.hk; omega) W)
  rw [hwn] at HWY
  have hb0 := hO.b0
  have hb1 := hO.b1
  have hbw : IntKind.u8.wrap b = b := IntWalk.u8_in _ (by omega)
  obtain ⟨a0, a1, a2, a3, a4, a5, a6, a7, ht8⟩ := len8 ht
  have HT8 := Lib.hid ht8
  have hbv : bigV t = .agg #[.int .i64 a0, .int .i64 a1, .int .i64 a2, .int .i64 a3, .int .i64 a4, .int .i64 a5, .int .i64 a6, .int .i64 a7] := by rw [ht8]; rfl
  have hiv : (iv .i64 t).toArray = #[.int .i64 a0, .int .i64 a1, .int .i64 a2, .int .i64 a3, .int .i64 a4, .int .i64 a5, .int .i64 a6, .int .i64 a7] := by rw [ht8]; rfl
  rw [hbv] at HMAY ⊢
  have HX0 : Hid (boxB ((w.alloc (.cells #[.int .i64 a0, .int .i64 a1, .int .i64 a2, .int .i64 a3, .int .i64 a4, .int .i64 a5, .int .i64 a6, .int .i64 a7] 36)).alloc (.cells #[.int .i64 0, .int .i64 0, .int .i64 0, .int .i64 0, .int .i64 0, .int .i64 0, .int .i64 0, .int .i64 0] 36)) w.heap.size t) := Lib.hid (by show _ = _; rw [hiv]; exact blk_below (blk11 w _) (below_al _ _) (by simp))
  have HX1 : Hid (boxB ((w.alloc (.cells #[.int .i64 a0, .int .i64 a1, .int .i64 a2, .int .i64 a3, .int .i64 a4, .int .i64 a5, .int .i64 a6, .int .i64 a7] 36)).alloc (.cells #[.int .i64 0, .int .i64 0, .int .i64 0, .int .i64 0, .int .i64 0, .int .i64 0, .int .i64 0, .int .i64 0] 36)) (w.heap.size + 1) [0, 0, 0, 0, 0, 0, 0, 0]) := Lib.hid (by have := blk11 (w.alloc (.cells #[.int .i64 a0, .int .i64 a1, .int .i64 a2, .int .i64 a3, .int .i64 a4, .int .i64 a5, .int .i64 a6, .int .i64 a7] 36)) (.cells #[.int .i64 0, .int .i64 0, .int .i64 0, .int .i64 0, .int .i64 0, .int .i64 0, .int .i64 0, .int .i64 0] 36); simpa [boxB, iv] using this)
  have HB0 : Hid (Below w.heap.size w ((w.alloc (.cells #[.int .i64 a0, .int .i64 a1, .int .i64 a2, .int .i64 a3, .int .i64 a4, .int .i64 a5, .int .i64 a6, .int .i64 a7] 36)).alloc (.cells #[.int .i64 0, .int .i64 0, .int .i64 0, .int .i64 0, .int .i64 0, .int .i64 0, .int .i64 0, .int .i64 0] 36))) := Lib.hid ((below_al w _).alloc (by simp) _)
  clear hD hR ht ht8 hbv hF hlF hO hiv
  go_enter Try.func28, Try.ntmps28
  go_upto_region 1 with (fail)
  generalize (w.alloc (.cells #[.int .i64 a0, .int .i64 a1, .int .i64 a2, .int .i64 a3, .int .i64 a4, .int .i64 a5, .int .i64 a6, .int .i64 a7] 36)).alloc (.cells #[.int .i64 0, .int .i64 0, .int .i64 0, .int .i64 0, .int .i64 0, .int .i64 0, .int .i64 0, .int .i64 0] 36) = W1 at *
  obtain ⟨gb, HGB⟩ : ∃ gb, Hid (w.heap.size = gb) := ⟨_, rfl⟩
  rw [HGB.out] at HX0 HX1 ⊢
  have hx0 := HX0.out
  have HTL := Lib.hid HT8.out
  rw [HT8.out] at hx0
  obtain ⟨d0, d1, d2, d3, d4, d5, d6, d7⟩ := big8 hx0
  have hg0 := (Array.getElem?_eq_some_iff.1 HX0.out).1
  have hg1 := (Array.getElem?_eq_some_iff.1 HX1.out).1
  go_upto_region 2 with (go_at_call 52; refine (HMAY.out _ (HD.out.below HB0.out) (HF.out.below HB0.out)).mono ?_; rintro e w2 ⟨rfl, hB⟩; have HX02 := Lib.hid (blk_below HX0.out hB hg0); have HX12 := Lib.hid (blk_below HX1.out hB hg1); have HB2 := Lib.hid (below_then HB0.out hB); clear hB)
  clear d0 d1 d2 d3 d4 d5 d6 d7 HX0 HX1 HB0 hx0 hg0 hg1 HMAY
  rw [hE] at *
  go_upto_region 5 with (go_at_call 44; refine (HCP.out _ (HD.out.below HB2.out)).mono ?_; rintro e w3 ⟨⟨g, c', gs, rfl, hwr⟩, hB⟩; have HW3 := Lib.hid (hwr.mono (B' := gb + 2) (by have := (Array.getElem?_eq_some_iff.1 HX12.out).1; omega)); have HX03 := Lib.hid (blk_below HX02.out hB (Array.getElem?_eq_some_iff.1 HX02.out).1); have HX13 := Lib.hid (blk_below HX12.out hB (Array.getElem?_eq_some_iff.1 HX12.out).1); have HB3 := Lib.hid (below_then HB2.out hB); clear hwr hB)
  clear HX02 HX12 HB2 HCP
  have HWYS : Hid (∀ W : World, Hid (W.heap.size = w3.heap.size) → True) := fun _ _ => trivial
  obtain ⟨ab, HAB⟩ : ∃ ab, Hid (ab = w3.heap.size) := ⟨_, rfl⟩
  have HNA : Hid (g < ab ∧ (∀ x ∈ gs.map (·.1), x < ab) ∧ gb + 1 < ab) := Lib.hid (by rw [HAB.out]; exact ⟨HW3.out.lt, fun x hx => (HW3.out.mem_lt hx).1, (Array.getElem?_eq_some_iff.1 HX13.out).1⟩)
  go_upto_region 6 with (go_at_call 16; refine (HWY.out _).mono ?_; rintro e w4 ⟨rfl, hw4⟩; rw [← HAB.out]; have HY4 := Lib.hid (hw4 ▸ blk11 w3 _); have hB : Below w3.heap.size w3 w4 := (by rw [hw4]; exact below_al _ _); clear hw4; have HW4 := Lib.hid (HW3.out.below hB); have HX04 := Lib.hid (blk_below HX03.out hB (Array.getElem?_eq_some_iff.1 HX03.out).1); have HX14 := Lib.hid (blk_below HX13.out hB (Array.getElem?_eq_some_iff.1 HX13.out).1); have HB4 := Lib.hid (below_then HB3.out hB); clear hB)
  rw [← HAB.out] at HY4
  clear HX03 HX13 HB3 HW3 HWY HWYS HAB
  have HP0 := Lib.hid (PSt.mk HW4.out HX04.out HX14.out HY4.out HB4.out ⟨by have := HNA.out.1; omega, fun x hx => by have := HNA.out.2.1 x hx; omega⟩ HNA.out.2.2 HGB.out)
  have HTLEN : Hid (t.length = 8) := Lib.hid (by rw [HT8.out]; rfl)
  clear HW4 HX04 HX14 HY4 HB4 HNA
  obtain ⟨W0, hW0⟩ : ∃ W0, W0 = w4 := ⟨_, rfl⟩
  subst hW0
  have hbq : ((q : Int) == 0) = false := by simpa using hq0
  obtain ⟨x6, z6⟩ := box_at HP0.out.x0 (j := 6) (by first | (rw [HTLEN.out]; omega) | (rw [List.length_set, HTLEN.out]; omega)); rw [hq] at x6
  go_upto_region 15 with (fail)
  have HP1 := Lib.hid HP0.out.drew
  clear HP0 x6 z6
  have HS : At (fun _ : World => True) W0.drew := trivial
  refine wp_region_lexD HS [0, 1, 2, 3, 4, 5, 6, 7, 8, 9, 10, 11, 12, 13, 14, 15, 16, 17, 18] (by kernel_rfl) (by kernel_rfl) (fun _ _ d _ _ h => by cases d <;> exact h) ?_
  generalize W0.drew = W5 at *
  refine lexD_take (by kernel_rfl) (by kernel_rfl) HS (fun w9 h9 => by obtain _ := h9; go_simp; first | done | rfl) (fun K hK => ?_); go_simp; refine hK _ ?_; clear hK K
  refine lexD_take (by kernel_rfl) (by kernel_rfl) HS (fun w9 h9 => by obtain _ := h9; go_simp; first | done | rfl) (fun K hK => ?_); go_simp; refine hK _ ?_; clear hK K
  refine lexD_take (by kernel_rfl) (by kernel_rfl) HS (fun w9 h9 => by obtain _ := h9; go_simp; first | done | rfl) (fun K hK => ?_); go_simp; refine hK _ ?_; clear hK K
  refine lexD_take (by kernel_rfl) (by kernel_rfl) HS (fun w9 h9 => by obtain _ := h9; go_simp; first | done | rfl) (fun K hK => ?_); go_simp; refine hK _ ?_; clear hK K
  refine lexD_skip (by kernel_rfl) (by kernel_rfl) HS (fun K hK => ?_); go_simp; refine hK _ ?_; clear hK K
  refine lexD_skip (by kernel_rfl) (by kernel_rfl) HS (fun K hK => ?_); go_simp; refine hK _ ?_; clear hK K
  refine lexD_skip (by kernel_rfl) (by kernel_rfl) HS (fun K hK => ?_); go_simp; refine hK _ ?_; clear hK K
  refine lexD_skip (by kernel_rfl) (by kernel_rfl) HS (fun K hK => ?_); go_simp; refine hK _ ?_; clear hK K
  refine lexD_skip (by kernel_rfl) (by kernel_rfl) HS (fun K hK => ?_); go_simp; refine hK _ ?_; clear hK K
  refine lexD_skip (by kernel_rfl) (by kernel_rfl) HS (fun K hK => ?_); go_simp; refine hK _ ?_; clear hK K
  refine lexD_skip (by kernel_rfl) (by kernel_rfl) HS (fun K hK => ?_); go_simp; refine hK _ ?_; clear hK K
  refine lexD_skip (by kernel_rfl) (by kernel_rfl) HS (fun K hK => ?_); go_simp; refine hK _ ?_; clear hK K
  refine lexD_skip (by kernel_rfl) (by kernel_rfl) HS (fun K hK => ?_); go_simp; refine hK _ ?_; clear hK K
  refine lexD_skip (by kernel_rfl) (by kernel_rfl) HS (fun K hK => ?_); go_simp; refine hK _ ?_; clear hK K
  refine lexD_skip (by kernel_rfl) (by kernel_rfl) HS (fun K hK => ?_); go_simp; refine hK _ ?_; clear hK K
  refine lexD_skip (by kernel_rfl) (by kernel_rfl) HS (fun K hK => ?_); go_simp; refine hK _ ?_; clear hK K
  refine lexD_skip (by kernel_rfl) (by kernel_rfl) HS (fun K hK => ?_); go_simp; refine hK _ ?_; clear hK K
  refine lexD_skip (by kernel_rfl) (by kernel_rfl) HS (fun K hK => ?_); go_simp; refine hK _ ?_; clear hK K
  refine lexD_take (by kernel_rfl) (by kernel_rfl) HS (fun w9 h9 => by obtain _ := h9; go_simp; first | done | rfl) (fun K hK => ?_); go_simp; refine hK _ ?_; clear hK K
  refine lexD_nil ?_
  clear HS
  obtain ⟨x6, z6⟩ := box_at HP1.out.x0 (j := 6) (by first | (rw [HTLEN.out]; omega) | (rw [List.length_set, HTLEN.out]; omega)); rw [hq] at x6
  have HP2 := Lib.hid (HP1.out.num 6 (q : Int))
  have htq : t.set 6 (q : Int) = t := set_tp hq (by rw [HTLEN.out]; omega)
  rw [htq] at HP2
  clear HP1 htq
  go_upto_region 26 with (fail)
  generalize W5.setCell ⟨gb, 6, none⟩ (.int .i64 (q : Int)) = W6 at *
  clear x6 z6
  have HP2d := Lib.hid HP2.out.drew
  clear HP2
  obtain ⟨rq, cq, c1, f1, hc1, hc2, hrow, hst⟩ := HP2d.out.pick hqn
  obtain ⟨r1, r2⟩ := hrow j (by omega)
  have y1 := HP2d.out.way (j := 1) (v := .int .i64 (j : Int)) rfl
  have HP3 := Lib.hid (hst j b (by omega) (by omega) (by omega))
  clear hrow hst HP2d
  have hsI : (j : Int) < 32 := by omega
  have hqI : (q : Int) < (n : Int) := by omega
  have HS : At (fun w' : World => w'.cell? ⟨g, q, none⟩ = some (.slice (some ⟨rq, 0, none⟩) 32 cq) ∧ w'.cell? ⟨ab, 1, none⟩ = some (.int .i64 (j : Int))) W6.drew := ⟨c1, y1⟩
  refine wp_region_lexD HS [0, 1, 2, 3, 4, 5, 6, 7, 8, 9] (by kernel_rfl) (by kernel_rfl) (fun _ _ d _ _ h => by cases d <;> exact h) ?_
  generalize W6.drew = Wd at *
  refine lexD_take (by kernel_rfl) (by kernel_rfl) HS (fun w9 h9 => by obtain ⟨s0, s1⟩ := h9; go_simp; first | done | rfl) (fun K hK => ?_); go_simp; refine hK _ ?_; clear hK K
  refine lexD_take (by kernel_rfl) (by kernel_rfl) HS (fun w9 h9 => by obtain ⟨s0, s1⟩ := h9; go_simp; first | done | rfl) (fun K hK => ?_); go_simp; refine hK _ ?_; clear hK K
  refine lexD_take (by kernel_rfl) (by kernel_rfl) HS (fun w9 h9 => by obtain ⟨s0, s1⟩ := h9; go_simp; first | done | rfl) (fun K hK => ?_); go_simp; refine hK _ ?_; clear hK K
  refine lexD_take (by kernel_rfl) (by kernel_rfl) HS (fun w9 h9 => by obtain ⟨s0, s1⟩ := h9; go_simp; first | done | rfl) (fun K hK => ?_); go_simp; refine hK _ ?_; clear hK K
  refine lexD_take (by kernel_rfl) (by kernel_rfl) HS (fun w9 h9 => by obtain ⟨s0, s1⟩ := h9; go_simp; first | done | rfl) (fun K hK => ?_); go_simp; refine hK _ ?_; clear hK K
  refine lexD_take (by kernel_rfl) (by kernel_rfl) HS (fun w9 h9 => by obtain ⟨s0, s1⟩ := h9; go_simp; first | done | rfl) (fun K hK => ?_); go_simp; refine hK _ ?_; clear hK K
  refine lexD_take (by kernel_rfl) (by kernel_rfl) HS (fun w9 h9 => by obtain ⟨s0, s1⟩ := h9; go_simp; first | done | rfl) (fun K hK => ?_); go_simp; refine hK _ ?_; clear hK K
  refine lexD_take (by kernel_rfl) (by kernel_rfl) HS (fun w9 h9 => by obtain ⟨s0, s1⟩ := h9; go_simp; first | done | rfl) (fun K hK => ?_); go_simp; refine hK _ ?_; clear hK K
  refine lexD_take (by kernel_rfl) (by kernel_rfl) HS (fun w9 h9 => by obtain ⟨s0, s1⟩ := h9; go_simp; first | done | rfl) (fun K hK => ?_); go_simp; refine hK _ ?_; clear hK K
  refine lexD_take (by kernel_rfl) (by kernel_rfl) HS (fun w9 h9 => by obtain ⟨s0, s1⟩ := h9; go_simp; first | done | rfl) (fun K hK => ?_); go_simp; refine hK _ ?_; clear hK K
  refine lexD_late (by kernel_rfl) (by kernel_rfl) (fun K hK => ?_)
  go_simp
  refine hK _ _ ?_
  clear hK K HS
  refine lexD_nil ?_
  generalize Wd.setCell ⟨rq, j, none⟩ (.int .u8 b) = W7 at *
  clear r1 r2 c1 f1 hc1 hc2 y1 hsI hqI
  go_upto_region 27 with (fail)
  have HXf := Lib.hid HP3.out.x0
  have HXg := Lib.hid HP3.out.x1
  have HWf := Lib.hid HP3.out.wr
  have HBf := Lib.hid HP3.out.bl
  obtain ⟨t', ht'⟩ : ∃ t', t' = t := ⟨_, rfl⟩
  have HTL2 : Hid (t'.length = 8) := Lib.hid (by rw [ht']; first | exact HTLEN.out | (rw [List.length_set]; exact HTLEN.out))
  rw [← ht'] at HXf
  have HTP := Lib.hid ht'
  clear ht' HP3
  obtain ⟨z0, z1, z2, z3, z4, z5, z6, z7, hz⟩ := len8 (t := t') HTL2.out
  have HZ := Lib.hid hz
  have hxz : W7.drew.heap[gb]? = some (.cells #[.int .i64 z0, .int .i64 z1, .int .i64 z2, .int .i64 z3, .int .i64 z4, .int .i64 z5, .int .i64 z6, .int .i64 z7] 36 (0, 0)) := by have := HXf.out; rw [hz] at this; exact this
  have hx1 : W7.drew.heap[gb + 1]? = some (.cells #[.int .i64 0, .int .i64 0, .int .i64 0, .int .i64 0, .int .i64 0, .int .i64 0, .int .i64 0, .int .i64 0] 36 (0, 0)) := HXg.out
  have f1 := blk_free hx1
  obtain ⟨e0, e1, e2, e3, e4, e5, e6, e7⟩ := big8 hx1
  have HFn := Lib.hid (set8_fr W7.drew (gb + 1) (.int .i64 z0) (.int .i64 z1) (.int .i64 z2) (.int .i64 z3) (.int .i64 z4) (.int .i64 z5) (.int .i64 z6) (.int .i64 z7))
  have HBn := Lib.hid (HBf.out.drew.trans (HFn.out.below (B := w.heap.size) HBf.out.drew.size (fun q hq => by have := HGB.out; omega)))
  have HXn := Lib.hid (set8 hx1 (.int .i64 z0) (.int .i64 z1) (.int .i64 z2) (.int .i64 z3) (.int .i64 z4) (.int .i64 z5) (.int .i64 z6) (.int .i64 z7))
  have HWn := Lib.hid ((HWf.out.below (Sel.below_drewN W7 1)).fr HFn.out (fun q hq => by omega)).bp
  have hzc := big8 hxz
  have HS : At (fun w' : World => w'.cell? ⟨gb, 0, none⟩ = some (.int .i64 z0) ∧ w'.cell? ⟨gb, 1, none⟩ = some (.int .i64 z1) ∧ w'.cell? ⟨gb, 2, none⟩ = some (.int .i64 z2) ∧ w'.cell? ⟨gb, 3, none⟩ = some (.int .i64 z3) ∧ w'.cell? ⟨gb, 4, none⟩ = some (.int .i64 z4) ∧ w'.cell? ⟨gb, 5, none⟩ = some (.int .i64 z5) ∧ w'.cell? ⟨gb, 6, none⟩ = some (.int .i64 z6) ∧ w'.cell? ⟨gb, 7, none⟩ = some (.int .i64 z7)) W7.drew := hzc
  have HSn : Hid (At (fun w' : World => w'.cell? ⟨gb, 0, none⟩ = some (.int .i64 z0) ∧ w'.cell? ⟨gb, 1, none⟩ = some (.int .i64 z1) ∧ w'.cell? ⟨gb, 2, none⟩ = some (.int .i64 z2) ∧ w'.cell? ⟨gb, 3, none⟩ = some (.int .i64 z3) ∧ w'.cell? ⟨gb, 4, none⟩ = some (.int .i64 z4) ∧ w'.cell? ⟨gb, 5, none⟩ = some (.int .i64 z5) ∧ w'.cell? ⟨gb, 6, none⟩ = some (.int .i64 z6) ∧ w'.cell? ⟨gb, 7, none⟩ = some (.int .i64 z7)) ((((((((W7.drew.setCell ⟨gb + 1, 0, none⟩ (.int .i64 z0)).setCell ⟨gb + 1, 1, none⟩ (.int .i64 z1)).setCell ⟨gb + 1, 2, none⟩ (.int .i64 z2)).setCell ⟨gb + 1, 3, none⟩ (.int .i64 z3)).setCell ⟨gb + 1, 4, none⟩ (.int .i64 z4)).setCell ⟨gb + 1, 5, none⟩ (.int .i64 z5)).setCell ⟨gb + 1, 6, none⟩ (.int .i64 z6)).setCell ⟨gb + 1, 7, none⟩ (.int .i64 z7))) := Lib.hid (big8 ((HFn.out.block gb (Array.getElem?_eq_some_iff.1 hxz).1 (by omega)).trans hxz))
  clear hx1 hxz hzc hz HXf HXg HBf HWf
  refine wp_region_lexD HS [0, 1, 2, 3, 5, 6] (by kernel_rfl) (by kernel_rfl) (fun _ _ d _ _ h => by cases d <;> exact h) ?_
  generalize W7.drew = Wd at *
  refine lexD_take (by kernel_rfl) (by kernel_rfl) HS (fun w9 h9 => by obtain ⟨s0, s1, s2, s3, s4, s5, s6, s7⟩ := h9; go_simp; first | done | rfl) (fun K hK => ?_); go_simp; refine hK _ ?_; clear hK K
  refine lexD_take (by kernel_rfl) (by kernel_rfl) HS (fun w9 h9 => by obtain ⟨s0, s1, s2, s3, s4, s5, s6, s7⟩ := h9; go_simp; first | done | rfl) (fun K hK => ?_); go_simp; refine hK _ ?_; clear hK K
  refine lexD_take (by kernel_rfl) (by kernel_rfl) HS (fun w9 h9 => by obtain ⟨s0, s1, s2, s3, s4, s5, s6, s7⟩ := h9; go_simp; first | done | rfl) (fun K hK => ?_); go_simp; refine hK _ ?_; clear hK K
  refine lexD_take (by kernel_rfl) (by kernel_rfl) HS (fun w9 h9 => by obtain ⟨s0, s1, s2, s3, s4, s5, s6, s7⟩ := h9; go_simp; first | done | rfl) (fun K hK => ?_); go_simp; refine hK _ ?_; clear hK K
  refine lexD_do (by kernel_rfl) (by kernel_rfl) (fun K hK => ?_)
  go_simp
  generalize ((((((((Wd.setCell ⟨gb + 1, 0, none⟩ (.int .i64 z0)).setCell ⟨gb + 1, 1, none⟩ (.int .i64 z1)).setCell ⟨gb + 1, 2, none⟩ (.int .i64 z2)).setCell ⟨gb + 1, 3, none⟩ (.int .i64 z3)).setCell ⟨gb + 1, 4, none⟩ (.int .i64 z4)).setCell ⟨gb + 1, 5, none⟩ (.int .i64 z5)).setCell ⟨gb + 1, 6, none⟩ (.int .i64 z6)).setCell ⟨gb + 1, 7, none⟩ (.int .i64 z7)) = W9 at *
  have HS := HSn.out
  refine hK _ _ (fun _ => HS) ?_
  clear hK K e0 e1 e2 e3 e4 e5 e6 e7 f1
  refine lexD_take (by kernel_rfl) (by kernel_rfl) HS (fun w9 h9 => by obtain ⟨s0, s1, s2, s3, s4, s5, s6, s7⟩ := h9; go_simp; first | done | rfl) (fun K hK => ?_); go_simp; refine hK _ ?_; clear hK K
  refine lexD_take (by kernel_rfl) (by kernel_rfl) HS (fun w9 h9 => by obtain ⟨s0, s1, s2, s3, s4, s5, s6, s7⟩ := h9; go_simp; first | done | rfl) (fun K hK => ?_); go_simp; refine hK _ ?_; clear hK K
  refine lexD_nil ?_
  go_wp2
  obtain ⟨s0, s1, s2, s3, s4, s5, s6, s7⟩ := big8 HXn.out
  refine bodyPost_ret (v := .tuple #[.slice (some ⟨g, 0, none⟩) n c', .agg #[.int .i64 z0, .int .i64 z1, .int .i64 z2, .int .i64 z3, .int .i64 z4, .int .i64 z5, .int .i64 z6, .int .i64 z7], .int .i64 (0 : Int), .int .i64 0]) ?_ rfl ?_
  · simp [results, Try.results28, go_sem, s0, s1, s2, s3, s4, s5, s6, s7]
  · exact PutPost.of z0 z1 z2 z3 z4 z5 z6 z7 (HTP.out.symm.trans HZ.out) _ _ rfl HWn.out HBn.out
set_option maxRecDepth 100000 in
set_option maxHeartbeats 4000000 in
theorem rPut_k38f (A : Option Addr) (n c : Nat) (D : List (List Int)) (t : List Int) (k : Nat) (b : Int) (Af : Option Addr) (nf cf : Nat) (F : List Int) (ht : t.length = 8) (w : World) (hD : Bp w A n c D) (hR : Rt D t) (hF : Rd w Af nf cf (iv .i64 F)) (hlF : F.length = nf) (hO : RgPut n k b F) (hE : errL D t k b F = 0) (hf22 : 2 ≤ nf) (h6 : ¬ k < 6) (h38 : k < 38) (p : Nat) (hz : tp t 6 = 0) (hp : f0 F = (p : Int)) (hp0 : p ≠ 0) (hpn : p < n) :
    Calls Try.prog 28 #[.slice A n c, bigV t, .int .i64 (k : Int), .int .i64 b, .slice Af nf cf] w fun e w' => PutPost w n ((D.set p zrow).set p ((nth (D.set p zrow) p).set (k - 6) b)) (t.set 6 (p : Int)) 1 e w' := by
  have hwn := (wayN k).2.1 h6 h38
  obtain ⟨j, hj⟩ : ∃ j, j = k - 6 := ⟨_, rfl⟩
  rw [← hj] at hwn ⊢
  have hj32 : j < 32 := by omega
  have hcF : (0 : Int) ≤ (nf : Int) := by omega
  have hcF2 : (2 : Int) ≤ (nf : Int) := by omega
  clear hj
  have HD := Lib.hid hD
  have HF := Lib.hid hF
  have HLF := Lib.hid hlF
  have HR := Lib.hid hR
  have HO := Lib.hid hO
  have hdn := hD.len
  have hn : n ≤ 96 := by rw [← hdn]; exact hR.1.1
  have hn0 : 0 < n := by have := hO.b0; have := hO.b1; omega
  have hl1 := hD.le
  have hl2 := hD.cap
  have hf1 := hF.le
  have hf2 := hF.cap
  have HMAY := Lib.hid (fun W (h : Bp W A n c D) (h2 : Rd W Af nf cf (iv .i64 F)) => rmay_any A n c D t k b Af nf cf F ht W h hR h2 hlF hO)
  have HCP := Lib.hid (fun W (h : Bp W A n c D) => rCopy_wr A n c D W h hR.1 hn0)
  have HWY := Lib.hid (fun W => rWay_at (k : Int) (show big (k : Int) by unfold big; have := hO.hk; omega) W)
  rw [hwn] at HWY
  have hb0 := hO.b0
  have hb1 := hO.b1
  have hbw : IntKind.u8.wrap b = b := IntWalk.u8_in _ (by omega)
  obtain ⟨a0, a1, a2, a3, a4, a5, a6, a7, ht8⟩ := len8 ht
  have HT8 := Lib.hid ht8
  have hbv : bigV t = .agg #[.int .i64 a0, .int .i64 a1, .int .i64 a2, .int .i64 a3, .int .i64 a4, .int .i64 a5, .int .i64 a6, .int .i64 a7] := by rw [ht8]; rfl
  have hiv : (iv .i64 t).toArray = #[.int .i64 a0, .int .i64 a1, .int .i64 a2, .int .i64 a3, .int .i64 a4, .int .i64 a5, .int .i64 a6, .int .i64 a7] := by rw [ht8]; rfl
  rw [hbv] at HMAY ⊢
  have HX0 : Hid (boxB ((w.alloc (.cells #[.int .i64 a0, .int .i64 a1, .int .i64 a2, .int .i64 a3, .int .i64 a4, .int .i64 a5, .int .i64 a6, .int .i64 a7] 36)).alloc (.cells #[.int .i64 0, .int .i64 0, .int .i64 0, .int .i64 0, .int .i64 0, .int .i64 0, .int .i64 0, .int .i64 0] 36)) w.heap.size t) := Lib.hid (by show _ = _; rw [hiv]; exact blk_below (blk11 w _) (below_al _ _) (by simp))
  have HX1 : Hid (boxB ((w.alloc (.cells #[.int .i64 a0, .int .i64 a1, .int .i64 a2, .int .i64 a3, .int .i64 a4, .int .i64 a5, .int .i64 a6, .int .i64 a7] 36)).alloc (.cells #[.int .i64 0, .int .i64 0, .int .i64 0, .int .i64 0, .int .i64 0, .int .i64 0, .int .i64 0, .int .i64 0] 36)) (w.heap.size + 1) [0, 0, 0, 0, 0, 0, 0, 0]) := Lib.hid (by have := blk11 (w.alloc (.cells #[.int .i64 a0, .int .i64 a1, .int .i64 a2, .int .i64 a3, .int .i64 a4, .int .i64 a5, .int .i64 a6, .int .i64 a7] 36)) (.cells #[.int .i64 0, .int .i64 0, .int .i64 0, .int .i64 0, .int .i64 0, .int .i64 0, .int .i64 0, .int .i64 0] 36); simpa [boxB, iv] using this)
  have HB0 : Hid (Below w.heap.size w ((w.alloc (.cells #[.int .i64 a0, .int .i64 a1, .int .i64 a2, .int .i64 a3, .int .i64 a4, .int .i64 a5, .int .i64 a6, .int .i64 a7] 36)).alloc (.cells #[.int .i64 0, .int .i64 0, .int .i64 0, .int .i64 0, .int .i64 0, .int .i64 0, .int .i64 0, .int .i64 0] 36))) := Lib.hid ((below_al w _).alloc (by simp) _)
  clear hD hR ht ht8 hbv hF hlF hO hiv
  go_enter Try.func28, Try.ntmps28
  go_upto_region 1 with (fail)
  generalize (w.alloc (.cells #[.int .i64 a0, .int .i64 a1, .int .i64 a2, .int .i64 a3, .int .i64 a4, .int .i64 a5, .int .i64 a6, .int .i64 a7] 36)).alloc (.cells #[.int .i64 0, .int .i64 0, .int .i64 0, .int .i64 0, .int .i64 0, .int .i64 0, .int .i64 0, .int .i64 0] 36) = W1 at *
  obtain ⟨gb, HGB⟩ : ∃ gb, Hid (w.heap.size = gb) := ⟨_, rfl⟩
  rw [HGB.out] at HX0 HX1 ⊢
  have hx0 := HX0.out
  have HTL := Lib.hid HT8.out
  rw [HT8.out] at hx0
  obtain ⟨d0, d1, d2, d3, d4, d5, d6, d7⟩ := big8 hx0
  have hg0 := (Array.getElem?_eq_some_iff.1 HX0.out).1
  have hg1 := (Array.getElem?_eq_some_iff.1 HX1.out).1
  go_upto_region 2 with (go_at_call 52; refine (HMAY.out _ (HD.out.below HB0.out) (HF.out.below HB0.out)).mono ?_; rintro e w2 ⟨rfl, hB⟩; have HX02 := Lib.hid (blk_below HX0.out hB hg0); have HX12 := Lib.hid (blk_below HX1.out hB hg1); have HB2 := Lib.hid (below_then HB0.out hB); clear hB)
  clear d0 d1 d2 d3 d4 d5 d6 d7 HX0 HX1 HB0 hx0 hg0 hg1 HMAY
  rw [hE] at *
  go_upto_region 5 with (go_at_call 44; refine (HCP.out _ (HD.out.below HB2.out)).mono ?_; rintro e w3 ⟨⟨g, c', gs, rfl, hwr⟩, hB⟩; have HW3 := Lib.hid (hwr.mono (B' := gb + 2) (by have := (Array.getElem?_eq_some_iff.1 HX12.out).1; omega)); have HX03 := Lib.hid (blk_below HX02.out hB (Array.getElem?_eq_some_iff.1 HX02.out).1); have HX13 := Lib.hid (blk_below HX12.out hB (Array.getElem?_eq_some_iff.1 HX12.out).1); have HB3 := Lib.hid (below_then HB2.out hB); clear hwr hB)
  clear HX02 HX12 HB2 HCP
  have HWYS : Hid (∀ W : World, Hid (W.heap.size = w3.heap.size) → True) := fun _ _ => trivial
  obtain ⟨ab, HAB⟩ : ∃ ab, Hid (ab = w3.heap.size) := ⟨_, rfl⟩
  have HNA : Hid (g < ab ∧ (∀ x ∈ gs.map (·.1), x < ab) ∧ gb + 1 < ab) := Lib.hid (by rw [HAB.out]; exact ⟨HW3.out.lt, fun x hx => (HW3.out.mem_lt hx).1, (Array.getElem?_eq_some_iff.1 HX13.out).1⟩)
  go_upto_region 6 with (go_at_call 16; refine (HWY.out _).mono ?_; rintro e w4 ⟨rfl, hw4⟩; rw [← HAB.out]; have HY4 := Lib.hid (hw4 ▸ blk11 w3 _); have hB : Below w3.heap.size w3 w4 := (by rw [hw4]; exact below_al _ _); clear hw4; have HW4 := Lib.hid (HW3.out.below hB); have HX04 := Lib.hid (blk_below HX03.out hB (Array.getElem?_eq_some_iff.1 HX03.out).1); have HX14 := Lib.hid (blk_below HX13.out hB (Array.getElem?_eq_some_iff.1 HX13.out).1); have HB4 := Lib.hid (below_then HB3.out hB); clear hB)
  rw [← HAB.out] at HY4
  clear HX03 HX13 HB3 HW3 HWY HWYS HAB
  have HP0 := Lib.hid (PSt.mk HW4.out HX04.out HX14.out HY4.out HB4.out ⟨by have := HNA.out.1; omega, fun x hx => by have := HNA.out.2.1 x hx; omega⟩ HNA.out.2.2 HGB.out)
  have HTLEN : Hid (t.length = 8) := Lib.hid (by rw [HT8.out]; rfl)
  clear HW4 HX04 HX14 HY4 HB4 HNA
  obtain ⟨W0, hW0⟩ : ∃ W0, W0 = w4 := ⟨_, rfl⟩
  subst hW0
  have hmk := mk32
  have hbp : ((p : Int) == 0) = false := by simpa using hp0
  have hpI : (p : Int) < (n : Int) := by omega
  obtain ⟨x6, z6⟩ := box_at HP0.out.x0 (j := 6) (by first | (rw [HTLEN.out]; omega) | (rw [List.length_set, HTLEN.out]; omega)); rw [hz] at x6
  go_upto_region 15 with (fail)
  have HP1 := Lib.hid HP0.out.drew
  clear HP0 x6 z6
  have HS : At (fun _ : World => True) W0.drew := trivial
  refine wp_region_lexD HS [0, 1, 2, 3, 4, 5, 6, 7, 8, 9, 10, 11, 12, 13, 14, 15, 16, 17, 18] (by kernel_rfl) (by kernel_rfl) (fun _ _ d _ _ h => by cases d <;> exact h) ?_
  generalize W0.drew = W5 at *
  refine lexD_take (by kernel_rfl) (by kernel_rfl) HS (fun w9 h9 => by obtain _ := h9; go_simp; first | done | rfl) (fun K hK => ?_); go_simp; refine hK _ ?_; clear hK K
  refine lexD_take (by kernel_rfl) (by kernel_rfl) HS (fun w9 h9 => by obtain _ := h9; go_simp; first | done | rfl) (fun K hK => ?_); go_simp; refine hK _ ?_; clear hK K
  refine lexD_take (by kernel_rfl) (by kernel_rfl) HS (fun w9 h9 => by obtain _ := h9; go_simp; first | done | rfl) (fun K hK => ?_); go_simp; refine hK _ ?_; clear hK K
  refine lexD_take (by kernel_rfl) (by kernel_rfl) HS (fun w9 h9 => by obtain _ := h9; go_simp; first | done | rfl) (fun K hK => ?_); go_simp; refine hK _ ?_; clear hK K
  refine lexD_skip (by kernel_rfl) (by kernel_rfl) HS (fun K hK => ?_); go_simp; refine hK _ ?_; clear hK K
  refine lexD_skip (by kernel_rfl) (by kernel_rfl) HS (fun K hK => ?_); go_simp; refine hK _ ?_; clear hK K
  refine lexD_skip (by kernel_rfl) (by kernel_rfl) HS (fun K hK => ?_); go_simp; refine hK _ ?_; clear hK K
  refine lexD_skip (by kernel_rfl) (by kernel_rfl) HS (fun K hK => ?_); go_simp; refine hK _ ?_; clear hK K
  refine lexD_skip (by kernel_rfl) (by kernel_rfl) HS (fun K hK => ?_); go_simp; refine hK _ ?_; clear hK K
  refine lexD_skip (by kernel_rfl) (by kernel_rfl) HS (fun K hK => ?_); go_simp; refine hK _ ?_; clear hK K
  refine lexD_skip (by kernel_rfl) (by kernel_rfl) HS (fun K hK => ?_); go_simp; refine hK _ ?_; clear hK K
  refine lexD_skip (by kernel_rfl) (by kernel_rfl) HS (fun K hK => ?_); go_simp; refine hK _ ?_; clear hK K
  refine lexD_skip (by kernel_rfl) (by kernel_rfl) HS (fun K hK => ?_); go_simp; refine hK _ ?_; clear hK K
  refine lexD_skip (by kernel_rfl) (by kernel_rfl) HS (fun K hK => ?_); go_simp; refine hK _ ?_; clear hK K
  refine lexD_skip (by kernel_rfl) (by kernel_rfl) HS (fun K hK => ?_); go_simp; refine hK _ ?_; clear hK K
  refine lexD_skip (by kernel_rfl) (by kernel_rfl) HS (fun K hK => ?_); go_simp; refine hK _ ?_; clear hK K
  refine lexD_skip (by kernel_rfl) (by kernel_rfl) HS (fun K hK => ?_); go_simp; refine hK _ ?_; clear hK K
  refine lexD_skip (by kernel_rfl) (by kernel_rfl) HS (fun K hK => ?_); go_simp; refine hK _ ?_; clear hK K
  refine lexD_take (by kernel_rfl) (by kernel_rfl) HS (fun w9 h9 => by obtain _ := h9; go_simp; first | done | rfl) (fun K hK => ?_); go_simp; refine hK _ ?_; clear hK K
  refine lexD_nil ?_
  clear HS
  obtain ⟨fb, fo, eAf, y5⟩ := free_at (HF.out.below HP1.out.bl) (j := 0) (by rw [HLF.out]; omega)
  rw [show F.getD 0 0 = (p : Int) from hp] at y5
  try simp only [Nat.add_zero] at y5
  subst eAf
  obtain ⟨rq0, cq0, c0, f0', _, _, _, _⟩ := HP1.out.pick hpn
  have c0' := keep_cell c0 (below_al W5 (.cells z32 5))
  have f0'' : (W5.alloc (.cells z32 5)).frozen? ⟨g, p, none⟩ = false := by obtain ⟨cur, T, hh, _⟩ := (HP1.out.below (below_al W5 (.cells z32 5))).wr.arr; exact blk_free hh _
  obtain ⟨gs2, hHP2⟩ := HP1.out.fresh hpn 5
  rw [← z32_zrow] at hHP2
  have HP2 := Lib.hid hHP2
  clear c0 f0' hHP2
  go_upto_region 24 with (fail)
  generalize (W5.alloc (.cells z32 5)).setCell ⟨g, p, none⟩ (.slice (some ⟨W5.heap.size, 0, none⟩) 32 32) = W5b at *
  clear c0' f0''
  clear HP1 y5
  obtain ⟨x6, z6⟩ := box_at HP2.out.x0 (j := 6) (by first | (rw [HTLEN.out]; omega) | (rw [List.length_set, HTLEN.out]; omega)); rw [hz] at x6
  have HP3 := Lib.hid (HP2.out.num 6 (p : Int))
  clear HP2
  go_upto_region 26 with (fail)
  generalize W5b.setCell ⟨gb, 6, none⟩ (.int .i64 (p : Int)) = W6 at *
  clear x6 z6
  have HP3d := Lib.hid HP3.out.drew
  clear HP3
  obtain ⟨rq, cq, c1, f1, hc1, hc2, hrow, hst⟩ := HP3d.out.pick hpn
  obtain ⟨r1, r2⟩ := hrow j (by omega)
  have y1 := HP3d.out.way (j := 1) (v := .int .i64 (j : Int)) rfl
  have HP4 := Lib.hid (hst j b (by omega) (by omega) (by omega))
  clear hrow hst HP3d
  have hsI : (j : Int) < 32 := by omega
  have hqI : (p : Int) < (n : Int) := by omega
  have HS : At (fun w' : World => w'.cell? ⟨g, p, none⟩ = some (.slice (some ⟨rq, 0, none⟩) 32 cq) ∧ w'.cell? ⟨ab, 1, none⟩ = some (.int .i64 (j : Int))) W6.drew := ⟨c1, y1⟩
  refine wp_region_lexD HS [0, 1, 2, 3, 4, 5, 6, 7, 8, 9] (by kernel_rfl) (by kernel_rfl) (fun _ _ d _ _ h => by cases d <;> exact h) ?_
  generalize W6.drew = Wd at *
  refine lexD_take (by kernel_rfl) (by kernel_rfl) HS (fun w9 h9 => by obtain ⟨s0, s1⟩ := h9; go_simp; first | done | rfl) (fun K hK => ?_); go_simp; refine hK _ ?_; clear hK K
  refine lexD_take (by kernel_rfl) (by kernel_rfl) HS (fun w9 h9 => by obtain ⟨s0, s1⟩ := h9; go_simp; first | done | rfl) (fun K hK => ?_); go_simp; refine hK _ ?_; clear hK K
  refine lexD_take (by kernel_rfl) (by kernel_rfl) HS (fun w9 h9 => by obtain ⟨s0, s1⟩ := h9; go_simp; first | done | rfl) (fun K hK => ?_); go_simp; refine hK _ ?_; clear hK K
  refine lexD_take (by kernel_rfl) (by kernel_rfl) HS (fun w9 h9 => by obtain ⟨s0, s1⟩ := h9; go_simp; first | done | rfl) (fun K hK => ?_); go_simp; refine hK _ ?_; clear hK K
  refine lexD_take (by kernel_rfl) (by kernel_rfl) HS (fun w9 h9 => by obtain ⟨s0, s1⟩ := h9; go_simp; first | done | rfl) (fun K hK => ?_); go_simp; refine hK _ ?_; clear hK K
  refine lexD_take (by kernel_rfl) (by kernel_rfl) HS (fun w9 h9 => by obtain ⟨s0, s1⟩ := h9; go_simp; first | done | rfl) (fun K hK => ?_); go_simp; refine hK _ ?_; clear hK K
  refine lexD_take (by kernel_rfl) (by kernel_rfl) HS (fun w9 h9 => by obtain ⟨s0, s1⟩ := h9; go_simp; first | done | rfl) (fun K hK => ?_); go_simp; refine hK _ ?_; clear hK K
  refine lexD_take (by kernel_rfl) (by kernel_rfl) HS (fun w9 h9 => by obtain ⟨s0, s1⟩ := h9; go_simp; first | done | rfl) (fun K hK => ?_); go_simp; refine hK _ ?_; clear hK K
  refine lexD_take (by kernel_rfl) (by kernel_rfl) HS (fun w9 h9 => by obtain ⟨s0, s1⟩ := h9; go_simp; first | done | rfl) (fun K hK => ?_); go_simp; refine hK _ ?_; clear hK K
  refine lexD_take (by kernel_rfl) (by kernel_rfl) HS (fun w9 h9 => by obtain ⟨s0, s1⟩ := h9; go_simp; first | done | rfl) (fun K hK => ?_); go_simp; refine hK _ ?_; clear hK K
  refine lexD_late (by kernel_rfl) (by kernel_rfl) (fun K hK => ?_)
  go_simp
  refine hK _ _ ?_
  clear hK K HS
  refine lexD_nil ?_
  generalize Wd.setCell ⟨rq, j, none⟩ (.int .u8 b) = W7 at *
  clear r1 r2 c1 f1 hc1 hc2 y1 hsI hqI
  go_upto_region 27 with (fail)
  have HXf := Lib.hid HP4.out.x0
  have HXg := Lib.hid HP4.out.x1
  have HWf := Lib.hid HP4.out.wr
  have HBf := Lib.hid HP4.out.bl
  obtain ⟨t', ht'⟩ : ∃ t', t' = (t.set 6 (p : Int)) := ⟨_, rfl⟩
  have HTL2 : Hid (t'.length = 8) := Lib.hid (by rw [ht']; first | exact HTLEN.out | (rw [List.length_set]; exact HTLEN.out))
  rw [← ht'] at HXf
  have HTP := Lib.hid ht'
  clear ht' HP4
  obtain ⟨z0, z1, z2, z3, z4, z5, z6, z7, hz⟩ := len8 (t := t') HTL2.out
  have HZ := Lib.hid hz
  have hxz : W7.drew.heap[gb]? = some (.cells #[.int .i64 z0, .int .i64 z1, .int .i64 z2, .int .i64 z3, .int .i64 z4, .int .i64 z5, .int .i64 z6, .int .i64 z7] 36 (0, 0)) := by have := HXf.out; rw [hz] at this; exact this
  have hx1 : W7.drew.heap[gb + 1]? = some (.cells #[.int .i64 0, .int .i64 0, .int .i64 0, .int .i64 0, .int .i64 0, .int .i64 0, .int .i64 0, .int .i64 0] 36 (0, 0)) := HXg.out
  have f1 := blk_free hx1
  obtain ⟨e0, e1, e2, e3, e4, e5, e6, e7⟩ := big8 hx1
  have HFn := Lib.hid (set8_fr W7.drew (gb + 1) (.int .i64 z0) (.int .i64 z1) (.int .i64 z2) (.int .i64 z3) (.int .i64 z4) (.int .i64 z5) (.int .i64 z6) (.int .i64 z7))
  have HBn := Lib.hid (HBf.out.drew.trans (HFn.out.below (B := w.heap.size) HBf.out.drew.size (fun q hq => by have := HGB.out; omega)))
  have HXn := Lib.hid (set8 hx1 (.int .i64 z0) (.int .i64 z1) (.int .i64 z2) (.int .i64 z3) (.int .i64 z4) (.int .i64 z5) (.int .i64 z6) (.int .i64 z7))
  have HWn := Lib.hid ((HWf.out.below (Sel.below_drewN W7 1)).fr HFn.out (fun q hq => by omega)).bp
  have hzc := big8 hxz
  have HS : At (fun w' : World => w'.cell? ⟨gb, 0, none⟩ = some (.int .i64 z0) ∧ w'.cell? ⟨gb, 1, none⟩ = some (.int .i64 z1) ∧ w'.cell? ⟨gb, 2, none⟩ = some (.int .i64 z2) ∧ w'.cell? ⟨gb, 3, none⟩ = some (.int .i64 z3) ∧ w'.cell? ⟨gb, 4, none⟩ = some (.int .i64 z4) ∧ w'.cell? ⟨gb, 5, none⟩ = some (.int .i64 z5) ∧ w'.cell? ⟨gb, 6, none⟩ = some (.int .i64 z6) ∧ w'.cell? ⟨gb, 7, none⟩ = some (.int .i64 z7)) W7.drew := hzc
  have HSn : Hid (At (fun w' : World => w'.cell? ⟨gb, 0, none⟩ = some (.int .i64 z0) ∧ w'.cell? ⟨gb, 1, none⟩ = some (.int .i64 z1) ∧ w'.cell? ⟨gb, 2, none⟩ = some (.int .i64 z2) ∧ w'.cell? ⟨gb, 3, none⟩ = some (.int .i64 z3) ∧ w'.cell? ⟨gb, 4, none⟩ = some (.int .i64 z4) ∧ w'.cell? ⟨gb, 5, none⟩ = some (.int .i64 z5) ∧ w'.cell? ⟨gb, 6, none⟩ = some (.int .i64 z6) ∧ w'.cell? ⟨gb, 7, none⟩ = some (.int .i64 z7)) ((((((((W7.drew.setCell ⟨gb + 1, 0, none⟩ (.int .i64 z0)).setCell ⟨gb + 1, 1, none⟩ (.int .i64 z1)).setCell ⟨gb + 1, 2, none⟩ (.int .i64 z2)).setCell ⟨gb + 1, 3, none⟩ (.int .i64 z3)).setCell ⟨gb + 1, 4, none⟩ (.int .i64 z4)).setCell ⟨gb + 1, 5, none⟩ (.int .i64 z5)).setCell ⟨gb + 1, 6, none⟩ (.int .i64 z6)).setCell ⟨gb + 1, 7, none⟩ (.int .i64 z7))) := Lib.hid (big8 ((HFn.out.block gb (Array.getElem?_eq_some_iff.1 hxz).1 (by omega)).trans hxz))
  clear hx1 hxz hzc hz HXf HXg HBf HWf
  refine wp_region_lexD HS [0, 1, 2, 3, 5, 6] (by kernel_rfl) (by kernel_rfl) (fun _ _ d _ _ h => by cases d <;> exact h) ?_
  generalize W7.drew = Wd at *
  refine lexD_take (by kernel_rfl) (by kernel_rfl) HS (fun w9 h9 => by obtain ⟨s0, s1, s2, s3, s4, s5, s6, s7⟩ := h9; go_simp; first | done | rfl) (fun K hK => ?_); go_simp; refine hK _ ?_; clear hK K
  refine lexD_take (by kernel_rfl) (by kernel_rfl) HS (fun w9 h9 => by obtain ⟨s0, s1, s2, s3, s4, s5, s6, s7⟩ := h9; go_simp; first | done | rfl) (fun K hK => ?_); go_simp; refine hK _ ?_; clear hK K
  refine lexD_take (by kernel_rfl) (by kernel_rfl) HS (fun w9 h9 => by obtain ⟨s0, s1, s2, s3, s4, s5, s6, s7⟩ := h9; go_simp; first | done | rfl) (fun K hK => ?_); go_simp; refine hK _ ?_; clear hK K
  refine lexD_take (by kernel_rfl) (by kernel_rfl) HS (fun w9 h9 => by obtain ⟨s0, s1, s2, s3, s4, s5, s6, s7⟩ := h9; go_simp; first | done | rfl) (fun K hK => ?_); go_simp; refine hK _ ?_; clear hK K
  refine lexD_do (by kernel_rfl) (by kernel_rfl) (fun K hK => ?_)
  go_simp
  generalize ((((((((Wd.setCell ⟨gb + 1, 0, none⟩ (.int .i64 z0)).setCell ⟨gb + 1, 1, none⟩ (.int .i64 z1)).setCell ⟨gb + 1, 2, none⟩ (.int .i64 z2)).setCell ⟨gb + 1, 3, none⟩ (.int .i64 z3)).setCell ⟨gb + 1, 4, none⟩ (.int .i64 z4)).setCell ⟨gb + 1, 5, none⟩ (.int .i64 z5)).setCell ⟨gb + 1, 6, none⟩ (.int .i64 z6)).setCell ⟨gb + 1, 7, none⟩ (.int .i64 z7)) = W9 at *
  have HS := HSn.out
  refine hK _ _ (fun _ => HS) ?_
  clear hK K e0 e1 e2 e3 e4 e5 e6 e7 f1
  refine lexD_take (by kernel_rfl) (by kernel_rfl) HS (fun w9 h9 => by obtain ⟨s0, s1, s2, s3, s4, s5, s6, s7⟩ := h9; go_simp; first | done | rfl) (fun K hK => ?_); go_simp; refine hK _ ?_; clear hK K
  refine lexD_take (by kernel_rfl) (by kernel_rfl) HS (fun w9 h9 => by obtain ⟨s0, s1, s2, s3, s4, s5, s6, s7⟩ := h9; go_simp; first | done | rfl) (fun K hK => ?_); go_simp; refine hK _ ?_; clear hK K
  refine lexD_nil ?_
  go_wp2
  obtain ⟨s0, s1, s2, s3, s4, s5, s6, s7⟩ := big8 HXn.out
  refine bodyPost_ret (v := .tuple #[.slice (some ⟨g, 0, none⟩) n c', .agg #[.int .i64 z0, .int .i64 z1, .int .i64 z2, .int .i64 z3, .int .i64 z4, .int .i64 z5, .int .i64 z6, .int .i64 z7], .int .i64 (1 : Int), .int .i64 0]) ?_ rfl ?_
  · simp [results, Try.results28, go_sem, s0, s1, s2, s3, s4, s5, s6, s7]
  · exact PutPost.of z0 z1 z2 z3 z4 z5 z6 z7 (HTP.out.symm.trans HZ.out) _ _ rfl HWn.out HBn.out
set_option maxRecDepth 100000 in
set_option maxHeartbeats 4000000 in
theorem rPut_leaf (A : Option Addr) (n c : Nat) (D : List (List Int)) (t : List Int) (k : Nat) (b : Int) (Af : Option Addr) (nf cf : Nat) (F : List Int) (ht : t.length = 8) (w : World) (hD : Bp w A n c D) (hR : Rt D t) (hF : Rd w Af nf cf (iv .i64 F)) (hlF : F.length = nf) (hO : RgPut n k b F) (hE : errL D t k b F = 0) (hf22 : 2 ≤ nf) (h38 : ¬ k < 38) (i j : Nat) (hi : i = (k - 38) / 32) (hj : j = (k - 38) % 32) (q p : Nat) (hq : tp t 7 = (q : Int)) (hq0 : q ≠ 0) (hqn : q < n) (hv : at2 D (q : Int) i = (p : Int)) (hp0 : p ≠ 0) (hpn : p < n) :
    Calls Try.prog 28 #[.slice A n c, bigV t, .int .i64 (k : Int), .int .i64 b, .slice Af nf cf] w fun e w' => PutPost w n (D.set p ((nth D p).set j b)) t 0 e w' := by
  have hwn := (wayN k).2.2 h38
  rw [← hj, ← hi] at hwn
  have hj32 : j < 32 := by omega
  have hi32 : i < 32 := by have := hO.hk; omega
  have hi32I : (i : Int) < 32 := by omega
  have hj32I : (j : Int) < 32 := by omega
  have hcF : (0 : Int) ≤ (nf : Int) := by omega
  have hcF2 : (2 : Int) ≤ (nf : Int) := by omega
  clear hj hi
  have HD := Lib.hid hD
  have HF := Lib.hid hF
  have HLF := Lib.hid hlF
  have HR := Lib.hid hR
  have HO := Lib.hid hO
  have hdn := hD.len
  have hn : n ≤ 96 := by rw [← hdn]; exact hR.1.1
  have hn0 : 0 < n := by have := hO.b0; have := hO.b1; omega
  have hl1 := hD.le
  have hl2 := hD.cap
  have hf1 := hF.le
  have hf2 := hF.cap
  have HMAY := Lib.hid (fun W (h : Bp W A n c D) (h2 : Rd W Af nf cf (iv .i64 F)) => rmay_any A n c D t k b Af nf cf F ht W h hR h2 hlF hO)
  have HCP := Lib.hid (fun W (h : Bp W A n c D) => rCopy_wr A n c D W h hR.1 hn0)
  have HWY := Lib.hid (fun W => rWay_at (k : Int) (show big (k : Int) by unfold big; have := hO.hk; omega) W)
  rw [hwn] at HWY
  have hb0 := hO.b0
  have hb1 := hO.b1
  have hbw : IntKind.u8.wrap b = b := IntWalk.u8_in _ (by omega)
  obtain ⟨a0, a1, a2, a3, a4, a5, a6, a7, ht8⟩ := len8 ht
  have HT8 := Lib.hid ht8
  have hbv : bigV t = .agg #[.int .i64 a0, .int .i64 a1, .int .i64 a2, .int .i64 a3, .int .i64 a4, .int .i64 a5, .int .i64 a6, .int .i64 a7] := by rw [ht8]; rfl
  have hiv : (iv .i64 t).toArray = #[.int .i64 a0, .int .i64 a1, .int .i64 a2, .int .i64 a3, .int .i64 a4, .int .i64 a5, .int .i64 a6, .int .i64 a7] := by rw [ht8]; rfl
  rw [hbv] at HMAY ⊢
  have HX0 : Hid (boxB ((w.alloc (.cells #[.int .i64 a0, .int .i64 a1, .int .i64 a2, .int .i64 a3, .int .i64 a4, .int .i64 a5, .int .i64 a6, .int .i64 a7] 36)).alloc (.cells #[.int .i64 0, .int .i64 0, .int .i64 0, .int .i64 0, .int .i64 0, .int .i64 0, .int .i64 0, .int .i64 0] 36)) w.heap.size t) := Lib.hid (by show _ = _; rw [hiv]; exact blk_below (blk11 w _) (below_al _ _) (by simp))
  have HX1 : Hid (boxB ((w.alloc (.cells #[.int .i64 a0, .int .i64 a1, .int .i64 a2, .int .i64 a3, .int .i64 a4, .int .i64 a5, .int .i64 a6, .int .i64 a7] 36)).alloc (.cells #[.int .i64 0, .int .i64 0, .int .i64 0, .int .i64 0, .int .i64 0, .int .i64 0, .int .i64 0, .int .i64 0] 36)) (w.heap.size + 1) [0, 0, 0, 0, 0, 0, 0, 0]) := Lib.hid (by have := blk11 (w.alloc (.cells #[.int .i64 a0, .int .i64 a1, .int .i64 a2, .int .i64 a3, .int .i64 a4, .int .i64 a5, .int .i64 a6, .int .i64 a7] 36)) (.cells #[.int .i64 0, .int .i64 0, .int .i64 0, .int .i64 0, .int .i64 0, .int .i64 0, .int .i64 0, .int .i64 0] 36); simpa [boxB, iv] using this)
  have HB0 : Hid (Below w.heap.size w ((w.alloc (.cells #[.int .i64 a0, .int .i64 a1, .int .i64 a2, .int .i64 a3, .int .i64 a4, .int .i64 a5, .int .i64 a6, .int .i64 a7] 36)).alloc (.cells #[.int .i64 0, .int .i64 0, .int .i64 0, .int .i64 0, .int .i64 0, .int .i64 0, .int .i64 0, .int .i64 0] 36))) := Lib.hid ((below_al w _).alloc (by simp) _)
  clear hD hR ht ht8 hbv hF hlF hO hiv
  go_enter Try.func28, Try.ntmps28
  go_upto_region 1 with (fail)
  generalize (w.alloc (.cells #[.int .i64 a0, .int .i64 a1, .int .i64 a2, .int .i64 a3, .int .i64 a4, .int .i64 a5, .int .i64 a6, .int .i64 a7] 36)).alloc (.cells #[.int .i64 0, .int .i64 0, .int .i64 0, .int .i64 0, .int .i64 0, .int .i64 0, .int .i64 0, .int .i64 0] 36) = W1 at *
  obtain ⟨gb, HGB⟩ : ∃ gb, Hid (w.heap.size = gb) := ⟨_, rfl⟩
  rw [HGB.out] at HX0 HX1 ⊢
  have hx0 := HX0.out
  have HTL := Lib.hid HT8.out
  rw [HT8.out] at hx0
  obtain ⟨d0, d1, d2, d3, d4, d5, d6, d7⟩ := big8 hx0
  have hg0 := (Array.getElem?_eq_some_iff.1 HX0.out).1
  have hg1 := (Array.getElem?_eq_some_iff.1 HX1.out).1
  go_upto_region 2 with (go_at_call 52; refine (HMAY.out _ (HD.out.below HB0.out) (HF.out.below HB0.out)).mono ?_; rintro e w2 ⟨rfl, hB⟩; have HX02 := Lib.hid (blk_below HX0.out hB hg0); have HX12 := Lib.hid (blk_below HX1.out hB hg1); have HB2 := Lib.hid (below_then HB0.out hB); clear hB)
  clear d0 d1 d2 d3 d4 d5 d6 d7 HX0 HX1 HB0 hx0 hg0 hg1 HMAY
  rw [hE] at *
  go_upto_region 5 with (go_at_call 44; refine (HCP.out _ (HD.out.below HB2.out)).mono ?_; rintro e w3 ⟨⟨g, c', gs, rfl, hwr⟩, hB⟩; have HW3 := Lib.hid (hwr.mono (B' := gb + 2) (by have := (Array.getElem?_eq_some_iff.1 HX12.out).1; omega)); have HX03 := Lib.hid (blk_below HX02.out hB (Array.getElem?_eq_some_iff.1 HX02.out).1); have HX13 := Lib.hid (blk_below HX12.out hB (Array.getElem?_eq_some_iff.1 HX12.out).1); have HB3 := Lib.hid (below_then HB2.out hB); clear hwr hB)
  clear HX02 HX12 HB2 HCP
  have HWYS : Hid (∀ W : World, Hid (W.heap.size = w3.heap.size) → True) := fun _ _ => trivial
  obtain ⟨ab, HAB⟩ : ∃ ab, Hid (ab = w3.heap.size) := ⟨_, rfl⟩
  have HNA : Hid (g < ab ∧ (∀ x ∈ gs.map (·.1), x < ab) ∧ gb + 1 < ab) := Lib.hid (by rw [HAB.out]; exact ⟨HW3.out.lt, fun x hx => (HW3.out.mem_lt hx).1, (Array.getElem?_eq_some_iff.1 HX13.out).1⟩)
  go_upto_region 6 with (go_at_call 16; refine (HWY.out _).mono ?_; rintro e w4 ⟨rfl, hw4⟩; rw [← HAB.out]; have HY4 := Lib.hid (hw4 ▸ blk11 w3 _); have hB : Below w3.heap.size w3 w4 := (by rw [hw4]; exact below_al _ _); clear hw4; have HW4 := Lib.hid (HW3.out.below hB); have HX04 := Lib.hid (blk_below HX03.out hB (Array.getElem?_eq_some_iff.1 HX03.out).1); have HX14 := Lib.hid (blk_below HX13.out hB (Array.getElem?_eq_some_iff.1 HX13.out).1); have HB4 := Lib.hid (below_then HB3.out hB); clear hB)
  rw [← HAB.out] at HY4
  clear HX03 HX13 HB3 HW3 HWY HWYS HAB
  have HP0 := Lib.hid (PSt.mk HW4.out HX04.out HX14.out HY4.out HB4.out ⟨by have := HNA.out.1; omega, fun x hx => by have := HNA.out.2.1 x hx; omega⟩ HNA.out.2.2 HGB.out)
  have HTLEN : Hid (t.length = 8) := Lib.hid (by rw [HT8.out]; rfl)
  clear HW4 HX04 HX14 HY4 HB4 HNA
  obtain ⟨W0, hW0⟩ : ∃ W0, W0 = w4 := ⟨_, rfl⟩
  subst hW0
  have hbq : ((q : Int) == 0) = false := by simpa using hq0
  have hbp : ((p : Int) == 0) = false := by simpa using hp0
  have hqI : (q : Int) < (n : Int) := by omega
  have hpi : IntKind.i64.wrap (p : Int) = (p : Int) := IntWalk.i64_in _ (by omega)
  obtain ⟨x6, z6⟩ := box_at HP0.out.x0 (j := 6) (by first | (rw [HTLEN.out]; omega) | (rw [List.length_set, HTLEN.out]; omega))
  obtain ⟨x7, z7⟩ := box_at HP0.out.x0 (j := 7) (by first | (rw [HTLEN.out]; omega) | (rw [List.length_set, HTLEN.out]; omega)); rw [hq] at x7
  go_upto_region 15 with (fail)
  obtain ⟨bb, off, rb, ro, cb, eA, hcr, hcc1, hcc2, hrow⟩ := bp_ptr (HD.out.below HP0.out.bl) HR.out.1 (q := q) hqn
  obtain ⟨hx, _, _⟩ := hrow i hi32
  rw [hv] at hx
  subst eA
  have y1 := HP0.out.way (j := 1) (v := .int .i64 (i : Int)) rfl
  clear hrow
  have HS : At (fun w' : World => w'.cell? ⟨bb, off + q, none⟩ = some (.slice (some ⟨rb, ro, none⟩) 32 cb) ∧ w'.cell? ⟨ab, 1, none⟩ = some (.int .i64 (i : Int)) ∧ w'.cell? ⟨rb, ro + i, none⟩ = some (.int .u8 (p : Int))) W0.drew := ⟨hcr, y1, hx⟩
  have HP1 := Lib.hid HP0.out.drew
  clear HP0 x6 z6 x7 z7 hcr y1 hx
  refine wp_region_lexD HS [0, 1, 2, 3, 4, 5, 6, 7, 8, 9, 10, 11, 12, 13, 14, 15, 16, 17, 18] (by kernel_rfl) (by kernel_rfl) (fun _ _ d _ _ h => by cases d <;> exact h) ?_
  generalize W0.drew = W5 at *
  refine lexD_take (by kernel_rfl) (by kernel_rfl) HS (fun w9 h9 => by obtain ⟨s0, s1, s2⟩ := h9; go_simp; first | done | rfl) (fun K hK => ?_); go_simp; refine hK _ ?_; clear hK K
  refine lexD_take (by kernel_rfl) (by kernel_rfl) HS (fun w9 h9 => by obtain ⟨s0, s1, s2⟩ := h9; go_simp; first | done | rfl) (fun K hK => ?_); go_simp; refine hK _ ?_; clear hK K
  refine lexD_take (by kernel_rfl) (by kernel_rfl) HS (fun w9 h9 => by obtain ⟨s0, s1, s2⟩ := h9; go_simp; first | done | rfl) (fun K hK => ?_); go_simp; refine hK _ ?_; clear hK K
  refine lexD_take (by kernel_rfl) (by kernel_rfl) HS (fun w9 h9 => by obtain ⟨s0, s1, s2⟩ := h9; go_simp; first | done | rfl) (fun K hK => ?_); go_simp; refine hK _ ?_; clear hK K
  refine lexD_take (by kernel_rfl) (by kernel_rfl) HS (fun w9 h9 => by obtain ⟨s0, s1, s2⟩ := h9; go_simp; first | done | rfl) (fun K hK => ?_); go_simp; refine hK _ ?_; clear hK K
  refine lexD_take (by kernel_rfl) (by kernel_rfl) HS (fun w9 h9 => by obtain ⟨s0, s1, s2⟩ := h9; go_simp; first | done | rfl) (fun K hK => ?_); go_simp; refine hK _ ?_; clear hK K
  refine lexD_take (by kernel_rfl) (by kernel_rfl) HS (fun w9 h9 => by obtain ⟨s0, s1, s2⟩ := h9; go_simp; first | done | rfl) (fun K hK => ?_); go_simp; refine hK _ ?_; clear hK K
  refine lexD_take (by kernel_rfl) (by kernel_rfl) HS (fun w9 h9 => by obtain ⟨s0, s1, s2⟩ := h9; go_simp; first | done | rfl) (fun K hK => ?_); go_simp; refine hK _ ?_; clear hK K
  refine lexD_take (by kernel_rfl) (by kernel_rfl) HS (fun w9 h9 => by obtain ⟨s0, s1, s2⟩ := h9; go_simp; first | done | rfl) (fun K hK => ?_); go_simp; refine hK _ ?_; clear hK K
  refine lexD_take (by kernel_rfl) (by kernel_rfl) HS (fun w9 h9 => by obtain ⟨s0, s1, s2⟩ := h9; go_simp; first | done | rfl) (fun K hK => ?_); go_simp; refine hK _ ?_; clear hK K
  refine lexD_take (by kernel_rfl) (by kernel_rfl) HS (fun w9 h9 => by obtain ⟨s0, s1, s2⟩ := h9; go_simp; first | done | rfl) (fun K hK => ?_); go_simp; refine hK _ ?_; clear hK K
  refine lexD_take (by kernel_rfl) (by kernel_rfl) HS (fun w9 h9 => by obtain ⟨s0, s1, s2⟩ := h9; go_simp; first | done | rfl) (fun K hK => ?_); go_simp; refine hK _ ?_; clear hK K
  refine lexD_take (by kernel_rfl) (by kernel_rfl) HS (fun w9 h9 => by obtain ⟨s0, s1, s2⟩ := h9; go_simp; first | done | rfl) (fun K hK => ?_); go_simp; refine hK _ ?_; clear hK K
  refine lexD_take (by kernel_rfl) (by kernel_rfl) HS (fun w9 h9 => by obtain ⟨s0, s1, s2⟩ := h9; go_simp; first | done | rfl) (fun K hK => ?_); go_simp; refine hK _ ?_; clear hK K
  refine lexD_take (by kernel_rfl) (by kernel_rfl) HS (fun w9 h9 => by obtain ⟨s0, s1, s2⟩ := h9; go_simp; first | done | rfl) (fun K hK => ?_); go_simp; refine hK _ ?_; clear hK K
  refine lexD_take (by kernel_rfl) (by kernel_rfl) HS (fun w9 h9 => by obtain ⟨s0, s1, s2⟩ := h9; go_simp; first | done | rfl) (fun K hK => ?_); go_simp; refine hK _ ?_; clear hK K
  refine lexD_take (by kernel_rfl) (by kernel_rfl) HS (fun w9 h9 => by obtain ⟨s0, s1, s2⟩ := h9; go_simp; first | done | rfl) (fun K hK => ?_); go_simp; refine hK _ ?_; clear hK K
  refine lexD_take (by kernel_rfl) (by kernel_rfl) HS (fun w9 h9 => by obtain ⟨s0, s1, s2⟩ := h9; go_simp; first | done | rfl) (fun K hK => ?_); go_simp; refine hK _ ?_; clear hK K
  refine lexD_take (by kernel_rfl) (by kernel_rfl) HS (fun w9 h9 => by obtain ⟨s0, s1, s2⟩ := h9; go_simp; first | done | rfl) (fun K hK => ?_); go_simp; refine hK _ ?_; clear hK K
  refine lexD_nil ?_
  clear HS
  obtain ⟨x7, z7⟩ := box_at HP1.out.x0 (j := 7) (by first | (rw [HTLEN.out]; omega) | (rw [List.length_set, HTLEN.out]; omega)); rw [hq] at x7
  have HP2 := Lib.hid (HP1.out.num 7 (q : Int))
  have htq : t.set 7 (q : Int) = t := set_tp hq (by rw [HTLEN.out]; omega)
  rw [htq] at HP2
  clear HP1 htq
  go_upto_region 29 with (fail)
  generalize W5.setCell ⟨gb, 7, none⟩ (.int .i64 (q : Int)) = W6 at *
  clear x7 z7
  have HP3 := Lib.hid HP2.out.drew
  clear HP2
  obtain ⟨rq, cq, c1, f1, hc1, hc2, hrow, hst⟩ := HP3.out.pick hqn
  obtain ⟨r1, r2⟩ := hrow i hi32
  rw [show (nth D q).getD i 0 = (p : Int) from hv] at r1
  have y1 := HP3.out.way (j := 1) (v := .int .i64 (i : Int)) rfl
  clear hrow hst f1 r2
  have HS : At (fun w' : World => w'.cell? ⟨g, q, none⟩ = some (.slice (some ⟨rq, 0, none⟩) 32 cq) ∧ w'.cell? ⟨ab, 1, none⟩ = some (.int .i64 (i : Int)) ∧ w'.cell? ⟨rq, i, none⟩ = some (.int .u8 (p : Int))) W6.drew := ⟨c1, y1, r1⟩
  refine wp_region_lexD HS [0, 1, 2, 3, 4, 5, 6, 7, 8, 9, 10] (by kernel_rfl) (by kernel_rfl) (fun _ _ d _ _ h => by cases d <;> exact h) ?_
  generalize W6.drew = W7 at *
  refine lexD_take (by kernel_rfl) (by kernel_rfl) HS (fun w9 h9 => by obtain ⟨s0, s1, s2⟩ := h9; go_simp; first | done | rfl) (fun K hK => ?_); go_simp; refine hK _ ?_; clear hK K
  refine lexD_take (by kernel_rfl) (by kernel_rfl) HS (fun w9 h9 => by obtain ⟨s0, s1, s2⟩ := h9; go_simp; first | done | rfl) (fun K hK => ?_); go_simp; refine hK _ ?_; clear hK K
  refine lexD_take (by kernel_rfl) (by kernel_rfl) HS (fun w9 h9 => by obtain ⟨s0, s1, s2⟩ := h9; go_simp; first | done | rfl) (fun K hK => ?_); go_simp; refine hK _ ?_; clear hK K
  refine lexD_take (by kernel_rfl) (by kernel_rfl) HS (fun w9 h9 => by obtain ⟨s0, s1, s2⟩ := h9; go_simp; first | done | rfl) (fun K hK => ?_); go_simp; refine hK _ ?_; clear hK K
  refine lexD_take (by kernel_rfl) (by kernel_rfl) HS (fun w9 h9 => by obtain ⟨s0, s1, s2⟩ := h9; go_simp; first | done | rfl) (fun K hK => ?_); go_simp; refine hK _ ?_; clear hK K
  refine lexD_take (by kernel_rfl) (by kernel_rfl) HS (fun w9 h9 => by obtain ⟨s0, s1, s2⟩ := h9; go_simp; first | done | rfl) (fun K hK => ?_); go_simp; refine hK _ ?_; clear hK K
  refine lexD_take (by kernel_rfl) (by kernel_rfl) HS (fun w9 h9 => by obtain ⟨s0, s1, s2⟩ := h9; go_simp; first | done | rfl) (fun K hK => ?_); go_simp; refine hK _ ?_; clear hK K
  refine lexD_take (by kernel_rfl) (by kernel_rfl) HS (fun w9 h9 => by obtain ⟨s0, s1, s2⟩ := h9; go_simp; first | done | rfl) (fun K hK => ?_); go_simp; refine hK _ ?_; clear hK K
  refine lexD_take (by kernel_rfl) (by kernel_rfl) HS (fun w9 h9 => by obtain ⟨s0, s1, s2⟩ := h9; go_simp; first | done | rfl) (fun K hK => ?_); go_simp; refine hK _ ?_; clear hK K
  refine lexD_take (by kernel_rfl) (by kernel_rfl) HS (fun w9 h9 => by obtain ⟨s0, s1, s2⟩ := h9; go_simp; first | done | rfl) (fun K hK => ?_); go_simp; refine hK _ ?_; clear hK K
  refine lexD_take (by kernel_rfl) (by kernel_rfl) HS (fun w9 h9 => by obtain ⟨s0, s1, s2⟩ := h9; go_simp; first | done | rfl) (fun K hK => ?_); go_simp; refine hK _ ?_; clear hK K
  refine lexD_nil ?_
  clear HS
  clear r1 c1 hc1 hc2 y1
  go_upto_region 35 with (fail)
  have HP3d := Lib.hid HP3.out.drew
  clear HP3
  obtain ⟨rq, cq, c1, f1, hc1, hc2, hrow, hst⟩ := HP3d.out.pick hpn
  obtain ⟨r1, r2⟩ := hrow j (by omega)
  have y1 := HP3d.out.way (j := 2) (v := .int .i64 (j : Int)) rfl
  have HP4 := Lib.hid (hst j b (by omega) (by omega) (by omega))
  clear hrow hst HP3d
  have hsI : (j : Int) < 32 := by omega
  have hqI : (p : Int) < (n : Int) := by omega
  have HS : At (fun w' : World => w'.cell? ⟨g, p, none⟩ = some (.slice (some ⟨rq, 0, none⟩) 32 cq) ∧ w'.cell? ⟨ab, 2, none⟩ = some (.int .i64 (j : Int))) W7.drew := ⟨c1, y1⟩
  refine wp_region_lexD HS [0, 1, 2, 3, 4, 5, 6, 7, 8, 9] (by kernel_rfl) (by kernel_rfl) (fun _ _ d _ _ h => by cases d <;> exact h) ?_
  generalize W7.drew = Wd at *
  refine lexD_take (by kernel_rfl) (by kernel_rfl) HS (fun w9 h9 => by obtain ⟨s0, s1⟩ := h9; go_simp; first | done | rfl) (fun K hK => ?_); go_simp; refine hK _ ?_; clear hK K
  refine lexD_take (by kernel_rfl) (by kernel_rfl) HS (fun w9 h9 => by obtain ⟨s0, s1⟩ := h9; go_simp; first | done | rfl) (fun K hK => ?_); go_simp; refine hK _ ?_; clear hK K
  refine lexD_take (by kernel_rfl) (by kernel_rfl) HS (fun w9 h9 => by obtain ⟨s0, s1⟩ := h9; go_simp; first | done | rfl) (fun K hK => ?_); go_simp; refine hK _ ?_; clear hK K
  refine lexD_take (by kernel_rfl) (by kernel_rfl) HS (fun w9 h9 => by obtain ⟨s0, s1⟩ := h9; go_simp; first | done | rfl) (fun K hK => ?_); go_simp; refine hK _ ?_; clear hK K
  refine lexD_take (by kernel_rfl) (by kernel_rfl) HS (fun w9 h9 => by obtain ⟨s0, s1⟩ := h9; go_simp; first | done | rfl) (fun K hK => ?_); go_simp; refine hK _ ?_; clear hK K
  refine lexD_take (by kernel_rfl) (by kernel_rfl) HS (fun w9 h9 => by obtain ⟨s0, s1⟩ := h9; go_simp; first | done | rfl) (fun K hK => ?_); go_simp; refine hK _ ?_; clear hK K
  refine lexD_take (by kernel_rfl) (by kernel_rfl) HS (fun w9 h9 => by obtain ⟨s0, s1⟩ := h9; go_simp; first | done | rfl) (fun K hK => ?_); go_simp; refine hK _ ?_; clear hK K
  refine lexD_take (by kernel_rfl) (by kernel_rfl) HS (fun w9 h9 => by obtain ⟨s0, s1⟩ := h9; go_simp; first | done | rfl) (fun K hK => ?_); go_simp; refine hK _ ?_; clear hK K
  refine lexD_take (by kernel_rfl) (by kernel_rfl) HS (fun w9 h9 => by obtain ⟨s0, s1⟩ := h9; go_simp; first | done | rfl) (fun K hK => ?_); go_simp; refine hK _ ?_; clear hK K
  refine lexD_take (by kernel_rfl) (by kernel_rfl) HS (fun w9 h9 => by obtain ⟨s0, s1⟩ := h9; go_simp; first | done | rfl) (fun K hK => ?_); go_simp; refine hK _ ?_; clear hK K
  refine lexD_late (by kernel_rfl) (by kernel_rfl) (fun K hK => ?_)
  go_simp
  refine hK _ _ ?_
  clear hK K HS
  refine lexD_nil ?_
  generalize Wd.setCell ⟨rq, j, none⟩ (.int .u8 b) = W8 at *
  clear r1 r2 c1 f1 hc1 hc2 y1 hsI hqI
  go_upto_region 36 with (fail)
  have HXf := Lib.hid HP4.out.x0
  have HXg := Lib.hid HP4.out.x1
  have HWf := Lib.hid HP4.out.wr
  have HBf := Lib.hid HP4.out.bl
  obtain ⟨t', ht'⟩ : ∃ t', t' = t := ⟨_, rfl⟩
  have HTL2 : Hid (t'.length = 8) := Lib.hid (by rw [ht']; first | exact HTLEN.out | (rw [List.length_set]; exact HTLEN.out))
  rw [← ht'] at HXf
  have HTP := Lib.hid ht'
  clear ht' HP4
  obtain ⟨z0, z1, z2, z3, z4, z5, z6, z7, hz⟩ := len8 (t := t') HTL2.out
  have HZ := Lib.hid hz
  have hxz : W8.drew.heap[gb]? = some (.cells #[.int .i64 z0, .int .i64 z1, .int .i64 z2, .int .i64 z3, .int .i64 z4, .int .i64 z5, .int .i64 z6, .int .i64 z7] 36 (0, 0)) := by have := HXf.out; rw [hz] at this; exact this
  have hx1 : W8.drew.heap[gb + 1]? = some (.cells #[.int .i64 0, .int .i64 0, .int .i64 0, .int .i64 0, .int .i64 0, .int .i64 0, .int .i64 0, .int .i64 0] 36 (0, 0)) := HXg.out
  have f1 := blk_free hx1
  obtain ⟨e0, e1, e2, e3, e4, e5, e6, e7⟩ := big8 hx1
  have HFn := Lib.hid (set8_fr W8.drew (gb + 1) (.int .i64 z0) (.int .i64 z1) (.int .i64 z2) (.int .i64 z3) (.int .i64 z4) (.int .i64 z5) (.int .i64 z6) (.int .i64 z7))
  have HBn := Lib.hid (HBf.out.drew.trans (HFn.out.below (B := w.heap.size) HBf.out.drew.size (fun q hq => by have := HGB.out; omega)))
  have HXn := Lib.hid (set8 hx1 (.int .i64 z0) (.int .i64 z1) (.int .i64 z2) (.int .i64 z3) (.int .i64 z4) (.int .i64 z5) (.int .i64 z6) (.int .i64 z7))
  have HWn := Lib.hid ((HWf.out.below (Sel.below_drewN W8 1)).fr HFn.out (fun q hq => by omega)).bp
  have hzc := big8 hxz
  have HS : At (fun w' : World => w'.cell? ⟨gb, 0, none⟩ = some (.int .i64 z0) ∧ w'.cell? ⟨gb, 1, none⟩ = some (.int .i64 z1) ∧ w'.cell? ⟨gb, 2, none⟩ = some (.int .i64 z2) ∧ w'.cell? ⟨gb, 3, none⟩ = some (.int .i64 z3) ∧ w'.cell? ⟨gb, 4, none⟩ = some (.int .i64 z4) ∧ w'.cell? ⟨gb, 5, none⟩ = some (.int .i64 z5) ∧ w'.cell? ⟨gb, 6, none⟩ = some (.int .i64 z6) ∧ w'.cell? ⟨gb, 7, none⟩ = some (.int .i64 z7)) W8.drew := hzc
  have HSn : Hid (At (fun w' : World => w'.cell? ⟨gb, 0, none⟩ = some (.int .i64 z0) ∧ w'.cell? ⟨gb, 1, none⟩ = some (.int .i64 z1) ∧ w'.cell? ⟨gb, 2, none⟩ = some (.int .i64 z2) ∧ w'.cell? ⟨gb, 3, none⟩ = some (.int .i64 z3) ∧ w'.cell? ⟨gb, 4, none⟩ = some (.int .i64 z4) ∧ w'.cell? ⟨gb, 5, none⟩ = some (.int .i64 z5) ∧ w'.cell? ⟨gb, 6, none⟩ = some (.int .i64 z6) ∧ w'.cell? ⟨gb, 7, none⟩ = some (.int .i64 z7)) ((((((((W8.drew.setCell ⟨gb + 1, 0, none⟩ (.int .i64 z0)).setCell ⟨gb + 1, 1, none⟩ (.int .i64 z1)).setCell ⟨gb + 1, 2, none⟩ (.int .i64 z2)).setCell ⟨gb + 1, 3, none⟩ (.int .i64 z3)).setCell ⟨gb + 1, 4, none⟩ (.int .i64 z4)).setCell ⟨gb + 1, 5, none⟩ (.int .i64 z5)).setCell ⟨gb + 1, 6, none⟩ (.int .i64 z6)).setCell ⟨gb + 1, 7, none⟩ (.int .i64 z7))) := Lib.hid (big8 ((HFn.out.block gb (Array.getElem?_eq_some_iff.1 hxz).1 (by omega)).trans hxz))
  clear hx1 hxz hzc hz HXf HXg HBf HWf
  refine wp_region_lexD HS [0, 1, 2, 3, 5, 6] (by kernel_rfl) (by kernel_rfl) (fun _ _ d _ _ h => by cases d <;> exact h) ?_
  generalize W8.drew = Wd at *
  refine lexD_take (by kernel_rfl) (by kernel_rfl) HS (fun w9 h9 => by obtain ⟨s0, s1, s2, s3, s4, s5, s6, s7⟩ := h9; go_simp; first | done | rfl) (fun K hK => ?_); go_simp; refine hK _ ?_; clear hK K
  refine lexD_take (by kernel_rfl) (by kernel_rfl) HS (fun w9 h9 => by obtain ⟨s0, s1, s2, s3, s4, s5, s6, s7⟩ := h9; go_simp; first | done | rfl) (fun K hK => ?_); go_simp; refine hK _ ?_; clear hK K
  refine lexD_take (by kernel_rfl) (by kernel_rfl) HS (fun w9 h9 => by obtain ⟨s0, s1, s2, s3, s4, s5, s6, s7⟩ := h9; go_simp; first | done | rfl) (fun K hK => ?_); go_simp; refine hK _ ?_; clear hK K
  refine lexD_take (by kernel_rfl) (by kernel_rfl) HS (fun w9 h9 => by obtain ⟨s0, s1, s2, s3, s4, s5, s6, s7⟩ := h9; go_simp; first | done | rfl) (fun K hK => ?_); go_simp; refine hK _ ?_; clear hK K
  refine lexD_do (by kernel_rfl) (by kernel_rfl) (fun K hK => ?_)
  go_simp
  generalize ((((((((Wd.setCell ⟨gb + 1, 0, none⟩ (.int .i64 z0)).setCell ⟨gb + 1, 1, none⟩ (.int .i64 z1)).setCell ⟨gb + 1, 2, none⟩ (.int .i64 z2)).setCell ⟨gb + 1, 3, none⟩ (.int .i64 z3)).setCell ⟨gb + 1, 4, none⟩ (.int .i64 z4)).setCell ⟨gb + 1, 5, none⟩ (.int .i64 z5)).setCell ⟨gb + 1, 6, none⟩ (.int .i64 z6)).setCell ⟨gb + 1, 7, none⟩ (.int .i64 z7)) = W9 at *
  have HS := HSn.out
  refine hK _ _ (fun _ => HS) ?_
  clear hK K e0 e1 e2 e3 e4 e5 e6 e7 f1
  refine lexD_take (by kernel_rfl) (by kernel_rfl) HS (fun w9 h9 => by obtain ⟨s0, s1, s2, s3, s4, s5, s6, s7⟩ := h9; go_simp; first | done | rfl) (fun K hK => ?_); go_simp; refine hK _ ?_; clear hK K
  refine lexD_take (by kernel_rfl) (by kernel_rfl) HS (fun w9 h9 => by obtain ⟨s0, s1, s2, s3, s4, s5, s6, s7⟩ := h9; go_simp; first | done | rfl) (fun K hK => ?_); go_simp; refine hK _ ?_; clear hK K
  refine lexD_nil ?_
  go_wp2
  obtain ⟨s0, s1, s2, s3, s4, s5, s6, s7⟩ := big8 HXn.out
  refine bodyPost_ret (v := .tuple #[.slice (some ⟨g, 0, none⟩) n c', .agg #[.int .i64 z0, .int .i64 z1, .int .i64 z2, .int .i64 z3, .int .i64 z4, .int .i64 z5, .int .i64 z6, .int .i64 z7], .int .i64 (0 : Int), .int .i64 0]) ?_ rfl ?_
  · simp [results, Try.results28, go_sem, s0, s1, s2, s3, s4, s5, s6, s7]
  · exact PutPost.of z0 z1 z2 z3 z4 z5 z6 z7 (HTP.out.symm.trans HZ.out) _ _ rfl HWn.out HBn.out
end Go.Proofs.Ytcgfoaihfncppaa
