/- Walks of big's laws: BigWays. -/
import Derived.Test.YtcgfoaihfncppaaBgEq
set_option linter.unusedSimpArgs false
set_option linter.unusedVariables false
namespace Go.Proofs.Ytcgfoaihfncppaa
open Go.RowKit Go.Sel Go.Sel.Gra Go.Sel.Bg Go.Sel.Mer Go.Shelf

open Classical in
noncomputable def wayF (k : Int) : List Int := if big k then wayL k else []
open Classical in
noncomputable def wayE (k : Int) : Int := if big k then 0 else 2
theorem Way_all (k : Int) (w : World) : Calls Try.prog 9 #[.int .i64 k] w fun e w' => (∃ A c, e = .returned (.tuple #[.slice A (wayF k).length c, .int .i64 (wayE k)]) ∧ Rd w' A (wayF k).length c (iv .i64 (wayF k))) ∧ Below w.heap.size w w' := by
  by_cases h : big k
  · have e1 : wayF k = wayL k := if_pos h
    have e2 : wayE k = 0 := if_pos h
    rw [e1, e2]
    exact Way_ok k h w
  · have e1 : wayF k = [] := if_neg h
    have e2 : wayE k = 2 := if_neg h
    rw [e1, e2]
    refine (Way_no k h w).mono ?_
    rintro e w' ⟨rfl, rfl⟩
    exact ⟨⟨none, 0, rfl, Rd.nil (c := 0) (by omega)⟩, Below.refl _ _⟩
theorem rWay_all (k : Int) (w : World) : Calls Try.prog 16 #[.int .i64 k] w fun e w' => (∃ A c, e = .returned (.tuple #[.slice A (wayF k).length c, .int .i64 (wayE k)]) ∧ Rd w' A (wayF k).length c (iv .i64 (wayF k))) ∧ Below w.heap.size w w' := by
  by_cases h : big k
  · have e1 : wayF k = wayL k := if_pos h
    have e2 : wayE k = 0 := if_pos h
    rw [e1, e2]
    exact rWay_ok k h w
  · have e1 : wayF k = [] := if_neg h
    have e2 : wayE k = 2 := if_neg h
    rw [e1, e2]
    refine (rWay_no k h w).mono ?_
    rintro e w' ⟨rfl, rfl⟩
    exact ⟨⟨none, 0, rfl, Rd.nil (c := 0) (by omega)⟩, Below.refl _ _⟩

set_option maxRecDepth 100000 in
set_option maxHeartbeats 8000000 in
theorem law_BigWays (k : Int) (t : List Int) (ht : t.length = 8) (A0 : Option Addr) (n0 c0 : Nat) (b0 : List Int) (w : World) (hr : Rd w A0 n0 c0 (iv .u8 b0)) (hl : b0.length = n0) (hb : AllByte b0) :
    Calls Try.prog 5 #[.int .i64 k, bigV t, .slice A0 n0 c0] w fun e w' => e = .returned (.bool true) ∧ Below w.heap.size w w' := by
  have HB0 := Lib.hid (below_al w (.cells (iv .i64 t).toArray 36))
  have HBX : Hid (boxB (w.alloc (.cells (iv .i64 t).toArray 36)) w.heap.size t) := Lib.hid (blk11 w _)
  have HE : Hid (∀ W, Calls Try.prog 17 #[bigV t] W fun e w' => (∃ A c, e = .returned (.tuple #[.slice A (encF t).length c, .int .i64 (encE t)]) ∧ Rd w' A (encF t).length c (iv .u8 (encF t))) ∧ Below W.heap.size W w') := Lib.hid fun W => Encode_any t ht W
  have HRE : Hid (∀ W, Calls Try.prog 18 #[bigV t] W fun e w' => (∃ A c, e = .returned (.tuple #[.slice A (encF t).length c, .int .i64 (encE t)]) ∧ Rd w' A (encF t).length c (iv .u8 (encF t))) ∧ Below W.heap.size W w') := Lib.hid fun W => rEncode_any t ht W
  have hwy := wayF k
  have HW : Hid (∀ W, Calls Try.prog 9 #[.int .i64 k] W fun e w' => (∃ A c, e = .returned (.tuple #[.slice A (wayF k).length c, .int .i64 (wayE k)]) ∧ Rd w' A (wayF k).length c (iv .i64 (wayF k))) ∧ Below W.heap.size W w') := Lib.hid fun W => Way_all k W
  have HRW : Hid (∀ W, Calls Try.prog 16 #[.int .i64 k] W fun e w' => (∃ A c, e = .returned (.tuple #[.slice A (wayF k).length c, .int .i64 (wayE k)]) ∧ Rd w' A (wayF k).length c (iv .i64 (wayF k))) ∧ Below W.heap.size W w') := Lib.hid fun W => rWay_all k W
  generalize wayF k = wf at *
  generalize wayE k = we at *
  generalize encF t = ef at *
  generalize encE t = ee at *
  -- what is left of the bytes
  obtain ⟨bs, n, hbs, hls, hrs, hcut⟩ : ∃ (bs : List Int) (n : Nat), AllByte bs ∧ bs.length = n ∧ Rd w A0 n c0 (iv .u8 bs) ∧ ((10 < n0 ∧ n = 10) ∨ (¬ 10 < n0 ∧ n = n0)) := by
    by_cases h : 10 < n0
    · refine ⟨b0.take 10, 10, fun x hx => hb x (List.mem_of_mem_take hx), by simp; omega, ?_, .inl ⟨h, rfl⟩⟩
      have := hr.upto 10 (by omega)
      simpa [iv, List.map_take] using this
    · exact ⟨b0, n0, hb, hl, hr, .inr ⟨h, rfl⟩⟩
  have HD : Hid (∀ W, Rd W A0 n c0 (iv .u8 bs) → Calls Try.prog 19 #[.slice A0 n c0] W fun e w' => e = .returned (.tuple #[bigV (decT bs), .int .i64 (decE bs)]) ∧ Below W.heap.size W w') := Lib.hid fun W h => Decode_any A0 n c0 bs W h hls hbs
  have HRD : Hid (∀ W, Rd W A0 n c0 (iv .u8 bs) → Calls Try.prog 20 #[.slice A0 n c0] W fun e w' => e = .returned (.tuple #[bigV (decT bs), .int .i64 (decE bs)]) ∧ Below W.heap.size W w') := Lib.hid fun W h => rDecode_any A0 n c0 bs W h hls hbs
  have hdl := decT_len bs
  generalize decT bs = dt at *
  generalize decE bs = de at *
  have HRS := Lib.hid hrs
  have hr1 := hr.le
  have hr2 := hr.cap
  clear hr hl hb hbs hls hrs hwy
  obtain ⟨a0, a1, a2, a3, a4, a5, a6, a7, rfl⟩ := len8 ht
  obtain ⟨d0, d1, d2, d3, d4, d5, d6, d7, rfl⟩ := len8 hdl
  simp only [bigV, iv, List.map_cons, List.map_nil] at HB0 HE HRE HD HRD ⊢
  simp only [boxB, iv, List.map_cons, List.map_nil] at HBX
  clear ht hdl
  have hq6 := eq6_same d0 d1 d2 d3 d4 d5
  go_enter Try.func5, Try.ntmps5
  rcases hcut with ⟨h10, rfl⟩ | ⟨h10, rfl⟩
  · go_upto_region 3 with (fail)
    have HR0 := Lib.hid (HRS.out.below (below_al w (.cells #[.int .i64 a0, .int .i64 a1, .int .i64 a2, .int .i64 a3, .int .i64 a4, .int .i64 a5, .int .i64 a6, .int .i64 a7] 36)))
    generalize w.alloc (.cells #[.int .i64 a0, .int .i64 a1, .int .i64 a2, .int .i64 a3, .int .i64 a4, .int .i64 a5, .int .i64 a6, .int .i64 a7] 36) = W0 at *
    have hlx := (Array.getElem?_eq_some_iff.1 HBX.out).1
    go_upto_region 4 with (go_at_call 9; refine (HW.out _).mono ?_; rintro e w1 ⟨⟨A1, c1, rfl, h1⟩, hB⟩; have H1 := Lib.hid h1; have HR1 := Lib.hid (HR0.out.below hB); have HX1 := Lib.hid (blk_below HBX.out hB hlx); have HB1 := Lib.hid (below_then HB0.out hB); clear h1 hB)
    have hlx1 := (Array.getElem?_eq_some_iff.1 HX1.out).1
    go_upto_region 5 with (go_at_call 16; refine (HRW.out _).mono ?_; rintro e w2 ⟨⟨A2, c2, rfl, h2⟩, hB⟩; have H1b := Lib.hid (H1.out.below hB); have H2 := Lib.hid h2; have HR2 := Lib.hid (HR1.out.below hB); have HX2 := Lib.hid (blk_below HX1.out hB hlx1); have HB2 := Lib.hid (below_then HB1.out hB); clear h2 hB)
    obtain ⟨e0, e1, e2, e3, e4, e5, e6, e7⟩ := big8 HX2.out
    have hlx2 := (Array.getElem?_eq_some_iff.1 HX2.out).1
    go_upto_region 6 with (go_at_call 17; refine (HE.out _).mono ?_; rintro e w3 ⟨⟨A3, c3, rfl, h3⟩, hB⟩; have H1c := Lib.hid (H1b.out.below hB); have H2c := Lib.hid (H2.out.below hB); have H3 := Lib.hid h3; have HR3 := Lib.hid (HR2.out.below hB); have HX3 := Lib.hid (blk_below HX2.out hB hlx2); have HB3 := Lib.hid (below_then HB2.out hB); clear h3 hB)
    clear e0 e1 e2 e3 e4 e5 e6 e7
    obtain ⟨e0, e1, e2, e3, e4, e5, e6, e7⟩ := big8 HX3.out
    go_upto_region 7 with (go_at_call 18; refine (HRE.out _).mono ?_; rintro e w4 ⟨⟨A4, c4, rfl, h4⟩, hB⟩; have H1d := Lib.hid (H1c.out.below hB); have H2d := Lib.hid (H2c.out.below hB); have H3d := Lib.hid (H3.out.below hB); have H4 := Lib.hid h4; have HR4 := Lib.hid (HR3.out.below hB); have HB4 := Lib.hid (below_then HB3.out hB); clear h4 hB)
    clear e0 e1 e2 e3 e4 e5 e6 e7 HX1 HX2 HX3 H1 H1b H1c H2 H2c H3
    go_upto_region 8 with (go_at_call 19; refine (HD.out _ HR4.out).mono ?_; rintro e w5 ⟨rfl, hB⟩; have hBA : Below w4.heap.size w4 (w5.alloc (.cells #[.int .i64 d0, .int .i64 d1, .int .i64 d2, .int .i64 d3, .int .i64 d4, .int .i64 d5, .int .i64 d6, .int .i64 d7] 36)) := hB.alloc hB.size _; have H1e := Lib.hid (H1d.out.below hBA); have H2e := Lib.hid (H2d.out.below hBA); have H3e := Lib.hid (H3d.out.below hBA); have H4e := Lib.hid (H4.out.below hBA); have HR5 := Lib.hid (HR4.out.below hBA); have HB5 := Lib.hid (below_then HB4.out hBA); have HD5 : Hid ((w5.alloc (.cells #[.int .i64 d0, .int .i64 d1, .int .i64 d2, .int .i64 d3, .int .i64 d4, .int .i64 d5, .int .i64 d6, .int .i64 d7] 36)).heap[w5.heap.size]? = _) := Lib.hid (blk11 w5 (.cells #[.int .i64 d0, .int .i64 d1, .int .i64 d2, .int .i64 d3, .int .i64 d4, .int .i64 d5, .int .i64 d6, .int .i64 d7] 36)); clear hB hBA)
    clear H1d H2d H3d H4
    generalize hs5 : w5.heap.size = s5 at *
    generalize w5.alloc (.cells #[.int .i64 d0, .int .i64 d1, .int .i64 d2, .int .i64 d3, .int .i64 d4, .int .i64 d5, .int .i64 d6, .int .i64 d7] 36) = W5 at *
    have hl5 := (Array.getElem?_eq_some_iff.1 HD5.out).1
    go_upto_region 9 with (go_at_call 20; refine (HRD.out _ HR5.out).mono ?_; rintro e w6 ⟨rfl, hB⟩; have hBA : Below W5.heap.size W5 (w6.alloc (.cells #[.int .i64 d0, .int .i64 d1, .int .i64 d2, .int .i64 d3, .int .i64 d4, .int .i64 d5, .int .i64 d6, .int .i64 d7] 36)) := hB.alloc hB.size _; have H1f := Lib.hid (H1e.out.below hBA); have H2f := Lib.hid (H2e.out.below hBA); have H3f := Lib.hid (H3e.out.below hBA); have H4f := Lib.hid (H4e.out.below hBA); have HB6 := Lib.hid (below_then HB5.out hBA); have HD6 : Hid ((w6.alloc (.cells #[.int .i64 d0, .int .i64 d1, .int .i64 d2, .int .i64 d3, .int .i64 d4, .int .i64 d5, .int .i64 d6, .int .i64 d7] 36)).heap[w6.heap.size]? = _) := Lib.hid (blk11 w6 (.cells #[.int .i64 d0, .int .i64 d1, .int .i64 d2, .int .i64 d3, .int .i64 d4, .int .i64 d5, .int .i64 d6, .int .i64 d7] 36)); have HD5b := Lib.hid (blk_below HD5.out hBA hl5); clear hB hBA)
    clear H1e H2e H3e H4e
    generalize hs6 : w6.heap.size = s6 at *
    generalize w6.alloc (.cells #[.int .i64 d0, .int .i64 d1, .int .i64 d2, .int .i64 d3, .int .i64 d4, .int .i64 d5, .int .i64 d6, .int .i64 d7] 36) = W6 at *
    have hl5 := (Array.getElem?_eq_some_iff.1 HD5b.out).1
    have hl6 := (Array.getElem?_eq_some_iff.1 HD6.out).1
    go_wp2_with (first
      | (go_at_call 10; refine (live_any _).mono ?_; rintro e w7 ⟨rfl, hB⟩; have H1g := Lib.hid (H1f.out.below hB); have H2g := Lib.hid (H2f.out.below hB); have H3g := Lib.hid (H3f.out.below hB); have H4g := Lib.hid (H4f.out.below hB); have HB7 := Lib.hid (below_then HB6.out hB); have HD5c := Lib.hid (blk_below HD5b.out hB hl5); have HD6c := Lib.hid (blk_below HD6.out hB hl6); clear hB)
      | (go_at_call 11; refine (Same1_any A1 A2 _ _ c1 c2 wf wf _ H1g.out H2g.out rfl rfl).mono ?_; rintro e w8 ⟨rfl, q, rfl⟩; have hB := Sel.below_drewN w7 q; have HB8 := Lib.hid (below_then HB7.out hB); have hcv1 := (H3g.out.below hB).str rfl Try.underlying45 Try.underlying5 Try.underlying9 (P := Try.prog); have hcv2 := (H4g.out.below hB).str rfl Try.underlying45 Try.underlying5 Try.underlying9 (P := Try.prog); obtain ⟨e0, e1, e2, e3, e4, e5, e6, e7⟩ := big8 (blk_below HD5c.out hB (Array.getElem?_eq_some_iff.1 HD5c.out).1); obtain ⟨g0, g1, g2, g3, g4, g5, g6, g7⟩ := big8 (blk_below HD6c.out hB (Array.getElem?_eq_some_iff.1 HD6c.out).1); clear hB; generalize w7.drewN q = W8 at *))
    go_ret
    exact ⟨rfl, HB8.out⟩
  · go_upto_region 3 with (fail)
    have HR0 := Lib.hid (HRS.out.below (below_al w (.cells #[.int .i64 a0, .int .i64 a1, .int .i64 a2, .int .i64 a3, .int .i64 a4, .int .i64 a5, .int .i64 a6, .int .i64 a7] 36)))
    generalize w.alloc (.cells #[.int .i64 a0, .int .i64 a1, .int .i64 a2, .int .i64 a3, .int .i64 a4, .int .i64 a5, .int .i64 a6, .int .i64 a7] 36) = W0 at *
    have hlx := (Array.getElem?_eq_some_iff.1 HBX.out).1
    go_upto_region 4 with (go_at_call 9; refine (HW.out _).mono ?_; rintro e w1 ⟨⟨A1, c1, rfl, h1⟩, hB⟩; have H1 := Lib.hid h1; have HR1 := Lib.hid (HR0.out.below hB); have HX1 := Lib.hid (blk_below HBX.out hB hlx); have HB1 := Lib.hid (below_then HB0.out hB); clear h1 hB)
    have hlx1 := (Array.getElem?_eq_some_iff.1 HX1.out).1
    go_upto_region 5 with (go_at_call 16; refine (HRW.out _).mono ?_; rintro e w2 ⟨⟨A2, c2, rfl, h2⟩, hB⟩; have H1b := Lib.hid (H1.out.below hB); have H2 := Lib.hid h2; have HR2 := Lib.hid (HR1.out.below hB); have HX2 := Lib.hid (blk_below HX1.out hB hlx1); have HB2 := Lib.hid (below_then HB1.out hB); clear h2 hB)
    obtain ⟨e0, e1, e2, e3, e4, e5, e6, e7⟩ := big8 HX2.out
    have hlx2 := (Array.getElem?_eq_some_iff.1 HX2.out).1
    go_upto_region 6 with (go_at_call 17; refine (HE.out _).mono ?_; rintro e w3 ⟨⟨A3, c3, rfl, h3⟩, hB⟩; have H1c := Lib.hid (H1b.out.below hB); have H2c := Lib.hid (H2.out.below hB); have H3 := Lib.hid h3; have HR3 := Lib.hid (HR2.out.below hB); have HX3 := Lib.hid (blk_below HX2.out hB hlx2); have HB3 := Lib.hid (below_then HB2.out hB); clear h3 hB)
    clear e0 e1 e2 e3 e4 e5 e6 e7
    obtain ⟨e0, e1, e2, e3, e4, e5, e6, e7⟩ := big8 HX3.out
    go_upto_region 7 with (go_at_call 18; refine (HRE.out _).mono ?_; rintro e w4 ⟨⟨A4, c4, rfl, h4⟩, hB⟩; have H1d := Lib.hid (H1c.out.below hB); have H2d := Lib.hid (H2c.out.below hB); have H3d := Lib.hid (H3.out.below hB); have H4 := Lib.hid h4; have HR4 := Lib.hid (HR3.out.below hB); have HB4 := Lib.hid (below_then HB3.out hB); clear h4 hB)
    clear e0 e1 e2 e3 e4 e5 e6 e7 HX1 HX2 HX3 H1 H1b H1c H2 H2c H3
    go_upto_region 8 with (go_at_call 19; refine (HD.out _ HR4.out).mono ?_; rintro e w5 ⟨rfl, hB⟩; have hBA : Below w4.heap.size w4 (w5.alloc (.cells #[.int .i64 d0, .int .i64 d1, .int .i64 d2, .int .i64 d3, .int .i64 d4, .int .i64 d5, .int .i64 d6, .int .i64 d7] 36)) := hB.alloc hB.size _; have H1e := Lib.hid (H1d.out.below hBA); have H2e := Lib.hid (H2d.out.below hBA); have H3e := Lib.hid (H3d.out.below hBA); have H4e := Lib.hid (H4.out.below hBA); have HR5 := Lib.hid (HR4.out.below hBA); have HB5 := Lib.hid (below_then HB4.out hBA); have HD5 : Hid ((w5.alloc (.cells #[.int .i64 d0, .int .i64 d1, .int .i64 d2, .int .i64 d3, .int .i64 d4, .int .i64 d5, .int .i64 d6, .int .i64 d7] 36)).heap[w5.heap.size]? = _) := Lib.hid (blk11 w5 (.cells #[.int .i64 d0, .int .i64 d1, .int .i64 d2, .int .i64 d3, .int .i64 d4, .int .i64 d5, .int .i64 d6, .int .i64 d7] 36)); clear hB hBA)
    clear H1d H2d H3d H4
    generalize hs5 : w5.heap.size = s5 at *
    generalize w5.alloc (.cells #[.int .i64 d0, .int .i64 d1, .int .i64 d2, .int .i64 d3, .int .i64 d4, .int .i64 d5, .int .i64 d6, .int .i64 d7] 36) = W5 at *
    have hl5 := (Array.getElem?_eq_some_iff.1 HD5.out).1
    go_upto_region 9 with (go_at_call 20; refine (HRD.out _ HR5.out).mono ?_; rintro e w6 ⟨rfl, hB⟩; have hBA : Below W5.heap.size W5 (w6.alloc (.cells #[.int .i64 d0, .int .i64 d1, .int .i64 d2, .int .i64 d3, .int .i64 d4, .int .i64 d5, .int .i64 d6, .int .i64 d7] 36)) := hB.alloc hB.size _; have H1f := Lib.hid (H1e.out.below hBA); have H2f := Lib.hid (H2e.out.below hBA); have H3f := Lib.hid (H3e.out.below hBA); have H4f := Lib.hid (H4e.out.below hBA); have HB6 := Lib.hid (below_then HB5.out hBA); have HD6 : Hid ((w6.alloc (.cells #[.int .i64 d0, .int .i64 d1, .int .i64 d2, .int .i64 d3, .int .i64 d4, .int .i64 d5, .int .i64 d6, .int .i64 d7] 36)).heap[w6.heap.size]? = _) := Lib.hid (blk11 w6 (.cells #[.int .i64 d0, .int .i64 d1, .int .i64 d2, .int .i64 d3, .int .i64 d4, .int .i64 d5, .int .i64 d6, .int .i64 d7] 36)); have HD5b := Lib.hid (blk_below HD5.out hBA hl5); clear hB hBA)
    clear H1e H2e H3e H4e
    generalize hs6 : w6.heap.size = s6 at *
    generalize w6.alloc (.cells #[.int .i64 d0, .int .i64 d1, .int .i64 d2, .int .i64 d3, .int .i64 d4, .int .i64 d5, .int .i64 d6, .int .i64 d7] 36) = W6 at *
    have hl5 := (Array.getElem?_eq_some_iff.1 HD5b.out).1
    have hl6 := (Array.getElem?_eq_some_iff.1 HD6.out).1
    go_wp2_with (first
      | (go_at_call 10; refine (live_any _).mono ?_; rintro e w7 ⟨rfl, hB⟩; have H1g := Lib.hid (H1f.out.below hB); have H2g := Lib.hid (H2f.out.below hB); have H3g := Lib.hid (H3f.out.below hB); have H4g := Lib.hid (H4f.out.below hB); have HB7 := Lib.hid (below_then HB6.out hB); have HD5c := Lib.hid (blk_below HD5b.out hB hl5); have HD6c := Lib.hid (blk_below HD6.out hB hl6); clear hB)
      | (go_at_call 11; refine (Same1_any A1 A2 _ _ c1 c2 wf wf _ H1g.out H2g.out rfl rfl).mono ?_; rintro e w8 ⟨rfl, q, rfl⟩; have hB := Sel.below_drewN w7 q; have HB8 := Lib.hid (below_then HB7.out hB); have hcv1 := (H3g.out.below hB).str rfl Try.underlying45 Try.underlying5 Try.underlying9 (P := Try.prog); have hcv2 := (H4g.out.below hB).str rfl Try.underlying45 Try.underlying5 Try.underlying9 (P := Try.prog); obtain ⟨e0, e1, e2, e3, e4, e5, e6, e7⟩ := big8 (blk_below HD5c.out hB (Array.getElem?_eq_some_iff.1 HD5c.out).1); obtain ⟨g0, g1, g2, g3, g4, g5, g6, g7⟩ := big8 (blk_below HD6c.out hB (Array.getElem?_eq_some_iff.1 HD6c.out).1); clear hB; generalize w7.drewN q = W8 at *))
    go_ret
    exact ⟨rfl, HB8.out⟩
end Go.Proofs.Ytcgfoaihfncppaa
