/- Walk of made: a right file of the law's puts (printed by gen_bhv.py). -/
import Derived.Test.YtcgfoaihfncppaaKBhT
import Derived.Test.YtcgfoaihfncppaaKBgO
set_option linter.unusedSimpArgs false
set_option linter.unusedVariables false
namespace Go.Sel
open Go.RowKit Go.Sel.Gra
theorem Rd.farI {S : Nat → Prop} {w w' : World} {A : Option Addr} {n c : Nat} {xs : List Value} (h : Rd w A n c xs) (hf : Fr S w w') (hS : ∀ b, S b → ∀ j v, w.cell? ⟨b, j, none⟩ = some v → ∃ x, v = .int .i64 x) (hx : ∀ v ∈ xs, ∀ x, v ≠ .int .i64 x) : Rd w' A n c xs := by
  refine ⟨h.le, h.cap, h.at_.imp id ?_⟩
  rintro ⟨b, off, rfl, hc⟩
  refine ⟨b, off, rfl, fun j hj => ?_⟩
  have hj0 := hc j hj
  have hns : ¬ S b := fun hs => by
    obtain ⟨x, e⟩ := hS b hs _ _ hj0
    exact hx _ (List.getElem_mem hj) x e
  exact (hf.cell (p := ⟨b, off + j, none⟩) hns hj0).trans hj0
theorem Bp.farI {S : Nat → Prop} {w w' : World} {A : Option Addr} {n c : Nat} {D : List (List Int)} (h : Bp w A n c D) (hf : Fr S w w') (hS : ∀ b, S b → ∀ j v, w.cell? ⟨b, j, none⟩ = some v → ∃ x, v = .int .i64 x) : Bp w' A n c D := by
  obtain ⟨ss, h⟩ := h
  refine ⟨ss, h.len, h.slen, h.rd.farI hf hS (fun v hv x e => ?_), fun j hj => ⟨(h.row j hj).1, (h.row j hj).2.1.farI hf hS (fun v hv x e => ?_), (h.row j hj).2.2⟩⟩
  · obtain ⟨s, _, rfl⟩ := List.mem_map.1 hv
    simp [sv] at e
  · obtain ⟨y, _, rfl⟩ := List.mem_map.1 hv
    cases e
end Go.Sel
namespace Go.Proofs.Ytcgfoaihfncppaa
open Go.RowKit Go.Sel Go.Sel.Gra Go.Sel.Bg Go.Sel.Mer Go.Shelf
theorem box_ints {w : World} {b : Nat} {t : List Int} (h : boxB w b t) : ∀ j v, w.cell? ⟨b, j, none⟩ = some v → ∃ x, v = .int .i64 x := fun j v hc => by
  rw [blk_cell h] at hc
  have := Array.mem_of_getElem? hc
  simp only [iv, List.mem_toArray, List.mem_map] at this
  obtain ⟨x, _, rfl⟩ := this
  exact ⟨x, rfl⟩
/-- A put of made. -/
theorem rPutM (A : Option Addr) (c : Nat) (D : List (List Int)) (t : List Int) (k nx : Nat) (b : Int) (Af : Option Addr) (W : World) (hM : Mk D t) (hk : k < 1062) (hb : 1 ≤ b ∧ b ≤ 30) (hx : 33 ≤ nx ∧ nx ≤ 59) (hD : Bp W A 60 c D) (hF : Rd W Af 2 2 (iv .i64 [(nx : Int), (nx : Int) - 1])) :
    Calls Try.prog 28 #[.slice A 60 c, bigV t, .int .i64 (k : Int), .int .i64 b, .slice Af 2 2] W fun e w' => ∃ (Ao : Option Addr) (no co : Nat) (t' : List Int) (us : Nat) (er : Int), e = .returned (.tuple #[.slice Ao no co, bigV t', .int .i64 (us : Int), .int .i64 er]) ∧ t'.length = 8 ∧ (er = 0 → no = 60 ∧ us ≤ 2 ∧ ∃ D', Mk D' t' ∧ Bp w' Ao 60 co D') ∧ Below W.heap.size W w' := by
  have hO : RgPut 60 k b [(nx : Int), (nx : Int) - 1] := ⟨hk, by omega, by omega, fun x hx => by simp only [List.mem_cons, List.not_mem_nil, or_false] at hx; omega⟩
  by_cases hE : errL D t k b [(nx : Int), (nx : Int) - 1] = 0
  · refine (rPut_ok A 60 c D t k b Af 2 2 _ hM.len W hD hM.rt hF rfl hO (by omega) hE).mono ?_
    rintro e w' ⟨⟨Ao, co, rfl, hb'⟩, hB⟩
    obtain ⟨l1, l2, l3⟩ := putL_len D t k b [(nx : Int), (nx : Int) - 1]
    exact ⟨Ao, 60, co, _, _, 0, rfl, l2.trans hM.len, fun _ => ⟨rfl, l3, _, hM.put (ok_of_err hO hE) (by simp), hb'⟩, hB⟩
  · refine (rPut_no A 60 c D t k b Af 2 2 _ hM.len W hD hM.rt hF rfl hO hE).mono ?_
    rintro e w' ⟨rfl, hB⟩
    exact ⟨none, 0, 0, zB, 0, _, rfl, rfl, fun h => absurd h hE, hB⟩
theorem pus_len : ∀ L : List Pu, (pus L).length = 2 * L.length
  | [] => rfl
  | d :: L => by
    have := pus_len L
    simp only [pus, List.flatMap_cons, List.length_append, List.length_cons, List.length_nil] at this ⊢
    omega
theorem pus_at : ∀ (L : List Pu) (i : Nat) (h : i < L.length), ∃ d, d ∈ L ∧ (∀ h0, (pus L)[i * 2]'h0 = .int .u16 d.p) ∧ ∀ h1, (pus L)[i * 2 + 1]'h1 = .int .u8 d.b
  | d :: L, 0, _ => ⟨d, by simp, fun _ => rfl, fun _ => rfl⟩
  | d :: L, i + 1, h => by
    obtain ⟨e, he, h0, h1⟩ := pus_at L i (by simpa using h)
    refine ⟨e, by simp [he], fun q0 => ?_, fun q1 => ?_⟩
    · have e1 : (i + 1) * 2 = i * 2 + 2 := by omega
      simp only [e1]
      exact h0 _
    · have e1 : (i + 1) * 2 + 1 = (i * 2 + 1) + 2 := by omega
      simp only [e1]
      exact h1 _
set_option maxRecDepth 100000 in
set_option maxHeartbeats 4000000 in
theorem made_any (A : Option Addr) (n c : Nat) (L : List Pu) (w : World) (hL : Pd w A n c L) :
    Calls Try.prog 12 #[.slice A n c] w fun e w' => (∃ A2 c2 D t, e = .returned (.tuple #[.slice A2 60 c2, bigV t]) ∧ Mk D t ∧ Bp w' A2 60 c2 D) ∧ Below w.heap.size w w' := by
  have HL := Lib.hid hL
  have HLN := Lib.hid hL.len
  have hl1 := hL.rd.le
  have hl2 := hL.rd.cap
  have HBK := Lib.hid (fun W => blank_any 60 (by omega) W)
  clear hL
  go_enter Try.func12, Try.ntmps12
  have HZ0 : Hid (boxB (w.alloc (.cells #[.int .i64 0, .int .i64 0, .int .i64 0, .int .i64 0, .int .i64 0, .int .i64 0, .int .i64 0, .int .i64 0] 36)) w.heap.size [0, 0, 0, 0, 0, 0, 0, 0]) := Lib.hid (blk11 w _)
  have HB0 := Lib.hid (below_al w (.cells #[.int .i64 0, .int .i64 0, .int .i64 0, .int .i64 0, .int .i64 0, .int .i64 0, .int .i64 0, .int .i64 0] 36))
  have hz0 := (Array.getElem?_eq_some_iff.1 HZ0.out).1
  go_upto_region 2 with (go_at_call 27; refine (HBK.out _).mono ?_; rintro e w2 ⟨⟨A2, c2, rfl, hbp⟩, hB⟩; have HBP := Lib.hid hbp; have HZ2 := Lib.hid (blk_below HZ0.out hB hz0); have HB2 := Lib.hid (below_then HB0.out hB); clear hbp hB)
  clear HZ0 HB0 hz0 HBK
  have hz2 := (Array.getElem?_eq_some_iff.1 HZ2.out).1
  go_upto_region 4 with (fail)
  have HBP3 := Lib.hid (HBP.out.below (below_al w2 (.cells #[.int .i64 0, .int .i64 0, .int .i64 0, .int .i64 0, .int .i64 0, .int .i64 0, .int .i64 0, .int .i64 0] 36)))
  have HX3 : Hid (boxB (w2.alloc (.cells #[.int .i64 0, .int .i64 0, .int .i64 0, .int .i64 0, .int .i64 0, .int .i64 0, .int .i64 0, .int .i64 0] 36)) w2.heap.size [0, 0, 0, 0, 0, 0, 0, 0]) := Lib.hid (blk11 w2 _)
  have HZ3 := Lib.hid (blk_below HZ2.out (below_al w2 (.cells #[.int .i64 0, .int .i64 0, .int .i64 0, .int .i64 0, .int .i64 0, .int .i64 0, .int .i64 0, .int .i64 0] 36)) hz2)
  have HB3 := Lib.hid (HB2.out.alloc HB2.out.size (.cells #[.int .i64 0, .int .i64 0, .int .i64 0, .int .i64 0, .int .i64 0, .int .i64 0, .int .i64 0, .int .i64 0] 36))
  clear HBP HZ2 HB2
  generalize w2.alloc (.cells #[.int .i64 0, .int .i64 0, .int .i64 0, .int .i64 0, .int .i64 0, .int .i64 0, .int .i64 0, .int .i64 0] 36) = W3 at *
  obtain ⟨gb, HGB⟩ : ∃ gb, Hid (w2.heap.size = gb) := ⟨_, rfl⟩
  obtain ⟨rb, HRB⟩ : ∃ rb, Hid (w.heap.size = rb) := ⟨_, rfl⟩
  rw [HGB.out] at HX3 hz2 ⊢
  rw [HRB.out] at HZ3 hz2 ⊢
  have hrb : rb < gb := hz2
  clear hz2 HGB
  go_wp2
  go_loopw [4, 6, 7, 8, 9, 10, 11] (fun v4 v6 v7 _ _ _ _ wr => ∃ (i nx c4 : Nat) (A4 : Option Addr) (D : List (List Int)) (t : List Int), i ≤ 20 ∧ nx ≤ 59 ∧ 31 ≤ nx ∧ v7 = .int .i64 i ∧ v6 = .int .i64 nx ∧ v4 = .slice A4 60 c4 ∧ Hid (Mk D t) ∧ Hid (Bp wr A4 60 c4 D) ∧ Hid (boxB wr gb t) ∧ Hid (boxB wr rb [0, 0, 0, 0, 0, 0, 0, 0]) ∧ Hid (Below w.heap.size w wr)) (fun _ _ v _ _ _ _ _ => 20 - (Go.RowKit.intOf v).toNat)
  case atStart => exact ⟨0, 59, c2, A2, _, _, by omega, by omega, by omega, rfl, rfl, rfl, Mk.start, HBP3, HX3, HZ3, HB3⟩
  case round =>
    clear HBP3 HX3 HZ3 HB3
    obtain ⟨i, nx, c4, A4, D, t, hi, hx59, hx31, rfl, rfl, rfl, HM, HD, HX, HZ, HB⟩ := hrel
    have hD1 := HD.out.le
    have hD2 := HD.out.cap
    by_cases hgo : i < n ∧ i < 20 ∧ 32 < nx
    · obtain ⟨hin, hi20, hnx⟩ := hgo
      have hpd := HL.out.rd.below HB.out
      obtain ⟨lb, lo, rfl, _, hcl⟩ := hpd.form (by have := HLN.out; rw [pus_len]; omega)
      have hp0 := hcl (i * 2) (by have := HLN.out; rw [pus_len]; omega)
      have hp1 := hcl (i * 2 + 1) (by have := HLN.out; rw [pus_len]; omega)
      obtain ⟨d, hd, e0, e1⟩ := pus_at L i (by have := HLN.out; omega)
      rw [e0] at hp0
      rw [e1, ← Nat.add_assoc] at hp1
      have hok := HL.out.ok d hd
      obtain ⟨⟨hok0, hok1⟩, hok2, hok3⟩ := hok
      clear hcl e0 e1 hd
      generalize d.p = dp at *
      generalize d.b = db at *
      have hdn : D.length = 60 := HM.out.dl
      have htl := HM.out.len
      have et1 : dp.tmod 1062 = dp % 1062 := Int.tmod_eq_emod_of_nonneg hok0
      have et2 : db.tmod 30 = db % 30 := Int.tmod_eq_emod_of_nonneg hok2
      obtain ⟨k, hk⟩ : ∃ k : Nat, dp.tmod 1062 = (k : Int) := ⟨(dp % 1062).toNat, by omega⟩
      have hk1 : k < 1062 := by omega
      obtain ⟨bb, hbb⟩ : ∃ bb : Int, db.tmod 30 + 1 = bb := ⟨_, rfl⟩
      have hbb1 : 1 ≤ bb ∧ bb ≤ 30 := by omega
      have HPUT := Lib.hid (fun (Af : Option Addr) (W : World) (h1 : Bp W A4 60 c4 D) (h2 : Rd W Af 2 2 (iv .i64 [(nx : Int), (nx : Int) - 1])) => rPutM A4 c4 D t k nx bb Af W HM.out hk1 hbb1 ⟨by omega, hx59⟩ h1 h2)
      obtain ⟨a0, a1, a2, a3, a4, a5, a6, a7, rfl⟩ := len8 htl
      simp only [bigV8] at HPUT
      simp only [iv, List.map_cons, List.map_nil] at HPUT
      have hx0 : wr.heap[gb]? = some (.cells #[.int .i64 a0, .int .i64 a1, .int .i64 a2, .int .i64 a3, .int .i64 a4, .int .i64 a5, .int .i64 a6, .int .i64 a7] 36 (0, 0)) := HX.out
      have hwp : IntKind.i64.wrap dp = dp := IntWalk.i64_in _ (by omega)
      have hwb : IntKind.i64.wrap db = db := IntWalk.i64_in _ (by omega)
      have hwn : IntKind.i64.wrap ((nx : Int) - 1) = (nx : Int) - 1 := IntWalk.i64_in _ (by omega)
      have hwk : IntKind.i64.wrap (db.tmod 30 + 1) = bb := by rw [hbb]; exact IntWalk.i64_in _ (by omega)
      clear et1 et2 hbb
      have hltI : (i : Int) < (n : Int) := by omega
      have HMK : Hid (∀ W', Below wr.heap.size wr W' → W'.cell? ⟨gb, 0, none⟩ = some (.int .i64 a0) ∧ W'.cell? ⟨gb, 1, none⟩ = some (.int .i64 a1) ∧ W'.cell? ⟨gb, 2, none⟩ = some (.int .i64 a2) ∧ W'.cell? ⟨gb, 3, none⟩ = some (.int .i64 a3) ∧ W'.cell? ⟨gb, 4, none⟩ = some (.int .i64 a4) ∧ W'.cell? ⟨gb, 5, none⟩ = some (.int .i64 a5) ∧ W'.cell? ⟨gb, 6, none⟩ = some (.int .i64 a6) ∧ W'.cell? ⟨gb, 7, none⟩ = some (.int .i64 a7) ∧ W'.cell? ⟨lb, lo + i * 2, none⟩ = some (.int .u16 dp) ∧ W'.cell? ⟨lb, lo + i * 2 + 1, none⟩ = some (.int .u8 db)) := Lib.hid (fun W' hB => by
        obtain ⟨d0, d1, d2, d3, d4, d5, d6, d7⟩ := big8 hx0
        exact ⟨keep_cell d0 hB, keep_cell d1 hB, keep_cell d2 hB, keep_cell d3 hB, keep_cell d4 hB, keep_cell d5 hB, keep_cell d6 hB, keep_cell d7 hB, keep_cell hp0 hB, keep_cell hp1 hB⟩)
      clear hx0 hp0 hp1 hpd
      go_upto_region 7 with (fail)
      have HS : At (fun w' : World => w'.cell? ⟨gb, 0, none⟩ = some (.int .i64 a0) ∧ w'.cell? ⟨gb, 1, none⟩ = some (.int .i64 a1) ∧ w'.cell? ⟨gb, 2, none⟩ = some (.int .i64 a2) ∧ w'.cell? ⟨gb, 3, none⟩ = some (.int .i64 a3) ∧ w'.cell? ⟨gb, 4, none⟩ = some (.int .i64 a4) ∧ w'.cell? ⟨gb, 5, none⟩ = some (.int .i64 a5) ∧ w'.cell? ⟨gb, 6, none⟩ = some (.int .i64 a6) ∧ w'.cell? ⟨gb, 7, none⟩ = some (.int .i64 a7) ∧ w'.cell? ⟨lb, lo + i * 2, none⟩ = some (.int .u16 dp) ∧ w'.cell? ⟨lb, lo + i * 2 + 1, none⟩ = some (.int .u8 db)) wr.drew := HMK.out _ (Sel.below_drewN wr 1)
      have HD4 := Lib.hid (HD.out.below (Sel.below_drewN wr 1))
      have HBd : Hid (Below wr.heap.size wr wr.drew) := Lib.hid (Sel.below_drewN wr 1)
      have hdsz : wr.drew.heap.size = wr.heap.size := rfl
      obtain ⟨W0, hW0⟩ : ∃ W0, W0 = wr := ⟨_, rfl⟩
      subst hW0
      refine any_start HS [0, 1, 2, 3, 4, 5, 6, 7, 8, 9, 10, 11, 12, 13, 14, 15, 16, 17, 18, 19, 22, 23, 24, 25, 26, 28, 30, 31] (by kernel_rfl) ?_
      change Hid (Bp W0.drew _ _ _ _) at HD4
      obtain ⟨sz, HSZ⟩ : ∃ sz, Hid (W0.heap.size = sz) := ⟨_, rfl⟩
      have HSD : Hid (W0.drew.heap.size = sz) := Lib.hid (hdsz.trans HSZ.out)
      clear hdsz
      generalize W0.drew = W1 at *
      refine any_take 0 rfl (by kernel_rfl) (fun _ _ d _ _ h => by cases d <;> exact h) (by kernel_rfl) HS (fun w9 h9 => by obtain ⟨s0, s1, s2, s3, s4, s5, s6, s7, s8, s9⟩ := h9; go_simp; first | done | rfl) (fun K hK => ?_); go_simp; refine hK _ ?_; clear hK K
      refine any_take 1 rfl (by kernel_rfl) (fun _ _ d _ _ h => by cases d <;> exact h) (by kernel_rfl) HS (fun w9 h9 => by obtain ⟨s0, s1, s2, s3, s4, s5, s6, s7, s8, s9⟩ := h9; go_simp; first | done | rfl) (fun K hK => ?_); go_simp; refine hK _ ?_; clear hK K
      refine any_take 2 rfl (by kernel_rfl) (fun _ _ d _ _ h => by cases d <;> exact h) (by kernel_rfl) HS (fun w9 h9 => by obtain ⟨s0, s1, s2, s3, s4, s5, s6, s7, s8, s9⟩ := h9; go_simp; first | done | rfl) (fun K hK => ?_); go_simp; refine hK _ ?_; clear hK K
      refine any_take 3 rfl (by kernel_rfl) (fun _ _ d _ _ h => by cases d <;> exact h) (by kernel_rfl) HS (fun w9 h9 => by obtain ⟨s0, s1, s2, s3, s4, s5, s6, s7, s8, s9⟩ := h9; go_simp; first | done | rfl) (fun K hK => ?_); go_simp; refine hK _ ?_; clear hK K
      refine any_take 4 rfl (by kernel_rfl) (fun _ _ d _ _ h => by cases d <;> exact h) (by kernel_rfl) HS (fun w9 h9 => by obtain ⟨s0, s1, s2, s3, s4, s5, s6, s7, s8, s9⟩ := h9; go_simp; first | done | rfl) (fun K hK => ?_); go_simp; refine hK _ ?_; clear hK K
      refine any_take 5 rfl (by kernel_rfl) (fun _ _ d _ _ h => by cases d <;> exact h) (by kernel_rfl) HS (fun w9 h9 => by obtain ⟨s0, s1, s2, s3, s4, s5, s6, s7, s8, s9⟩ := h9; go_simp; first | done | rfl) (fun K hK => ?_); go_simp; refine hK _ ?_; clear hK K
      refine any_take 6 rfl (by kernel_rfl) (fun _ _ d _ _ h => by cases d <;> exact h) (by kernel_rfl) HS (fun w9 h9 => by obtain ⟨s0, s1, s2, s3, s4, s5, s6, s7, s8, s9⟩ := h9; go_simp; first | done | rfl) (fun K hK => ?_); go_simp; refine hK _ ?_; clear hK K
      refine any_take 7 rfl (by kernel_rfl) (fun _ _ d _ _ h => by cases d <;> exact h) (by kernel_rfl) HS (fun w9 h9 => by obtain ⟨s0, s1, s2, s3, s4, s5, s6, s7, s8, s9⟩ := h9; go_simp; first | done | rfl) (fun K hK => ?_); go_simp; refine hK _ ?_; clear hK K
      refine any_take 8 rfl (by kernel_rfl) (fun _ _ d _ _ h => by cases d <;> exact h) (by kernel_rfl) HS (fun w9 h9 => by obtain ⟨s0, s1, s2, s3, s4, s5, s6, s7, s8, s9⟩ := h9; go_simp; first | done | rfl) (fun K hK => ?_); go_simp; refine hK _ ?_; clear hK K
      refine any_take 9 rfl (by kernel_rfl) (fun _ _ d _ _ h => by cases d <;> exact h) (by kernel_rfl) HS (fun w9 h9 => by obtain ⟨s0, s1, s2, s3, s4, s5, s6, s7, s8, s9⟩ := h9; go_simp; first | done | rfl) (fun K hK => ?_); go_simp; refine hK _ ?_; clear hK K
      refine any_take 10 rfl (by kernel_rfl) (fun _ _ d _ _ h => by cases d <;> exact h) (by kernel_rfl) HS (fun w9 h9 => by obtain ⟨s0, s1, s2, s3, s4, s5, s6, s7, s8, s9⟩ := h9; go_simp; first | done | rfl) (fun K hK => ?_); go_simp; refine hK _ ?_; clear hK K
      refine any_take 11 rfl (by kernel_rfl) (fun _ _ d _ _ h => by cases d <;> exact h) (by kernel_rfl) HS (fun w9 h9 => by obtain ⟨s0, s1, s2, s3, s4, s5, s6, s7, s8, s9⟩ := h9; go_simp; first | done | rfl) (fun K hK => ?_); go_simp; refine hK _ ?_; clear hK K
      refine any_take 12 rfl (by kernel_rfl) (fun _ _ d _ _ h => by cases d <;> exact h) (by kernel_rfl) HS (fun w9 h9 => by obtain ⟨s0, s1, s2, s3, s4, s5, s6, s7, s8, s9⟩ := h9; go_simp; first | done | rfl) (fun K hK => ?_); go_simp; refine hK _ ?_; clear hK K
      refine any_take 13 rfl (by kernel_rfl) (fun _ _ d _ _ h => by cases d <;> exact h) (by kernel_rfl) HS (fun w9 h9 => by obtain ⟨s0, s1, s2, s3, s4, s5, s6, s7, s8, s9⟩ := h9; go_simp; first | done | rfl) (fun K hK => ?_); go_simp; refine hK _ ?_; clear hK K
      refine any_take 14 rfl (by kernel_rfl) (fun _ _ d _ _ h => by cases d <;> exact h) (by kernel_rfl) HS (fun w9 h9 => by obtain ⟨s0, s1, s2, s3, s4, s5, s6, s7, s8, s9⟩ := h9; go_simp; first | done | rfl) (fun K hK => ?_); go_simp; refine hK _ ?_; clear hK K
      refine any_take 15 rfl (by kernel_rfl) (fun _ _ d _ _ h => by cases d <;> exact h) (by kernel_rfl) HS (fun w9 h9 => by obtain ⟨s0, s1, s2, s3, s4, s5, s6, s7, s8, s9⟩ := h9; go_simp; first | done | rfl) (fun K hK => ?_); go_simp; refine hK _ ?_; clear hK K
      refine any_take 16 rfl (by kernel_rfl) (fun _ _ d _ _ h => by cases d <;> exact h) (by kernel_rfl) HS (fun w9 h9 => by obtain ⟨s0, s1, s2, s3, s4, s5, s6, s7, s8, s9⟩ := h9; go_simp; first | done | rfl) (fun K hK => ?_); go_simp; refine hK _ ?_; clear hK K
      refine any_take 17 rfl (by kernel_rfl) (fun _ _ d _ _ h => by cases d <;> exact h) (by kernel_rfl) HS (fun w9 h9 => by obtain ⟨s0, s1, s2, s3, s4, s5, s6, s7, s8, s9⟩ := h9; go_simp; first | done | rfl) (fun K hK => ?_); go_simp; refine hK _ ?_; clear hK K
      refine any_take 18 rfl (by kernel_rfl) (fun _ _ d _ _ h => by cases d <;> exact h) (by kernel_rfl) HS (fun w9 h9 => by obtain ⟨s0, s1, s2, s3, s4, s5, s6, s7, s8, s9⟩ := h9; go_simp; first | done | rfl) (fun K hK => ?_); go_simp; refine hK _ ?_; clear hK K
      refine any_take 19 rfl (by kernel_rfl) (fun _ _ d _ _ h => by cases d <;> exact h) (by kernel_rfl) HS (fun w9 h9 => by obtain ⟨s0, s1, s2, s3, s4, s5, s6, s7, s8, s9⟩ := h9; go_simp; first | done | rfl) (fun K hK => ?_); go_simp; refine hK _ ?_; clear hK K
      clear HSD HSZ
      clear sz
      refine any_two 20 27 rfl rfl (by kernel_rfl) (by kernel_rfl) (by kernel_rfl) ?first ?second
      case first =>
        intro K hK
        go_simp
        have HBc : Hid (Below W0.heap.size W0 (W1.alloc (.cells #[.int .i64 (nx : Int), .int .i64 ((nx : Int) - 1)] 3))) := Lib.hid (below_then HBd.out (below_al W1 _))
        have HS : At (fun w' : World => w'.cell? ⟨gb, 0, none⟩ = some (.int .i64 a0) ∧ w'.cell? ⟨gb, 1, none⟩ = some (.int .i64 a1) ∧ w'.cell? ⟨gb, 2, none⟩ = some (.int .i64 a2) ∧ w'.cell? ⟨gb, 3, none⟩ = some (.int .i64 a3) ∧ w'.cell? ⟨gb, 4, none⟩ = some (.int .i64 a4) ∧ w'.cell? ⟨gb, 5, none⟩ = some (.int .i64 a5) ∧ w'.cell? ⟨gb, 6, none⟩ = some (.int .i64 a6) ∧ w'.cell? ⟨gb, 7, none⟩ = some (.int .i64 a7) ∧ w'.cell? ⟨lb, lo + i * 2, none⟩ = some (.int .u16 dp) ∧ w'.cell? ⟨lb, lo + i * 2 + 1, none⟩ = some (.int .u8 db)) (W1.alloc (.cells #[.int .i64 (nx : Int), .int .i64 ((nx : Int) - 1)] 3)) := HMK.out _ HBc.out
        have HDc := Lib.hid (HD4.out.below (below_al W1 (.cells #[.int .i64 (nx : Int), .int .i64 ((nx : Int) - 1)] 3)))
        have HFc : Hid (Rd (W1.alloc (.cells #[.int .i64 (nx : Int), .int .i64 ((nx : Int) - 1)] 3)) (some ⟨W1.heap.size, 0, none⟩) 2 2 [.int .i64 (nx : Int), .int .i64 ((nx : Int) - 1)]) := Lib.hid (sl_rd W1 [(nx : Int), (nx : Int) - 1] 3 (by simp))
        generalize W1.alloc (.cells #[.int .i64 (nx : Int), .int .i64 ((nx : Int) - 1)] 3) = W2 at *
        clear HBd HD4
        refine hK _ _ (fun _ => HS) ?_
        clear hK K
        refine any_two 21 27 rfl rfl (by kernel_rfl) (by kernel_rfl) (by kernel_rfl) ?third ?fourth
        case third =>
          intro K hK
          go_simp
          refine (HPUT.out _ _ HDc.out HFc.out).mono ?_
          rintro e w5 ⟨Ao, no, co, t', us, er, rfl, hlen, hres, hB⟩
          obtain ⟨z0, z1, z2, z3, z4, z5, z6, z7, rfl⟩ := len8 hlen
          rw [bigV8]
          have HR5 := Lib.hid hres
          have HB5 : Hid (Below W0.heap.size W0 w5) := Lib.hid (below_then HBc.out hB)
          have HS : At (fun w' : World => w'.cell? ⟨gb, 0, none⟩ = some (.int .i64 a0) ∧ w'.cell? ⟨gb, 1, none⟩ = some (.int .i64 a1) ∧ w'.cell? ⟨gb, 2, none⟩ = some (.int .i64 a2) ∧ w'.cell? ⟨gb, 3, none⟩ = some (.int .i64 a3) ∧ w'.cell? ⟨gb, 4, none⟩ = some (.int .i64 a4) ∧ w'.cell? ⟨gb, 5, none⟩ = some (.int .i64 a5) ∧ w'.cell? ⟨gb, 6, none⟩ = some (.int .i64 a6) ∧ w'.cell? ⟨gb, 7, none⟩ = some (.int .i64 a7) ∧ w'.cell? ⟨lb, lo + i * 2, none⟩ = some (.int .u16 dp) ∧ w'.cell? ⟨lb, lo + i * 2 + 1, none⟩ = some (.int .u8 db)) w5 := HMK.out _ HB5.out
          refine hK _ _ (fun _ => HS) ?_
          clear hK K hB hres hlen
          refine any_take 22 rfl (by kernel_rfl) (fun _ _ d _ _ h => by cases d <;> exact h) (by kernel_rfl) HS (fun w9 h9 => by obtain ⟨s0, s1, s2, s3, s4, s5, s6, s7, s8, s9⟩ := h9; go_simp; first | done | rfl) (fun K hK => ?_); go_simp; refine hK _ ?_; clear hK K
          refine any_take 23 rfl (by kernel_rfl) (fun _ _ d _ _ h => by cases d <;> exact h) (by kernel_rfl) HS (fun w9 h9 => by obtain ⟨s0, s1, s2, s3, s4, s5, s6, s7, s8, s9⟩ := h9; go_simp; first | done | rfl) (fun K hK => ?_); go_simp; refine hK _ ?_; clear hK K
          refine any_take 24 rfl (by kernel_rfl) (fun _ _ d _ _ h => by cases d <;> exact h) (by kernel_rfl) HS (fun w9 h9 => by obtain ⟨s0, s1, s2, s3, s4, s5, s6, s7, s8, s9⟩ := h9; go_simp; first | done | rfl) (fun K hK => ?_); go_simp; refine hK _ ?_; clear hK K
          refine any_take 25 rfl (by kernel_rfl) (fun _ _ d _ _ h => by cases d <;> exact h) (by kernel_rfl) HS (fun w9 h9 => by obtain ⟨s0, s1, s2, s3, s4, s5, s6, s7, s8, s9⟩ := h9; go_simp; first | done | rfl) (fun K hK => ?_); go_simp; refine hK _ ?_; clear hK K
          refine any_take 26 rfl (by kernel_rfl) (fun _ _ d _ _ h => by cases d <;> exact h) (by kernel_rfl) HS (fun w9 h9 => by obtain ⟨s0, s1, s2, s3, s4, s5, s6, s7, s8, s9⟩ := h9; go_simp; first | done | rfl) (fun K hK => ?_); go_simp; refine hK _ ?_; clear hK K
          refine any_one 27 rfl (by kernel_rfl) (by kernel_rfl) (fun K hK => ?_)
          go_simp
          have HBt : Hid (Below W0.heap.size W0 (w5.alloc (.cells #[.int .i64 0, .int .i64 0, .int .i64 0, .int .i64 0, .int .i64 0, .int .i64 0, .int .i64 0, .int .i64 0] 36))) := Lib.hid (below_then HB5.out (below_al w5 _))
          have HS : At (fun w' : World => w'.cell? ⟨gb, 0, none⟩ = some (.int .i64 a0) ∧ w'.cell? ⟨gb, 1, none⟩ = some (.int .i64 a1) ∧ w'.cell? ⟨gb, 2, none⟩ = some (.int .i64 a2) ∧ w'.cell? ⟨gb, 3, none⟩ = some (.int .i64 a3) ∧ w'.cell? ⟨gb, 4, none⟩ = some (.int .i64 a4) ∧ w'.cell? ⟨gb, 5, none⟩ = some (.int .i64 a5) ∧ w'.cell? ⟨gb, 6, none⟩ = some (.int .i64 a6) ∧ w'.cell? ⟨gb, 7, none⟩ = some (.int .i64 a7) ∧ w'.cell? ⟨lb, lo + i * 2, none⟩ = some (.int .u16 dp) ∧ w'.cell? ⟨lb, lo + i * 2 + 1, none⟩ = some (.int .u8 db)) (w5.alloc (.cells #[.int .i64 0, .int .i64 0, .int .i64 0, .int .i64 0, .int .i64 0, .int .i64 0, .int .i64 0, .int .i64 0] 36)) := HMK.out _ HBt.out
          have HXn : Hid (boxB (w5.alloc (.cells #[.int .i64 0, .int .i64 0, .int .i64 0, .int .i64 0, .int .i64 0, .int .i64 0, .int .i64 0, .int .i64 0] 36)) w5.heap.size [0, 0, 0, 0, 0, 0, 0, 0]) := Lib.hid (blk11 w5 _)
          have HRt : Hid (er = 0 → no = 60 ∧ us ≤ 2 ∧ ∃ D', Mk D' [z0, z1, z2, z3, z4, z5, z6, z7] ∧ Bp (w5.alloc (.cells #[.int .i64 0, .int .i64 0, .int .i64 0, .int .i64 0, .int .i64 0, .int .i64 0, .int .i64 0, .int .i64 0] 36)) Ao 60 co D') := Lib.hid (fun h => by obtain ⟨r1, r2, D', r3, r4⟩ := HR5.out h; exact ⟨r1, r2, D', r3, r4.below (below_al w5 _)⟩)
          have hnb : W0.heap.size ≤ w5.heap.size := HB5.out.size
          generalize w5.alloc (.cells #[.int .i64 0, .int .i64 0, .int .i64 0, .int .i64 0, .int .i64 0, .int .i64 0, .int .i64 0, .int .i64 0] 36) = Wt at *
          obtain ⟨nb, hnbe⟩ : ∃ nb, nb = w5.heap.size := ⟨_, rfl⟩
          rw [← hnbe] at HXn hnb ⊢
          clear hnbe HR5 HB5
          refine hK _ _ (fun _ => HS) ?_
          clear hK K
          refine any_take 28 rfl (by kernel_rfl) (fun _ _ d _ _ h => by cases d <;> exact h) (by kernel_rfl) HS (fun w9 h9 => by obtain ⟨s0, s1, s2, s3, s4, s5, s6, s7, s8, s9⟩ := h9; go_simp; first | done | rfl) (fun K hK => ?_); go_simp; refine hK _ ?_; clear hK K
          have hx1 : Wt.heap[nb]? = some (.cells #[.int .i64 0, .int .i64 0, .int .i64 0, .int .i64 0, .int .i64 0, .int .i64 0, .int .i64 0, .int .i64 0] 36 (0, 0)) := HXn.out
          have f1 := blk_free hx1
          obtain ⟨e0, e1, e2, e3, e4, e5, e6, e7⟩ := big8 hx1
          have HFn := Lib.hid (set8_fr Wt nb (.int .i64 z0) (.int .i64 z1) (.int .i64 z2) (.int .i64 z3) (.int .i64 z4) (.int .i64 z5) (.int .i64 z6) (.int .i64 z7))
          have HXm := Lib.hid (set8 hx1 (.int .i64 z0) (.int .i64 z1) (.int .i64 z2) (.int .i64 z3) (.int .i64 z4) (.int .i64 z5) (.int .i64 z6) (.int .i64 z7))
          refine any_one 29 rfl (by kernel_rfl) (by kernel_rfl) (fun K hK => ?_)
          go_simp
          have HBm : Hid (Below W0.heap.size W0 ((((((((Wt.setCell ⟨nb, 0, none⟩ (.int .i64 z0)).setCell ⟨nb, 1, none⟩ (.int .i64 z1)).setCell ⟨nb, 2, none⟩ (.int .i64 z2)).setCell ⟨nb, 3, none⟩ (.int .i64 z3)).setCell ⟨nb, 4, none⟩ (.int .i64 z4)).setCell ⟨nb, 5, none⟩ (.int .i64 z5)).setCell ⟨nb, 6, none⟩ (.int .i64 z6)).setCell ⟨nb, 7, none⟩ (.int .i64 z7))) := Lib.hid (HBt.out.trans (HFn.out.below (B := W0.heap.size) HBt.out.size (fun q hq => by have := hnb; omega)))
          have HS : At (fun w' : World => w'.cell? ⟨gb, 0, none⟩ = some (.int .i64 a0) ∧ w'.cell? ⟨gb, 1, none⟩ = some (.int .i64 a1) ∧ w'.cell? ⟨gb, 2, none⟩ = some (.int .i64 a2) ∧ w'.cell? ⟨gb, 3, none⟩ = some (.int .i64 a3) ∧ w'.cell? ⟨gb, 4, none⟩ = some (.int .i64 a4) ∧ w'.cell? ⟨gb, 5, none⟩ = some (.int .i64 a5) ∧ w'.cell? ⟨gb, 6, none⟩ = some (.int .i64 a6) ∧ w'.cell? ⟨gb, 7, none⟩ = some (.int .i64 a7) ∧ w'.cell? ⟨lb, lo + i * 2, none⟩ = some (.int .u16 dp) ∧ w'.cell? ⟨lb, lo + i * 2 + 1, none⟩ = some (.int .u8 db)) ((((((((Wt.setCell ⟨nb, 0, none⟩ (.int .i64 z0)).setCell ⟨nb, 1, none⟩ (.int .i64 z1)).setCell ⟨nb, 2, none⟩ (.int .i64 z2)).setCell ⟨nb, 3, none⟩ (.int .i64 z3)).setCell ⟨nb, 4, none⟩ (.int .i64 z4)).setCell ⟨nb, 5, none⟩ (.int .i64 z5)).setCell ⟨nb, 6, none⟩ (.int .i64 z6)).setCell ⟨nb, 7, none⟩ (.int .i64 z7)) := HMK.out _ HBm.out
          have HRm : Hid (er = 0 → no = 60 ∧ us ≤ 2 ∧ ∃ D', Mk D' [z0, z1, z2, z3, z4, z5, z6, z7] ∧ Bp ((((((((Wt.setCell ⟨nb, 0, none⟩ (.int .i64 z0)).setCell ⟨nb, 1, none⟩ (.int .i64 z1)).setCell ⟨nb, 2, none⟩ (.int .i64 z2)).setCell ⟨nb, 3, none⟩ (.int .i64 z3)).setCell ⟨nb, 4, none⟩ (.int .i64 z4)).setCell ⟨nb, 5, none⟩ (.int .i64 z5)).setCell ⟨nb, 6, none⟩ (.int .i64 z6)).setCell ⟨nb, 7, none⟩ (.int .i64 z7)) Ao 60 co D') := Lib.hid (fun h => by obtain ⟨r1, r2, D', r3, r4⟩ := HRt.out h; exact ⟨r1, r2, D', r3, r4.farI HFn.out (fun q hq => by obtain rfl := hq; exact box_ints HXn.out)⟩)
          generalize ((((((((Wt.setCell ⟨nb, 0, none⟩ (.int .i64 z0)).setCell ⟨nb, 1, none⟩ (.int .i64 z1)).setCell ⟨nb, 2, none⟩ (.int .i64 z2)).setCell ⟨nb, 3, none⟩ (.int .i64 z3)).setCell ⟨nb, 4, none⟩ (.int .i64 z4)).setCell ⟨nb, 5, none⟩ (.int .i64 z5)).setCell ⟨nb, 6, none⟩ (.int .i64 z6)).setCell ⟨nb, 7, none⟩ (.int .i64 z7)) = Wm at *
          refine hK _ _ (fun _ => HS) ?_
          clear hK K f1 e0 e1 e2 e3 e4 e5 e6 e7 hx1 HFn HXn HRt HBt
          refine any_take 30 rfl (by kernel_rfl) (fun _ _ d _ _ h => by cases d <;> exact h) (by kernel_rfl) HS (fun w9 h9 => by obtain ⟨s0, s1, s2, s3, s4, s5, s6, s7, s8, s9⟩ := h9; go_simp; first | done | rfl) (fun K hK => ?_); go_simp; refine hK _ ?_; clear hK K
          refine any_take 31 rfl (by kernel_rfl) (fun _ _ d _ _ h => by cases d <;> exact h) (by kernel_rfl) HS (fun w9 h9 => by obtain ⟨s0, s1, s2, s3, s4, s5, s6, s7, s8, s9⟩ := h9; go_simp; first | done | rfl) (fun K hK => ?_); go_simp; refine hK _ ?_; clear hK K
          refine any_end (by kernel_rfl) ?_
          clear HS HPUT HMK
          have HXw : Hid (boxB Wm gb [a0, a1, a2, a3, a4, a5, a6, a7]) := Lib.hid (blk_below HX.out HBm.out (Array.getElem?_eq_some_iff.1 HX.out).1)
          have HZw : Hid (boxB Wm rb [0, 0, 0, 0, 0, 0, 0, 0]) := Lib.hid (blk_below HZ.out HBm.out (Array.getElem?_eq_some_iff.1 HZ.out).1)
          have HBw := Lib.hid (below_then HB.out HBm.out)
          have hgl : gb < W0.heap.size := (Array.getElem?_eq_some_iff.1 HX.out).1
          by_cases her : er = 0
          · obtain ⟨r1, hus, D', hM', hBp⟩ := HRm.out her
            subst her
            subst r1
            have HM' := Lib.hid hM'
            have HBd' := Lib.hid (hBp.below (Sel.below_drewN Wm 1))
            clear hM' hBp HRm
            go_upto_region 9 with (fail)
            have hxm : Wm.drew.heap[nb]? = some (.cells #[.int .i64 z0, .int .i64 z1, .int .i64 z2, .int .i64 z3, .int .i64 z4, .int .i64 z5, .int .i64 z6, .int .i64 z7] 36 (0, 0)) := HXm.out
            have hxw : Wm.drew.heap[gb]? = some (.cells #[.int .i64 a0, .int .i64 a1, .int .i64 a2, .int .i64 a3, .int .i64 a4, .int .i64 a5, .int .i64 a6, .int .i64 a7] 36 (0, 0)) := HXw.out
            have HZd : Hid (boxB Wm.drew rb [0, 0, 0, 0, 0, 0, 0, 0]) := Lib.hid HZw.out
            have HBwd : Hid (Below w.heap.size w Wm.drew) := Lib.hid HBw.out.drew
            change Hid (Bp Wm.drew Ao 60 co D') at HBd'
            have HS : At (fun w' : World => w'.cell? ⟨nb, 0, none⟩ = some (.int .i64 z0) ∧ w'.cell? ⟨nb, 1, none⟩ = some (.int .i64 z1) ∧ w'.cell? ⟨nb, 2, none⟩ = some (.int .i64 z2) ∧ w'.cell? ⟨nb, 3, none⟩ = some (.int .i64 z3) ∧ w'.cell? ⟨nb, 4, none⟩ = some (.int .i64 z4) ∧ w'.cell? ⟨nb, 5, none⟩ = some (.int .i64 z5) ∧ w'.cell? ⟨nb, 6, none⟩ = some (.int .i64 z6) ∧ w'.cell? ⟨nb, 7, none⟩ = some (.int .i64 z7)) Wm.drew := big8 hxm
            have f1 := blk_free hxw
            obtain ⟨e0, e1, e2, e3, e4, e5, e6, e7⟩ := big8 hxw
            have HXwd : Hid (boxB Wm.drew gb [a0, a1, a2, a3, a4, a5, a6, a7]) := Lib.hid hxw
            have HFn := Lib.hid (set8_fr Wm.drew gb (.int .i64 z0) (.int .i64 z1) (.int .i64 z2) (.int .i64 z3) (.int .i64 z4) (.int .i64 z5) (.int .i64 z6) (.int .i64 z7))
            have HXn := Lib.hid (set8 hxw (.int .i64 z0) (.int .i64 z1) (.int .i64 z2) (.int .i64 z3) (.int .i64 z4) (.int .i64 z5) (.int .i64 z6) (.int .i64 z7))
            clear hxm hxw HXm HXw HZw HBw HBm
            refine wp_region_lexD HS [0, 1, 2] (by kernel_rfl) (by kernel_rfl) (fun _ _ d _ _ h => by cases d <;> exact h) ?_
            generalize Wm.drew = Wd at *
            refine lexD_take (by kernel_rfl) (by kernel_rfl) HS (fun w9 h9 => by obtain ⟨s0, s1, s2, s3, s4, s5, s6, s7⟩ := h9; go_simp; first | done | rfl) (fun K hK => ?_); go_simp; refine hK _ ?_; clear hK K
            refine lexD_take (by kernel_rfl) (by kernel_rfl) HS (fun w9 h9 => by obtain ⟨s0, s1, s2, s3, s4, s5, s6, s7⟩ := h9; go_simp; first | done | rfl) (fun K hK => ?_); go_simp; refine hK _ ?_; clear hK K
            refine lexD_take (by kernel_rfl) (by kernel_rfl) HS (fun w9 h9 => by obtain ⟨s0, s1, s2, s3, s4, s5, s6, s7⟩ := h9; go_simp; first | done | rfl) (fun K hK => ?_); go_simp; refine hK _ ?_; clear hK K
            refine lexD_late (by kernel_rfl) (by kernel_rfl) (fun K hK => ?_)
            go_simp
            refine hK _ _ ?_
            clear hK K HS f1 e0 e1 e2 e3 e4 e5 e6 e7
            refine lexD_nil ?_
            have HBf : Hid (Bp ((((((((Wd.setCell ⟨gb, 0, none⟩ (.int .i64 z0)).setCell ⟨gb, 1, none⟩ (.int .i64 z1)).setCell ⟨gb, 2, none⟩ (.int .i64 z2)).setCell ⟨gb, 3, none⟩ (.int .i64 z3)).setCell ⟨gb, 4, none⟩ (.int .i64 z4)).setCell ⟨gb, 5, none⟩ (.int .i64 z5)).setCell ⟨gb, 6, none⟩ (.int .i64 z6)).setCell ⟨gb, 7, none⟩ (.int .i64 z7)) Ao 60 co D') := Lib.hid (HBd'.out.farI HFn.out (fun q hq => by obtain rfl := hq; exact box_ints HXwd.out))
            have HZf : Hid (boxB ((((((((Wd.setCell ⟨gb, 0, none⟩ (.int .i64 z0)).setCell ⟨gb, 1, none⟩ (.int .i64 z1)).setCell ⟨gb, 2, none⟩ (.int .i64 z2)).setCell ⟨gb, 3, none⟩ (.int .i64 z3)).setCell ⟨gb, 4, none⟩ (.int .i64 z4)).setCell ⟨gb, 5, none⟩ (.int .i64 z5)).setCell ⟨gb, 6, none⟩ (.int .i64 z6)).setCell ⟨gb, 7, none⟩ (.int .i64 z7)) rb [0, 0, 0, 0, 0, 0, 0, 0]) := Lib.hid ((HFn.out.block rb (Array.getElem?_eq_some_iff.1 HZd.out).1 (by omega)).trans HZd.out)
            have HBg : Hid (Below w.heap.size w ((((((((Wd.setCell ⟨gb, 0, none⟩ (.int .i64 z0)).setCell ⟨gb, 1, none⟩ (.int .i64 z1)).setCell ⟨gb, 2, none⟩ (.int .i64 z2)).setCell ⟨gb, 3, none⟩ (.int .i64 z3)).setCell ⟨gb, 4, none⟩ (.int .i64 z4)).setCell ⟨gb, 5, none⟩ (.int .i64 z5)).setCell ⟨gb, 6, none⟩ (.int .i64 z6)).setCell ⟨gb, 7, none⟩ (.int .i64 z7))) := Lib.hid (HBwd.out.trans (HFn.out.below (B := w.heap.size) HBwd.out.size (fun q hq => by have := HRB.out; omega)))
            generalize ((((((((Wd.setCell ⟨gb, 0, none⟩ (.int .i64 z0)).setCell ⟨gb, 1, none⟩ (.int .i64 z1)).setCell ⟨gb, 2, none⟩ (.int .i64 z2)).setCell ⟨gb, 3, none⟩ (.int .i64 z3)).setCell ⟨gb, 4, none⟩ (.int .i64 z4)).setCell ⟨gb, 5, none⟩ (.int .i64 z5)).setCell ⟨gb, 6, none⟩ (.int .i64 z6)).setCell ⟨gb, 7, none⟩ (.int .i64 z7)) = We at *
            go_wp2
            go_roundw
            case rel => exact ⟨i + 1, nx - us, co, Ao, D', [z0, z1, z2, z3, z4, z5, z6, z7], by omega, by omega, by omega, by go_num, by go_num, rfl, HM', HBf, HXn, HZf, HBg⟩
            case measure => simp [Go.RowKit.intOf] <;> omega
          · have hbe : (er == 0) = false := by simpa using her
            have HDw := Lib.hid (HD.out.below HBm.out)
            go_wp2
            go_roundw
            case rel => exact ⟨i + 1, nx, c4, A4, D, [a0, a1, a2, a3, a4, a5, a6, a7], by omega, by omega, by omega, by go_num, rfl, rfl, HM, HDw, HXw, HZw, HBw⟩
            case measure => simp [Go.RowKit.intOf] <;> omega
        case fourth =>
          intro K hK
          go_simp
          have HBe : Hid (Below W0.heap.size W0 (W2.alloc (.cells #[.int .i64 0, .int .i64 0, .int .i64 0, .int .i64 0, .int .i64 0, .int .i64 0, .int .i64 0, .int .i64 0] 36))) := Lib.hid (below_then HBc.out (below_al W2 _))
          have HS : At (fun w' : World => w'.cell? ⟨gb, 0, none⟩ = some (.int .i64 a0) ∧ w'.cell? ⟨gb, 1, none⟩ = some (.int .i64 a1) ∧ w'.cell? ⟨gb, 2, none⟩ = some (.int .i64 a2) ∧ w'.cell? ⟨gb, 3, none⟩ = some (.int .i64 a3) ∧ w'.cell? ⟨gb, 4, none⟩ = some (.int .i64 a4) ∧ w'.cell? ⟨gb, 5, none⟩ = some (.int .i64 a5) ∧ w'.cell? ⟨gb, 6, none⟩ = some (.int .i64 a6) ∧ w'.cell? ⟨gb, 7, none⟩ = some (.int .i64 a7) ∧ w'.cell? ⟨lb, lo + i * 2, none⟩ = some (.int .u16 dp) ∧ w'.cell? ⟨lb, lo + i * 2 + 1, none⟩ = some (.int .u8 db)) (W2.alloc (.cells #[.int .i64 0, .int .i64 0, .int .i64 0, .int .i64 0, .int .i64 0, .int .i64 0, .int .i64 0, .int .i64 0] 36)) := HMK.out _ HBe.out
          have HXe : Hid (boxB (W2.alloc (.cells #[.int .i64 0, .int .i64 0, .int .i64 0, .int .i64 0, .int .i64 0, .int .i64 0, .int .i64 0, .int .i64 0] 36)) W2.heap.size [0, 0, 0, 0, 0, 0, 0, 0]) := Lib.hid (blk11 W2 _)
          have HDe := Lib.hid (HDc.out.below (below_al W2 (.cells #[.int .i64 0, .int .i64 0, .int .i64 0, .int .i64 0, .int .i64 0, .int .i64 0, .int .i64 0, .int .i64 0] 36)))
          have HFe := Lib.hid (HFc.out.below (below_al W2 (.cells #[.int .i64 0, .int .i64 0, .int .i64 0, .int .i64 0, .int .i64 0, .int .i64 0, .int .i64 0, .int .i64 0] 36)))
          have hnb : W0.heap.size ≤ W2.heap.size := HBc.out.size
          generalize W2.alloc (.cells #[.int .i64 0, .int .i64 0, .int .i64 0, .int .i64 0, .int .i64 0, .int .i64 0, .int .i64 0, .int .i64 0] 36) = W4 at *
          obtain ⟨nb, hnbe⟩ : ∃ nb, nb = W2.heap.size := ⟨_, rfl⟩
          rw [← hnbe] at HXe hnb ⊢
          clear hnbe HBc HDc HFc
          have HBc := HBe
          have HDc := HDe
          have HFc := HFe
          clear HBe HDe HFe
          refine hK _ _ (fun _ => HS) ?_
          clear hK K
          refine any_one 21 rfl (by kernel_rfl) (by kernel_rfl) (fun K hK => ?_)
          go_simp
          refine (HPUT.out _ _ HDc.out HFc.out).mono ?_
          rintro e w5 ⟨Ao, no, co, t', us, er, rfl, hlen, hres, hB⟩
          obtain ⟨z0, z1, z2, z3, z4, z5, z6, z7, rfl⟩ := len8 hlen
          rw [bigV8]
          have HR5 := Lib.hid hres
          have HB5 : Hid (Below W0.heap.size W0 w5) := Lib.hid (below_then HBc.out hB)
          have HS : At (fun w' : World => w'.cell? ⟨gb, 0, none⟩ = some (.int .i64 a0) ∧ w'.cell? ⟨gb, 1, none⟩ = some (.int .i64 a1) ∧ w'.cell? ⟨gb, 2, none⟩ = some (.int .i64 a2) ∧ w'.cell? ⟨gb, 3, none⟩ = some (.int .i64 a3) ∧ w'.cell? ⟨gb, 4, none⟩ = some (.int .i64 a4) ∧ w'.cell? ⟨gb, 5, none⟩ = some (.int .i64 a5) ∧ w'.cell? ⟨gb, 6, none⟩ = some (.int .i64 a6) ∧ w'.cell? ⟨gb, 7, none⟩ = some (.int .i64 a7) ∧ w'.cell? ⟨lb, lo + i * 2, none⟩ = some (.int .u16 dp) ∧ w'.cell? ⟨lb, lo + i * 2 + 1, none⟩ = some (.int .u8 db)) w5 := HMK.out _ HB5.out
          have HXn : Hid (boxB w5 nb [0, 0, 0, 0, 0, 0, 0, 0]) := Lib.hid (blk_below HXe.out hB (Array.getElem?_eq_some_iff.1 HXe.out).1)
          refine hK _ _ (fun _ => HS) ?_
          clear hK K hB hres hlen HXe
          have HRt := HR5
          have HBt := HB5
          clear HR5 HB5
          refine any_take 22 rfl (by kernel_rfl) (fun _ _ d _ _ h => by cases d <;> exact h) (by kernel_rfl) HS (fun w9 h9 => by obtain ⟨s0, s1, s2, s3, s4, s5, s6, s7, s8, s9⟩ := h9; go_simp; first | done | rfl) (fun K hK => ?_); go_simp; refine hK _ ?_; clear hK K
          refine any_take 23 rfl (by kernel_rfl) (fun _ _ d _ _ h => by cases d <;> exact h) (by kernel_rfl) HS (fun w9 h9 => by obtain ⟨s0, s1, s2, s3, s4, s5, s6, s7, s8, s9⟩ := h9; go_simp; first | done | rfl) (fun K hK => ?_); go_simp; refine hK _ ?_; clear hK K
          refine any_take 24 rfl (by kernel_rfl) (fun _ _ d _ _ h => by cases d <;> exact h) (by kernel_rfl) HS (fun w9 h9 => by obtain ⟨s0, s1, s2, s3, s4, s5, s6, s7, s8, s9⟩ := h9; go_simp; first | done | rfl) (fun K hK => ?_); go_simp; refine hK _ ?_; clear hK K
          refine any_take 25 rfl (by kernel_rfl) (fun _ _ d _ _ h => by cases d <;> exact h) (by kernel_rfl) HS (fun w9 h9 => by obtain ⟨s0, s1, s2, s3, s4, s5, s6, s7, s8, s9⟩ := h9; go_simp; first | done | rfl) (fun K hK => ?_); go_simp; refine hK _ ?_; clear hK K
          refine any_take 26 rfl (by kernel_rfl) (fun _ _ d _ _ h => by cases d <;> exact h) (by kernel_rfl) HS (fun w9 h9 => by obtain ⟨s0, s1, s2, s3, s4, s5, s6, s7, s8, s9⟩ := h9; go_simp; first | done | rfl) (fun K hK => ?_); go_simp; refine hK _ ?_; clear hK K
          refine any_take 28 rfl (by kernel_rfl) (fun _ _ d _ _ h => by cases d <;> exact h) (by kernel_rfl) HS (fun w9 h9 => by obtain ⟨s0, s1, s2, s3, s4, s5, s6, s7, s8, s9⟩ := h9; go_simp; first | done | rfl) (fun K hK => ?_); go_simp; refine hK _ ?_; clear hK K
          have hx1 : w5.heap[nb]? = some (.cells #[.int .i64 0, .int .i64 0, .int .i64 0, .int .i64 0, .int .i64 0, .int .i64 0, .int .i64 0, .int .i64 0] 36 (0, 0)) := HXn.out
          have f1 := blk_free hx1
          obtain ⟨e0, e1, e2, e3, e4, e5, e6, e7⟩ := big8 hx1
          have HFn := Lib.hid (set8_fr w5 nb (.int .i64 z0) (.int .i64 z1) (.int .i64 z2) (.int .i64 z3) (.int .i64 z4) (.int .i64 z5) (.int .i64 z6) (.int .i64 z7))
          have HXm := Lib.hid (set8 hx1 (.int .i64 z0) (.int .i64 z1) (.int .i64 z2) (.int .i64 z3) (.int .i64 z4) (.int .i64 z5) (.int .i64 z6) (.int .i64 z7))
          refine any_one 29 rfl (by kernel_rfl) (by kernel_rfl) (fun K hK => ?_)
          go_simp
          have HBm : Hid (Below W0.heap.size W0 ((((((((w5.setCell ⟨nb, 0, none⟩ (.int .i64 z0)).setCell ⟨nb, 1, none⟩ (.int .i64 z1)).setCell ⟨nb, 2, none⟩ (.int .i64 z2)).setCell ⟨nb, 3, none⟩ (.int .i64 z3)).setCell ⟨nb, 4, none⟩ (.int .i64 z4)).setCell ⟨nb, 5, none⟩ (.int .i64 z5)).setCell ⟨nb, 6, none⟩ (.int .i64 z6)).setCell ⟨nb, 7, none⟩ (.int .i64 z7))) := Lib.hid (HBt.out.trans (HFn.out.below (B := W0.heap.size) HBt.out.size (fun q hq => by have := hnb; omega)))
          have HS : At (fun w' : World => w'.cell? ⟨gb, 0, none⟩ = some (.int .i64 a0) ∧ w'.cell? ⟨gb, 1, none⟩ = some (.int .i64 a1) ∧ w'.cell? ⟨gb, 2, none⟩ = some (.int .i64 a2) ∧ w'.cell? ⟨gb, 3, none⟩ = some (.int .i64 a3) ∧ w'.cell? ⟨gb, 4, none⟩ = some (.int .i64 a4) ∧ w'.cell? ⟨gb, 5, none⟩ = some (.int .i64 a5) ∧ w'.cell? ⟨gb, 6, none⟩ = some (.int .i64 a6) ∧ w'.cell? ⟨gb, 7, none⟩ = some (.int .i64 a7) ∧ w'.cell? ⟨lb, lo + i * 2, none⟩ = some (.int .u16 dp) ∧ w'.cell? ⟨lb, lo + i * 2 + 1, none⟩ = some (.int .u8 db)) ((((((((w5.setCell ⟨nb, 0, none⟩ (.int .i64 z0)).setCell ⟨nb, 1, none⟩ (.int .i64 z1)).setCell ⟨nb, 2, none⟩ (.int .i64 z2)).setCell ⟨nb, 3, none⟩ (.int .i64 z3)).setCell ⟨nb, 4, none⟩ (.int .i64 z4)).setCell ⟨nb, 5, none⟩ (.int .i64 z5)).setCell ⟨nb, 6, none⟩ (.int .i64 z6)).setCell ⟨nb, 7, none⟩ (.int .i64 z7)) := HMK.out _ HBm.out
          have HRm : Hid (er = 0 → no = 60 ∧ us ≤ 2 ∧ ∃ D', Mk D' [z0, z1, z2, z3, z4, z5, z6, z7] ∧ Bp ((((((((w5.setCell ⟨nb, 0, none⟩ (.int .i64 z0)).setCell ⟨nb, 1, none⟩ (.int .i64 z1)).setCell ⟨nb, 2, none⟩ (.int .i64 z2)).setCell ⟨nb, 3, none⟩ (.int .i64 z3)).setCell ⟨nb, 4, none⟩ (.int .i64 z4)).setCell ⟨nb, 5, none⟩ (.int .i64 z5)).setCell ⟨nb, 6, none⟩ (.int .i64 z6)).setCell ⟨nb, 7, none⟩ (.int .i64 z7)) Ao 60 co D') := Lib.hid (fun h => by obtain ⟨r1, r2, D', r3, r4⟩ := HRt.out h; exact ⟨r1, r2, D', r3, r4.farI HFn.out (fun q hq => by obtain rfl := hq; exact box_ints HXn.out)⟩)
          generalize ((((((((w5.setCell ⟨nb, 0, none⟩ (.int .i64 z0)).setCell ⟨nb, 1, none⟩ (.int .i64 z1)).setCell ⟨nb, 2, none⟩ (.int .i64 z2)).setCell ⟨nb, 3, none⟩ (.int .i64 z3)).setCell ⟨nb, 4, none⟩ (.int .i64 z4)).setCell ⟨nb, 5, none⟩ (.int .i64 z5)).setCell ⟨nb, 6, none⟩ (.int .i64 z6)).setCell ⟨nb, 7, none⟩ (.int .i64 z7)) = Wm at *
          refine hK _ _ (fun _ => HS) ?_
          clear hK K f1 e0 e1 e2 e3 e4 e5 e6 e7 hx1 HFn HXn HRt HBt
          refine any_take 30 rfl (by kernel_rfl) (fun _ _ d _ _ h => by cases d <;> exact h) (by kernel_rfl) HS (fun w9 h9 => by obtain ⟨s0, s1, s2, s3, s4, s5, s6, s7, s8, s9⟩ := h9; go_simp; first | done | rfl) (fun K hK => ?_); go_simp; refine hK _ ?_; clear hK K
          refine any_take 31 rfl (by kernel_rfl) (fun _ _ d _ _ h => by cases d <;> exact h) (by kernel_rfl) HS (fun w9 h9 => by obtain ⟨s0, s1, s2, s3, s4, s5, s6, s7, s8, s9⟩ := h9; go_simp; first | done | rfl) (fun K hK => ?_); go_simp; refine hK _ ?_; clear hK K
          refine any_end (by kernel_rfl) ?_
          clear HS HPUT HMK
          have HXw : Hid (boxB Wm gb [a0, a1, a2, a3, a4, a5, a6, a7]) := Lib.hid (blk_below HX.out HBm.out (Array.getElem?_eq_some_iff.1 HX.out).1)
          have HZw : Hid (boxB Wm rb [0, 0, 0, 0, 0, 0, 0, 0]) := Lib.hid (blk_below HZ.out HBm.out (Array.getElem?_eq_some_iff.1 HZ.out).1)
          have HBw := Lib.hid (below_then HB.out HBm.out)
          have hgl : gb < W0.heap.size := (Array.getElem?_eq_some_iff.1 HX.out).1
          by_cases her : er = 0
          · obtain ⟨r1, hus, D', hM', hBp⟩ := HRm.out her
            subst her
            subst r1
            have HM' := Lib.hid hM'
            have HBd' := Lib.hid (hBp.below (Sel.below_drewN Wm 1))
            clear hM' hBp HRm
            go_upto_region 9 with (fail)
            have hxm : Wm.drew.heap[nb]? = some (.cells #[.int .i64 z0, .int .i64 z1, .int .i64 z2, .int .i64 z3, .int .i64 z4, .int .i64 z5, .int .i64 z6, .int .i64 z7] 36 (0, 0)) := HXm.out
            have hxw : Wm.drew.heap[gb]? = some (.cells #[.int .i64 a0, .int .i64 a1, .int .i64 a2, .int .i64 a3, .int .i64 a4, .int .i64 a5, .int .i64 a6, .int .i64 a7] 36 (0, 0)) := HXw.out
            have HZd : Hid (boxB Wm.drew rb [0, 0, 0, 0, 0, 0, 0, 0]) := Lib.hid HZw.out
            have HBwd : Hid (Below w.heap.size w Wm.drew) := Lib.hid HBw.out.drew
            change Hid (Bp Wm.drew Ao 60 co D') at HBd'
            have HS : At (fun w' : World => w'.cell? ⟨nb, 0, none⟩ = some (.int .i64 z0) ∧ w'.cell? ⟨nb, 1, none⟩ = some (.int .i64 z1) ∧ w'.cell? ⟨nb, 2, none⟩ = some (.int .i64 z2) ∧ w'.cell? ⟨nb, 3, none⟩ = some (.int .i64 z3) ∧ w'.cell? ⟨nb, 4, none⟩ = some (.int .i64 z4) ∧ w'.cell? ⟨nb, 5, none⟩ = some (.int .i64 z5) ∧ w'.cell? ⟨nb, 6, none⟩ = some (.int .i64 z6) ∧ w'.cell? ⟨nb, 7, none⟩ = some (.int .i64 z7)) Wm.drew := big8 hxm
            have f1 := blk_free hxw
            obtain ⟨e0, e1, e2, e3, e4, e5, e6, e7⟩ := big8 hxw
            have HXwd : Hid (boxB Wm.drew gb [a0, a1, a2, a3, a4, a5, a6, a7]) := Lib.hid hxw
            have HFn := Lib.hid (set8_fr Wm.drew gb (.int .i64 z0) (.int .i64 z1) (.int .i64 z2) (.int .i64 z3) (.int .i64 z4) (.int .i64 z5) (.int .i64 z6) (.int .i64 z7))
            have HXn := Lib.hid (set8 hxw (.int .i64 z0) (.int .i64 z1) (.int .i64 z2) (.int .i64 z3) (.int .i64 z4) (.int .i64 z5) (.int .i64 z6) (.int .i64 z7))
            clear hxm hxw HXm HXw HZw HBw HBm
            refine wp_region_lexD HS [0, 1, 2] (by kernel_rfl) (by kernel_rfl) (fun _ _ d _ _ h => by cases d <;> exact h) ?_
            generalize Wm.drew = Wd at *
            refine lexD_take (by kernel_rfl) (by kernel_rfl) HS (fun w9 h9 => by obtain ⟨s0, s1, s2, s3, s4, s5, s6, s7⟩ := h9; go_simp; first | done | rfl) (fun K hK => ?_); go_simp; refine hK _ ?_; clear hK K
            refine lexD_take (by kernel_rfl) (by kernel_rfl) HS (fun w9 h9 => by obtain ⟨s0, s1, s2, s3, s4, s5, s6, s7⟩ := h9; go_simp; first | done | rfl) (fun K hK => ?_); go_simp; refine hK _ ?_; clear hK K
            refine lexD_take (by kernel_rfl) (by kernel_rfl) HS (fun w9 h9 => by obtain ⟨s0, s1, s2, s3, s4, s5, s6, s7⟩ := h9; go_simp; first | done | rfl) (fun K hK => ?_); go_simp; refine hK _ ?_; clear hK K
            refine lexD_late (by kernel_rfl) (by kernel_rfl) (fun K hK => ?_)
            go_simp
            refine hK _ _ ?_
            clear hK K HS f1 e0 e1 e2 e3 e4 e5 e6 e7
            refine lexD_nil ?_
            have HBf : Hid (Bp ((((((((Wd.setCell ⟨gb, 0, none⟩ (.int .i64 z0)).setCell ⟨gb, 1, none⟩ (.int .i64 z1)).setCell ⟨gb, 2, none⟩ (.int .i64 z2)).setCell ⟨gb, 3, none⟩ (.int .i64 z3)).setCell ⟨gb, 4, none⟩ (.int .i64 z4)).setCell ⟨gb, 5, none⟩ (.int .i64 z5)).setCell ⟨gb, 6, none⟩ (.int .i64 z6)).setCell ⟨gb, 7, none⟩ (.int .i64 z7)) Ao 60 co D') := Lib.hid (HBd'.out.farI HFn.out (fun q hq => by obtain rfl := hq; exact box_ints HXwd.out))
            have HZf : Hid (boxB ((((((((Wd.setCell ⟨gb, 0, none⟩ (.int .i64 z0)).setCell ⟨gb, 1, none⟩ (.int .i64 z1)).setCell ⟨gb, 2, none⟩ (.int .i64 z2)).setCell ⟨gb, 3, none⟩ (.int .i64 z3)).setCell ⟨gb, 4, none⟩ (.int .i64 z4)).setCell ⟨gb, 5, none⟩ (.int .i64 z5)).setCell ⟨gb, 6, none⟩ (.int .i64 z6)).setCell ⟨gb, 7, none⟩ (.int .i64 z7)) rb [0, 0, 0, 0, 0, 0, 0, 0]) := Lib.hid ((HFn.out.block rb (Array.getElem?_eq_some_iff.1 HZd.out).1 (by omega)).trans HZd.out)
            have HBg : Hid (Below w.heap.size w ((((((((Wd.setCell ⟨gb, 0, none⟩ (.int .i64 z0)).setCell ⟨gb, 1, none⟩ (.int .i64 z1)).setCell ⟨gb, 2, none⟩ (.int .i64 z2)).setCell ⟨gb, 3, none⟩ (.int .i64 z3)).setCell ⟨gb, 4, none⟩ (.int .i64 z4)).setCell ⟨gb, 5, none⟩ (.int .i64 z5)).setCell ⟨gb, 6, none⟩ (.int .i64 z6)).setCell ⟨gb, 7, none⟩ (.int .i64 z7))) := Lib.hid (HBwd.out.trans (HFn.out.below (B := w.heap.size) HBwd.out.size (fun q hq => by have := HRB.out; omega)))
            generalize ((((((((Wd.setCell ⟨gb, 0, none⟩ (.int .i64 z0)).setCell ⟨gb, 1, none⟩ (.int .i64 z1)).setCell ⟨gb, 2, none⟩ (.int .i64 z2)).setCell ⟨gb, 3, none⟩ (.int .i64 z3)).setCell ⟨gb, 4, none⟩ (.int .i64 z4)).setCell ⟨gb, 5, none⟩ (.int .i64 z5)).setCell ⟨gb, 6, none⟩ (.int .i64 z6)).setCell ⟨gb, 7, none⟩ (.int .i64 z7)) = We at *
            go_wp2
            go_roundw
            case rel => exact ⟨i + 1, nx - us, co, Ao, D', [z0, z1, z2, z3, z4, z5, z6, z7], by omega, by omega, by omega, by go_num, by go_num, rfl, HM', HBf, HXn, HZf, HBg⟩
            case measure => simp [Go.RowKit.intOf] <;> omega
          · have hbe : (er == 0) = false := by simpa using her
            have HDw := Lib.hid (HD.out.below HBm.out)
            go_wp2
            go_roundw
            case rel => exact ⟨i + 1, nx, c4, A4, D, [a0, a1, a2, a3, a4, a5, a6, a7], by omega, by omega, by omega, by go_num, rfl, rfl, HM, HDw, HXw, HZw, HBw⟩
            case measure => simp [Go.RowKit.intOf] <;> omega
      case second =>
        intro K hK
        go_simp
        have HBb : Hid (Below W0.heap.size W0 (W1.alloc (.cells #[.int .i64 0, .int .i64 0, .int .i64 0, .int .i64 0, .int .i64 0, .int .i64 0, .int .i64 0, .int .i64 0] 36))) := Lib.hid (below_then HBd.out (below_al W1 _))
        have HS : At (fun w' : World => w'.cell? ⟨gb, 0, none⟩ = some (.int .i64 a0) ∧ w'.cell? ⟨gb, 1, none⟩ = some (.int .i64 a1) ∧ w'.cell? ⟨gb, 2, none⟩ = some (.int .i64 a2) ∧ w'.cell? ⟨gb, 3, none⟩ = some (.int .i64 a3) ∧ w'.cell? ⟨gb, 4, none⟩ = some (.int .i64 a4) ∧ w'.cell? ⟨gb, 5, none⟩ = some (.int .i64 a5) ∧ w'.cell? ⟨gb, 6, none⟩ = some (.int .i64 a6) ∧ w'.cell? ⟨gb, 7, none⟩ = some (.int .i64 a7) ∧ w'.cell? ⟨lb, lo + i * 2, none⟩ = some (.int .u16 dp) ∧ w'.cell? ⟨lb, lo + i * 2 + 1, none⟩ = some (.int .u8 db)) (W1.alloc (.cells #[.int .i64 0, .int .i64 0, .int .i64 0, .int .i64 0, .int .i64 0, .int .i64 0, .int .i64 0, .int .i64 0] 36)) := HMK.out _ HBb.out
        have HDb := Lib.hid (HD4.out.below (below_al W1 (.cells #[.int .i64 0, .int .i64 0, .int .i64 0, .int .i64 0, .int .i64 0, .int .i64 0, .int .i64 0, .int .i64 0] 36)))
        have HXb : Hid (boxB (W1.alloc (.cells #[.int .i64 0, .int .i64 0, .int .i64 0, .int .i64 0, .int .i64 0, .int .i64 0, .int .i64 0, .int .i64 0] 36)) W1.heap.size [0, 0, 0, 0, 0, 0, 0, 0]) := Lib.hid (blk11 W1 _)
        have hnb : W0.heap.size ≤ W1.heap.size := HBd.out.size
        generalize W1.alloc (.cells #[.int .i64 0, .int .i64 0, .int .i64 0, .int .i64 0, .int .i64 0, .int .i64 0, .int .i64 0, .int .i64 0] 36) = W3b at *
        obtain ⟨nb, hnbe⟩ : ∃ nb, nb = W1.heap.size := ⟨_, rfl⟩
        rw [← hnbe] at HXb hnb ⊢
        clear hnbe HBd HD4
        refine hK _ _ (fun _ => HS) ?_
        clear hK K
        refine any_one 20 rfl (by kernel_rfl) (by kernel_rfl) (fun K hK => ?_)
        go_simp
        have HBc : Hid (Below W0.heap.size W0 (W3b.alloc (.cells #[.int .i64 (nx : Int), .int .i64 ((nx : Int) - 1)] 3))) := Lib.hid (below_then HBb.out (below_al W3b _))
        have HS : At (fun w' : World => w'.cell? ⟨gb, 0, none⟩ = some (.int .i64 a0) ∧ w'.cell? ⟨gb, 1, none⟩ = some (.int .i64 a1) ∧ w'.cell? ⟨gb, 2, none⟩ = some (.int .i64 a2) ∧ w'.cell? ⟨gb, 3, none⟩ = some (.int .i64 a3) ∧ w'.cell? ⟨gb, 4, none⟩ = some (.int .i64 a4) ∧ w'.cell? ⟨gb, 5, none⟩ = some (.int .i64 a5) ∧ w'.cell? ⟨gb, 6, none⟩ = some (.int .i64 a6) ∧ w'.cell? ⟨gb, 7, none⟩ = some (.int .i64 a7) ∧ w'.cell? ⟨lb, lo + i * 2, none⟩ = some (.int .u16 dp) ∧ w'.cell? ⟨lb, lo + i * 2 + 1, none⟩ = some (.int .u8 db)) (W3b.alloc (.cells #[.int .i64 (nx : Int), .int .i64 ((nx : Int) - 1)] 3)) := HMK.out _ HBc.out
        have HDc := Lib.hid (HDb.out.below (below_al W3b (.cells #[.int .i64 (nx : Int), .int .i64 ((nx : Int) - 1)] 3)))
        have HFc : Hid (Rd (W3b.alloc (.cells #[.int .i64 (nx : Int), .int .i64 ((nx : Int) - 1)] 3)) (some ⟨W3b.heap.size, 0, none⟩) 2 2 [.int .i64 (nx : Int), .int .i64 ((nx : Int) - 1)]) := Lib.hid (sl_rd W3b [(nx : Int), (nx : Int) - 1] 3 (by simp))
        have HXe : Hid (boxB (W3b.alloc (.cells #[.int .i64 (nx : Int), .int .i64 ((nx : Int) - 1)] 3)) nb [0, 0, 0, 0, 0, 0, 0, 0]) := Lib.hid (blk_below HXb.out (below_al W3b _) (Array.getElem?_eq_some_iff.1 HXb.out).1)
        generalize W3b.alloc (.cells #[.int .i64 (nx : Int), .int .i64 ((nx : Int) - 1)] 3) = W4 at *
        clear HBb HDb HXb
        refine hK _ _ (fun _ => HS) ?_
        clear hK K
        refine any_one 21 rfl (by kernel_rfl) (by kernel_rfl) (fun K hK => ?_)
        go_simp
        refine (HPUT.out _ _ HDc.out HFc.out).mono ?_
        rintro e w5 ⟨Ao, no, co, t', us, er, rfl, hlen, hres, hB⟩
        obtain ⟨z0, z1, z2, z3, z4, z5, z6, z7, rfl⟩ := len8 hlen
        rw [bigV8]
        have HR5 := Lib.hid hres
        have HB5 : Hid (Below W0.heap.size W0 w5) := Lib.hid (below_then HBc.out hB)
        have HS : At (fun w' : World => w'.cell? ⟨gb, 0, none⟩ = some (.int .i64 a0) ∧ w'.cell? ⟨gb, 1, none⟩ = some (.int .i64 a1) ∧ w'.cell? ⟨gb, 2, none⟩ = some (.int .i64 a2) ∧ w'.cell? ⟨gb, 3, none⟩ = some (.int .i64 a3) ∧ w'.cell? ⟨gb, 4, none⟩ = some (.int .i64 a4) ∧ w'.cell? ⟨gb, 5, none⟩ = some (.int .i64 a5) ∧ w'.cell? ⟨gb, 6, none⟩ = some (.int .i64 a6) ∧ w'.cell? ⟨gb, 7, none⟩ = some (.int .i64 a7) ∧ w'.cell? ⟨lb, lo + i * 2, none⟩ = some (.int .u16 dp) ∧ w'.cell? ⟨lb, lo + i * 2 + 1, none⟩ = some (.int .u8 db)) w5 := HMK.out _ HB5.out
        have HXn : Hid (boxB w5 nb [0, 0, 0, 0, 0, 0, 0, 0]) := Lib.hid (blk_below HXe.out hB (Array.getElem?_eq_some_iff.1 HXe.out).1)
        refine hK _ _ (fun _ => HS) ?_
        clear hK K hB hres hlen HXe
        have HRt := HR5
        have HBt := HB5
        clear HR5 HB5
        refine any_take 22 rfl (by kernel_rfl) (fun _ _ d _ _ h => by cases d <;> exact h) (by kernel_rfl) HS (fun w9 h9 => by obtain ⟨s0, s1, s2, s3, s4, s5, s6, s7, s8, s9⟩ := h9; go_simp; first | done | rfl) (fun K hK => ?_); go_simp; refine hK _ ?_; clear hK K
        refine any_take 23 rfl (by kernel_rfl) (fun _ _ d _ _ h => by cases d <;> exact h) (by kernel_rfl) HS (fun w9 h9 => by obtain ⟨s0, s1, s2, s3, s4, s5, s6, s7, s8, s9⟩ := h9; go_simp; first | done | rfl) (fun K hK => ?_); go_simp; refine hK _ ?_; clear hK K
        refine any_take 24 rfl (by kernel_rfl) (fun _ _ d _ _ h => by cases d <;> exact h) (by kernel_rfl) HS (fun w9 h9 => by obtain ⟨s0, s1, s2, s3, s4, s5, s6, s7, s8, s9⟩ := h9; go_simp; first | done | rfl) (fun K hK => ?_); go_simp; refine hK _ ?_; clear hK K
        refine any_take 25 rfl (by kernel_rfl) (fun _ _ d _ _ h => by cases d <;> exact h) (by kernel_rfl) HS (fun w9 h9 => by obtain ⟨s0, s1, s2, s3, s4, s5, s6, s7, s8, s9⟩ := h9; go_simp; first | done | rfl) (fun K hK => ?_); go_simp; refine hK _ ?_; clear hK K
        refine any_take 26 rfl (by kernel_rfl) (fun _ _ d _ _ h => by cases d <;> exact h) (by kernel_rfl) HS (fun w9 h9 => by obtain ⟨s0, s1, s2, s3, s4, s5, s6, s7, s8, s9⟩ := h9; go_simp; first | done | rfl) (fun K hK => ?_); go_simp; refine hK _ ?_; clear hK K
        refine any_take 28 rfl (by kernel_rfl) (fun _ _ d _ _ h => by cases d <;> exact h) (by kernel_rfl) HS (fun w9 h9 => by obtain ⟨s0, s1, s2, s3, s4, s5, s6, s7, s8, s9⟩ := h9; go_simp; first | done | rfl) (fun K hK => ?_); go_simp; refine hK _ ?_; clear hK K
        have hx1 : w5.heap[nb]? = some (.cells #[.int .i64 0, .int .i64 0, .int .i64 0, .int .i64 0, .int .i64 0, .int .i64 0, .int .i64 0, .int .i64 0] 36 (0, 0)) := HXn.out
        have f1 := blk_free hx1
        obtain ⟨e0, e1, e2, e3, e4, e5, e6, e7⟩ := big8 hx1
        have HFn := Lib.hid (set8_fr w5 nb (.int .i64 z0) (.int .i64 z1) (.int .i64 z2) (.int .i64 z3) (.int .i64 z4) (.int .i64 z5) (.int .i64 z6) (.int .i64 z7))
        have HXm := Lib.hid (set8 hx1 (.int .i64 z0) (.int .i64 z1) (.int .i64 z2) (.int .i64 z3) (.int .i64 z4) (.int .i64 z5) (.int .i64 z6) (.int .i64 z7))
        refine any_one 29 rfl (by kernel_rfl) (by kernel_rfl) (fun K hK => ?_)
        go_simp
        have HBm : Hid (Below W0.heap.size W0 ((((((((w5.setCell ⟨nb, 0, none⟩ (.int .i64 z0)).setCell ⟨nb, 1, none⟩ (.int .i64 z1)).setCell ⟨nb, 2, none⟩ (.int .i64 z2)).setCell ⟨nb, 3, none⟩ (.int .i64 z3)).setCell ⟨nb, 4, none⟩ (.int .i64 z4)).setCell ⟨nb, 5, none⟩ (.int .i64 z5)).setCell ⟨nb, 6, none⟩ (.int .i64 z6)).setCell ⟨nb, 7, none⟩ (.int .i64 z7))) := Lib.hid (HBt.out.trans (HFn.out.below (B := W0.heap.size) HBt.out.size (fun q hq => by have := hnb; omega)))
        have HS : At (fun w' : World => w'.cell? ⟨gb, 0, none⟩ = some (.int .i64 a0) ∧ w'.cell? ⟨gb, 1, none⟩ = some (.int .i64 a1) ∧ w'.cell? ⟨gb, 2, none⟩ = some (.int .i64 a2) ∧ w'.cell? ⟨gb, 3, none⟩ = some (.int .i64 a3) ∧ w'.cell? ⟨gb, 4, none⟩ = some (.int .i64 a4) ∧ w'.cell? ⟨gb, 5, none⟩ = some (.int .i64 a5) ∧ w'.cell? ⟨gb, 6, none⟩ = some (.int .i64 a6) ∧ w'.cell? ⟨gb, 7, none⟩ = some (.int .i64 a7) ∧ w'.cell? ⟨lb, lo + i * 2, none⟩ = some (.int .u16 dp) ∧ w'.cell? ⟨lb, lo + i * 2 + 1, none⟩ = some (.int .u8 db)) ((((((((w5.setCell ⟨nb, 0, none⟩ (.int .i64 z0)).setCell ⟨nb, 1, none⟩ (.int .i64 z1)).setCell ⟨nb, 2, none⟩ (.int .i64 z2)).setCell ⟨nb, 3, none⟩ (.int .i64 z3)).setCell ⟨nb, 4, none⟩ (.int .i64 z4)).setCell ⟨nb, 5, none⟩ (.int .i64 z5)).setCell ⟨nb, 6, none⟩ (.int .i64 z6)).setCell ⟨nb, 7, none⟩ (.int .i64 z7)) := HMK.out _ HBm.out
        have HRm : Hid (er = 0 → no = 60 ∧ us ≤ 2 ∧ ∃ D', Mk D' [z0, z1, z2, z3, z4, z5, z6, z7] ∧ Bp ((((((((w5.setCell ⟨nb, 0, none⟩ (.int .i64 z0)).setCell ⟨nb, 1, none⟩ (.int .i64 z1)).setCell ⟨nb, 2, none⟩ (.int .i64 z2)).setCell ⟨nb, 3, none⟩ (.int .i64 z3)).setCell ⟨nb, 4, none⟩ (.int .i64 z4)).setCell ⟨nb, 5, none⟩ (.int .i64 z5)).setCell ⟨nb, 6, none⟩ (.int .i64 z6)).setCell ⟨nb, 7, none⟩ (.int .i64 z7)) Ao 60 co D') := Lib.hid (fun h => by obtain ⟨r1, r2, D', r3, r4⟩ := HRt.out h; exact ⟨r1, r2, D', r3, r4.farI HFn.out (fun q hq => by obtain rfl := hq; exact box_ints HXn.out)⟩)
        generalize ((((((((w5.setCell ⟨nb, 0, none⟩ (.int .i64 z0)).setCell ⟨nb, 1, none⟩ (.int .i64 z1)).setCell ⟨nb, 2, none⟩ (.int .i64 z2)).setCell ⟨nb, 3, none⟩ (.int .i64 z3)).setCell ⟨nb, 4, none⟩ (.int .i64 z4)).setCell ⟨nb, 5, none⟩ (.int .i64 z5)).setCell ⟨nb, 6, none⟩ (.int .i64 z6)).setCell ⟨nb, 7, none⟩ (.int .i64 z7)) = Wm at *
        refine hK _ _ (fun _ => HS) ?_
        clear hK K f1 e0 e1 e2 e3 e4 e5 e6 e7 hx1 HFn HXn HRt HBt
        refine any_take 30 rfl (by kernel_rfl) (fun _ _ d _ _ h => by cases d <;> exact h) (by kernel_rfl) HS (fun w9 h9 => by obtain ⟨s0, s1, s2, s3, s4, s5, s6, s7, s8, s9⟩ := h9; go_simp; first | done | rfl) (fun K hK => ?_); go_simp; refine hK _ ?_; clear hK K
        refine any_take 31 rfl (by kernel_rfl) (fun _ _ d _ _ h => by cases d <;> exact h) (by kernel_rfl) HS (fun w9 h9 => by obtain ⟨s0, s1, s2, s3, s4, s5, s6, s7, s8, s9⟩ := h9; go_simp; first | done | rfl) (fun K hK => ?_); go_simp; refine hK _ ?_; clear hK K
        refine any_end (by kernel_rfl) ?_
        clear HS HPUT HMK
        have HXw : Hid (boxB Wm gb [a0, a1, a2, a3, a4, a5, a6, a7]) := Lib.hid (blk_below HX.out HBm.out (Array.getElem?_eq_some_iff.1 HX.out).1)
        have HZw : Hid (boxB Wm rb [0, 0, 0, 0, 0, 0, 0, 0]) := Lib.hid (blk_below HZ.out HBm.out (Array.getElem?_eq_some_iff.1 HZ.out).1)
        have HBw := Lib.hid (below_then HB.out HBm.out)
        have hgl : gb < W0.heap.size := (Array.getElem?_eq_some_iff.1 HX.out).1
        by_cases her : er = 0
        · obtain ⟨r1, hus, D', hM', hBp⟩ := HRm.out her
          subst her
          subst r1
          have HM' := Lib.hid hM'
          have HBd' := Lib.hid (hBp.below (Sel.below_drewN Wm 1))
          clear hM' hBp HRm
          go_upto_region 9 with (fail)
          have hxm : Wm.drew.heap[nb]? = some (.cells #[.int .i64 z0, .int .i64 z1, .int .i64 z2, .int .i64 z3, .int .i64 z4, .int .i64 z5, .int .i64 z6, .int .i64 z7] 36 (0, 0)) := HXm.out
          have hxw : Wm.drew.heap[gb]? = some (.cells #[.int .i64 a0, .int .i64 a1, .int .i64 a2, .int .i64 a3, .int .i64 a4, .int .i64 a5, .int .i64 a6, .int .i64 a7] 36 (0, 0)) := HXw.out
          have HZd : Hid (boxB Wm.drew rb [0, 0, 0, 0, 0, 0, 0, 0]) := Lib.hid HZw.out
          have HBwd : Hid (Below w.heap.size w Wm.drew) := Lib.hid HBw.out.drew
          change Hid (Bp Wm.drew Ao 60 co D') at HBd'
          have HS : At (fun w' : World => w'.cell? ⟨nb, 0, none⟩ = some (.int .i64 z0) ∧ w'.cell? ⟨nb, 1, none⟩ = some (.int .i64 z1) ∧ w'.cell? ⟨nb, 2, none⟩ = some (.int .i64 z2) ∧ w'.cell? ⟨nb, 3, none⟩ = some (.int .i64 z3) ∧ w'.cell? ⟨nb, 4, none⟩ = some (.int .i64 z4) ∧ w'.cell? ⟨nb, 5, none⟩ = some (.int .i64 z5) ∧ w'.cell? ⟨nb, 6, none⟩ = some (.int .i64 z6) ∧ w'.cell? ⟨nb, 7, none⟩ = some (.int .i64 z7)) Wm.drew := big8 hxm
          have f1 := blk_free hxw
          obtain ⟨e0, e1, e2, e3, e4, e5, e6, e7⟩ := big8 hxw
          have HXwd : Hid (boxB Wm.drew gb [a0, a1, a2, a3, a4, a5, a6, a7]) := Lib.hid hxw
          have HFn := Lib.hid (set8_fr Wm.drew gb (.int .i64 z0) (.int .i64 z1) (.int .i64 z2) (.int .i64 z3) (.int .i64 z4) (.int .i64 z5) (.int .i64 z6) (.int .i64 z7))
          have HXn := Lib.hid (set8 hxw (.int .i64 z0) (.int .i64 z1) (.int .i64 z2) (.int .i64 z3) (.int .i64 z4) (.int .i64 z5) (.int .i64 z6) (.int .i64 z7))
          clear hxm hxw HXm HXw HZw HBw HBm
          refine wp_region_lexD HS [0, 1, 2] (by kernel_rfl) (by kernel_rfl) (fun _ _ d _ _ h => by cases d <;> exact h) ?_
          generalize Wm.drew = Wd at *
          refine lexD_take (by kernel_rfl) (by kernel_rfl) HS (fun w9 h9 => by obtain ⟨s0, s1, s2, s3, s4, s5, s6, s7⟩ := h9; go_simp; first | done | rfl) (fun K hK => ?_); go_simp; refine hK _ ?_; clear hK K
          refine lexD_take (by kernel_rfl) (by kernel_rfl) HS (fun w9 h9 => by obtain ⟨s0, s1, s2, s3, s4, s5, s6, s7⟩ := h9; go_simp; first | done | rfl) (fun K hK => ?_); go_simp; refine hK _ ?_; clear hK K
          refine lexD_take (by kernel_rfl) (by kernel_rfl) HS (fun w9 h9 => by obtain ⟨s0, s1, s2, s3, s4, s5, s6, s7⟩ := h9; go_simp; first | done | rfl) (fun K hK => ?_); go_simp; refine hK _ ?_; clear hK K
          refine lexD_late (by kernel_rfl) (by kernel_rfl) (fun K hK => ?_)
          go_simp
          refine hK _ _ ?_
          clear hK K HS f1 e0 e1 e2 e3 e4 e5 e6 e7
          refine lexD_nil ?_
          have HBf : Hid (Bp ((((((((Wd.setCell ⟨gb, 0, none⟩ (.int .i64 z0)).setCell ⟨gb, 1, none⟩ (.int .i64 z1)).setCell ⟨gb, 2, none⟩ (.int .i64 z2)).setCell ⟨gb, 3, none⟩ (.int .i64 z3)).setCell ⟨gb, 4, none⟩ (.int .i64 z4)).setCell ⟨gb, 5, none⟩ (.int .i64 z5)).setCell ⟨gb, 6, none⟩ (.int .i64 z6)).setCell ⟨gb, 7, none⟩ (.int .i64 z7)) Ao 60 co D') := Lib.hid (HBd'.out.farI HFn.out (fun q hq => by obtain rfl := hq; exact box_ints HXwd.out))
          have HZf : Hid (boxB ((((((((Wd.setCell ⟨gb, 0, none⟩ (.int .i64 z0)).setCell ⟨gb, 1, none⟩ (.int .i64 z1)).setCell ⟨gb, 2, none⟩ (.int .i64 z2)).setCell ⟨gb, 3, none⟩ (.int .i64 z3)).setCell ⟨gb, 4, none⟩ (.int .i64 z4)).setCell ⟨gb, 5, none⟩ (.int .i64 z5)).setCell ⟨gb, 6, none⟩ (.int .i64 z6)).setCell ⟨gb, 7, none⟩ (.int .i64 z7)) rb [0, 0, 0, 0, 0, 0, 0, 0]) := Lib.hid ((HFn.out.block rb (Array.getElem?_eq_some_iff.1 HZd.out).1 (by omega)).trans HZd.out)
          have HBg : Hid (Below w.heap.size w ((((((((Wd.setCell ⟨gb, 0, none⟩ (.int .i64 z0)).setCell ⟨gb, 1, none⟩ (.int .i64 z1)).setCell ⟨gb, 2, none⟩ (.int .i64 z2)).setCell ⟨gb, 3, none⟩ (.int .i64 z3)).setCell ⟨gb, 4, none⟩ (.int .i64 z4)).setCell ⟨gb, 5, none⟩ (.int .i64 z5)).setCell ⟨gb, 6, none⟩ (.int .i64 z6)).setCell ⟨gb, 7, none⟩ (.int .i64 z7))) := Lib.hid (HBwd.out.trans (HFn.out.below (B := w.heap.size) HBwd.out.size (fun q hq => by have := HRB.out; omega)))
          generalize ((((((((Wd.setCell ⟨gb, 0, none⟩ (.int .i64 z0)).setCell ⟨gb, 1, none⟩ (.int .i64 z1)).setCell ⟨gb, 2, none⟩ (.int .i64 z2)).setCell ⟨gb, 3, none⟩ (.int .i64 z3)).setCell ⟨gb, 4, none⟩ (.int .i64 z4)).setCell ⟨gb, 5, none⟩ (.int .i64 z5)).setCell ⟨gb, 6, none⟩ (.int .i64 z6)).setCell ⟨gb, 7, none⟩ (.int .i64 z7)) = We at *
          go_wp2
          go_roundw
          case rel => exact ⟨i + 1, nx - us, co, Ao, D', [z0, z1, z2, z3, z4, z5, z6, z7], by omega, by omega, by omega, by go_num, by go_num, rfl, HM', HBf, HXn, HZf, HBg⟩
          case measure => simp [Go.RowKit.intOf] <;> omega
        · have hbe : (er == 0) = false := by simpa using her
          have HDw := Lib.hid (HD.out.below HBm.out)
          go_wp2
          go_roundw
          case rel => exact ⟨i + 1, nx, c4, A4, D, [a0, a1, a2, a3, a4, a5, a6, a7], by omega, by omega, by omega, by go_num, rfl, rfl, HM, HDw, HXw, HZw, HBw⟩
          case measure => simp [Go.RowKit.intOf] <;> omega
    · obtain ⟨a0, a1, a2, a3, a4, a5, a6, a7, ht8⟩ := len8 HM.out.len
      subst ht8
      have HDd := Lib.hid (HD.out.below (Sel.below_drewN wr 1))
      change Hid (Bp wr.drew _ _ _ _) at HDd
      have hxw : wr.drew.heap[gb]? = some (.cells #[.int .i64 a0, .int .i64 a1, .int .i64 a2, .int .i64 a3, .int .i64 a4, .int .i64 a5, .int .i64 a6, .int .i64 a7] 36 (0, 0)) := HX.out
      have hzw : wr.drew.heap[rb]? = some (.cells #[.int .i64 0, .int .i64 0, .int .i64 0, .int .i64 0, .int .i64 0, .int .i64 0, .int .i64 0, .int .i64 0] 36 (0, 0)) := HZ.out
      have HBd : Hid (Below w.heap.size w wr.drew) := Lib.hid HB.out.drew
      by_cases h1 : i < n
      · by_cases h2 : i < 20
        · have h3 : ¬ 32 < nx := fun h => hgo ⟨h1, h2, h⟩
          go_upto_region 11 with (fail)
          have HS : At (fun w' : World => w'.cell? ⟨gb, 0, none⟩ = some (.int .i64 a0) ∧ w'.cell? ⟨gb, 1, none⟩ = some (.int .i64 a1) ∧ w'.cell? ⟨gb, 2, none⟩ = some (.int .i64 a2) ∧ w'.cell? ⟨gb, 3, none⟩ = some (.int .i64 a3) ∧ w'.cell? ⟨gb, 4, none⟩ = some (.int .i64 a4) ∧ w'.cell? ⟨gb, 5, none⟩ = some (.int .i64 a5) ∧ w'.cell? ⟨gb, 6, none⟩ = some (.int .i64 a6) ∧ w'.cell? ⟨gb, 7, none⟩ = some (.int .i64 a7)) wr.drew := big8 hxw
          have f1 := blk_free hzw
          obtain ⟨e0, e1, e2, e3, e4, e5, e6, e7⟩ := big8 hzw
          have HZd : Hid (boxB wr.drew rb [0, 0, 0, 0, 0, 0, 0, 0]) := Lib.hid hzw
          have HFn := Lib.hid (set8_fr wr.drew rb (.int .i64 a0) (.int .i64 a1) (.int .i64 a2) (.int .i64 a3) (.int .i64 a4) (.int .i64 a5) (.int .i64 a6) (.int .i64 a7))
          have HXn := Lib.hid (set8 hzw (.int .i64 a0) (.int .i64 a1) (.int .i64 a2) (.int .i64 a3) (.int .i64 a4) (.int .i64 a5) (.int .i64 a6) (.int .i64 a7))
          clear hxw hzw
          refine wp_region_lexD HS [0, 1, 2] (by kernel_rfl) (by kernel_rfl) (fun _ _ d _ _ h => by cases d <;> exact h) ?_
          generalize wr.drew = Wd at *
          refine lexD_take (by kernel_rfl) (by kernel_rfl) HS (fun w9 h9 => by obtain ⟨s0, s1, s2, s3, s4, s5, s6, s7⟩ := h9; go_simp; first | done | rfl) (fun K hK => ?_); go_simp; refine hK _ ?_; clear hK K
          refine lexD_take (by kernel_rfl) (by kernel_rfl) HS (fun w9 h9 => by obtain ⟨s0, s1, s2, s3, s4, s5, s6, s7⟩ := h9; go_simp; first | done | rfl) (fun K hK => ?_); go_simp; refine hK _ ?_; clear hK K
          refine lexD_take (by kernel_rfl) (by kernel_rfl) HS (fun w9 h9 => by obtain ⟨s0, s1, s2, s3, s4, s5, s6, s7⟩ := h9; go_simp; first | done | rfl) (fun K hK => ?_); go_simp; refine hK _ ?_; clear hK K
          refine lexD_late (by kernel_rfl) (by kernel_rfl) (fun K hK => ?_)
          go_simp
          refine hK _ _ ?_
          clear hK K HS f1 e0 e1 e2 e3 e4 e5 e6 e7
          refine lexD_nil ?_
          have HBf : Hid (Bp ((((((((Wd.setCell ⟨rb, 0, none⟩ (.int .i64 a0)).setCell ⟨rb, 1, none⟩ (.int .i64 a1)).setCell ⟨rb, 2, none⟩ (.int .i64 a2)).setCell ⟨rb, 3, none⟩ (.int .i64 a3)).setCell ⟨rb, 4, none⟩ (.int .i64 a4)).setCell ⟨rb, 5, none⟩ (.int .i64 a5)).setCell ⟨rb, 6, none⟩ (.int .i64 a6)).setCell ⟨rb, 7, none⟩ (.int .i64 a7)) A4 60 c4 D) := Lib.hid (HDd.out.farI HFn.out (fun q hq => by obtain rfl := hq; exact box_ints HZd.out))
          have HBg : Hid (Below w.heap.size w ((((((((Wd.setCell ⟨rb, 0, none⟩ (.int .i64 a0)).setCell ⟨rb, 1, none⟩ (.int .i64 a1)).setCell ⟨rb, 2, none⟩ (.int .i64 a2)).setCell ⟨rb, 3, none⟩ (.int .i64 a3)).setCell ⟨rb, 4, none⟩ (.int .i64 a4)).setCell ⟨rb, 5, none⟩ (.int .i64 a5)).setCell ⟨rb, 6, none⟩ (.int .i64 a6)).setCell ⟨rb, 7, none⟩ (.int .i64 a7))) := Lib.hid (HBd.out.trans (HFn.out.below (B := w.heap.size) HBd.out.size (fun q hq => by have := HRB.out; omega)))
          generalize ((((((((Wd.setCell ⟨rb, 0, none⟩ (.int .i64 a0)).setCell ⟨rb, 1, none⟩ (.int .i64 a1)).setCell ⟨rb, 2, none⟩ (.int .i64 a2)).setCell ⟨rb, 3, none⟩ (.int .i64 a3)).setCell ⟨rb, 4, none⟩ (.int .i64 a4)).setCell ⟨rb, 5, none⟩ (.int .i64 a5)).setCell ⟨rb, 6, none⟩ (.int .i64 a6)).setCell ⟨rb, 7, none⟩ (.int .i64 a7)) = We at *
          go_wp2
          obtain ⟨s0, s1, s2, s3, s4, s5, s6, s7⟩ := big8 HXn.out
          refine bodyPost_ret (v := .tuple #[.slice A4 60 c4, .agg #[.int .i64 a0, .int .i64 a1, .int .i64 a2, .int .i64 a3, .int .i64 a4, .int .i64 a5, .int .i64 a6, .int .i64 a7]]) ?_ rfl ?_
          · simp [results, Try.results12, go_sem, s0, s1, s2, s3, s4, s5, s6, s7]
          · exact ⟨⟨A4, c4, D, _, rfl, HM.out, HBf.out⟩, HBg.out⟩
        · go_upto_region 11 with (fail)
          have HS : At (fun w' : World => w'.cell? ⟨gb, 0, none⟩ = some (.int .i64 a0) ∧ w'.cell? ⟨gb, 1, none⟩ = some (.int .i64 a1) ∧ w'.cell? ⟨gb, 2, none⟩ = some (.int .i64 a2) ∧ w'.cell? ⟨gb, 3, none⟩ = some (.int .i64 a3) ∧ w'.cell? ⟨gb, 4, none⟩ = some (.int .i64 a4) ∧ w'.cell? ⟨gb, 5, none⟩ = some (.int .i64 a5) ∧ w'.cell? ⟨gb, 6, none⟩ = some (.int .i64 a6) ∧ w'.cell? ⟨gb, 7, none⟩ = some (.int .i64 a7)) wr.drew := big8 hxw
          have f1 := blk_free hzw
          obtain ⟨e0, e1, e2, e3, e4, e5, e6, e7⟩ := big8 hzw
          have HZd : Hid (boxB wr.drew rb [0, 0, 0, 0, 0, 0, 0, 0]) := Lib.hid hzw
          have HFn := Lib.hid (set8_fr wr.drew rb (.int .i64 a0) (.int .i64 a1) (.int .i64 a2) (.int .i64 a3) (.int .i64 a4) (.int .i64 a5) (.int .i64 a6) (.int .i64 a7))
          have HXn := Lib.hid (set8 hzw (.int .i64 a0) (.int .i64 a1) (.int .i64 a2) (.int .i64 a3) (.int .i64 a4) (.int .i64 a5) (.int .i64 a6) (.int .i64 a7))
          clear hxw hzw
          refine wp_region_lexD HS [0, 1, 2] (by kernel_rfl) (by kernel_rfl) (fun _ _ d _ _ h => by cases d <;> exact h) ?_
          generalize wr.drew = Wd at *
          refine lexD_take (by kernel_rfl) (by kernel_rfl) HS (fun w9 h9 => by obtain ⟨s0, s1, s2, s3, s4, s5, s6, s7⟩ := h9; go_simp; first | done | rfl) (fun K hK => ?_); go_simp; refine hK _ ?_; clear hK K
          refine lexD_take (by kernel_rfl) (by kernel_rfl) HS (fun w9 h9 => by obtain ⟨s0, s1, s2, s3, s4, s5, s6, s7⟩ := h9; go_simp; first | done | rfl) (fun K hK => ?_); go_simp; refine hK _ ?_; clear hK K
          refine lexD_take (by kernel_rfl) (by kernel_rfl) HS (fun w9 h9 => by obtain ⟨s0, s1, s2, s3, s4, s5, s6, s7⟩ := h9; go_simp; first | done | rfl) (fun K hK => ?_); go_simp; refine hK _ ?_; clear hK K
          refine lexD_late (by kernel_rfl) (by kernel_rfl) (fun K hK => ?_)
          go_simp
          refine hK _ _ ?_
          clear hK K HS f1 e0 e1 e2 e3 e4 e5 e6 e7
          refine lexD_nil ?_
          have HBf : Hid (Bp ((((((((Wd.setCell ⟨rb, 0, none⟩ (.int .i64 a0)).setCell ⟨rb, 1, none⟩ (.int .i64 a1)).setCell ⟨rb, 2, none⟩ (.int .i64 a2)).setCell ⟨rb, 3, none⟩ (.int .i64 a3)).setCell ⟨rb, 4, none⟩ (.int .i64 a4)).setCell ⟨rb, 5, none⟩ (.int .i64 a5)).setCell ⟨rb, 6, none⟩ (.int .i64 a6)).setCell ⟨rb, 7, none⟩ (.int .i64 a7)) A4 60 c4 D) := Lib.hid (HDd.out.farI HFn.out (fun q hq => by obtain rfl := hq; exact box_ints HZd.out))
          have HBg : Hid (Below w.heap.size w ((((((((Wd.setCell ⟨rb, 0, none⟩ (.int .i64 a0)).setCell ⟨rb, 1, none⟩ (.int .i64 a1)).setCell ⟨rb, 2, none⟩ (.int .i64 a2)).setCell ⟨rb, 3, none⟩ (.int .i64 a3)).setCell ⟨rb, 4, none⟩ (.int .i64 a4)).setCell ⟨rb, 5, none⟩ (.int .i64 a5)).setCell ⟨rb, 6, none⟩ (.int .i64 a6)).setCell ⟨rb, 7, none⟩ (.int .i64 a7))) := Lib.hid (HBd.out.trans (HFn.out.below (B := w.heap.size) HBd.out.size (fun q hq => by have := HRB.out; omega)))
          generalize ((((((((Wd.setCell ⟨rb, 0, none⟩ (.int .i64 a0)).setCell ⟨rb, 1, none⟩ (.int .i64 a1)).setCell ⟨rb, 2, none⟩ (.int .i64 a2)).setCell ⟨rb, 3, none⟩ (.int .i64 a3)).setCell ⟨rb, 4, none⟩ (.int .i64 a4)).setCell ⟨rb, 5, none⟩ (.int .i64 a5)).setCell ⟨rb, 6, none⟩ (.int .i64 a6)).setCell ⟨rb, 7, none⟩ (.int .i64 a7)) = We at *
          go_wp2
          obtain ⟨s0, s1, s2, s3, s4, s5, s6, s7⟩ := big8 HXn.out
          refine bodyPost_ret (v := .tuple #[.slice A4 60 c4, .agg #[.int .i64 a0, .int .i64 a1, .int .i64 a2, .int .i64 a3, .int .i64 a4, .int .i64 a5, .int .i64 a6, .int .i64 a7]]) ?_ rfl ?_
          · simp [results, Try.results12, go_sem, s0, s1, s2, s3, s4, s5, s6, s7]
          · exact ⟨⟨A4, c4, D, _, rfl, HM.out, HBf.out⟩, HBg.out⟩
      · go_upto_region 11 with (fail)
        have HS : At (fun w' : World => w'.cell? ⟨gb, 0, none⟩ = some (.int .i64 a0) ∧ w'.cell? ⟨gb, 1, none⟩ = some (.int .i64 a1) ∧ w'.cell? ⟨gb, 2, none⟩ = some (.int .i64 a2) ∧ w'.cell? ⟨gb, 3, none⟩ = some (.int .i64 a3) ∧ w'.cell? ⟨gb, 4, none⟩ = some (.int .i64 a4) ∧ w'.cell? ⟨gb, 5, none⟩ = some (.int .i64 a5) ∧ w'.cell? ⟨gb, 6, none⟩ = some (.int .i64 a6) ∧ w'.cell? ⟨gb, 7, none⟩ = some (.int .i64 a7)) wr.drew := big8 hxw
        have f1 := blk_free hzw
        obtain ⟨e0, e1, e2, e3, e4, e5, e6, e7⟩ := big8 hzw
        have HZd : Hid (boxB wr.drew rb [0, 0, 0, 0, 0, 0, 0, 0]) := Lib.hid hzw
        have HFn := Lib.hid (set8_fr wr.drew rb (.int .i64 a0) (.int .i64 a1) (.int .i64 a2) (.int .i64 a3) (.int .i64 a4) (.int .i64 a5) (.int .i64 a6) (.int .i64 a7))
        have HXn := Lib.hid (set8 hzw (.int .i64 a0) (.int .i64 a1) (.int .i64 a2) (.int .i64 a3) (.int .i64 a4) (.int .i64 a5) (.int .i64 a6) (.int .i64 a7))
        clear hxw hzw
        refine wp_region_lexD HS [0, 1, 2] (by kernel_rfl) (by kernel_rfl) (fun _ _ d _ _ h => by cases d <;> exact h) ?_
        generalize wr.drew = Wd at *
        refine lexD_take (by kernel_rfl) (by kernel_rfl) HS (fun w9 h9 => by obtain ⟨s0, s1, s2, s3, s4, s5, s6, s7⟩ := h9; go_simp; first | done | rfl) (fun K hK => ?_); go_simp; refine hK _ ?_; clear hK K
        refine lexD_take (by kernel_rfl) (by kernel_rfl) HS (fun w9 h9 => by obtain ⟨s0, s1, s2, s3, s4, s5, s6, s7⟩ := h9; go_simp; first | done | rfl) (fun K hK => ?_); go_simp; refine hK _ ?_; clear hK K
        refine lexD_take (by kernel_rfl) (by kernel_rfl) HS (fun w9 h9 => by obtain ⟨s0, s1, s2, s3, s4, s5, s6, s7⟩ := h9; go_simp; first | done | rfl) (fun K hK => ?_); go_simp; refine hK _ ?_; clear hK K
        refine lexD_late (by kernel_rfl) (by kernel_rfl) (fun K hK => ?_)
        go_simp
        refine hK _ _ ?_
        clear hK K HS f1 e0 e1 e2 e3 e4 e5 e6 e7
        refine lexD_nil ?_
        have HBf : Hid (Bp ((((((((Wd.setCell ⟨rb, 0, none⟩ (.int .i64 a0)).setCell ⟨rb, 1, none⟩ (.int .i64 a1)).setCell ⟨rb, 2, none⟩ (.int .i64 a2)).setCell ⟨rb, 3, none⟩ (.int .i64 a3)).setCell ⟨rb, 4, none⟩ (.int .i64 a4)).setCell ⟨rb, 5, none⟩ (.int .i64 a5)).setCell ⟨rb, 6, none⟩ (.int .i64 a6)).setCell ⟨rb, 7, none⟩ (.int .i64 a7)) A4 60 c4 D) := Lib.hid (HDd.out.farI HFn.out (fun q hq => by obtain rfl := hq; exact box_ints HZd.out))
        have HBg : Hid (Below w.heap.size w ((((((((Wd.setCell ⟨rb, 0, none⟩ (.int .i64 a0)).setCell ⟨rb, 1, none⟩ (.int .i64 a1)).setCell ⟨rb, 2, none⟩ (.int .i64 a2)).setCell ⟨rb, 3, none⟩ (.int .i64 a3)).setCell ⟨rb, 4, none⟩ (.int .i64 a4)).setCell ⟨rb, 5, none⟩ (.int .i64 a5)).setCell ⟨rb, 6, none⟩ (.int .i64 a6)).setCell ⟨rb, 7, none⟩ (.int .i64 a7))) := Lib.hid (HBd.out.trans (HFn.out.below (B := w.heap.size) HBd.out.size (fun q hq => by have := HRB.out; omega)))
        generalize ((((((((Wd.setCell ⟨rb, 0, none⟩ (.int .i64 a0)).setCell ⟨rb, 1, none⟩ (.int .i64 a1)).setCell ⟨rb, 2, none⟩ (.int .i64 a2)).setCell ⟨rb, 3, none⟩ (.int .i64 a3)).setCell ⟨rb, 4, none⟩ (.int .i64 a4)).setCell ⟨rb, 5, none⟩ (.int .i64 a5)).setCell ⟨rb, 6, none⟩ (.int .i64 a6)).setCell ⟨rb, 7, none⟩ (.int .i64 a7)) = We at *
        go_wp2
        obtain ⟨s0, s1, s2, s3, s4, s5, s6, s7⟩ := big8 HXn.out
        refine bodyPost_ret (v := .tuple #[.slice A4 60 c4, .agg #[.int .i64 a0, .int .i64 a1, .int .i64 a2, .int .i64 a3, .int .i64 a4, .int .i64 a5, .int .i64 a6, .int .i64 a7]]) ?_ rfl ?_
        · simp [results, Try.results12, go_sem, s0, s1, s2, s3, s4, s5, s6, s7]
        · exact ⟨⟨A4, c4, D, _, rfl, HM.out, HBf.out⟩, HBg.out⟩
end Go.Proofs.Ytcgfoaihfncppaa
