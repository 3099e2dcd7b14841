/- Six ints are the same as themselves. -/
import Derived.Test.YtcgfoaihfncppaaKBgCe
import Derived.ChangeKeysEq
import Derived.Test.YtcgfoaihfncppaaKBgTg
set_option linter.unusedSimpArgs false
set_option linter.unusedVariables false
namespace Go.Proofs.Ytcgfoaihfncppaa
open Go.RowKit Go.Sel Go.Sel.Gra Go.Sel.Bg Go.Sel.Mer Go.Shelf

set_option maxRecDepth 100000 in
theorem eq6_same (x0 x1 x2 x3 x4 x5 : Int) (W : World) : (Op.equalIn 9999 34 (.agg #[.int .i64 x0, .int .i64 x1, .int .i64 x2, .int .i64 x3, .int .i64 x4, .int .i64 x5]) (.agg #[.int .i64 x0, .int .i64 x1, .int .i64 x2, .int .i64 x3, .int .i64 x4, .int .i64 x5])).run Try.prog W = .ok true W := by
  obtain ⟨i, hi⟩ : ∃ i, Try.prog.info? 3 = some i := ⟨_, rfl⟩
  have hc : Try.prog.cellsOf 3 = 1 := by kernel_rfl
  have hp : ∀ j (h : j < 6), ∀ W, (part 3 #[.int .i64 x0, .int .i64 x1, .int .i64 x2, .int .i64 x3, .int .i64 x4, .int .i64 x5] j).run Try.prog W = .ok (#[Value.int .i64 x0, .int .i64 x1, .int .i64 x2, .int .i64 x3, .int .i64 x4, .int .i64 x5][j]'(by simpa using h)) W := fun j h W => by
    have : j = 0 ∨ j = 1 ∨ j = 2 ∨ j = 3 ∨ j = 4 ∨ j = 5 := by omega
    rcases this with rfl | rfl | rfl | rfl | rfl | rfl <;> rfl
  have he : ∀ (d : Nat) (a : Int) W, (Op.equalIn (d + 1) 3 (.int .i64 a) (.int .i64 a)).run Try.prog W = .ok true W := fun d a W => by
    simp [Op.equalIn, run_underlying Try.underlying3]
  have r6 : List.range 6 = [0, 1, 2, 3, 4, 5] := rfl
  have := run_equalIn_array (P := Try.prog) (w := W) 9998 (t := 34) #[.int .i64 x0, .int .i64 x1, .int .i64 x2, .int .i64 x3, .int .i64 x4, .int .i64 x5] #[.int .i64 x0, .int .i64 x1, .int .i64 x2, .int .i64 x3, .int .i64 x4, .int .i64 x5] Try.underlying34 hi
  rw [this, r6, hc]
  have h9 : ∀ (a : Int) W, (Op.equalIn 9998 3 (.int .i64 a) (.int .i64 a)).run Try.prog W = .ok true W := fun a W => he 9997 a W
  simp only [Op.eqItems, Sem.run_bind, Nat.mul_one, Nat.zero_mul, Nat.one_mul, hp 0 (by omega), hp 1 (by omega), hp 2 (by omega), hp 3 (by omega), hp 4 (by omega), hp 5 (by omega), Result.andThen_ok, h9, Bool.not_true, Bool.false_eq_true, if_false]
  simp [h9, hp 0 (by omega), hp 1 (by omega), hp 2 (by omega), hp 3 (by omega), hp 4 (by omega), hp 5 (by omega)]
end Go.Proofs.Ytcgfoaihfncppaa
/- Walk of TopGrown. -/
set_option linter.unusedSimpArgs false
set_option linter.unusedVariables false
namespace Go.Proofs.Ytcgfoaihfncppaa
open Go.RowKit Go.Sel Go.Sel.Gra Go.Sel.Bg Go.Sel.Mer Go.Shelf

/-- A box with a file, all of whose numbers are stored anew. -/
theorem set8_fr (w : World) (B : Nat) (v0 v1 v2 v3 v4 v5 v6 v7 : Value) :
    Fr (· = B) w ((((((((w.setCell ⟨B, 0, none⟩ v0).setCell ⟨B, 1, none⟩ v1).setCell ⟨B, 2, none⟩ v2).setCell ⟨B, 3, none⟩ v3).setCell ⟨B, 4, none⟩ v4).setCell ⟨B, 5, none⟩ v5).setCell ⟨B, 6, none⟩ v6).setCell ⟨B, 7, none⟩ v7) :=
  have h : ∀ {W : World} (j : Nat) (v : Value), Fr (· = B) w W → Fr (· = B) w (W.setCell ⟨B, j, none⟩ v) := fun j v h => Fr.setCell (S := (· = B)) h (p := ⟨B, j, none⟩) (.inl rfl) v
  h _ _ (h _ _ (h _ _ (h _ _ (h _ _ (h _ _ (h _ _ (h _ _ (Fr.refl _ w))))))))
theorem box_nob {w : World} {b : Nat} {t : List Int} (h : boxB w b t) : ∀ j x, w.cell? ⟨b, j, none⟩ ≠ some (.int .u8 x) := fun j x hc => by
  rw [blk_cell h] at hc
  have := Array.mem_of_getElem? hc
  simp [iv] at this

theorem below_alloc_then {w w1 w2 : World} (h : Below w.heap.size w w1) (h2 : Below w1.heap.size w1 w2) (o : Obj) : Below w.heap.size w (w2.alloc o) :=
  (below_then h h2).alloc (below_then h h2).size o
theorem bigV8 (a0 a1 a2 a3 a4 a5 a6 a7 : Int) : bigV [a0, a1, a2, a3, a4, a5, a6, a7] = .agg #[.int .i64 a0, .int .i64 a1, .int .i64 a2, .int .i64 a3, .int .i64 a4, .int .i64 a5, .int .i64 a6, .int .i64 a7] := rfl

set_option maxRecDepth 100000 in
set_option maxHeartbeats 4000000 in
theorem law_TopGrown (a b : Int) (w : World) (ha0 : 0 ≤ a) (ha1 : a ≤ 255) (hb0 : 0 ≤ b) (hb1 : b ≤ 65535) : Calls Try.prog 8 #[.int .u8 a, .int .u16 b] w fun e w' => e = .returned (.bool true) ∧ Below w.heap.size w w' := by
  have hmk := mk32
  go_enter Try.func8, Try.ntmps8
  go_wp2
  go_loopw [5] (fun v wr => ∃ (k c : Nat) (A : Option Addr) (bs : List Nat), k ≤ 60 ∧ v = .slice A k c ∧ Hid (wr.ownsRow w.heap.size 45 1 (.slice A k c) k (blk2 bs)) ∧ Hid (bs.length = k) ∧ Hid (∀ b ∈ bs, wr.heap[b]? = some (.cells z32 5 (0, 0))) ∧ Hid (Below w.heap.size w wr)) (fun v _ => match v with | .slice _ k _ => 60 - k | _ => 0)
  case atStart => exact ⟨0, 0, none, [], by omega, rfl, World.ownsRow_nil _ _ _ _, rfl, fun b hb => by simp at hb, Below.refl _ _⟩
  case round =>
    obtain ⟨k, c, A, bs, hk, rfl, HO, HL, HS, HB⟩ := hrel
    by_cases hlt : k < 60
    · have hs := HB.out.size
      go_wp2_with (at_builtin; refine wpList_push (wr.alloc (.cells z32 5)) rfl _ _ 33 45 rfl w.heap.size (.slice none 0 0) 24 Try.underlying33 infoByt rfl (by omega) (.slice A k c) k _ (.slice (some ⟨wr.heap.size, 0, none⟩) 32 32) rfl (by simp [Act.eval]) rfl (HO.out.alloc _) (by simp; omega) (by omega) rfl ?_; intro g cap w1 ho hg hat hlt1)
      have hne : ∀ b : Nat, (wr.alloc (Obj.cells z32 5)).heap[b]? = some (Obj.cells z32 5 (0, 0)) → w1.heap[b]? = some (Obj.cells z32 5 (0, 0)) := fun b hb => (hg.block b (Array.getElem?_eq_some_iff.1 hb).1 (fun e => by
        obtain ⟨cur, hc⟩ := own_block (HO.out.alloc (.cells z32 5)) b e.symm
        rw [hb] at hc; cases hc)).trans hb
      refine ⟨⟨k + 1, cap, some ⟨g, 0, none⟩, bs ++ [wr.heap.size], by omega, rfl, ?_, ?_, fun b hb => ?_, below_grown (HB.out.alloc hs _) hg (by simp; omega) (own_row HO.out)⟩, by simp; omega⟩
      · show World.ownsRow _ _ _ _ _ _ _
        simpa [blk2] using ho
      · show _ = _
        rw [List.length_append, HL.out]; rfl
      · rcases List.mem_append.1 hb with h | h
        · have h1 := HS.out b h
          exact hne b (blk_below h1 (below_al wr _) (Array.getElem?_eq_some_iff.1 h1).1)
        · obtain rfl : b = wr.heap.size := by simpa using h
          exact hne _ (blk11 wr _)
    · obtain rfl : k = 60 := by omega
      obtain ⟨m, hm⟩ : ∃ m : Nat, a % 30 = (m : Int) := ⟨(a % 30).toNat, by omega⟩
      obtain ⟨kk, hkk⟩ : ∃ kk : Nat, b % 1022 = (kk : Int) := ⟨(b % 1022).toNat, by omega⟩
      have hm30 : m < 30 := by omega
      have hk22 : kk < 1022 := by omega
      have HBP : Hid (Bp wr A 60 c (List.replicate 60 zrow)) := Lib.hid (by
        refine ⟨bs.map (fun b => (some ⟨b, 0, none⟩, 32, 32)), by simp, by rw [List.length_map]; exact HL.out, ?_, fun j hj => ?_⟩
        · obtain ⟨A2, c2, e, _, hr⟩ := rd_ownN (by omega) HO.out
          cases e
          have e2 : (bs.map (fun b => ((some ⟨b, 0, none⟩ : Option Addr), 32, 32))).map sv = blk2 bs := by simp [blk2, sv]
          rw [e2]
          exact hr
        · have hj' : j < bs.length := by simpa using hj
          have h1 := HS.out bs[j] (List.getElem_mem hj')
          have e1 : nth (List.replicate 60 zrow) j = zrow := by
            have : j < 60 := by have := HL.out; omega
            rw [nth, List.getD_eq_getElem?_getD, List.getElem?_replicate, if_pos this]
            rfl
          rw [e1, List.getElem_map]
          refine ⟨by simp [zrow], rd_block (by rw [h1, z32_zrow]) 32 32 _ 0 (Nat.le_refl _) (by omega) (fun i hi => by simp), fun x hx => ?_⟩
          have := List.eq_of_mem_replicate hx
          omega)
      have hs0 := HB.out.size
      clear HO HL HS hlt hk
      go_upto_region 7 with (fail)
      generalize a % 30 = a30 at *
      generalize b % 1022 = b22 at *
      subst hm
      subst hkk
      clear ha0 ha1 hb0 hb1
      have HBP1 := Lib.hid (HBP.out.below (below_al wr (.cells #[.int .i64 0, .int .i64 0, .int .i64 0, .int .i64 0, .int .i64 0, .int .i64 0, .int .i64 0, .int .i64 0] 36)))
      have HBX : Hid (boxB (wr.alloc (.cells #[.int .i64 0, .int .i64 0, .int .i64 0, .int .i64 0, .int .i64 0, .int .i64 0, .int .i64 0, .int .i64 0] 36)) wr.heap.size [0, 0, 0, 0, 0, 0, 0, 0]) := Lib.hid (blk11 wr _)
      have HB1 := Lib.hid (HB.out.alloc hs0 (.cells #[.int .i64 0, .int .i64 0, .int .i64 0, .int .i64 0, .int .i64 0, .int .i64 0, .int .i64 0, .int .i64 0] 36))
      have HG0 := Lib.hid (Gr.start kk)
      clear HBP HB
      have hb0 := (Array.getElem?_eq_some_iff.1 HBX.out).1
      generalize wr.alloc (.cells #[.int .i64 0, .int .i64 0, .int .i64 0, .int .i64 0, .int .i64 0, .int .i64 0, .int .i64 0, .int .i64 0] 36) = W1 at *
      generalize wr.heap.size = gb at *
      go_wp2
      go_loopw [5, 9, 10, 11, 12, 13, 14] (fun v5 v9 v10 _ _ _ _ wr => ∃ (i nx c2 : Nat) (A2 : Option Addr) (D : List (List Int)) (t : List Int), i ≤ m + 1 ∧ v10 = .int .i64 i ∧ v9 = .int .i64 nx ∧ v5 = .slice A2 60 c2 ∧ Hid (Gr kk i D t nx) ∧ Hid (Bp wr A2 60 c2 D) ∧ Hid (boxB wr gb t) ∧ Hid (Below w.heap.size w wr)) (fun _ _ v10 _ _ _ _ _ => m + 1 - (Go.RowKit.intOf v10).toNat)
      case atStart => exact ⟨0, 59, _, _, _, _, by omega, rfl, rfl, rfl, HG0, HBP1, HBX, HB1.out⟩
      case round =>
        obtain ⟨i, nx, c2, A2, D, t, hi, rfl, rfl, rfl, HG, HD, HX, HBr⟩ := hrel
        by_cases hlt : i < m + 1
        · have HGP := Lib.hid (HG.out.put hk22 (i := i) (by omega))
          have hlow := HG.out.low (by omega)
          have hup : nx ≤ 59 := by have := HG.out.cnt; omega
          have hlx := (putL_len D t (kk + i) ((i : Int) + 1) (fr3 nx)).2.2
          have HPT := Lib.hid (fun (Af : Option Addr) (cf : Nat) (W : World) (h1 : Bp W A2 60 c2 D) (h2 : Rd W Af 3 cf (iv .i64 (fr3 nx))) => Put_any A2 60 c2 D t (kk + i) ((i : Int) + 1) Af 3 cf (fr3 nx) (by simp [fr3]) HG.out.len W h1 HG.out.rt h2 rfl (HG.out.ok hk22 (by omega)))
          have ek : ((kk + i : Nat) : Int) = (kk : Int) + (i : Int) := by omega
          rw [ek] at HPT
          have hl2 := (putL_len D t (kk + i) ((i : Int) + 1) (fr3 nx)).2.1.trans HG.out.len
          generalize (putL D t (kk + i) ((i : Int) + 1) (fr3 nx)).1 = D' at *
          generalize (putL D t (kk + i) ((i : Int) + 1) (fr3 nx)).2.1 = t' at *
          generalize (putL D t (kk + i) ((i : Int) + 1) (fr3 nx)).2.2 = us at *
          obtain ⟨t0, t1, t2, t3, t4, t5, t6, t7, rfl⟩ := len8 HG.out.len
          obtain ⟨z0, z1, z2, z3, z4, z5, z6, z7, rfl⟩ := len8 hl2
          obtain ⟨d0, d1, d2, d3, d4, d5, d6, d7⟩ := big8 HX.out
          simp only [bigV, iv, fr3, List.map_cons, List.map_nil] at HPT
          have HFR : Hid (Rd (wr.alloc (.cells #[.int .i64 (nx : Int), .int .i64 ((nx : Int) - 1), .int .i64 ((nx : Int) - 2)] 3)) (some ⟨wr.heap.size, 0, none⟩) 3 3 [.int .i64 (nx : Int), .int .i64 ((nx : Int) - 1), .int .i64 ((nx : Int) - 2)]) := Lib.hid (sl_rd wr [(nx : Int), (nx : Int) - 1, (nx : Int) - 2] 3 (by simp))
          have HD1 := Lib.hid (HD.out.below (below_al wr (.cells #[.int .i64 (nx : Int), .int .i64 ((nx : Int) - 1), .int .i64 ((nx : Int) - 2)] 3)))
          go_upto_region 10 with (fail)
          go_upto_region 11 with (go_at_call 13; refine (HPT.out _ _ _ HD1.out HFR.out).mono ?_; rintro e w2 ⟨⟨Ao, co, rfl, hwb⟩, hB⟩; have HWB := Lib.hid hwb; have HB2 := Lib.hid hB; clear hwb hB)
          have hgl := (Array.getElem?_eq_some_iff.1 HX.out).1
          have hs2 := HB2.out.size
          have hsA : (wr.alloc (.cells #[.int .i64 (nx : Int), .int .i64 ((nx : Int) - 1), .int .i64 ((nx : Int) - 2)] 3)).heap.size = wr.heap.size + 1 := by simp
          rw [hsA] at hs2
          have HXb := Lib.hid (blk_below (blk_below HX.out (below_al wr _) hgl) HB2.out (by rw [hsA]; omega))
          have HWD := Lib.hid (HWB.out.bp.below (below_al w2 (.cells #[.int .i64 z0, .int .i64 z1, .int .i64 z2, .int .i64 z3, .int .i64 z4, .int .i64 z5, .int .i64 z6, .int .i64 z7] 36)))
          have HX2 := Lib.hid (blk_below HXb.out (below_al w2 (.cells #[.int .i64 z0, .int .i64 z1, .int .i64 z2, .int .i64 z3, .int .i64 z4, .int .i64 z5, .int .i64 z6, .int .i64 z7] 36)) (by omega))
          have hw2W := below_al w2 (.cells #[.int .i64 z0, .int .i64 z1, .int .i64 z2, .int .i64 z3, .int .i64 z4, .int .i64 z5, .int .i64 z6, .int .i64 z7] 36)
          have HNW := Lib.hid (blk11 w2 (.cells #[.int .i64 z0, .int .i64 z1, .int .i64 z2, .int .i64 z3, .int .i64 z4, .int .i64 z5, .int .i64 z6, .int .i64 z7] 36))
          have hszr := HBr.out.size
          have HBW := Lib.hid ((((HBr.out.alloc hszr (.cells #[.int .i64 (nx : Int), .int .i64 ((nx : Int) - 1), .int .i64 ((nx : Int) - 2)] 3)).trans (HB2.out.mono (by rw [hsA]; omega)))).alloc (by omega) (.cells #[.int .i64 z0, .int .i64 z1, .int .i64 z2, .int .i64 z3, .int .i64 z4, .int .i64 z5, .int .i64 z6, .int .i64 z7] 36))
          have HWW := Lib.hid (HWB.out.below (below_al w2 (.cells #[.int .i64 z0, .int .i64 z1, .int .i64 z2, .int .i64 z3, .int .i64 z4, .int .i64 z5, .int .i64 z6, .int .i64 z7] 36)))
          clear HXb hw2W HWD HB2 HWB HD1 HFR HX HBr HD HG HPT d0 d1 d2 d3 d4 d5 d6 d7
          go_upto_region 13 with (fail)
          generalize (w2.alloc (.cells #[.int .i64 z0, .int .i64 z1, .int .i64 z2, .int .i64 z3, .int .i64 z4, .int .i64 z5, .int .i64 z6, .int .i64 z7] 36)) = W3 at *
          obtain ⟨s0, s1, s2, s3, s4, s5, s6, s7⟩ := big8 HNW.out
          have hHS : W3.drew.cell? ⟨w2.heap.size, 0, none⟩ = some (.int .i64 z0) ∧ W3.drew.cell? ⟨w2.heap.size, 1, none⟩ = some (.int .i64 z1) ∧ W3.drew.cell? ⟨w2.heap.size, 2, none⟩ = some (.int .i64 z2) ∧ W3.drew.cell? ⟨w2.heap.size, 3, none⟩ = some (.int .i64 z3) ∧ W3.drew.cell? ⟨w2.heap.size, 4, none⟩ = some (.int .i64 z4) ∧ W3.drew.cell? ⟨w2.heap.size, 5, none⟩ = some (.int .i64 z5) ∧ W3.drew.cell? ⟨w2.heap.size, 6, none⟩ = some (.int .i64 z6) ∧ W3.drew.cell? ⟨w2.heap.size, 7, none⟩ = some (.int .i64 z7) := ⟨s0, s1, s2, s3, s4, s5, s6, s7⟩
          clear s0 s1 s2 s3 s4 s5 s6 s7
          have HBd := Lib.hid (HBW.out.drew)
          have HXd : Hid (boxB W3.drew gb [t0, t1, t2, t3, t4, t5, t6, t7]) := Lib.hid HX2.out
          have HWd := Lib.hid (HWW.out.below (Sel.below_drewN W3 1))
          have hgl2 : gb < wr.heap.size := hgl
          clear HBW HX2 HWW HNW
          generalize w2.heap.size = nb at *
          have HS : At (fun w' : World => w'.cell? ⟨nb, 0, none⟩ = some (.int .i64 z0) ∧ w'.cell? ⟨nb, 1, none⟩ = some (.int .i64 z1) ∧ w'.cell? ⟨nb, 2, none⟩ = some (.int .i64 z2) ∧ w'.cell? ⟨nb, 3, none⟩ = some (.int .i64 z3) ∧ w'.cell? ⟨nb, 4, none⟩ = some (.int .i64 z4) ∧ w'.cell? ⟨nb, 5, none⟩ = some (.int .i64 z5) ∧ w'.cell? ⟨nb, 6, none⟩ = some (.int .i64 z6) ∧ w'.cell? ⟨nb, 7, none⟩ = some (.int .i64 z7)) W3.drew := hHS
          clear hHS
          have d := blk_free HXd.out
          obtain ⟨d0, d1, d2, d3, d4, d5, d6, d7⟩ := big8 HXd.out
          have hdr : W3.drewN 1 = W3.drew := rfl
          rw [hdr] at HWd
          clear hdr
          refine wp_region_lexD HS [0, 1, 2] (by kernel_rfl) (by kernel_rfl) (fun _ _ d _ _ h => by cases d <;> exact h) ?_
          generalize W3.drew = W4 at *
          refine lexD_take (by kernel_rfl) (by kernel_rfl) HS (fun w9 h9 => by obtain ⟨s0, s1, s2, s3, s4, s5, s6, s7⟩ := h9; go_simp; first | done | rfl) (fun K hK => ?_); go_simp; refine hK _ ?_; clear hK K
          refine lexD_take (by kernel_rfl) (by kernel_rfl) HS (fun w9 h9 => by obtain ⟨s0, s1, s2, s3, s4, s5, s6, s7⟩ := h9; go_simp; first | done | rfl) (fun K hK => ?_); go_simp; refine hK _ ?_; clear hK K
          refine lexD_take (by kernel_rfl) (by kernel_rfl) HS (fun w9 h9 => by obtain ⟨s0, s1, s2, s3, s4, s5, s6, s7⟩ := h9; go_simp; first | done | rfl) (fun K hK => ?_); go_simp; refine hK _ ?_; clear hK K
          refine lexD_late (by kernel_rfl) (by kernel_rfl) (fun K hK => ?_)
          go_simp
          refine hK _ _ ?_
          clear hK K HS d d0 d1 d2 d3 d4 d5 d6 d7
          refine lexD_nil ?_
          have HFR := Lib.hid (set8_fr W4 gb (.int .i64 z0) (.int .i64 z1) (.int .i64 z2) (.int .i64 z3) (.int .i64 z4) (.int .i64 z5) (.int .i64 z6) (.int .i64 z7))
          have HXn := Lib.hid (set8 HXd.out (.int .i64 z0) (.int .i64 z1) (.int .i64 z2) (.int .i64 z3) (.int .i64 z4) (.int .i64 z5) (.int .i64 z6) (.int .i64 z7))
          have HWn := Lib.hid (HWd.out.fr HFR.out (fun b hb => by obtain rfl := hb; exact ⟨by omega, box_nob HXd.out⟩)).bp
          have HBn := Lib.hid (HBd.out.trans (HFR.out.below (B := w.heap.size) HBd.out.size (fun k hk => by omega)))
          clear HBd HXd HWd HFR
          generalize ((((((((W4.setCell ⟨gb, 0, none⟩ (.int .i64 z0)).setCell ⟨gb, 1, none⟩ (.int .i64 z1)).setCell ⟨gb, 2, none⟩ (.int .i64 z2)).setCell ⟨gb, 3, none⟩ (.int .i64 z3)).setCell ⟨gb, 4, none⟩ (.int .i64 z4)).setCell ⟨gb, 5, none⟩ (.int .i64 z5)).setCell ⟨gb, 6, none⟩ (.int .i64 z6)).setCell ⟨gb, 7, none⟩ (.int .i64 z7)) = W5 at *
          have hcnt : nx - us + 0 = nx - us := rfl
          go_wp2
          go_roundw
          case rel => exact ⟨i + 1, nx - us, co, Ao, D', [z0, z1, z2, z3, z4, z5, z6, z7], by omega, by go_num, by go_num, rfl, HGP, HWn, HXn, HBn⟩
          case measure => simp [Go.RowKit.intOf] <;> omega
        · obtain rfl : i = m + 1 := by omega
          have hrt := HG.out.rt
          have hln := HG.out.len
          have hup : nx ≤ 59 := by have := HG.out.cnt; omega
          have hnd : plN D t = (List.range (m + 1)).map (kk + ·) := HG.out.plN (by omega)
          have hpl : plL D t = (List.range (m + 1)).map (fun j : Nat => (kk : Int) + (j : Int)) := by
            rw [plL, hnd, List.map_map]
            refine List.map_congr_left fun j _ => ?_
            simp only [Function.comp_apply]
            omega
          have hbl : blL D t = (List.range (m + 1)).map (fun j : Nat => (j : Int) + 1) := by
            rw [blL, hnd, List.map_map]
            refine List.map_congr_left fun j hj => ?_
            have := List.mem_range.1 hj
            simp only [Function.comp_apply]
            rw [HG.out.data _ (by omega), if_pos (by omega)]
            omega
          have hin : (inL D t).length = 59 - nx := by have := HG.out.cnt; rw [inL_icn]; omega
          have hkk : ∀ p, p < 1062 → atK D t p ≠ 0 → kk ≤ p := fun p hp hne => by
            rcases Nat.lt_or_ge p kk with h | h
            · exact absurd (by rw [HG.out.data p hp, if_neg (by omega)]) hne
            · exact h
          have hc1 := (cutL_none hrt hln kk hkk).1
          have hc2 := cutL_free hrt hln kk hkk
          have HA := Lib.hid (fun W (h : Bp W A2 60 c2 D) => All_ok A2 60 c2 D t hln W h hrt)
          have HI := Lib.hid (fun W (h : Bp W A2 60 c2 D) => Inner_ok A2 60 c2 D t hln W h hrt)
          have HC := Lib.hid (fun W (h : Bp W A2 60 c2 D) => Cut_ok A2 60 c2 D t kk (by omega) hln (by rw [hc1]; rfl) W h hrt)
          have hpll : (plL D t).length = m + 1 := by rw [hpl]; simp
          have hbll : (blL D t).length = m + 1 := by rw [hbl]; simp
          rw [hc1, hc2, hpll, hin] at HC
          rw [hpll] at HA
          rw [hin] at HI
          have HPL : Hid (∀ j (h : j < (plL D t).length), (plL D t)[j] = (kk : Int) + (j : Int)) := Lib.hid (by rw [hpl]; intro j h; simp)
          have HBL : Hid (∀ j (h : j < (blL D t).length), (blL D t)[j] = (j : Int) + 1) := Lib.hid (by rw [hbl]; intro j h; simp)
          have HLP := Lib.hid hpll
          have HLB := Lib.hid hbll
          clear hpll hbll hpl hbl hnd hin hkk hc1 hc2
          generalize plL D t = pl at *
          generalize blL D t = bl at *
          obtain ⟨t0, t1, t2, t3, t4, t5, t6, t7, rfl⟩ := len8 hln
          clear hrt hln HG
          have hgl := (Array.getElem?_eq_some_iff.1 HX.out).1
          obtain ⟨d0, d1, d2, d3, d4, d5, d6, d7⟩ := big8 HX.out
          simp only [bigV8] at HA HI HC
          go_upto_region 15 with (fail)
          go_upto_region 16 with (go_at_call 22; refine (HA.out _ HD.out).mono ?_; rintro e w2 ⟨⟨A3, c3, A4, c4, rfl, h3, h4⟩, hB⟩; have H3 := Lib.hid h3; have H4 := Lib.hid h4; have HD2 := Lib.hid (HD.out.below hB); have HX2 := Lib.hid (blk_below HX.out hB hgl); have HB2 := Lib.hid (below_then HBr.out hB); clear h3 h4 hB)
          clear d0 d1 d2 d3 d4 d5 d6 d7 HA HD HX HBr
          obtain ⟨g3, o3, rfl, hg3, hc3⟩ := H3.out.form (by rw [iv_length]; have := HLP.out; omega)
          obtain ⟨g4, o4, rfl, hg4, hc4⟩ := H4.out.form (by rw [iv_length]; have := HLB.out; omega)
          have hl3 := H3.out.le
          have hl3c := H3.out.cap
          have hl4 := H4.out.le
          have hl4c := H4.out.cap
          have HC3 : Hid (∀ j, j < m + 1 → w2.cell? ⟨g3, o3 + j, none⟩ = some (.int .i64 ((kk : Int) + (j : Int)))) := Lib.hid (fun j hj => by
            have h1 : j < pl.length := by have := HLP.out; omega
            have := hc3 j (by rw [iv_length]; exact h1)
            rw [iv_at, HPL.out j h1] at this
            exact this)
          have HC4 : Hid (∀ j, j < m + 1 → w2.cell? ⟨g4, o4 + j, none⟩ = some (.int .i64 ((j : Int) + 1))) := Lib.hid (fun j hj => by
            have h1 : j < bl.length := by have := HLB.out; omega
            have := hc4 j (by rw [iv_length]; exact h1)
            rw [iv_at, HBL.out j h1] at this
            exact this)
          clear hc3 hc4 H3 H4 HPL HBL HLP HLB hg3 hg4
          go_wp2
          go_loopw [18] (fun v wr2 => ∃ j : Nat, j ≤ m + 1 ∧ v = .int .i64 j ∧ wr2 = w2) (fun v _ => m + 1 - (Go.RowKit.intOf v).toNat)
          case atStart => exact ⟨0, by omega, rfl, rfl⟩
          case round =>
            obtain ⟨j, hj, rfl, hw⟩ := hrel
            have hw' := hw.symm
            subst hw'
            by_cases hlt : j < m + 1
            · have r3 := HC3.out j hlt
              have r4 := HC4.out j hlt
              go_wp2
              exact ⟨⟨j + 1, by omega, by go_num, trivial⟩, by simp [Go.RowKit.intOf] <;> omega⟩
            · obtain rfl : j = m + 1 := by omega
              clear HC3 HC4
              have hgl2 := (Array.getElem?_eq_some_iff.1 HX2.out).1
              obtain ⟨d0, d1, d2, d3, d4, d5, d6, d7⟩ := big8 HX2.out
              go_upto_region 24 with (go_at_call 25; refine (HI.out _ HD2.out).mono ?_; rintro e w3 ⟨⟨A5, c5, rfl, h5⟩, hB⟩; have HD3 := Lib.hid (HD2.out.below hB); have HX3 := Lib.hid (blk_below HX2.out hB hgl2); have HB3 := Lib.hid (below_then HB2.out hB); have hl5 := h5.le; have hl5c := h5.cap; clear h5 hB)
              clear d0 d1 d2 d3 d4 d5 d6 d7 HI HD2 HX2 HB2
              obtain ⟨d0, d1, d2, d3, d4, d5, d6, d7⟩ := big8 HX3.out
              have hq6 := eq6_same 0 0 0 0 0 0
              go_upto_region 25 with (go_at_call 26; refine (HC.out _ HD3.out).mono ?_; rintro e w4 ⟨⟨g6, c6, gs6, A6, c7, rfl, h6, h7⟩, hB⟩; have HB4 := Lib.hid (below_alloc_then HB3.out hB (.cells #[.int .i64 0, .int .i64 0, .int .i64 0, .int .i64 0, .int .i64 0, .int .i64 0, .int .i64 0, .int .i64 0] 36)); have hl7 := h7.le; have hl7c := h7.cap; have HXN := Lib.hid (blk11 w4 (.cells #[.int .i64 0, .int .i64 0, .int .i64 0, .int .i64 0, .int .i64 0, .int .i64 0, .int .i64 0, .int .i64 0] 36)); clear h6 h7 hB)
              clear d0 d1 d2 d3 d4 d5 d6 d7 HC HD3 HX3 HB3
              generalize w4.alloc (.cells #[.int .i64 0, .int .i64 0, .int .i64 0, .int .i64 0, .int .i64 0, .int .i64 0, .int .i64 0, .int .i64 0] 36) = W5 at *
              generalize w4.heap.size = nb5 at *
              obtain ⟨d0, d1, d2, d3, d4, d5, d6, d7⟩ := big8 HXN.out
              have hsub : ((59 - nx : Nat) : Int) = 59 - (nx : Int) := by omega
              have hsub2 : ((m + 1 + (59 - nx) : Nat) : Int) = (m : Int) + 1 + (59 - (nx : Int)) := by omega
              go_wp2
              go_ret
              exact ⟨rfl, HB4.out⟩
end Go.Proofs.Ytcgfoaihfncppaa
