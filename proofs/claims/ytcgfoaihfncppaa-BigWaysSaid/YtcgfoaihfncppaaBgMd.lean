/- Walks of big: the file that bytes say, both of the program and of its reference. -/
import Derived.Test.YtcgfoaihfncppaaBgM
import Derived.Test.YtcgfoaihfncppaaSelB
set_option linter.unusedSimpArgs false
set_option linter.unusedVariables false
namespace Go.Proofs.Ytcgfoaihfncppaa
open Go.RowKit Go.Sel Go.Sel.Gra Go.Sel.Bg Go.Sel.Mer Go.Shelf

def zT : List Int := [0, 0, 0, 0, 0, 0, 0, 0]
def decT (b : List Int) : List Int := if b.length = 8 then b else zT
def decE (b : List Int) : Int := if b.length = 8 then 0 else 3
theorem decT_len (b : List Int) : (decT b).length = 8 := by unfold decT; split <;> simp_all [zT]
def iz (b : List Int) (k : Nat) : List Value := iv .i64 (b.take k) ++ List.replicate (8 - k) (.int .i64 0)
theorem iz_at {b : List Int} (hb : b.length = 8) {k : Nat} (hk : k < 8) : (iz b k)[k]? = some (.int .i64 0) := by
  unfold iz
  rw [List.getElem?_append_right (by simp [iv]; omega)]
  have e : (iv .i64 (b.take k)).length = k := by simp [iv]; omega
  rw [e, Nat.sub_self, List.getElem?_replicate, if_pos (by omega)]
theorem iz_set {b : List Int} (hb : b.length = 8) {k : Nat} (hk : k < 8) (hkb : k < b.length) : (iz b k).set k (.int .i64 b[k]) = iz b (k + 1) := by
  unfold iz
  rw [List.set_append_right _ _ (by simp [iv]; omega)]
  have e : (iv .i64 (b.take k)).length = k := by simp [iv]; omega
  rw [e, Nat.sub_self, List.take_succ_eq_append_getElem hkb]
  have e2 : 8 - k = (8 - (k + 1)) + 1 := by omega
  rw [e2, List.replicate_succ, List.set_cons_zero]
  simp only [iv, List.map_append, List.map_cons, List.map_nil, List.append_assoc, List.cons_append, List.nil_append]
theorem fr8 (w : World) (B : Nat) (v0 v1 v2 v3 v4 v5 v6 v7 : Value) : Fr (· = B) w ((((((((w.setCell ⟨B, 0, none⟩ v0).setCell ⟨B, 1, none⟩ v1).setCell ⟨B, 2, none⟩ v2).setCell ⟨B, 3, none⟩ v3).setCell ⟨B, 4, none⟩ v4).setCell ⟨B, 5, none⟩ v5).setCell ⟨B, 6, none⟩ v6).setCell ⟨B, 7, none⟩ v7) := by
  exact (Fr.setCell (S := (· = B)) (Fr.setCell (S := (· = B)) (Fr.setCell (S := (· = B)) (Fr.setCell (S := (· = B)) (Fr.setCell (S := (· = B)) (Fr.setCell (S := (· = B)) (Fr.setCell (S := (· = B)) (Fr.setCell (S := (· = B)) (Fr.refl _ w) (p := ⟨B, 0, none⟩) (.inl rfl) v0) (p := ⟨B, 1, none⟩) (.inl rfl) v1) (p := ⟨B, 2, none⟩) (.inl rfl) v2) (p := ⟨B, 3, none⟩) (.inl rfl) v3) (p := ⟨B, 4, none⟩) (.inl rfl) v4) (p := ⟨B, 5, none⟩) (.inl rfl) v5) (p := ⟨B, 6, none⟩) (.inl rfl) v6) (p := ⟨B, 7, none⟩) (.inl rfl) v7)
def z8o (T : TypeId) : Obj := .cells #[.int .i64 0, .int .i64 0, .int .i64 0, .int .i64 0, .int .i64 0, .int .i64 0, .int .i64 0, .int .i64 0] T

set_option maxRecDepth 100000 in
set_option maxHeartbeats 4000000 in
theorem Decode_any (A : Option Addr) (n c : Nat) (b : List Int) (w : World) (hr : Rd w A n c (iv .u8 b)) (hl : b.length = n) (hb : AllByte b) : Calls Try.prog 19 #[.slice A n c] w fun e w' => e = .returned (.tuple #[bigV (decT b), .int .i64 (decE b)]) ∧ Below w.heap.size w w' := by
  have HR := Lib.hid hr
  have HL := Lib.hid hl
  have HB := Lib.hid hb
  have l1 := hr.le
  have l2 := hr.cap
  clear hr hl hb
  by_cases h8 : n = 8
  · subst h8
    have HF : Hid (∀ x0 x1 x2 x3 x4 x5 x6 x7 : Int, ∀ W, Calls Try.prog 33 #[.agg #[.int .i64 x0, .int .i64 x1, .int .i64 x2, .int .i64 x3, .int .i64 x4, .int .i64 x5, .int .i64 x6, .int .i64 x7]] W fun e w' => e = .returned (.agg #[.int .i64 x0, .int .i64 x1, .int .i64 x2, .int .i64 x3, .int .i64 x4, .int .i64 x5, .int .i64 x6, .int .i64 x7]) ∧ Below W.heap.size W w') := Lib.hid fun x0 x1 x2 x3 x4 x5 x6 x7 W => file_any [x0, x1, x2, x3, x4, x5, x6, x7] rfl W
    have hz0 : iz b 0 = [.int .i64 0, .int .i64 0, .int .i64 0, .int .i64 0, .int .i64 0, .int .i64 0, .int .i64 0, .int .i64 0] := rfl
    have HZ : Hid (((w.alloc (z8o 36)).alloc (.cells (iz b 0).toArray 66)).heap[w.heap.size + 1]? = some (.cells (iz b 0).toArray 66 (0, 0)) ∧ ((w.alloc (z8o 36)).alloc (.cells (iz b 0).toArray 66)).heap[w.heap.size]? = some (z8o 36) ∧ Below w.heap.size w ((w.alloc (z8o 36)).alloc (.cells (iz b 0).toArray 66))) :=
      Lib.hid ⟨by have := blk11 (w.alloc (z8o 36)) (.cells (iz b 0).toArray 66); simpa using this, blk21 _ _ _, (below_al w _).alloc (by simp) _⟩
    have HZ0 := Lib.hid hz0
    rw [hz0] at HZ
    simp only [z8o] at HZ
    clear hz0
    go_enter Try.func19, Try.ntmps19
    go_wp2
    go_loopw [5, 6, 13] (fun _ _ v wr => ∃ k : Nat, k ≤ 8 ∧ v = .int .i64 k ∧ Hid (wr.heap[w.heap.size + 1]? = some (.cells (iz b k).toArray 66 (0, 0))) ∧ Hid (wr.heap[w.heap.size]? = some (z8o 36)) ∧ Hid (Below w.heap.size w wr)) (fun _ _ v _ => 8 - (Go.RowKit.intOf v).toNat)
    case atStart => exact ⟨0, by omega, rfl, by rw [HZ0.out]; exact HZ.out.1, HZ.out.2.1, HZ.out.2.2⟩
    case round =>
      obtain ⟨k, hk, rfl, HO, HQ, HBL⟩ := hrel
      by_cases hlt : k < 8
      · have hkb : k < b.length := by rw [HL.out]; exact hlt
        obtain ⟨rb, off, rfl, hrb, hc⟩ := (HR.out.below HBL.out).form (by simp; omega)
        have hck := hc k (by simpa using hkb)
        rw [iv_at] at hck
        have hby := HB.out _ (List.getElem_mem hkb)
        have hoc := cells_at HO.out k
        rw [iz_at HL.out hlt] at hoc
        have hof := blk_free HO.out k
        have HBS := Lib.hid (iz_set HL.out hlt hkb)
        have HS := Lib.hid (blk_set HO.out k (.int .i64 b[k]))
        have hw8 := HBL.out.size
        clear hc
        generalize b[k] = x at *
        have hwx : IntKind.i64.wrap x = x := IntWalk.i64_in _ (by omega)
        go_wp2
        refine ⟨⟨k + 1, by omega, by go_num, HS.out.trans (by rw [← HBS.out, List.setIfInBounds_toArray]), ?_, HBL.out.setCell (p := ⟨w.heap.size + 1, k, none⟩) (by simp only; omega) _⟩, by simp [Go.RowKit.intOf]; omega⟩
        exact (Below.heap_setCell _ _ _ _ (by simp only; omega)).trans HQ.out
      · obtain rfl : k = 8 := by omega
        have HD : Hid (decT b = b ∧ decE b = 0) := Lib.hid (by simp [decT, decE, HL.out])
        obtain ⟨x0, x1, x2, x3, x4, x5, x6, x7, hbe⟩ := len8 HL.out
        have hiz : iz b 8 = iv .i64 b := by have := HL.out; simp [iz, ← this]
        have hO := HO.out
        rw [hiz, hbe] at hO
        obtain ⟨d0, d1, d2, d3, d4, d5, d6, d7⟩ := big8 hO
        have hQ := HQ.out
        simp only [z8o] at hQ
        obtain ⟨q0, q1, q2, q3, q4, q5, q6, q7⟩ := big8 hQ
        have HBE := Lib.hid hbe
        have hlq := (Array.getElem?_eq_some_iff.1 hQ).1
        have HQ' := Lib.hid hQ
        clear hiz hO hbe hQ
        go_wp2_with (go_at_call 33; refine (HF.out _ _ _ _ _ _ _ _ _).mono ?_; rintro e w2 ⟨rfl, hB⟩; have HB2 := Lib.hid (HBL.out.trans (hB.mono HBL.out.size)); have HQ2 := Lib.hid (blk_below HQ'.out hB hlq); have q0 := keep_cell q0 hB; have q1 := keep_cell q1 hB; have q2 := keep_cell q2 hB; have q3 := keep_cell q3 hB; have q4 := keep_cell q4 hB; have q5 := keep_cell q5 hB; have q6 := keep_cell q6 hB; have q7 := keep_cell q7 hB; have zz := blk_free HQ2.out; clear hB)
        have hZ8 := set8 HQ2.out (.int .i64 x0) (.int .i64 x1) (.int .i64 x2) (.int .i64 x3) (.int .i64 x4) (.int .i64 x5) (.int .i64 x6) (.int .i64 x7)
        have hFr := fr8 w2 w.heap.size (.int .i64 x0) (.int .i64 x1) (.int .i64 x2) (.int .i64 x3) (.int .i64 x4) (.int .i64 x5) (.int .i64 x6) (.int .i64 x7)
        generalize ((((((((w2.setCell ⟨w.heap.size, 0, none⟩ (.int .i64 x0)).setCell ⟨w.heap.size, 1, none⟩ (.int .i64 x1)).setCell ⟨w.heap.size, 2, none⟩ (.int .i64 x2)).setCell ⟨w.heap.size, 3, none⟩ (.int .i64 x3)).setCell ⟨w.heap.size, 4, none⟩ (.int .i64 x4)).setCell ⟨w.heap.size, 5, none⟩ (.int .i64 x5)).setCell ⟨w.heap.size, 6, none⟩ (.int .i64 x6)).setCell ⟨w.heap.size, 7, none⟩ (.int .i64 x7)) = Wf at *
        have hHB := HB2.out.trans (hFr.below (B := w.heap.size) HB2.out.size (fun k h => by omega))
        clear q0 q1 q2 q3 q4 q5 q6 q7 d0 d1 d2 d3 d4 d5 d6 d7 zz hFr
        refine bodyPost_ret (v := .tuple #[.agg #[.int .i64 x0, .int .i64 x1, .int .i64 x2, .int .i64 x3, .int .i64 x4, .int .i64 x5, .int .i64 x6, .int .i64 x7], .int .i64 0]) ?_ rfl ?_
        · obtain ⟨e0, e1, e2, e3, e4, e5, e6, e7⟩ := big8 hZ8
          simp [results, Try.results19, go_sem, e0, e1, e2, e3, e4, e5, e6, e7]
        · rw [HD.out.1, HD.out.2, HBE.out]
          exact ⟨rfl, hHB⟩
  · have HD : Hid (decT b = zT ∧ decE b = 3) := Lib.hid (by simp [decT, decE, HL.out, h8])
    have hne : ((n : Int) != 8) = true := by simp; omega
    go_enter Try.func19, Try.ntmps19
    go_wp2
    refine bodyPost_ret (v := .tuple #[.agg #[.int .i64 0, .int .i64 0, .int .i64 0, .int .i64 0, .int .i64 0, .int .i64 0, .int .i64 0, .int .i64 0], .int .i64 3]) ?_ rfl ?_
    · obtain ⟨e0, e1, e2, e3, e4, e5, e6, e7⟩ := big8 (blk11 w (.cells #[.int .i64 0, .int .i64 0, .int .i64 0, .int .i64 0, .int .i64 0, .int .i64 0, .int .i64 0, .int .i64 0] 36))
      simp [results, Try.results19, go_sem, e0, e1, e2, e3, e4, e5, e6, e7]
    · rw [HD.out.1, HD.out.2]
      exact ⟨rfl, below_al _ _⟩

set_option maxRecDepth 100000 in
set_option maxHeartbeats 4000000 in
theorem rDecode_any (A : Option Addr) (n c : Nat) (b : List Int) (w : World) (hr : Rd w A n c (iv .u8 b)) (hl : b.length = n) (hb : AllByte b) : Calls Try.prog 20 #[.slice A n c] w fun e w' => e = .returned (.tuple #[bigV (decT b), .int .i64 (decE b)]) ∧ Below w.heap.size w w' := by
  have HR := Lib.hid hr
  have HL := Lib.hid hl
  have HB := Lib.hid hb
  have l1 := hr.le
  have l2 := hr.cap
  clear hr hl hb
  by_cases h8 : n = 8
  · subst h8
    have hz0 : iz b 0 = [.int .i64 0, .int .i64 0, .int .i64 0, .int .i64 0, .int .i64 0, .int .i64 0, .int .i64 0, .int .i64 0] := rfl
    have HZ : Hid (((w.alloc (z8o 36)).alloc (.cells (iz b 0).toArray 36)).heap[w.heap.size + 1]? = some (.cells (iz b 0).toArray 36 (0, 0)) ∧ ((w.alloc (z8o 36)).alloc (.cells (iz b 0).toArray 36)).heap[w.heap.size]? = some (z8o 36) ∧ Below w.heap.size w ((w.alloc (z8o 36)).alloc (.cells (iz b 0).toArray 36))) :=
      Lib.hid ⟨by have := blk11 (w.alloc (z8o 36)) (.cells (iz b 0).toArray 36); simpa using this, blk21 _ _ _, (below_al w _).alloc (by simp) _⟩
    have HZ0 := Lib.hid hz0
    rw [hz0] at HZ
    simp only [z8o] at HZ
    clear hz0
    go_enter Try.func20, Try.ntmps20
    go_wp2
    go_loopw [5] (fun v wr => ∃ k : Nat, k ≤ 6 ∧ v = .int .i64 k ∧ Hid (wr.heap[w.heap.size + 1]? = some (.cells (iz b k).toArray 36 (0, 0))) ∧ Hid (wr.heap[w.heap.size]? = some (z8o 36)) ∧ Hid (Below w.heap.size w wr)) (fun v _ => 6 - (Go.RowKit.intOf v).toNat)
    case atStart => exact ⟨0, by omega, rfl, by rw [HZ0.out]; exact HZ.out.1, HZ.out.2.1, HZ.out.2.2⟩
    case round =>
      obtain ⟨k, hk, rfl, HO, HQ, HBL⟩ := hrel
      by_cases hlt : k < 6
      · have hkb : k < b.length := by rw [HL.out]; omega
        obtain ⟨rb, off, rfl, hrb, hc⟩ := (HR.out.below HBL.out).form (by simp; omega)
        have hck := hc k (by simpa using hkb)
        rw [iv_at] at hck
        have hby := HB.out _ (List.getElem_mem hkb)
        have hoc := cells_at HO.out k
        rw [iz_at HL.out (by omega)] at hoc
        have hof := blk_free HO.out k
        have HBS := Lib.hid (iz_set HL.out (by omega) hkb)
        have HS := Lib.hid (blk_set HO.out k (.int .i64 b[k]))
        have hw8 := HBL.out.size
        clear hc
        generalize b[k] = x at *
        have hwx : IntKind.i64.wrap x = x := IntWalk.i64_in _ (by omega)
        go_wp2
        refine ⟨⟨k + 1, by omega, by go_num, HS.out.trans (by rw [← HBS.out, List.setIfInBounds_toArray]), ?_, HBL.out.setCell (p := ⟨w.heap.size + 1, k, none⟩) (by simp only; omega) _⟩, by simp [Go.RowKit.intOf]; omega⟩
        exact (Below.heap_setCell _ _ _ _ (by simp only; omega)).trans HQ.out
      · obtain rfl : k = 6 := by omega
        have HD : Hid (decT b = b ∧ decE b = 0) := Lib.hid (by simp [decT, decE, HL.out])
        have hb6 : 6 < b.length := by rw [HL.out]; omega
        have hb7 : 7 < b.length := by rw [HL.out]; omega
        have HS6 := Lib.hid (iz_set HL.out (k := 6) (by omega) hb6)
        have HS7 := Lib.hid (iz_set HL.out (k := 7) (by omega) hb7)
        have HI8 : Hid (iz b 8 = iv .i64 b) := Lib.hid (by have := HL.out; simp [iz, ← this])
        obtain ⟨rb, off, rfl, hrb, hc⟩ := (HR.out.below HBL.out).form (by simp; omega)
        have s0 := hc 6 (by simpa using hb6)
        have s1 := hc 7 (by simpa using hb7)
        rw [iv_at] at s0 s1
        have y6 := HB.out _ (List.getElem_mem hb6)
        have y7 := HB.out _ (List.getElem_mem hb7)
        have hx6 : b[6] = b[6] := rfl
        generalize hg6 : b[6] = x6 at *
        generalize hg7 : b[7] = x7 at *
        have hw6 : IntKind.i64.wrap x6 = x6 := IntWalk.i64_in _ (by omega)
        have hw7 : IntKind.i64.wrap x7 = x7 := IntWalk.i64_in _ (by omega)
        clear hc hx6 y6 y7
        have hsz := HBL.out.size
        have HO1 : Hid (wr.drew.heap[w.heap.size + 1]? = some (.cells (iz b 6).toArray 36 (0, 0))) := HO
        have HQ1 : Hid (wr.drew.heap[w.heap.size]? = some (z8o 36)) := HQ
        have HB1 : Hid (Below w.heap.size w wr.drew) := Lib.hid HBL.out.drew
        have HS : At (fun w' : World => w'.cell? ⟨rb, off + 6, none⟩ = some (.int .u8 x6) ∧ w'.cell? ⟨rb, off + 7, none⟩ = some (.int .u8 x7)) wr.drew := ⟨s0, s1⟩
        have hrb1 : rb < w.heap.size := by
          obtain ⟨rb', off', e, h1, _⟩ := HR.out.form (by simp; omega)
          cases e
          exact h1
        clear HO HQ HBL s0 s1
        go_upto_region 8 with (fail)
        refine any_start HS [0, 1, 2, 3, 4, 5, 6, 7, 8, 10] (by kernel_rfl) ?_
        generalize wr.drew = Wd at *
        refine any_take 0 rfl (by kernel_rfl) (fun _ _ d _ _ h => by cases d <;> exact h) (by kernel_rfl) HS (fun w9 h9 => by obtain ⟨s0, s1⟩ := h9; go_simp; first | done | rfl) (fun K hK => ?_); go_simp; refine hK _ ?_; clear hK K
        refine any_take 1 rfl (by kernel_rfl) (fun _ _ d _ _ h => by cases d <;> exact h) (by kernel_rfl) HS (fun w9 h9 => by obtain ⟨s0, s1⟩ := h9; go_simp; first | done | rfl) (fun K hK => ?_); go_simp; refine hK _ ?_; clear hK K
        refine any_take 2 rfl (by kernel_rfl) (fun _ _ d _ _ h => by cases d <;> exact h) (by kernel_rfl) HS (fun w9 h9 => by obtain ⟨s0, s1⟩ := h9; go_simp; first | done | rfl) (fun K hK => ?_); go_simp; refine hK _ ?_; clear hK K
        refine any_take 3 rfl (by kernel_rfl) (fun _ _ d _ _ h => by cases d <;> exact h) (by kernel_rfl) HS (fun w9 h9 => by obtain ⟨s0, s1⟩ := h9; go_simp; first | done | rfl) (fun K hK => ?_); go_simp; refine hK _ ?_; clear hK K
        refine any_take 4 rfl (by kernel_rfl) (fun _ _ d _ _ h => by cases d <;> exact h) (by kernel_rfl) HS (fun w9 h9 => by obtain ⟨s0, s1⟩ := h9; go_simp; first | done | rfl) (fun K hK => ?_); go_simp; refine hK _ ?_; clear hK K
        refine any_take 5 rfl (by kernel_rfl) (fun _ _ d _ _ h => by cases d <;> exact h) (by kernel_rfl) HS (fun w9 h9 => by obtain ⟨s0, s1⟩ := h9; go_simp; first | done | rfl) (fun K hK => ?_); go_simp; refine hK _ ?_; clear hK K
        refine any_take 6 rfl (by kernel_rfl) (fun _ _ d _ _ h => by cases d <;> exact h) (by kernel_rfl) HS (fun w9 h9 => by obtain ⟨s0, s1⟩ := h9; go_simp; first | done | rfl) (fun K hK => ?_); go_simp; refine hK _ ?_; clear hK K
        refine any_take 7 rfl (by kernel_rfl) (fun _ _ d _ _ h => by cases d <;> exact h) (by kernel_rfl) HS (fun w9 h9 => by obtain ⟨s0, s1⟩ := h9; go_simp; first | done | rfl) (fun K hK => ?_); go_simp; refine hK _ ?_; clear hK K
        refine any_take 8 rfl (by kernel_rfl) (fun _ _ d _ _ h => by cases d <;> exact h) (by kernel_rfl) HS (fun w9 h9 => by obtain ⟨s0, s1⟩ := h9; go_simp; first | done | rfl) (fun K hK => ?_); go_simp; refine hK _ ?_; clear hK K
        have o6 := cells_at HO1.out 6
        rw [iz_at HL.out (by omega)] at o6
        have z6 := blk_free HO1.out 6
        refine any_one 9 rfl (by kernel_rfl) (by kernel_rfl) (fun K hK => ?_)
        go_simp
        have HO2 : Hid ((Wd.setCell ⟨w.heap.size + 1, 6, none⟩ (.int .i64 x6)).heap[w.heap.size + 1]? = some (.cells (iz b 7).toArray 36 (0, 0))) := Lib.hid ((blk_set HO1.out 6 (.int .i64 x6)).trans (by rw [← HS6.out, List.setIfInBounds_toArray]))
        have HQ2 : Hid ((Wd.setCell ⟨w.heap.size + 1, 6, none⟩ (.int .i64 x6)).heap[w.heap.size]? = some (z8o 36)) := Lib.hid ((Below.heap_setCell _ _ _ _ (by simp only; omega)).trans HQ1.out)
        have HB2 : Hid (Below w.heap.size w (Wd.setCell ⟨w.heap.size + 1, 6, none⟩ (.int .i64 x6))) := Lib.hid (HB1.out.setCell (p := ⟨w.heap.size + 1, 6, none⟩) (by simp only; omega) _)
        have HS2 : At (fun w' : World => w'.cell? ⟨rb, off + 6, none⟩ = some (.int .u8 x6) ∧ w'.cell? ⟨rb, off + 7, none⟩ = some (.int .u8 x7)) (Wd.setCell ⟨w.heap.size + 1, 6, none⟩ (.int .i64 x6)) := by
          obtain ⟨s0, s1⟩ := HS
          exact ⟨(World.cell?_of_block (a := ⟨rb, off + 6, none⟩) (Below.heap_setCell _ _ _ _ (by simp only; omega))).trans s0, (World.cell?_of_block (a := ⟨rb, off + 7, none⟩) (Below.heap_setCell _ _ _ _ (by simp only; omega))).trans s1⟩
        refine hK _ _ (fun _ => HS2) ?_
        clear hK K o6 z6 HS HO1 HQ1 HB1
        generalize Wd.setCell ⟨w.heap.size + 1, 6, none⟩ (.int .i64 x6) = We at *
        refine any_take 10 rfl (by kernel_rfl) (fun _ _ d _ _ h => by cases d <;> exact h) (by kernel_rfl) HS2 (fun w9 h9 => by obtain ⟨s0, s1⟩ := h9; go_simp; first | done | rfl) (fun K hK => ?_); go_simp; refine hK _ ?_; clear hK K
        have o7 := cells_at HO2.out 7
        rw [iz_at HL.out (by omega)] at o7
        have z7 := blk_free HO2.out 7
        refine any_one 11 rfl (by kernel_rfl) (by kernel_rfl) (fun K hK => ?_)
        go_simp
        have HO3 : Hid ((We.setCell ⟨w.heap.size + 1, 7, none⟩ (.int .i64 x7)).heap[w.heap.size + 1]? = some (.cells (iv .i64 b).toArray 36 (0, 0))) := Lib.hid ((blk_set HO2.out 7 (.int .i64 x7)).trans (by rw [← HI8.out, ← HS7.out, List.setIfInBounds_toArray]))
        have HQ3 : Hid ((We.setCell ⟨w.heap.size + 1, 7, none⟩ (.int .i64 x7)).heap[w.heap.size]? = some (z8o 36)) := Lib.hid ((Below.heap_setCell _ _ _ _ (by simp only; omega)).trans HQ2.out)
        have HB3 : Hid (Below w.heap.size w (We.setCell ⟨w.heap.size + 1, 7, none⟩ (.int .i64 x7))) := Lib.hid (HB2.out.setCell (p := ⟨w.heap.size + 1, 7, none⟩) (by simp only; omega) _)
        have HS3 : At (fun w' : World => w'.cell? ⟨rb, off + 6, none⟩ = some (.int .u8 x6) ∧ w'.cell? ⟨rb, off + 7, none⟩ = some (.int .u8 x7)) (We.setCell ⟨w.heap.size + 1, 7, none⟩ (.int .i64 x7)) := by
          obtain ⟨s0, s1⟩ := HS2
          exact ⟨(World.cell?_of_block (a := ⟨rb, off + 6, none⟩) (Below.heap_setCell _ _ _ _ (by simp only; omega))).trans s0, (World.cell?_of_block (a := ⟨rb, off + 7, none⟩) (Below.heap_setCell _ _ _ _ (by simp only; omega))).trans s1⟩
        refine hK _ _ (fun _ => HS3) ?_
        clear hK K o7 z7 HS2 HO2 HQ2 HB2
        generalize We.setCell ⟨w.heap.size + 1, 7, none⟩ (.int .i64 x7) = w2 at *
        refine any_end (by kernel_rfl) ?_
        obtain ⟨x0, x1, x2, x3, x4, x5, x6', x7', hbe⟩ := len8 HL.out
        have hO := HO3.out
        rw [hbe] at hO
        obtain ⟨d0, d1, d2, d3, d4, d5, d6, d7⟩ := big8 hO
        have hQ := HQ3.out
        simp only [z8o] at hQ
        obtain ⟨q0, q1, q2, q3, q4, q5, q6, q7⟩ := big8 hQ
        have zz := blk_free hQ
        have HBE := Lib.hid hbe
        have HQ2 := Lib.hid hQ
        clear hO hbe hQ
        go_wp2
        have hZ8 := set8 HQ2.out (.int .i64 x0) (.int .i64 x1) (.int .i64 x2) (.int .i64 x3) (.int .i64 x4) (.int .i64 x5) (.int .i64 x6') (.int .i64 x7')
        have hFr := fr8 w2 w.heap.size (.int .i64 x0) (.int .i64 x1) (.int .i64 x2) (.int .i64 x3) (.int .i64 x4) (.int .i64 x5) (.int .i64 x6') (.int .i64 x7')
        generalize ((((((((w2.setCell ⟨w.heap.size, 0, none⟩ (.int .i64 x0)).setCell ⟨w.heap.size, 1, none⟩ (.int .i64 x1)).setCell ⟨w.heap.size, 2, none⟩ (.int .i64 x2)).setCell ⟨w.heap.size, 3, none⟩ (.int .i64 x3)).setCell ⟨w.heap.size, 4, none⟩ (.int .i64 x4)).setCell ⟨w.heap.size, 5, none⟩ (.int .i64 x5)).setCell ⟨w.heap.size, 6, none⟩ (.int .i64 x6')).setCell ⟨w.heap.size, 7, none⟩ (.int .i64 x7')) = Wf at *
        have hHB := HB3.out.trans (hFr.below (B := w.heap.size) HB3.out.size (fun k h => by omega))
        clear q0 q1 q2 q3 q4 q5 q6 q7 d0 d1 d2 d3 d4 d5 d6 d7 zz hFr
        refine bodyPost_ret (v := .tuple #[.agg #[.int .i64 x0, .int .i64 x1, .int .i64 x2, .int .i64 x3, .int .i64 x4, .int .i64 x5, .int .i64 x6', .int .i64 x7'], .int .i64 0]) ?_ rfl ?_
        · obtain ⟨e0, e1, e2, e3, e4, e5, e6, e7⟩ := big8 hZ8
          simp [results, Try.results20, go_sem, e0, e1, e2, e3, e4, e5, e6, e7]
        · rw [HD.out.1, HD.out.2, HBE.out]
          exact ⟨rfl, hHB⟩
  · have HD : Hid (decT b = zT ∧ decE b = 3) := Lib.hid (by simp [decT, decE, HL.out, h8])
    have hne : ((n : Int) != 8) = true := by simp; omega
    go_enter Try.func20, Try.ntmps20
    go_wp2
    refine bodyPost_ret (v := .tuple #[.agg #[.int .i64 0, .int .i64 0, .int .i64 0, .int .i64 0, .int .i64 0, .int .i64 0, .int .i64 0, .int .i64 0], .int .i64 3]) ?_ rfl ?_
    · obtain ⟨e0, e1, e2, e3, e4, e5, e6, e7⟩ := big8 (blk11 w (.cells #[.int .i64 0, .int .i64 0, .int .i64 0, .int .i64 0, .int .i64 0, .int .i64 0, .int .i64 0, .int .i64 0] 36))
      simp [results, Try.results20, go_sem, e0, e1, e2, e3, e4, e5, e6, e7]
    · rw [HD.out.1, HD.out.2]
      exact ⟨rfl, below_al _ _⟩
end Go.Proofs.Ytcgfoaihfncppaa
