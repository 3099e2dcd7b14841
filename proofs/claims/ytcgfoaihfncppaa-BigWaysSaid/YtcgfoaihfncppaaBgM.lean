/- Walks of big: bytes of a file, both of the program and of its reference. -/
import Derived.Test.YtcgfoaihfncppaaBgJ
import Derived.Test.YtcgfoaihfncppaaBgN
set_option linter.unusedSimpArgs false
set_option linter.unusedVariables false
namespace Go.Proofs.Ytcgfoaihfncppaa
open Go.RowKit Go.Sel Go.Sel.Gra Go.Sel.Bg Go.Sel.Mer Go.Shelf

def isB (x : Int) : Bool := decide (0 ≤ x) && decide (x ≤ 255)
def encF (t : List Int) : List Int := if t.all isB then t else []
def encE (t : List Int) : Int := if t.all isB then 0 else 3
theorem encF_byte (t : List Int) : AllByte (encF t) := by
  unfold encF
  split
  · rename_i h
    intro x hx
    have := List.all_eq_true.1 h x hx
    simpa [isB] using this
  · intro x hx; simp at hx
def bz (t : List Int) (k : Nat) : List Value := iv .u8 (t.take k) ++ List.replicate (8 - k) (.int .u8 0)
theorem bz_len {t : List Int} (ht : t.length = 8) {k : Nat} (hk : k ≤ 8) : (bz t k).length = 8 := by simp [bz, iv]; omega
theorem bz_at {t : List Int} (ht : t.length = 8) {k : Nat} (hk : k < 8) : (bz t k)[k]? = some (.int .u8 0) := by
  unfold bz
  rw [List.getElem?_append_right (by simp [iv]; omega)]
  have e : (iv .u8 (t.take k)).length = k := by simp [iv]; omega
  rw [e, Nat.sub_self, List.getElem?_replicate, if_pos (by omega)]
theorem bz_set {t : List Int} (ht : t.length = 8) {k : Nat} (hk : k < 8) (hkt : k < t.length) : (bz t k).set k (.int .u8 t[k]) = bz t (k + 1) := by
  unfold bz
  rw [List.set_append_right _ _ (by simp [iv]; omega)]
  have e : (iv .u8 (t.take k)).length = k := by simp [iv]; omega
  rw [e, Nat.sub_self, List.take_succ_eq_append_getElem hkt]
  have e2 : 8 - k = (8 - (k + 1)) + 1 := by omega
  rw [e2, List.replicate_succ, List.set_cons_zero]
  simp only [iv, List.map_append, List.map_cons, List.map_nil, List.append_assoc, List.cons_append, List.nil_append]

set_option maxRecDepth 100000 in
set_option maxHeartbeats 2000000 in
theorem Encode_any (t : List Int) (ht : t.length = 8) (w : World) : Calls Try.prog 17 #[bigV t] w fun e w' => (∃ A c, e = .returned (.tuple #[.slice A (encF t).length c, .int .i64 (encE t)]) ∧ Rd w' A (encF t).length c (iv .u8 (encF t))) ∧ Below w.heap.size w w' := by
  have HX : Hid (∀ i : Nat, i < 8 → ∀ W, (Instr.index 66 (bigV t) (.int .i64 (i : Int))).run Try.prog W = .ok (.int .i64 (tp t i)) W) := Lib.hid fun i hi W => index8 t ht i hi W
  have HT : Hid (∀ W, Calls Try.prog 39 #[bigV t] W fun e w' => e = .returned (bigV t) ∧ Below W.heap.size W w') := Lib.hid fun W => top_any t ht W
  have HB0 : Hid (∀ o : Obj, Below w.heap.size w ((w.alloc o).alloc (.cells (bz t 0).toArray 85)) ∧ ((w.alloc o).alloc (.cells (bz t 0).toArray 85)).heap[w.heap.size + 1]? = some (.cells (bz t 0).toArray 85 (0, 0))) := Lib.hid fun o => ⟨(below_al w o).alloc (by simp) _, by have := blk11 (w.alloc o) (.cells (bz t 0).toArray 85); simpa using this⟩
  have hcv : ∀ W, boxB W w.heap.size t → True := fun _ _ => trivial
  have H8 := Lib.hid ht
  have HTP : Hid (∀ i (h : i < t.length), tp t i = t[i]) := Lib.hid fun i h => by simp [tp, h]
  obtain ⟨a0, a1, a2, a3, a4, a5, a6, a7, hte⟩ := len8 ht
  have hbv : bigV t = .agg #[.int .i64 a0, .int .i64 a1, .int .i64 a2, .int .i64 a3, .int .i64 a4, .int .i64 a5, .int .i64 a6, .int .i64 a7] := by rw [hte]; rfl
  have HBV := Lib.hid hbv
  have hbz : bz t 0 = [.int .u8 0, .int .u8 0, .int .u8 0, .int .u8 0, .int .u8 0, .int .u8 0, .int .u8 0, .int .u8 0] := rfl
  have HBZ := Lib.hid hbz
  rw [hbv] at HX HT ⊢
  simp only [hbz] at HB0
  clear hbv hte hbz hcv ht
  go_enter Try.func17, Try.ntmps17
  go_wp2_with (go_at_call 39; refine (HT.out _).mono ?_; rintro e w2 ⟨rfl, hB⟩; have HB := Lib.hid ((HB0.out _).1.trans (hB.mono (HB0.out _).1.size)); have HO := Lib.hid (blk_below (HB0.out _).2 hB (Array.getElem?_eq_some_iff.1 (HB0.out _).2).1); clear hB)
  clear HT HB0
  go_loopw [5, 6, 9] (fun _ _ v wr => ∃ k : Nat, k ≤ 8 ∧ v = .int .i64 k ∧ Hid (∀ j, j < k → isB (tp t j) = true) ∧ Hid (wr.heap[w.heap.size + 1]? = some (.cells (bz t k).toArray 85 (0, 0))) ∧ Hid (Below w.heap.size w wr)) (fun _ _ v _ => 8 - (Go.RowKit.intOf v).toNat)
  case atStart => exact ⟨0, by omega, rfl, fun j hj => by omega, by rw [HBZ.out]; exact HO.out, HB⟩
  case round =>
    clear HB HO
    obtain ⟨k, hk, rfl, HG, HO, HB⟩ := hrel
    by_cases hlt : k < 8
    · have hx := HX.out k hlt
      have hkt : k < t.length := by rw [H8.out]; exact hlt
      have hoc := cells_at HO.out k
      rw [bz_at H8.out hlt] at hoc
      have hof := blk_free HO.out k
      have HBS := Lib.hid (bz_set H8.out hlt hkt)
      have HTK := Lib.hid (HTP.out k hkt)
      have hw8 := HB.out.size
      by_cases hb : isB (tp t k) = true
      · have hb' := hb
        simp only [isB, Bool.and_eq_true, decide_eq_true_eq] at hb'
        have hwx : IntKind.u8.wrap (tp t k) = tp t k := IntWalk.u8_in _ hb'
        have HBK := Lib.hid hb
        clear hb HX
        have HS := Lib.hid (blk_set HO.out k (.int .u8 (tp t k)))
        have hnlt : ¬ (tp t k < 0) := by omega
        have hngt : ¬ (255 < tp t k) := by omega
        clear hb'
        go_wp2
        refine ⟨⟨k + 1, by omega, by go_num, fun j hj => (if h : j = k then h ▸ HBK.out else HG.out j (by omega)), ?_, HB.out.setCell (p := ⟨w.heap.size + 1, k, none⟩) (by simp only; omega) _⟩, by simp [Go.RowKit.intOf]; omega⟩
        refine HS.out.trans ?_
        rw [← HBS.out, HTK.out, List.setIfInBounds_toArray]
      · have hb' : ¬ (0 ≤ tp t k ∧ tp t k ≤ 255) := by simpa [isB] using hb
        have hbad : t.all isB = false := by
          rw [List.all_eq_false]
          exact ⟨t[k], List.getElem_mem hkt, by rw [← HTK.out]; exact hb⟩
        have HF : Hid (encF t = [] ∧ encE t = 3) := Lib.hid (by simp [encF, encE, hbad])
        clear hbad hb HX
        by_cases h0 : tp t k < 0
        · clear hb'
          go_wp2
          go_ret2
          rw [HF.out.1, HF.out.2]
          exact ⟨⟨none, 0, rfl, Rd.nil (c := 0) (by omega)⟩, HB.out⟩
        · have h255 : 255 < tp t k := by omega
          clear hb'
          go_wp2
          go_ret2
          rw [HF.out.1, HF.out.2]
          exact ⟨⟨none, 0, rfl, Rd.nil (c := 0) (by omega)⟩, HB.out⟩
    · obtain rfl : k = 8 := by omega
      have HF : Hid (encF t = t ∧ encE t = 0) := Lib.hid (by
        have : t.all isB = true := List.all_eq_true.2 fun x hx => by
          obtain ⟨j, hj, rfl⟩ := List.mem_iff_getElem.1 hx
          have := HG.out j (by have := H8.out; omega)
          rwa [HTP.out j hj] at this
        simp [encF, encE, this])
      have hb8 : bz t 8 = iv .u8 t := by have := H8.out; simp [bz, ← this]
      have HR : Hid (Rd wr (some ⟨w.heap.size + 1, 0, none⟩) 8 8 (iv .u8 t)) := Lib.hid (rd_block (by rw [HO.out, hb8]) 8 8 _ 0 (Nat.le_refl _) (by omega) (fun j hj => by simp))
      clear hb8 HX
      go_wp2
      go_ret2
      rw [HF.out.1, HF.out.2, H8.out]
      exact ⟨⟨_, _, rfl, HR.out⟩, HB.out⟩

set_option maxRecDepth 100000 in
set_option maxHeartbeats 2000000 in
theorem rEncode_any (t : List Int) (ht : t.length = 8) (w : World) : Calls Try.prog 18 #[bigV t] w fun e w' => (∃ A c, e = .returned (.tuple #[.slice A (encF t).length c, .int .i64 (encE t)]) ∧ Rd w' A (encF t).length c (iv .u8 (encF t))) ∧ Below w.heap.size w w' := by
  have HT : Hid (∀ W, Calls Try.prog 40 #[bigV t] W fun e w' => (∃ A c, e = .returned (.slice A 8 c) ∧ Rd w' A 8 c (iv .i64 t)) ∧ Below W.heap.size W w') := Lib.hid fun W => numbers_any t ht W
  have H8 := Lib.hid ht
  have HTP : Hid (∀ i (h : i < t.length), tp t i = t[i]) := Lib.hid fun i h => by simp [tp, h]
  obtain ⟨a0, a1, a2, a3, a4, a5, a6, a7, hte⟩ := len8 ht
  have hbv : bigV t = .agg #[.int .i64 a0, .int .i64 a1, .int .i64 a2, .int .i64 a3, .int .i64 a4, .int .i64 a5, .int .i64 a6, .int .i64 a7] := by rw [hte]; rfl
  rw [hbv] at HT ⊢
  clear hbv hte ht
  go_enter Try.func18, Try.ntmps18
  go_wp2_with (go_at_call 40; refine (HT.out _).mono ?_; rintro e w2 ⟨⟨A, c, rfl, hr⟩, hB⟩; have HB := Lib.hid (below_then (below_al w _) hB); have HR := Lib.hid hr; have hl1 := hr.le; have hl2 := hr.cap; clear hB hr)
  clear HT
  go_loopw [5, 6] (fun s v wr => ∃ (k c5 : Nat) (A5 : Option Addr), k ≤ 8 ∧ v = .int .i64 k ∧ s = .slice A5 k c5 ∧ Hid (∀ j, j < k → isB (tp t j) = true) ∧ Hid (wr.ownsRow w2.heap.size 5 1 (.slice A5 k c5) k (iv .u8 (t.take k))) ∧ Hid (Below w2.heap.size w2 wr)) (fun _ v _ => 8 - (Go.RowKit.intOf v).toNat)
  case atStart => exact ⟨0, 0, none, by omega, rfl, rfl, fun j hj => by omega, World.ownsRow_nil _ _ _ _, Below.refl _ _⟩
  case round =>
    obtain ⟨k, c5, A5, hk, rfl, rfl, HG, HO, HB2⟩ := hrel
    by_cases hlt : k < 8
    · have hkt : k < t.length := by rw [H8.out]; exact hlt
      obtain ⟨b, off, rfl, hb, hc⟩ := (HR.out.below HB2.out).form (by simp; omega)
      have hck := hc k (by simpa using hkt)
      rw [iv_at, ← HTP.out k hkt] at hck
      have HTK := Lib.hid (HTP.out k hkt)
      have hs2 := HB2.out.size
      clear hc
      by_cases hb : isB (tp t k) = true
      · have hb' := hb
        simp only [isB, Bool.and_eq_true, decide_eq_true_eq] at hb'
        have hwx : IntKind.u8.wrap (tp t k) = tp t k := IntWalk.u8_in _ hb'
        have HBK := Lib.hid hb
        clear hb
        have hnlt : ¬ (tp t k < 0) := by omega
        have hngt : ¬ (255 < tp t k) := by omega
        clear hb'
        have HE : Hid (iv .u8 (t.take (k + 1)) = iv .u8 (t.take k) ++ [.int .u8 (tp t k)]) := Lib.hid (by rw [HTK.out, List.take_succ_eq_append_getElem hkt]; simp only [iv, List.map_append, List.map_cons, List.map_nil])
        go_wp2_with (at_builtin; refine wpList_push wr rfl _ _ 45 5 rfl w2.heap.size (.int .u8 0) 1 Try.underlying45 infoU8 rfl (by omega) (.slice A5 k c5) k _ (.int .u8 (tp t k)) rfl rfl rfl HO.out (by omega) (by omega) rfl ?_; intro g cap w1 ho hg hat hlt1)
        refine ⟨⟨k + 1, cap, some ⟨g, 0, none⟩, by omega, by go_num, rfl, fun j hj => (if h : j = k then h ▸ HBK.out else HG.out j (by omega)), ?_, below_grown HB2.out hg hs2 (fun j hj => by have := own_row HO.out j hj; omega)⟩, by simp [Go.RowKit.intOf]; omega⟩
        show World.ownsRow _ _ _ _ _ _ _
        rw [HE.out]
        exact ho
      · have hb' : ¬ (0 ≤ tp t k ∧ tp t k ≤ 255) := by simpa [isB] using hb
        have hbad : t.all isB = false := by
          rw [List.all_eq_false]
          exact ⟨t[k], List.getElem_mem hkt, by rw [← HTK.out]; exact hb⟩
        have HF : Hid (encF t = [] ∧ encE t = 3) := Lib.hid (by simp [encF, encE, hbad])
        clear hbad hb
        by_cases h0 : tp t k < 0
        · clear hb'
          go_wp2
          go_ret2
          rw [HF.out.1, HF.out.2]
          exact ⟨⟨none, 0, rfl, Rd.nil (c := 0) (by omega)⟩, HB.out.trans (HB2.out.mono HB.out.size)⟩
        · have h255 : 255 < tp t k := by omega
          clear hb'
          go_wp2
          go_ret2
          rw [HF.out.1, HF.out.2]
          exact ⟨⟨none, 0, rfl, Rd.nil (c := 0) (by omega)⟩, HB.out.trans (HB2.out.mono HB.out.size)⟩
    · obtain rfl : k = 8 := by omega
      have HF : Hid (encF t = t ∧ encE t = 0) := Lib.hid (by
        have : t.all isB = true := List.all_eq_true.2 fun x hx => by
          obtain ⟨j, hj, rfl⟩ := List.mem_iff_getElem.1 hx
          have := HG.out j (by have := H8.out; omega)
          rwa [HTP.out j hj] at this
        simp [encF, encE, this])
      have e8 : t.take 8 = t := List.take_of_length_le (by have := H8.out; omega)
      obtain ⟨A2, c2, e2, _, hr2⟩ := rd_own HO.out
      cases e2
      rw [e8] at hr2
      have HR2 := Lib.hid hr2
      clear hr2 e8
      go_wp2
      go_ret2
      rw [HF.out.1, HF.out.2, H8.out]
      exact ⟨⟨_, _, rfl, HR2.out⟩, HB.out.trans (HB2.out.mono HB.out.size)⟩
end Go.Proofs.Ytcgfoaihfncppaa
