/- Walks of graph: ContainsFunc, Right, marks, closeAll, some. -/
import Derived.Test.YtpicagcapgjiaaaProg
import Derived.Test.YtpicagcapgjiaaaSel7
import Derived.Shelf.Abstract
import Derived.Deep.LoopGhost
set_option linter.unusedSimpArgs false
set_option linter.unusedVariables false
namespace Go.Proofs.Ytpicagcapgjiaaa
open Go.RowKit Go.Sel Go.Sel.Gra Go.Shelf

theorem any_at (p : Int → Bool) (xs : List Int) (k : Nat) (h : k < xs.length) (hx : p xs[k] = true) : xs.any p = true := by
  rw [List.any_eq_true]; exact ⟨_, List.getElem_mem h, hx⟩
theorem any_none (p : Int → Bool) (xs : List Int) (h : ∀ j (h : j < xs.length), p xs[j] = false) : xs.any p = false := by
  rw [List.any_eq_false]
  intro x hx
  obtain ⟨j, hj, rfl⟩ := List.mem_iff_getElem.1 hx
  simp [h j hj]

/-- What a function value that tells is asked: from w on it only draws. -/
def Tells (g : Nat) (lb : Array Value) (p : Int → Bool) (xs : List Int) (w : World) : Prop :=
  ∀ x ∈ xs, ∀ q, Calls Try.prog g (#[.int .i64 x] ++ lb) (w.drewN q) fun e w' => e = .returned (.bool (p x)) ∧ ∃ q', w' = (w.drewN q).drewN q'

set_option maxHeartbeats 1000000 in
theorem IndexFunc_any (g : Nat) (lb : Array Value) (eg : ∀ args w, (callFunc g args).run Try.prog w = .ok (.enter g args) w) (p : Int → Bool) (A : Option Addr) (n c : Nat) (xs : List Int) (w : World) (ha : Rd w A n c (iv .i64 xs)) (hn : xs.length = n) (hp : Tells g lb p xs w) :
    Calls Try.prog 97 #[.slice A n c, .func (.func g) #[] lb] w fun e w' => (∃ i : Int, e = .returned (.int .i64 i) ∧ decide (0 ≤ i) = xs.any p) ∧ ∃ q, w' = w.drewN q := by
  have HA := Lib.hid ha
  have HN := Lib.hid hn
  have HP := Lib.hid hp
  have l1 : n ≤ 9223372036854775807 := by have := ha.le; have := ha.cap; omega
  clear ha hn hp
  go_enter Try.func97, Try.ntmps97
  go_wp2
  go_loopw [5, 8] (fun _ v wr => ∃ k : Nat, k ≤ n ∧ v = .int .i64 k ∧ Hid (∀ j (h : j < xs.length), j < k → p xs[j] = false) ∧ ∃ q, wr = w.drewN q) (fun _ v _ => n - (intOf v).toNat)
  case atStart => exact ⟨0, by omega, rfl, Lib.hid (fun j h hj => by omega), 0, rfl⟩
  case round =>
    obtain ⟨k, hk, rfl, hz, q, rfl⟩ := hrel
    by_cases hlt : k < n
    · have hxl : k < xs.length := by have := HN.out; omega
      obtain ⟨b, off, rfl, _, hc⟩ := HA.out.form (by simp; omega)
      have hck := hc k (by simpa using hxl)
      rw [iv_at] at hck
      clear hc
      have hcall := HP.out xs[k] (List.getElem_mem hxl) q
      have HK : Hid (p xs[k] = p xs[k]) := Lib.hid rfl
      cases hq : p xs[k] with
      | true =>
        rw [hq] at hcall
        have HQ := Lib.hid hq
        clear hq HK
        go_wp2_with (go_at_fn g; refine hcall.mono ?_; rintro e w' ⟨rfl, q', rfl⟩)
        go_ret
        exact ⟨⟨k, rfl, by rw [any_at p xs k hxl HQ.out]; simp⟩, ⟨_, rfl⟩⟩
      | false =>
        rw [hq] at hcall
        have HQ := Lib.hid hq
        clear hq HK
        go_wp2_with (go_at_fn g; refine hcall.mono ?_; rintro e w' ⟨rfl, q', rfl⟩)
        refine ⟨⟨k + 1, by omega, by go_num, fun j h hj => ?_, ⟨_, rfl⟩⟩, by simp [intOf]; omega⟩
        by_cases hjk : j = k
        · subst hjk; exact HQ.out
        · exact hz.out j h (by omega)
    · go_wp2
      go_ret
      exact ⟨⟨-1, rfl, by rw [any_none p xs (fun j h => hz.out j h (by have := HN.out; omega))]; simp⟩, q, rfl⟩
theorem ContainsFunc_any (g : Nat) (lb : Array Value) (eg : ∀ args w, (callFunc g args).run Try.prog w = .ok (.enter g args) w) (p : Int → Bool) (A : Option Addr) (n c : Nat) (xs : List Int) (w : World) (ha : Rd w A n c (iv .i64 xs)) (hn : xs.length = n) (hp : Tells g lb p xs w) :
    Calls Try.prog 56 #[.slice A n c, .func (.func g) #[] lb] w fun e w' => e = .returned (.bool (xs.any p)) ∧ ∃ q, w' = w.drewN q := by
  have HC : Hid (Calls Try.prog 97 #[.slice A n c, .func (.func g) #[] lb] w fun e w' => (∃ i : Int, e = .returned (.int .i64 i) ∧ decide (0 ≤ i) = xs.any p) ∧ ∃ q, w' = w.drewN q) := IndexFunc_any g lb eg p A n c xs w ha hn hp
  clear ha hn hp eg
  go_enter Try.func56, Try.ntmps56
  go_wp2_with (go_at_call 97; refine HC.out.mono ?_; rintro e w' ⟨⟨i, rfl, hi⟩, q, rfl⟩; have HI := Lib.hid hi; clear hi)
  go_ret
  exact ⟨ret_bool HI.out, q, rfl⟩

/-- 'd < 0 || d >= i'. -/
def bad (i d : Int) : Bool := decide (d < 0) || decide (i ≤ d)
theorem Right1_tells (i : Int) (b : Nat) (xs : List Int) (w : World) (hb : w.cell? ⟨b, 0, none⟩ = some (.int .i64 i)) : Tells 57 #[.pointer (some ⟨b, 0, none⟩)] (bad i) xs w := by
  intro x _ q
  have hc : (w.drewN q).cell? ⟨b, 0, none⟩ = some (.int .i64 i) := by simpa using hb
  generalize w.drewN q = w0 at *
  clear hb
  go_enter Try.func57, Try.ntmps57
  go_wp2
  all_goals go_ret
  all_goals refine ⟨ret_bool ?_, 0, rfl⟩
  all_goals simp [bad] at *
  all_goals omega
theorem right_bad {D : List (List Int)} (k : Nat) (hk : k < D.length) (h : (decide (256 < (nth D k).length) || (nth D k).any (bad k)) = true) : rightD D = false := by
  rw [Bool.eq_false_iff]
  intro hr
  have h1 := (right_iff.1 hr).2 k hk
  rw [Bool.or_eq_true, decide_eq_true_eq, List.any_eq_true] at h
  rcases h with h | ⟨d, hd, h⟩
  · omega
  · have := h1.2 d hd
    simp [bad] at h; omega
theorem right_end {D : List (List Int)} (hl : D.length ≤ 256) (h : ∀ k, k < D.length → (decide (256 < (nth D k).length) || (nth D k).any (bad k)) = false) : rightD D = true := by
  rw [right_iff]
  refine ⟨hl, fun i hi => ?_⟩
  have := h i hi
  rw [Bool.or_eq_false_iff, decide_eq_false_iff_not, List.any_eq_false] at this
  refine ⟨by omega, fun d hd => ?_⟩
  have := this.2 d hd
  simp [bad] at this; omega
theorem right_long {D : List (List Int)} (hl : 256 < D.length) : rightD D = false := by
  rw [Bool.eq_false_iff]; intro hr; have := (right_iff.1 hr).1; omega

set_option maxHeartbeats 1000000 in
theorem Right_any (A : Option Addr) (n c : Nat) (D : List (List Int)) (w : World) (hD : Dp w A n c D) :
    Calls Try.prog 16 #[.slice A n c] w fun e w' => e = .returned (.bool (rightD D)) ∧ Below w.heap.size w w' := by
  have HD := Lib.hid hD
  have HN := Lib.hid hD.len
  have l1 := hD.le
  have l2 := hD.cap
  clear hD
  by_cases hl : n ≤ 256
  · go_enter Try.func16, Try.ntmps16
    go_wp2
    go_loopw [3, 4, 10] (fun _ _ v wr => ∃ k : Nat, k ≤ n ∧ v = .int .i64 k ∧ Hid (∀ j, j < k → (decide (256 < (nth D j).length) || (nth D j).any (bad j)) = false) ∧ Hid (Below w.heap.size w wr)) (fun _ _ v _ => n - (intOf v).toNat)
    case atStart => exact ⟨0, by omega, rfl, Lib.hid (fun j hj => by omega), Below.refl _ _⟩
    case round =>
      obtain ⟨k, hk, rfl, hz, HB⟩ := hrel
      by_cases hlt : k < n
      · obtain ⟨b, off, A', n', c', rfl, hc, hn', hr⟩ := (HD.out.below HB.out).at_ hlt
        have hl1 := hr.le
        have hl2 := hr.cap
        have HR := Lib.hid hr
        have HN' := Lib.hid hn'
        have HAL := Lib.hid (below_al wr (.cells #[.int .i64 k] 3))
        clear hr hn'
        by_cases hlong : n' ≤ 256
        · have HC : Hid (∀ q, Calls Try.prog 56 #[.slice A' n' c', .func (.func 57) #[] #[.pointer (some ⟨wr.heap.size, 0, none⟩)]] ((wr.alloc (.cells #[.int .i64 k] 3)).drewN q) fun e w' => e = .returned (.bool ((nth D k).any (bad k))) ∧ ∃ q', w' = ((wr.alloc (.cells #[.int .i64 k] 3)).drewN q).drewN q') := fun q =>
            ContainsFunc_any _ _ (enters_of Try.func57 (by kernel_rfl) rfl) (bad k) A' n' c' (nth D k) _ (rd_drewN q (HR.out.alloc _)) HN'.out (Right1_tells k _ _ _ (by simp))
          have HB1 := Lib.hid (below_then HB.out HAL.out)
          have HLG : Hid (decide (256 < (nth D k).length) = false) := by show _ = _; rw [HN'.out]; simpa using hlong
          generalize hq : (nth D k).any (bad k) = t at *
          have HQ := Lib.hid hq
          clear hq
          cases t with
          | false =>
            go_wp2_with (go_at_call 56; refine (HC.out 0).mono ?_; rintro e w' ⟨rfl, q', rfl⟩)
            refine ⟨⟨k + 1, by omega, by go_num, fun j hj => ?_, Below.then_drewN HB1.out _⟩, by simp [intOf]; omega⟩
            by_cases hjk : j = k
            · subst hjk; rw [HLG.out, HQ.out]; rfl
            · exact hz.out j (by omega)
          | true =>
            go_wp2_with (go_at_call 56; refine (HC.out 0).mono ?_; rintro e w' ⟨rfl, q', rfl⟩)
            go_ret
            exact ⟨ret_bool (right_bad k (by have := HN.out; omega) (by rw [HQ.out]; simp)).symm, Below.then_drewN HB1.out _⟩
        · have HLG : Hid (decide (256 < (nth D k).length) = true) := by show _ = _; rw [HN'.out]; simp; omega
          have HB1 := Lib.hid (below_then HB.out HAL.out)
          go_wp2
          go_ret
          exact ⟨ret_bool (right_bad k (by have := HN.out; omega) (by rw [HLG.out]; simp)).symm, HB1.out⟩
      · go_wp2
        go_ret
        exact ⟨ret_bool (right_end (by rw [HN.out]; omega) (fun j hj => hz.out j (by have := HN.out; omega))).symm, HB.out⟩
  · go_enter Try.func16, Try.ntmps16
    go_wp2
    go_ret
    exact ⟨ret_bool (right_long (by rw [HN.out]; omega)).symm, Below.refl _ _⟩

/-! ### marks -/
def falses (n : Nat) : List Bool := List.replicate n false
theorem bv_falses (n : Nat) : bv (falses n) = List.replicate n (.bool false) := by simp [bv, falses]
theorem mkB (n : Nat) (hn : n ≤ 1000) (w : World) : (Instr.makeSlice 87 (.int .i64 (n : Int)) (.int .i64 (n : Int))).run Try.prog w = .ok (.slice (some ⟨w.heap.size, 0, none⟩) n n) (w.alloc (.cells (bv (falses n)).toArray 4)) := by
  rw [run_makeN 87 4 (.bool false) 1 Try.underlying87 (by kernel_rfl) rfl n (by omega) (by omega) w, bv_falses]

def cB (g : Nat) (n : Nat) : Value := .slice (some ⟨g, 0, none⟩) n n

set_option maxHeartbeats 1000000 in
theorem marks_any (A : Option Addr) (n c : Nat) (xs : List Int) (N : Nat) (w : World) (ha : Rd w A n c (iv .i64 xs)) (hn : xs.length = n) (hN : N ≤ 1000) :
    Calls Try.prog 61 #[.slice A n c, .int .i64 (N : Int)] w fun e w' => e = .returned (.tuple #[.slice (some ⟨w.heap.size, 0, none⟩) N N, .bool (allIn xs N)]) ∧ Bk w' w.heap.size 4 (bv (marksL xs N)) ∧ Below w.heap.size w w' := by
  have hmk := mkB N hN
  have HA := Lib.hid ha
  have HL := Lib.hid hn
  have l1 : n ≤ 9223372036854775807 := by have := ha.le; have := ha.cap; omega
  clear ha hn
  go_enter Try.func61, Try.ntmps61
  go_wp2
  have HB0 : Hid (Bk (w.alloc (.cells (bv (falses N)).toArray 4)) w.heap.size 4 (bv (marksL (xs.take 0) N))) := by
    show Bk _ _ _ _
    rw [List.take_zero, marksL_nil]; exact Bk.new _ _ _
  have HW : Hid (Below w.heap.size w (w.alloc (.cells (bv (falses N)).toArray 4))) := below_al _ _
  clear hmk
  generalize w.alloc (.cells (bv (falses N)).toArray 4) = w0 at *
  go_loopw [5, 7, 12] (fun al _ v wr => ∃ k : Nat, k ≤ n ∧ v = .int .i64 k ∧ al = .bool (allIn (xs.take k) N) ∧ Hid (Bk wr w.heap.size 4 (bv (marksL (xs.take k) N))) ∧ Hid (Below w.heap.size w wr)) (fun _ _ v _ => n - (intOf v).toNat)
  case atStart => exact ⟨0, by omega, rfl, rfl, HB0, HW⟩
  case round =>
    obtain ⟨k, hk, rfl, rfl, HB, HWr⟩ := hrel
    by_cases hlt : k < n
    · have hxl : k < xs.length := by have := HL.out; omega
      obtain ⟨b, off, rfl, _, hc⟩ := (HA.out.below HWr.out).form (by simp; omega)
      have hck := hc k (by simpa using hxl)
      rw [iv_at] at hck
      clear hc
      have HT : Hid (xs.take (k + 1) = xs.take k ++ [xs[k]]) := List.take_succ_eq_append_getElem hxl
      generalize hx : xs[k] = x at *
      have HX := Lib.hid hx
      clear hx
      by_cases hin : 0 ≤ x ∧ x < (N : Int)
      · obtain ⟨j, rfl⟩ := Int.eq_ofNat_of_zero_le hin.1
        have hj : j < N := by omega
        have hcj := HB.out.cell j (by simpa using hj)
        have hfj := HB.out.free j
        have HB1 : Hid (Bk (wr.setCell ⟨w.heap.size, j, none⟩ (.bool true)) w.heap.size 4 (bv (marksL (xs.take (k + 1)) N))) := by
          show Bk _ _ _ _
          rw [HT.out, marksL_snoc_in hj, ← bv_set]; exact HB.out.set j _
        have HW1 : Hid (Below w.heap.size w (wr.setCell ⟨w.heap.size, j, none⟩ (.bool true))) := HWr.out.setCell (Nat.le_refl _) _
        have HAL : Hid (allIn (xs.take (k + 1)) N = allIn (xs.take k) N) := by
          show _ = _
          rw [HT.out]; simp [allIn]; omega
        generalize allIn (xs.take k) N = al at *
        go_wp2
        refine ⟨⟨k + 1, by omega, by go_num, by rw [HAL.out], HB1, HW1⟩, by simp [intOf]; omega⟩
      · have HB1 : Hid (Bk wr w.heap.size 4 (bv (marksL (xs.take (k + 1)) N))) := by
          show Bk _ _ _ _
          rw [HT.out, marksL_snoc_out hin]; exact HB.out
        have HAL : Hid (allIn (xs.take (k + 1)) N = false) := by
          show _ = _
          rw [Bool.eq_false_iff]; intro h; rw [HT.out] at h
          have := allIn_iff.1 h x (by simp); exact hin this
        have hor : x < 0 ∨ (N : Int) ≤ x := by omega
        generalize allIn (xs.take k) N = al at *
        clear hin
        rcases hor with hneg | hge
        · go_wp2
          refine ⟨⟨k + 1, by omega, by go_num, by rw [HAL.out], HB1, HWr⟩, by simp [intOf]; omega⟩
        · by_cases hneg : x < 0
          · go_wp2
            refine ⟨⟨k + 1, by omega, by go_num, by rw [HAL.out], HB1, HWr⟩, by simp [intOf]; omega⟩
          · go_wp2
            refine ⟨⟨k + 1, by omega, by go_num, by rw [HAL.out], HB1, HWr⟩, by simp [intOf]; omega⟩
    · have hkn : k = n := by omega
      have HE : Hid (xs.take k = xs) := List.take_of_length_le (by have := HL.out; omega)
      rw [HE.out]
      rw [HE.out] at HB
      go_wp2
      go_ret2
      exact ⟨rfl, HB.out, HWr.out⟩
end Go.Proofs.Ytpicagcapgjiaaa
