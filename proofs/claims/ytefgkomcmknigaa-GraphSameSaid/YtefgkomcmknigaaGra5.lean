/- Walks of graph: Above. -/
import Derived.Test.YtefgkomcmknigaaGra4
import Derived.Deep.CutBlock
import Derived.Deep.DeepCutAuto
import Derived.Deep.RegionWith
set_option linter.unusedSimpArgs false
set_option linter.unusedVariables false
namespace Go.Proofs.Ytefgkomcmknigaa
open Go.RowKit Go.Sel Go.Sel.Gra Go.Shelf

/-! ### Above -/
theorem aboveM_low {D : List (List Int)} {a k : Nat} (h : k ≤ a + 1) : aboveM D a k = falses k := by
  induction k with
  | zero => rfl
  | succ k ih =>
    rw [aboveM, ih (by omega)]
    have : decide (a < k) = false := by simp; omega
    rw [this]
    simp [falses, List.replicate_succ']
/-- What stands in m when i rounds are over. -/
def part (r : List Bool) (n : Nat) : List Bool := r ++ falses (n - r.length)
theorem part_length (r : List Bool) (n : Nat) (h : r.length ≤ n) : (part r n).length = n := by simp [part, falses]; omega
theorem bit_part {r : List Bool} {n j : Nat} (h : j < r.length) : bit (part r n) j = bit r j := bit_append_left h
theorem part_snoc {r : List Bool} {n : Nat} {b : Bool} (h : r.length < n) : (part r n).set r.length b = part (r ++ [b]) n := by
  have e : n - r.length = (n - (r.length + 1)) + 1 := by omega
  simp only [part, falses, List.length_append, List.length_singleton]
  rw [e, List.replicate_succ]
  simp
theorem part_full {r : List Bool} {n : Nat} (h : r.length = n) : part r n = r := by simp [part, falses, h]
/-- 'd == a || m[d]'. -/
def abP (a : Int) (m : List Bool) (d : Int) : Bool := decide (d = a) || bit m d.toNat
theorem Above1_tells (a : Int) (b1 b2 g n : Nat) (m : List Bool) (xs : List Int) (w : World) (hx : ∀ x ∈ xs, 0 ≤ x ∧ x < (m.length : Int)) (hm : m.length = n) (h1 : w.cell? ⟨b1, 0, none⟩ = some (.int .i64 a)) (h2 : w.cell? ⟨b2, 0, none⟩ = some (.slice (some ⟨g, 0, none⟩) n n)) (hb : Bk w g 4 (bv m)) :
    Tells 41 #[.pointer (some ⟨b1, 0, none⟩), .pointer (some ⟨b2, 0, none⟩)] (abP a m) xs w := by
  intro x hx' q
  obtain ⟨x0, x1⟩ := hx x hx'
  obtain ⟨xn, rfl⟩ := Int.eq_ofNat_of_zero_le x0
  have hc1 : (w.drewN q).cell? ⟨b1, 0, none⟩ = some (.int .i64 a) := by simpa using h1
  have hc2 : (w.drewN q).cell? ⟨b2, 0, none⟩ = some (.slice (some ⟨g, 0, none⟩) n n) := by simpa using h2
  have hcell : (w.drewN q).cell? ⟨g, xn, none⟩ = some (.bool (bit m xn)) := by simpa using hb.bit xn (by omega)
  have hlt : xn < n := by omega
  have HE : Hid (abP a m xn = (decide ((xn : Int) = a) || bit m xn)) := by show _ = _; simp [abP]
  generalize w.drewN q = w0 at *
  generalize bit m xn = t at *
  clear h1 h2 hb hx hx' x0 x1 hm
  by_cases he : (xn : Int) = a
  · have hbe : ((xn : Int) == a) = true := by simpa using he
    have HH := Lib.hid he
    clear he
    go_enter Try.func41, Try.ntmps41
    go_wp2
    go_ret
    exact ⟨ret_bool (by rw [HE.out, decide_eq_true HH.out]; rfl), 0, rfl⟩
  · have hbe : ((xn : Int) == a) = false := by simpa using he
    have HH := Lib.hid he
    clear he
    go_enter Try.func41, Try.ntmps41
    go_wp2
    go_ret
    exact ⟨ret_bool (by rw [HE.out, decide_eq_false HH.out]; rfl), 0, rfl⟩

theorem any_congr {p q : Int → Bool} {l : List Int} (h : ∀ d ∈ l, p d = q d) : l.any p = l.any q := by
  rw [Bool.eq_iff_iff, List.any_eq_true, List.any_eq_true]
  exact ⟨fun ⟨d, hd, hp⟩ => ⟨d, hd, by rw [← h d hd]; exact hp⟩, fun ⟨d, hd, hp⟩ => ⟨d, hd, by rw [h d hd]; exact hp⟩⟩
theorem above_next {D : List (List Int)} (hr : rightD D = true) {a k n : Nat} (hk : a < k) : aboveM D a (k + 1) = aboveM D a k ++ [(nth D k).any (abP a (part (aboveM D a k) n))] := by
  rw [aboveM, decide_eq_true hk, Bool.true_and]
  congr 2
  refine any_congr fun d hd => ?_
  have := right_mem hr hd
  rw [abP, bit_part (by simp; omega)]
theorem ContainsFunc_hid {g : Nat} {lb : Array Value} {p : Int → Bool} {A : Option Addr} {n c : Nat} {xs : List Int} {w : World} (h : Hid (Calls Try.prog 38 #[.slice A n c, .func (.func g) #[] lb] w fun e w' => e = .returned (.bool (xs.any p)) ∧ ∃ q, w' = w.drewN q)) : Calls Try.prog 38 #[.slice A n c, .func (.func g) #[] lb] w fun e w' => e = .returned (.bool (xs.any p)) ∧ ∃ q, w' = w.drewN q := h

set_option maxHeartbeats 2000000 in
theorem Above_any (A : Option Addr) (n c : Nat) (D : List (List Int)) (a : Int) (w : World) (hD : Dp w A n c D) :
    Calls Try.prog 23 #[.slice A n c, .int .i64 a] w fun e w' => (∃ A' c', e = .returned (.slice A' (aboveL D a).length c') ∧ Rd w' A' (aboveL D a).length c' (iv .i64 (aboveL D a))) ∧ Below w.heap.size w w' := by
  have hl := hD.len
  have l1 := hD.le
  have l2 := hD.cap
  have HD := Lib.hid hD
  have HL := Lib.hid hl
  clear hD
  by_cases hin : 0 ≤ a ∧ a < (n : Int)
  · obtain ⟨a0, a1⟩ := hin
    obtain ⟨an, rfl⟩ := Int.eq_ofNat_of_zero_le a0
    cases hr : rightD D with
    | false =>
      have HR := Lib.hid hr
      have HE : Hid (aboveL D an = []) := by show _ = _; simp [aboveL, hr]
      rw [HE.out]
      clear hl hr
      go_enter Try.func23, Try.ntmps23
      go_wp2_with (go_at_call 17; (with_reducible refine (Right_any A n c D _ (HD.out.below (below_al _ _))).mono ?_); rw [HR.out]; rintro e w1 ⟨rfl, hB⟩; have HB1 := Lib.hid (below_then (below_al _ _) hB); clear hB)
      go_ret
      exact ⟨⟨none, 0, rfl, Rd.nil (by omega)⟩, HB1.out⟩
    | true =>
      have h256 := (right_iff.1 hr).1
      have hn : n ≤ 1000 := by omega
      have ha' : an < n := by omega
      have HR := Lib.hid hr
      have HE : Hid (aboveL D an = thoseL (aboveM D an n)) := by show _ = _; simp [aboveL, hr, hl]; omega
      rw [HE.out]
      have hmk := mkB n hn
      have t1 : decide ((an : Int) < 0) = false := by simp
      have t2 : decide (n ≤ an) = false := by simp; omega
      clear hl hr h256
      go_enter Try.func23, Try.ntmps23
      go_upto_block 0 with (go_at_call 17; (with_reducible refine (Right_any A n c D _ (HD.out.below (below_al _ _))).mono ?_); rw [HR.out]; rintro e w1 ⟨rfl, hB⟩; have HB1 := Lib.hid (below_then (below_al _ _) hB); have hc1 : w1.cell? ⟨w.heap.size, 0, none⟩ = some (.int .i64 an) := keep_cell (new_cell w #[.int .i64 an] 3 0 _ rfl) hB; have hc1' := fun o o' => keep_cell (keep_cell hc1 (below_al w1 o)) (below_al _ o'); clear hB)
      have HBK : Hid (Bk ((w1.alloc (.cells (bv (falses n)).toArray 4)).alloc (.cells #[.slice (some ⟨w1.heap.size, 0, none⟩) n n] 43)) w1.heap.size 4 (bv (part (aboveM D an (an + 1)) n))) := by
        show Bk _ _ _ _
        have e : part (aboveM D an (an + 1)) n = falses n := by
          rw [aboveM_low (Nat.le_refl _), part]
          simp only [falses, List.length_replicate]
          rw [List.replicate_append_replicate]
          congr 1; omega
        rw [e]
        exact (Bk.new _ _ _).keep (below_al _ _)
      have HC1 : Hid (((w1.alloc (.cells (bv (falses n)).toArray 4)).alloc (.cells #[.slice (some ⟨w1.heap.size, 0, none⟩) n n] 43)).cell? ⟨w.heap.size, 0, none⟩ = some (.int .i64 an)) := keep_cell (keep_cell hc1 (below_al _ _)) (below_al _ _)
      have HC2 : Hid (((w1.alloc (.cells (bv (falses n)).toArray 4)).alloc (.cells #[.slice (some ⟨w1.heap.size, 0, none⟩) n n] 43)).cell? ⟨w1.heap.size + 1, 0, none⟩ = some (.slice (some ⟨w1.heap.size, 0, none⟩) n n)) := by
        have := new_cell (w1.alloc (.cells (bv (falses n)).toArray 4)) #[.slice (some ⟨w1.heap.size, 0, none⟩) n n] 43 0 _ rfl
        rwa [World.size_alloc] at this
      have HW : Hid (Below w.heap.size w ((w1.alloc (.cells (bv (falses n)).toArray 4)).alloc (.cells #[.slice (some ⟨w1.heap.size, 0, none⟩) n n] 43))) := below_then HB1.out (below_then (below_al _ _) (below_al _ _))
      have hsz : w.heap.size < w1.heap.size := World.block_lt_of_cell? w1 _ hc1
      clear hc1 hc1' hmk HB1
      generalize (w1.alloc (.cells (bv (falses n)).toArray 4)).alloc (.cells #[.slice (some ⟨w1.heap.size, 0, none⟩) n n] 43) = w2 at *
      generalize w1.heap.size = g at *
      have hrange : an + 1 ≤ n := ha'
      go_wp2_with (fail)
      go_loopw [6] (fun v wr => ∃ k : Nat, an < k ∧ k ≤ n ∧ v = .int .i64 k ∧ Hid (Bk wr g 4 (bv (part (aboveM D an k) n))) ∧ Hid (Fr (· = g) w2 wr)) (fun v _ => n - (intOf v).toNat)
      case atStart => exact ⟨an + 1, by omega, hrange, by go_num, HBK, Fr.refl _ _⟩
      case round =>
        obtain ⟨k, hka, hk, rfl, HK, HF⟩ := hrel
        have HWr : Hid (Below w.heap.size w wr) := HW.out.trans (HF.out.below HW.out.size (fun j h => by subst h; omega))
        have hb1 : wr.cell? ⟨w.heap.size, 0, none⟩ = some (.int .i64 an) := by
          rw [← HC1.out]; exact HF.out.cell (by show ¬ (w.heap.size = g); omega) HC1.out
        have hb2 : wr.cell? ⟨g + 1, 0, none⟩ = some (.slice (some ⟨g, 0, none⟩) n n) := by
          rw [← HC2.out]; exact HF.out.cell (by show ¬ (g + 1 = g); omega) HC2.out
        by_cases hlt : k < n
        · obtain ⟨b, off, A', n', c', rfl, hc, hn', hrd⟩ := (HD.out.below HWr.out).at_ hlt
          have hl1 := hrd.le
          have hl2 := hrd.cap
          have HN := Lib.hid (above_next (n := n) HR.out hka)
          have HPL : Hid ((part (aboveM D an k) n).length = n) := part_length _ _ (by simpa using hk)
          have HC : Hid (∀ q, Calls Try.prog 38 #[.slice A' n' c', .func (.func 41) #[] #[.pointer (some ⟨w.heap.size, 0, none⟩), .pointer (some ⟨g + 1, 0, none⟩)]] (wr.drewN q) fun e w' => e = .returned (.bool ((nth D k).any (abP an (part (aboveM D an k) n)))) ∧ ∃ q', w' = (wr.drewN q).drewN q') := fun q =>
            ContainsFunc_any _ _ (enters_of Try.func41 (by kernel_rfl) rfl) _ A' n' c' (nth D k) _ (rd_drewN q hrd) hn' (Above1_tells an w.heap.size (g + 1) g n _ _ _ (fun x hx => by have := right_mem HR.out hx; have := HPL.out; omega) HPL.out (by simpa using hb1) (by simpa using hb2) (by have := HK.out; unfold Bk at *; simpa using this))
          have hck := HK.out.cell k (by have := HPL.out; simp; omega)
          have hfk := HK.out.free k
          generalize hT : (nth D k).any (abP an (part (aboveM D an k) n)) = t at *
          have HK1 : Hid (∀ q, Bk ((wr.drewN q).setCell ⟨g, k, none⟩ (.bool t)) g 4 (bv (part (aboveM D an (k + 1)) n))) := fun q => by
            have h1 : Bk (wr.drewN q) g 4 (bv (part (aboveM D an k) n)) := by have := HK.out; unfold Bk at *; simpa using this
            have h2 := part_snoc (r := aboveM D an k) (n := n) (b := t) (by simpa using hlt)
            rw [aboveM_length] at h2
            rw [HN.out, ← h2, ← bv_set]
            exact h1.set k _
          have HF1 : Hid (∀ q, Fr (· = g) w2 ((wr.drewN q).setCell ⟨g, k, none⟩ (.bool t))) := fun q => (HF.out.drewN q).setCell (.inl rfl) _
          generalize (bv (part (aboveM D an k) n))[k]'_ = old at hck
          clear hT hrd hn'
          go_wp2_with (fail)
          go_region_with (go_at_call 38; refine (HC.out 1).mono ?_; rintro e w' ⟨rfl, q', rfl⟩)
          all_goals
            go_wp2_with (fail)
            go_roundw
            case rel => exact ⟨k + 1, by omega, by omega, by go_num, HK1.out _, HF1.out _⟩
            case measure => simp [intOf] <;> omega
        · have hkn : k = n := by omega
          have HF2 : Hid (part (aboveM D an k) n = aboveM D an n) := by show _ = _; rw [hkn]; exact part_full (by simp)
          rw [HF2.out] at HK
          go_wp2_with (first
            | (go_at_call 35; (with_reducible refine (those_any _ _ _ _).mono ?_); rintro e w4 ⟨rfl, rfl⟩)
            | (go_at_call 42; (with_reducible refine (Collect_those wr.heap.size g n (aboveM D an n) (by simp) hn _ (by simp) (HK.out.keep (below_al _ _))).mono ?_); rintro e w5 ⟨⟨A5, c5, rfl, hr5⟩, hB⟩; have HR5 := Lib.hid hr5; have HB5 := Lib.hid (below_then HWr.out (below_then (below_al wr _) hB)); clear hr5 hB))
          go_ret
          exact ⟨⟨A5, c5, rfl, HR5.out⟩, HB5.out⟩
  · have HE : Hid (aboveL D a = []) := by
      show _ = _
      have : ¬ (0 ≤ a ∧ a < (D.length : Int)) := by rw [hl]; exact hin
      simp only [aboveL, Bool.and_eq_true, decide_eq_true_eq]
      rw [if_neg (fun h => this h.1)]
    rw [HE.out]
    have hcase : a < 0 ∨ (0 ≤ a ∧ (n : Int) ≤ a) := by omega
    clear hl hin
    rcases hcase with h1 | ⟨h1, h2⟩
    all_goals
      go_enter Try.func23, Try.ntmps23
      go_wp2
      go_ret
      exact ⟨⟨none, 0, rfl, Rd.nil (by omega)⟩, below_al _ _⟩
end Go.Proofs.Ytefgkomcmknigaa
