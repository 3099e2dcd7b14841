/- Walks of graph: Ready. -/
import Derived.Test.YtpicagcapgjiaaaGra4
import Derived.Deep.CutBlock
import Derived.Deep.DeepCutAuto
import Derived.Deep.RegionWith
import Derived.StillTailTactics
set_option linter.unusedSimpArgs false
set_option linter.unusedVariables false
namespace Go.Proofs.Ytpicagcapgjiaaa
open Go.RowKit Go.Sel Go.Sel.Gra Go.Shelf

/-- The first of r, then the rest of m. -/
def part2 (r m : List Bool) : List Bool := r ++ m.drop r.length
theorem part2_length {r m : List Bool} (h : r.length ≤ m.length) : (part2 r m).length = m.length := by simp [part2]; omega
theorem bit_part2 {r m : List Bool} {j : Nat} (h : j < r.length) : bit (part2 r m) j = bit r j := bit_append_left h
theorem bit_part2' {r m : List Bool} {j : Nat} (h : r.length ≤ j) : bit (part2 r m) j = bit m j := by
  rw [part2, bit_append_right h]
  simp [bit, List.getD_eq_getElem?_getD, List.getElem?_drop]
  congr 2; omega
theorem part2_nil (m : List Bool) : part2 [] m = m := rfl
theorem part2_snoc {r m : List Bool} {b : Bool} (h : r.length < m.length) : (part2 r m).set r.length b = part2 (r ++ [b]) m := by
  have e : m.drop r.length = m[r.length] :: m.drop (r.length + 1) := List.drop_eq_getElem_cons h
  simp only [part2, List.length_append, List.length_singleton]
  simp only [List.set_append_right _ _ (Nat.le_refl _), Nat.sub_self, e, List.set_cons_zero, List.append_assoc, List.singleton_append]
theorem part2_full {r m : List Bool} (h : r.length = m.length) : part2 r m = r := by simp [part2, h]
/-- '!was[d] && !now[d]'. -/
def rdP (was now : List Bool) (d : Int) : Bool := !bit was d.toNat && !bit now d.toNat
theorem any_congr2 {p q : Int → Bool} {l : List Int} (h : ∀ d ∈ l, p d = q d) : l.any p = l.any q := by
  rw [Bool.eq_iff_iff, List.any_eq_true, List.any_eq_true]
  exact ⟨fun ⟨d, hd, hp⟩ => ⟨d, hd, by rw [← h d hd]; exact hp⟩, fun ⟨d, hd, hp⟩ => ⟨d, hd, by rw [h d hd]; exact hp⟩⟩
theorem ready_next {D : List (List Int)} (hr : rightD D = true) {was some : List Bool} {k : Nat} :
    readyM D was some (k + 1) = readyM D was some k ++ [bit some k && !bit was k && !(nth D k).any (rdP was (part2 (readyM D was some k) some))] := by
  rw [readyM]
  congr 2
  unfold readyStep
  congr 1
  rw [List.not_any_eq_all_not]
  have : ∀ d ∈ nth D k, (bit was d.toNat || bit (readyM D was some k) d.toNat) = !rdP was (part2 (readyM D was some k) some) d := by
    intro d hd
    have := right_mem hr hd
    rw [rdP, bit_part2 (by simp; omega)]
    simp
  rw [Bool.eq_iff_iff, List.all_eq_true, List.all_eq_true]
  exact ⟨fun h d hd => by rw [← this d hd]; exact h d hd, fun h d hd => by rw [this d hd]; exact h d hd⟩
theorem Ready1_tells (b1 b2 g1 g2 n : Nat) (was now : List Bool) (xs : List Int) (w : World) (hx : ∀ x ∈ xs, 0 ≤ x ∧ x < (n : Int)) (hm1 : was.length = n) (hm2 : now.length = n) (h1 : w.cell? ⟨b1, 0, none⟩ = some (.slice (some ⟨g1, 0, none⟩) n n)) (h2 : w.cell? ⟨b2, 0, none⟩ = some (.slice (some ⟨g2, 0, none⟩) n n)) (hb1 : Bk w g1 4 (bv was)) (hb2 : Bk w g2 4 (bv now)) :
    Tells 62 #[.pointer (some ⟨b1, 0, none⟩), .pointer (some ⟨b2, 0, none⟩)] (rdP was now) xs w := by
  intro x hx' q
  obtain ⟨x0, x1⟩ := hx x hx'
  obtain ⟨xn, rfl⟩ := Int.eq_ofNat_of_zero_le x0
  have hc1 : (w.drewN q).cell? ⟨b1, 0, none⟩ = some (.slice (some ⟨g1, 0, none⟩) n n) := by simpa using h1
  have hc2 : (w.drewN q).cell? ⟨b2, 0, none⟩ = some (.slice (some ⟨g2, 0, none⟩) n n) := by simpa using h2
  have hcell1 : (w.drewN q).cell? ⟨g1, xn, none⟩ = some (.bool (bit was xn)) := by simpa using hb1.bit xn (by omega)
  have hcell2 : (w.drewN q).cell? ⟨g2, xn, none⟩ = some (.bool (bit now xn)) := by simpa using hb2.bit xn (by omega)
  have hlt : xn < n := by omega
  have HE : Hid (rdP was now xn = (!bit was xn && !bit now xn)) := by show _ = _; simp [rdP]
  generalize w.drewN q = w0 at *
  generalize bit was xn = t1 at *
  generalize bit now xn = t2 at *
  clear h1 h2 hb1 hb2 hx hx' x0 x1 hm1 hm2
  cases t1 with
  | false =>
    go_enter Try.func62, Try.ntmps62
    go_wp2
    go_ret
    exact ⟨ret_bool (by rw [HE.out]; rfl), 0, rfl⟩
  | true =>
    go_enter Try.func62, Try.ntmps62
    go_wp2
    go_ret
    exact ⟨ret_bool (by rw [HE.out]; rfl), 0, rfl⟩

set_option maxHeartbeats 4000000 in
theorem Ready_any (A : Option Addr) (n c : Nat) (D : List (List Int)) (B1 : Option Addr) (m1 d1 : Nat) (s1 : List Int) (B2 : Option Addr) (m2 d2 : Nat) (s2 : List Int) (w : World) (hD : Dp w A n c D) (hs1 : Rd w B1 m1 d1 (iv .i64 s1)) (hm1 : s1.length = m1) (hs2 : Rd w B2 m2 d2 (iv .i64 s2)) (hm2 : s2.length = m2) :
    Calls Try.prog 18 #[.slice A n c, .slice B1 m1 d1, .slice B2 m2 d2] w fun e w' => (∃ A' c', e = .returned (.slice A' (readyL D s1 s2).length c') ∧ Rd w' A' (readyL D s1 s2).length c' (iv .i64 (readyL D s1 s2))) ∧ Below w.heap.size w w' := by
  have hl := hD.len
  have l1 := hD.le
  have l2 := hD.cap
  have HD := Lib.hid hD
  have HL := Lib.hid hl
  have HS1 := Lib.hid hs1
  have HM1 := Lib.hid hm1
  have HS2 := Lib.hid hs2
  have HM2 := Lib.hid hm2
  clear hD hs1 hm1 hs2 hm2
  cases hr : rightD D with
  | false =>
    have HR := Lib.hid hr
    have HE : Hid (readyL D s1 s2 = []) := by show _ = _; simp [readyL, hr]
    rw [HE.out]
    clear hl hr
    go_enter Try.func18, Try.ntmps18
    go_wp2_with (go_at_call 16; (with_reducible refine (Right_any A n c D _ HD.out).mono ?_); rw [HR.out]; rintro e w1 ⟨rfl, hB⟩; have HB1 := Lib.hid hB; clear hB)
    go_ret
    exact ⟨⟨none, 0, rfl, Rd.nil (by omega)⟩, HB1.out⟩
  | true =>
    have h256 := (right_iff.1 hr).1
    have hn : n ≤ 1000 := by omega
    have HR := Lib.hid hr
    have HE : Hid (readyL D s1 s2 = thoseL (readyM D (marksL s1 n) (marksL s2 n) n)) := by show _ = _; simp [readyL, hr, hl]
    rw [HE.out]
    have HW1 : Hid ((marksL s1 n).length = n) := by show _ = _; simp
    have HW2 : Hid ((marksL s2 n).length = n) := by show _ = _; simp
    clear hl hr h256
    generalize hma : marksL s1 n = was at *
    generalize hmb : marksL s2 n = sm at *
    have HMA := Lib.hid hma
    have HMB := Lib.hid hmb
    clear hma hmb
    go_enter Try.func18, Try.ntmps18
    go_upto_block 0 with (first
      | (go_at_call 16; (with_reducible refine (Right_any A n c D _ HD.out).mono ?_); rw [HR.out]; rintro e w1 ⟨rfl, hB⟩; have HB1 := Lib.hid hB; clear hB)
      | (go_at_call 61; have HMA' := HMA; (with_reducible refine (marks_any B1 m1 d1 s1 n _ (HS1.out.below HB1.out) HM1.out hn).mono ?_); rw [HMA.out]; rintro e w2 ⟨rfl, hb1, hB⟩; have HB2 := Lib.hid (below_then HB1.out hB); have HBK := Lib.hid hb1; clear hB hb1 HMA HMA')
      | (go_at_call 61; (with_reducible refine (marks_any B2 m2 d2 s2 n _ (HS2.out.below (below_then HB2.out (below_al _ _))) HM2.out hn).mono ?_); rw [HMB.out]; rintro e w3 ⟨rfl, hb2, hB⟩; have HB3 := Lib.hid (below_then HB2.out (below_then (below_al _ _) hB)); have HBK1 := Lib.hid ((HBK.out.keep (below_al w2 (.cells #[.slice (some ⟨w1.heap.size, 0, none⟩) n n] 87))).keep hB); have HBK2 := Lib.hid hb2; have HX1 : Hid (w3.cell? ⟨w2.heap.size, 0, none⟩ = some (.slice (some ⟨w1.heap.size, 0, none⟩) n n)) := keep_cell (new_cell w2 #[.slice (some ⟨w1.heap.size, 0, none⟩) n n] 87 0 _ rfl) hB; have hz1 : w1.heap.size < w2.heap.size := HBK.out.lt; have hz2 : (w2.alloc (.cells #[.slice (some ⟨w1.heap.size, 0, none⟩) n n] 87)).heap.size < w3.heap.size := hb2.lt; have hz0 := HB1.out.size; clear hB hb2 HBK HB2))
    rw [World.size_alloc] at hz2 HBK2

    have HX2 : Hid ((w3.alloc (.cells #[.slice (some ⟨w2.heap.size + 1, 0, none⟩) n n] 87)).cell? ⟨w3.heap.size, 0, none⟩ = some (.slice (some ⟨w2.heap.size + 1, 0, none⟩) n n)) := new_cell w3 #[.slice (some ⟨w2.heap.size + 1, 0, none⟩) n n] 87 0 _ rfl
    have HX3 : Hid ((w3.alloc (.cells #[.slice (some ⟨w2.heap.size + 1, 0, none⟩) n n] 87)).cell? ⟨w2.heap.size, 0, none⟩ = some (.slice (some ⟨w1.heap.size, 0, none⟩) n n)) := keep_cell HX1.out (below_al _ _)
    have HK1 : Hid (Bk (w3.alloc (.cells #[.slice (some ⟨w2.heap.size + 1, 0, none⟩) n n] 87)) w1.heap.size 4 (bv was)) := HBK1.out.keep (below_al _ _)
    have HK2 : Hid (Bk (w3.alloc (.cells #[.slice (some ⟨w2.heap.size + 1, 0, none⟩) n n] 87)) (w2.heap.size + 1) 4 (bv (part2 (readyM D was sm 0) sm))) := HBK2.out.keep (below_al _ _)
    have HW : Hid (Below w.heap.size w (w3.alloc (.cells #[.slice (some ⟨w2.heap.size + 1, 0, none⟩) n n] 87))) := below_then HB3.out (below_al _ _)
    clear HX1 HBK1 HBK2 HB3 HB1
    generalize w3.alloc (.cells #[.slice (some ⟨w2.heap.size + 1, 0, none⟩) n n] 87) = w4 at *
    generalize w3.heap.size = b2 at *
    generalize w2.heap.size = b1 at *
    generalize w1.heap.size = gw at *
    go_wp2_with (fail)
    go_loopw [11, 12, 32] (fun _ _ v wr => ∃ k : Nat, k ≤ n ∧ v = .int .i64 k ∧ Hid (Bk wr (b1 + 1) 4 (bv (part2 (readyM D was sm k) sm))) ∧ Hid (Fr (· = b1 + 1) w4 wr)) (fun _ _ v _ => n - (intOf v).toNat)
    case atStart => exact ⟨0, by omega, by go_num, HK2, Fr.refl _ _⟩
    case round =>
      obtain ⟨k, hk, rfl, HK, HF⟩ := hrel
      have HWr : Hid (Below w.heap.size w wr) := HW.out.trans (HF.out.below HW.out.size (fun j h => by subst h; omega))
      have hb1 : wr.cell? ⟨b1, 0, none⟩ = some (.slice (some ⟨gw, 0, none⟩) n n) := by
        rw [← HX3.out]; exact HF.out.cell (by show ¬ (b1 = b1 + 1); omega) HX3.out
      have hb2 : wr.cell? ⟨b2, 0, none⟩ = some (.slice (some ⟨b1 + 1, 0, none⟩) n n) := by
        rw [← HX2.out]; exact HF.out.cell (by show ¬ (b2 = b1 + 1); omega) HX2.out
      have HKW : Hid (Bk wr gw 4 (bv was)) := HF.out.far HK1.out (by omega)
      by_cases hlt : k < n
      · obtain ⟨b, off, A', n', c', rfl, hc, hn', hrd⟩ := (HD.out.below HWr.out).at_ hlt
        have hl1 := hrd.le
        have hl2 := hrd.cap
        have HN := Lib.hid (ready_next (was := was) (some := sm) (k := k) HR.out)
        have HPL : Hid ((part2 (readyM D was sm k) sm).length = n) := by show _ = _; rw [part2_length (by have := HW2.out; simp; omega)]; exact HW2.out
        have HC : Hid (∀ q, Calls Try.prog 56 #[.slice A' n' c', .func (.func 62) #[] #[.pointer (some ⟨b1, 0, none⟩), .pointer (some ⟨b2, 0, none⟩)]] (wr.drewN q) fun e w' => e = .returned (.bool ((nth D k).any (rdP was (part2 (readyM D was sm k) sm)))) ∧ ∃ q', w' = (wr.drewN q).drewN q') := fun q =>
          ContainsFunc_any _ _ (enters_of Try.func62 (by kernel_rfl) rfl) _ A' n' c' (nth D k) _ (rd_drewN q hrd) hn' (Ready1_tells b1 b2 gw (b1 + 1) n _ _ _ _ (fun x hx => by have := right_mem HR.out hx; omega) HW1.out HPL.out (by simpa using hb1) (by simpa using hb2) (by have := HKW.out; unfold Bk at *; simpa using this) (by have := HK.out; unfold Bk at *; simpa using this))
        have hck := HK.out.bit k (by have := HPL.out; omega)
        rw [bit_part2' (by simp)] at hck
        have hcw := HKW.out.bit k (by have := HW1.out; omega)
        have hfk := HK.out.free k
        generalize hT : (nth D k).any (rdP was (part2 (readyM D was sm k) sm)) = t at *
        have HK3 : Hid (∀ b, b = (bit sm k && !bit was k && !t) → ∀ q, Bk ((wr.drewN q).setCell ⟨b1 + 1, k, none⟩ (.bool b)) (b1 + 1) 4 (bv (part2 (readyM D was sm (k + 1)) sm))) := fun b e q => by
          have h1 : Bk (wr.drewN q) (b1 + 1) 4 (bv (part2 (readyM D was sm k) sm)) := by have := HK.out; unfold Bk at *; simpa using this
          have h2 := part2_snoc (r := readyM D was sm k) (m := sm) (b := b) (by have := HW2.out; simp; omega)
          rw [readyM_length] at h2
          rw [HN.out, ← e, ← h2, ← bv_set]
          exact h1.set k _
        have HF1 : Hid (∀ b q, Fr (· = b1 + 1) w4 ((wr.drewN q).setCell ⟨b1 + 1, k, none⟩ (.bool b))) := fun b q => (HF.out.drewN q).setCell (.inl rfl) _
        clear hT hrd hn'
        generalize bit sm k = u1 at *
        generalize bit was k = u2 at *
        cases u1 with
        | false =>
          go_wp2_with (fail)
          go_region
          all_goals
            go_wp2_with (fail)
            go_roundw
            case rel => exact ⟨k + 1, by omega, by go_num, HK3.out _ rfl 1, HF1.out _ 1⟩
            case measure => simp [intOf] <;> omega
        | true =>
          cases u2 with
          | true =>
            go_wp2_with (fail)
            go_region
            all_goals
              go_wp2_with (fail)
              go_roundw
              case rel => exact ⟨k + 1, by omega, by go_num, HK3.out _ rfl 1, HF1.out _ 1⟩
              case measure => simp [intOf] <;> omega
          | false =>
            go_wp2_with (fail)
            go_region_with (go_at_call 56; refine (HC.out 1).mono ?_; rintro e w' ⟨rfl, q', rfl⟩)
            all_goals
              go_wp2_with (fail)
              go_roundw
              case rel => exact ⟨k + 1, by omega, by go_num, HK3.out _ (by simp) _, HF1.out _ _⟩
              case measure => simp [intOf] <;> omega
      · have hkn : k = n := by omega
        have HF2 : Hid (part2 (readyM D was sm k) sm = readyM D was sm n) := by show _ = _; rw [hkn]; exact part2_full (by have := HW2.out; simp; omega)
        rw [HF2.out] at HK
        go_wp2_with (first
          | (go_at_call 64; (with_reducible refine (those_any _ _ _ _).mono ?_); rintro e w5 ⟨rfl, rfl⟩)
          | (go_at_call 63; (with_reducible refine (Collect_those wr.heap.size (b1 + 1) n (readyM D was sm n) (by simp) hn _ (by simp) (HK.out.keep (below_al _ _))).mono ?_); rintro e w6 ⟨⟨A5, c5, rfl, hr5⟩, hB⟩; have HR5 := Lib.hid hr5; have HB5 := Lib.hid (below_then HWr.out (below_then (below_al wr _) hB)); clear hr5 hB))
        go_ret
        exact ⟨⟨A5, c5, rfl, HR5.out⟩, HB5.out⟩
end Go.Proofs.Ytpicagcapgjiaaa
