/- Walks of the reference's groups: Abandon. -/
import Derived.Test.YtbflmgpcjfoifaaGp3
import Derived.Test.YtbflmgpcjfoifaaGpH
set_option linter.unusedSimpArgs false
set_option linter.unusedVariables false
namespace Go.Proofs.Ytbflmgpcjfoifaa
open Go.RowKit Go.Sel Go.Sel.Gp

theorem gvs_split {S : List G} {ss : List (Q3 × Q3)} (h : ss.length = S.length) (i : Nat) : gvs S ss = gvs (S.take i) (ss.take i) ++ gvs (S.drop i) (ss.drop i) := by
  rw [← gvs_append (by simp [h]), List.take_append_drop, List.take_append_drop]
theorem rd_fore {w : World} {b off n c : Nat} {xs ys : List Value} (h : Rd w (some ⟨b, off, none⟩) n c (xs ++ ys)) {i : Nat} (hi : i ≤ c) : Rd w (some ⟨b, off, none⟩) i c xs := by
  refine ⟨hi, h.cap, ?_⟩
  rcases h.3 with h0 | ⟨b', off', e, hc⟩
  · exact .inl (List.append_eq_nil_iff.1 h0).1
  · injection e with e; injection e with e1 e2; subst e1 e2
    refine .inr ⟨b, off, rfl, fun j hj => ?_⟩
    rw [hc j (by simp; omega), List.getElem_append_left hj]
theorem rd_aft {w : World} {b off n c : Nat} {xs ys : List Value} (h : Rd w (some ⟨b, off, none⟩) n c (xs ++ ys)) {k d : Nat} (hk : k ≤ d) (hd : d ≤ c) : Rd w (some ⟨b, off + xs.length, none⟩) k d ys := by
  refine ⟨hk, Nat.le_trans hd h.cap, ?_⟩
  rcases h.3 with h0 | ⟨b', off', e, hc⟩
  · exact .inl (List.append_eq_nil_iff.1 h0).2
  · injection e with e; injection e with e1 e2; subst e1 e2
    refine .inr ⟨b, off + xs.length, rfl, fun j hj => ?_⟩
    rw [Nat.add_assoc, hc (xs.length + j) (by simp; omega), List.getElem_append_right (by omega)]
    simp
/-- The groups behind the i-th, as the code cuts them off. -/
theorem gvs_cut {w : World} {lb m c : Nat} {S : List G} {ss : List (Q3 × Q3)} (h : Rd w (some ⟨lb, 0, none⟩) m c (gvs S ss)) (h1 : S.length = m) (h2 : ss.length = m) {i : Nat} (hi : i < m) :
    ∃ U, (∀ W, (Instr.slice 72 (.slice (some ⟨lb, 0, none⟩) m c) (some (.int .i64 ((i : Int) + 1))) none none).run Try.prog W = .ok (.slice U (m - (i + 1)) (c - (i + 1))) W) ∧ Rd w U (m - (i + 1)) (c - (i + 1)) (gvs (S.drop (i + 1)) (ss.drop (i + 1))) := by
  have hle := h.le
  have hcap := h.cap
  refine ⟨if c = i + 1 then some ⟨lb, 0, none⟩ else some ⟨lb, (i + 1) * 4, none⟩, fun W => ?_, ?_⟩
  · rw [run_slice_l W 72 (some ⟨lb, 0, none⟩) m c (by kernel_rfl) .i64 ((i : Int) + 1) (by omega) (by omega)]
    rw [show (sizeOf (Try.prog.elem 72)).run Try.prog W = .ok 4 W by kernel_rfl]
    simp only [Result.andThen, sliced, show ((i : Int) + 1).toNat = i + 1 by omega, Option.map_some, Addr.add, Nat.zero_add, if_neg (show ¬ (i + 1) * 4 = 0 by omega)]
  · split
    · rename_i e
      have : m = i + 1 := by omega
      rw [List.drop_eq_nil_of_le (by omega)]
      exact ⟨by omega, by omega, .inl rfl⟩
    · rw [gvs_split (by omega) (i + 1)] at h
      have hl : (gvs (S.take (i + 1)) (ss.take (i + 1))).length = (i + 1) * 4 := by rw [gvs_length (by simp; omega)]; simp; omega
      have := rd_aft h (k := m - (i + 1)) (d := c - (i + 1)) (by omega) (by omega)
      rwa [hl, Nat.zero_add] at this
theorem cut_rows {F : Nat → Prop} {w w' : World} {rb : Nat} {lA : Option Addr} {n c : Nat} {S : List G} {ss : List (Q3 × Q3)} {next : Int} (h : GRx F w rb lA n c S ss next) (hB : Below w.heap.size w w') {i : Nat} (hi : i < n) :
    ∀ j (hj : j < (ss.take i ++ ss.drop (i + 1)).length), RowI F w' (ss.take i ++ ss.drop (i + 1))[j].1 (nthG (S.take i ++ S.drop (i + 1)) j).ps ∧ RowI F w' (ss.take i ++ ss.drop (i + 1))[j].2 (nthG (S.take i ++ S.drop (i + 1)) j).ah := by
  intro j hj
  have hl := h.len
  have hs := h.slen
  have h' := h.below hB
  have hj' : j < n - 1 := by simp at hj; omega
  rw [nthG_get (by simp; omega)]
  by_cases e : j < i
  · rw [List.getElem_append_left (by simp; omega), List.getElem_append_left (by simp; omega), List.getElem_take, List.getElem_take]
    have := h'.rows j (by omega)
    rwa [nthG_get (by omega)] at this
  · rw [List.getElem_append_right (by simp; omega), List.getElem_append_right (by simp; omega)]
    simp only [List.getElem_drop, List.length_take, show min i ss.length = i by omega, show min i S.length = i by omega]
    have := h'.rows (i + 1 + (j - i)) (by omega)
    rwa [nthG_get (by omega)] at this

set_option maxRecDepth 100000 in
set_option maxHeartbeats 8000000 in
theorem rAbandon_any (F : Nat → Prop) (w : World) (rb : Nat) (S : List G) (next : Int) (h : GR F w rb S next) (n : Int) (hs : S.length ≤ 1000000) :
    Calls Try.prog 42 #[.pointer (some ⟨rb, 0, none⟩), .int .i64 n] w fun e w' => e = .returned (.int .i64 (abandonS S n).1) ∧ GRn F w w' rb (abandonS S n).2 next := by
  have HG := Lib.hid h
  obtain ⟨lA, m, c, ss, h⟩ := h
  have H := Lib.hid h
  have HL := Lib.hid h.len
  have HSL := Lib.hid h.slen
  have HC := Lib.hid (at_any F w rb lA m c S ss next h n)
  have hm : m ≤ 1000000 := by rw [← h.len]; exact hs
  have h0 := h.h0
  have l1 := h.le
  have l2 := h.cap
  cases hp : posG S n with
  | none =>
    have HV : Hid (posV S n = -1) := by show _ = _; rw [posV, hp]
    have HE : Hid (abandonS S n = (5, S)) := by show _ = _; rw [abandonS, hp]
    rw [HV.out] at HC
    clear h hp hs
    generalize abandonS S n = r at *
    have he := HE.out
    subst he
    go_enter Try.func42, Try.ntmps42
    go_wp2_with (go_at_call 57; (with_reducible refine HC.out.mono ?_); rintro e w' ⟨rfl, rfl⟩)
    go_ret
    exact ⟨rfl, GRn.same HG.out⟩
  | some i =>
    have hi := posG_lt hp
    have him : i < m := by rw [← h.len]; exact hi.1
    have HV : Hid (posV S n = (i : Int)) := by show _ = _; rw [posV, hp]
    have HE : Hid (abandonS S n = if (nthG S i).st = 2 then (13, S) else if S.any (fun g => decide (n ∈ g.ah)) then (12, S) else (0, S.take i ++ S.drop (i + 1))) := by show _ = _; rw [abandonS, hp]
    rw [HV.out] at HC
    obtain ⟨lb, p, q, rfl, hlF, hlb, _, _, _, c1, _, _, hfz, _⟩ := h.get him
    clear h hp hi hfz hlF hs
    generalize abandonS S n = r at *
    by_cases ha : (nthG S i).st = 2
    · have e1 : ((nthG S i).st == 2) = true := by simpa using ha
      have he := HE.out
      rw [if_pos ha] at he
      subst he
      clear ha HE
      generalize (nthG S i).st = x at *
      go_enter Try.func42, Try.ntmps42
      go_wp2_with (go_at_call 57; (with_reducible refine HC.out.mono ?_); rintro e w' ⟨rfl, rfl⟩)
      go_ret
      exact ⟨rfl, GRn.same HG.out⟩
    · have e1 : ((nthG S i).st == 2) = false := by simpa using ha
      have HE2 : Hid (r = if S.any (fun g => decide (n ∈ g.ah)) then (12, S) else (0, S.take i ++ S.drop (i + 1))) := by show _ = _; rw [HE.out, if_neg ha]
      clear ha HE
      generalize (nthG S i).st = x at *
      go_enter Try.func42, Try.ntmps42
      go_wp2_with (go_at_call 57; (with_reducible refine HC.out.mono ?_); rintro e w2 ⟨rfl, hw⟩; subst w2)
      go_loop [6] (fun v => ∃ k : Nat, k ≤ m ∧ v = .int .i64 k ∧ Hid (∀ j, j < k → n ∉ (nthG S j).ah)) (fun v => m - (intOf v).toNat)
      case atStart => exact ⟨0, by omega, rfl, fun j hj => by omega⟩
      case round =>
        obtain ⟨k, hk, rfl, HJ⟩ := hrel
        by_cases hlt : k < m
        · obtain ⟨lb', pp, qq, e, _, _, _, _, _, _, _, c3, _, _, hrow⟩ := H.out.get hlt
          injection e with e; injection e with e; subst e
          have hrd := hrow.rd
          have HNL := Lib.hid hrow.1
          obtain ⟨qa, qn, qc⟩ := qq
          simp only [sv] at c3 hrd HNL
          have HCN := Lib.hid (Has_any qa qn qc (nthG S k).ah n w hrd HNL.out)
          by_cases hin : n ∈ (nthG S k).ah
          · have HR : Hid (r = (12, S)) := by
              show _ = _
              rw [HE2.out, if_pos]
              rw [List.any_eq_true]
              have hkS : k < S.length := by rw [HL.out]; exact hlt
              rw [nthG_get hkS] at hin
              exact ⟨S[k], List.getElem_mem _, by simpa using hin⟩
            have e2 : decide (n ∈ (nthG S k).ah) = true := decide_eq_true hin
            rw [e2] at HCN
            clear hin e2 hrow hrd HE2
            have he := HR.out
            subst he
            go_wp2_with (go_at_call 59; (with_reducible refine HCN.out.mono ?_); rintro e w2 ⟨rfl, hw⟩; subst w2)
            go_ret
            exact ⟨rfl, GRn.same HG.out⟩
          · have e2 : decide (n ∈ (nthG S k).ah) = false := decide_eq_false hin
            rw [e2] at HCN
            have HIN := Lib.hid hin
            clear hin e2 hrow hrd
            go_wp2_with (go_at_call 59; (with_reducible refine HCN.out.mono ?_); rintro e w2 ⟨rfl, hw⟩; subst w2)
            go_round
            case rel => exact ⟨k + 1, by omega, by go_num, fun j hj => by
              by_cases e : j = k
              · subst e; exact HIN.out
              · exact HJ.out j (by omega)⟩
            case measure => simp [intOf] <;> omega
        · obtain rfl : k = m := by omega
          have HR : Hid (r = (0, S.take i ++ S.drop (i + 1))) := by
            show _ = _
            rw [HE2.out, if_neg]
            rw [List.any_eq_true]
            rintro ⟨g, hg, hn⟩
            obtain ⟨j, hj, rfl⟩ := List.mem_iff_getElem.1 hg
            have := HJ.out j (by rw [← HL.out]; exact hj)
            rw [nthG_get hj] at this
            exact this (by simpa using hn)
          clear HE2
          have he := HR.out
          subst he
          go_upto_region 13 with (fail)
          have HS0 : At (fun w' : World => w'.cell? ⟨rb, 0, none⟩ = some (.slice (some ⟨lb, 0, none⟩) k c)) w.drew := h0
          have HD : Hid (GRx F w.drew rb (some ⟨lb, 0, none⟩) k c S ss next) := H.out.below (Sel.below_drewN w 1)
          have HFD : Hid (Fr F w w.drew) := (Fr.refl F w).drewN 1
          have hrb0 : rb < w.drew.heap.size := H.out.lt
          obtain ⟨U, hsl, hru⟩ := gvs_cut HD.out.rd HL.out HSL.out him
          have HRU := Lib.hid hru
          have HRF : Hid (Rd w.drew (some ⟨lb, 0, none⟩) i c (gvs (S.take i) (ss.take i))) := rd_fore (by rw [← gvs_split (by rw [HL.out, HSL.out])]; exact HD.out.rd) (by omega)
          have HZ : Hid (w.drew.heap.size = w.heap.size) := rfl
          have hsh : ∀ W, (Instr.slice 72 (.slice (some ⟨lb, 0, none⟩) k c) none (some (.int .i64 (i : Int))) none).run Try.prog W = .ok (.slice (some ⟨lb, 0, none⟩) i c) W := fun W => by
            rw [run_slice_h W 72 (some ⟨lb, 0, none⟩) k c (by kernel_rfl) .i64 (i : Int) (by omega) (by omega)]
            rw [show (sizeOf (Try.prog.elem 72)).run Try.prog W = .ok 4 W by kernel_rfl]
            have hc0 : c ≠ 0 := by omega
            simp [Result.andThen, sliced, hc0, Addr.add]
          have hwr : IntKind.i64.wrap ((i : Int) + 1) = (i : Int) + 1 := IntWalk.i64_in _ (by omega)
          clear h0 hru c1
          refine any_start HS0 [0, 2, 3, 4, 5, 6, 7, 9, 10, 11, 12, 13, 14, 15] (by kernel_rfl) ?_
          change wpAnyD _ _ _ _ _ _ 20 (Array.replicate 20 false) _ w.drew
          generalize w.drew = w0 at *
          have HB0 : Hid (Below w0.heap.size w0 w0) := Below.refl _ _
          refine any_take 0 rfl (by kernel_rfl) (fun _ _ d _ _ h => by cases d <;> exact h) (by kernel_rfl) HS0 (fun w9 s0 => by go_simp; first | done | rfl) (fun K hK => ?_); go_simp; refine hK _ ?_; clear hK K
          refine any_take 2 rfl (by kernel_rfl) (fun _ _ d _ _ h => by cases d <;> exact h) (by kernel_rfl) HS0 (fun w9 s0 => by go_simp; first | done | rfl) (fun K hK => ?_); go_simp; refine hK _ ?_; clear hK K
          refine any_take 3 rfl (by kernel_rfl) (fun _ _ d _ _ h => by cases d <;> exact h) (by kernel_rfl) HS0 (fun w9 s0 => by go_simp; first | done | rfl) (fun K hK => ?_); go_simp; refine hK _ ?_; clear hK K
          refine any_take 4 rfl (by kernel_rfl) (fun _ _ d _ _ h => by cases d <;> exact h) (by kernel_rfl) HS0 (fun w9 s0 => by go_simp; first | done | rfl) (fun K hK => ?_); go_simp; refine hK _ ?_; clear hK K
          refine any_take 5 rfl (by kernel_rfl) (fun _ _ d _ _ h => by cases d <;> exact h) (by kernel_rfl) HS0 (fun w9 s0 => by go_simp; first | done | rfl) (fun K hK => ?_); go_simp; refine hK _ ?_; clear hK K
          refine any_take 6 rfl (by kernel_rfl) (fun _ _ d _ _ h => by cases d <;> exact h) (by kernel_rfl) HS0 (fun w9 s0 => by go_simp; first | done | rfl) (fun K hK => ?_); go_simp; refine hK _ ?_; clear hK K
          refine any_take 7 rfl (by kernel_rfl) (fun _ _ d _ _ h => by cases d <;> exact h) (by kernel_rfl) HS0 (fun w9 s0 => by go_simp; first | done | rfl) (fun K hK => ?_); go_simp; refine hK _ ?_; clear hK K
          refine any_take 9 rfl (by kernel_rfl) (fun _ _ d _ _ h => by cases d <;> exact h) (by kernel_rfl) HS0 (fun w9 s0 => by go_simp; first | done | rfl) (fun K hK => ?_); go_simp; refine hK _ ?_; clear hK K
          refine any_take 10 rfl (by kernel_rfl) (fun _ _ d _ _ h => by cases d <;> exact h) (by kernel_rfl) HS0 (fun w9 s0 => by go_simp; first | done | rfl) (fun K hK => ?_); go_simp; refine hK _ ?_; clear hK K
          refine any_take 11 rfl (by kernel_rfl) (fun _ _ d _ _ h => by cases d <;> exact h) (by kernel_rfl) HS0 (fun w9 s0 => by go_simp; first | done | rfl) (fun K hK => ?_); go_simp; refine hK _ ?_; clear hK K
          refine any_take 12 rfl (by kernel_rfl) (fun _ _ d _ _ h => by cases d <;> exact h) (by kernel_rfl) HS0 (fun w9 s0 => by go_simp; first | done | rfl) (fun K hK => ?_); go_simp; refine hK _ ?_; clear hK K
          refine any_take 13 rfl (by kernel_rfl) (fun _ _ d _ _ h => by cases d <;> exact h) (by kernel_rfl) HS0 (fun w9 s0 => by go_simp; first | done | rfl) (fun K hK => ?_); go_simp; refine hK _ ?_; clear hK K
          refine any_take 14 rfl (by kernel_rfl) (fun _ _ d _ _ h => by cases d <;> exact h) (by kernel_rfl) HS0 (fun w9 s0 => by go_simp; first | done | rfl) (fun K hK => ?_); go_simp; refine hK _ ?_; clear hK K
          refine any_take 15 rfl (by kernel_rfl) (fun _ _ d _ _ h => by cases d <;> exact h) (by kernel_rfl) HS0 (fun w9 s0 => by go_simp; first | done | rfl) (fun K hK => ?_); go_simp; refine hK _ ?_; clear hK K
          refine any_one 1 rfl (by kernel_rfl) (by kernel_rfl) (fun K hK => ?_)
          go_simp
          have HB1 : Hid (Below w0.heap.size w0 (w0.alloc (.cells #[] 76))) := HB0.out.alloc HB0.out.size _
          have HE1 : Hid ((w0.alloc (.cells #[] 76)).ownsRow w0.heap.size 76 4 (.slice (some ⟨w0.heap.size, 0, none⟩) 0 0) 0 []) := own_emptyN w0 76 _ _ HB0.out.size
          have hlt1 : w0.heap.size < (w0.alloc (.cells #[] 76)).heap.size := by simp
          generalize w0.alloc (.cells #[] 76) = W1 at *
          have HS1 : At (fun w' : World => w'.cell? ⟨rb, 0, none⟩ = some (.slice (some ⟨lb, 0, none⟩) k c)) W1 := (HB1.out.cell (p := ⟨rb, 0, none⟩) hrb0).trans HS0
          refine hK _ _ (fun _ => HS1) ?_
          clear hK K
          refine any_one 8 rfl (by kernel_rfl) (by kernel_rfl) (fun K hK => ?_)
          obtain ⟨v1, W2, hrun2, ho2, hg2, hat2⟩ := run_extendN (P := Try.prog) (w := W1) w0.heap.size 72 72 76 (.agg #[.int .i64 0, .int .u8 0, .slice none 0 0, .slice none 0 0]) 4 64 Try.underlying72 infoG rfl (by omega) _ 0 [] HE1.out _ i c (gvs (S.take i) (ss.take i)) (HRF.out.below HB1.out) (by rw [gvs_length (by have := HL.out; have := HSL.out; simp; omega)]; have := HL.out; simp; omega) (one_gvs _ _) (by simp only [maxLen]; omega) (by omega) HB1.out.size
          rw [Nat.zero_add, List.nil_append] at ho2
          have HB2 : Hid (Below w0.heap.size w0 W2) := below_grown HB1.out hg2 HB1.out.size (own_row HE1.out)
          have HV2 := Lib.hid ho2
          refine oper_append (.tmp 46) (.tmp 52) 72 (by kernel_rfl) _ _ _ (by kernel_rfl) (by kernel_rfl) hrun2 ?_
          clear hrun2 ho2 hg2 hat2
          go_simp
          have HS2 : At (fun w' : World => w'.cell? ⟨rb, 0, none⟩ = some (.slice (some ⟨lb, 0, none⟩) k c)) W2 := (HB2.out.cell (p := ⟨rb, 0, none⟩) hrb0).trans HS0
          refine hK _ _ (fun _ => HS2) ?_
          clear hK K
          refine any_one 16 rfl (by kernel_rfl) (by kernel_rfl) (fun K hK => ?_)
          obtain ⟨v2, W3, hrun3, ho3, hg3, hat3⟩ := run_extendN (P := Try.prog) (w := W2) w0.heap.size 72 72 76 (.agg #[.int .i64 0, .int .u8 0, .slice none 0 0, .slice none 0 0]) 4 64 Try.underlying72 infoG rfl (by omega) _ i (gvs (S.take i) (ss.take i)) HV2.out U (k - (i + 1)) (c - (i + 1)) (gvs (S.drop (i + 1)) (ss.drop (i + 1))) (HRU.out.below HB2.out) (by rw [gvs_length (by have := HL.out; have := HSL.out; simp; omega)]; have := HL.out; simp; omega) (one_gvs _ _) (by simp only [maxLen]; omega) (by omega) HB2.out.size
          have HB3 : Hid (Below w0.heap.size w0 W3) := below_grown HB2.out hg3 HB2.out.size (own_row HV2.out)
          have HR3 := Lib.hid ho3
          refine oper_append (.tmp 53) (.tmp 60) 72 (by kernel_rfl) _ _ _ (by kernel_rfl) (by kernel_rfl) hrun3 ?_
          clear hrun3 ho3 hg3 hat3
          go_simp
          have HS3 : At (fun w' : World => w'.cell? ⟨rb, 0, none⟩ = some (.slice (some ⟨lb, 0, none⟩) k c)) W3 := (HB3.out.cell (p := ⟨rb, 0, none⟩) hrb0).trans HS0
          refine hK _ _ (fun _ => HS3) ?_
          clear hK K
          refine any_one 17 rfl (by kernel_rfl) (by kernel_rfl) (fun K hK => ?_); go_simp; refine hK _ _ (fun _ => HS3) ?_; clear hK K
          refine any_one 18 rfl (by kernel_rfl) (by kernel_rfl) (fun K hK => ?_); go_simp; refine hK _ _ (fun _ => HS3) ?_; clear hK K
          obtain ⟨A9, c9, rfl, hgx⟩ := HD.out.turned HB3.out (S' := S.take i ++ S.drop (i + 1)) (ss' := ss.take i ++ ss.drop (i + 1)) (k := i + (k - (i + 1))) (by rw [gvs_append (by have := HL.out; have := HSL.out; simp; omega)]; exact HR3.out) (by have := HL.out; simp; omega) (by have := HSL.out; simp; omega) (cut_rows HD.out HB3.out him)
          have f0 := ((HD.out.hd).keep HB3.out).free 0
          have HX := Lib.hid hgx
          have HF5 : Hid (Fr F w (W3.setCell ⟨rb, 0, none⟩ (.slice A9 (i + (k - (i + 1))) c9))) := (HFD.out.trans (fr_of_below HB3.out F)).setCell (.inl HD.out.fh) _
          have k0 : W3.cell? ⟨rb, 0, none⟩ = some (.slice (some ⟨lb, 0, none⟩) k c) := HS3
          clear hgx
          refine any_last 19 rfl (by kernel_rfl) (by kernel_rfl) (by kernel_rfl) (fun K hK => ?_)
          go_simp
          refine hK _ _ ?_
          clear hK K k0 f0 HS0 HS1 HS2 HS3 hsl hsh hwr
          refine any_end (by kernel_rfl) ?_
          generalize W3.setCell ⟨rb, 0, none⟩ (.slice A9 (i + (k - (i + 1))) c9) = W5 at *
          go_wp2
          go_ret
          exact ⟨rfl, _, ⟨_, _, _, _, HX.out⟩, HF5.out, fun b hb => hb.imp id fun h => by rw [← HZ.out]; exact h.1⟩
end Go.Proofs.Ytbflmgpcjfoifaa
