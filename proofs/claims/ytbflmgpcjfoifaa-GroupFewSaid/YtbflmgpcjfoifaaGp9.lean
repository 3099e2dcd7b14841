/- Walks of the reference's groups: Ahead. -/
import Derived.Test.YtbflmgpcjfoifaaGp3
import Derived.Test.YtbflmgpcjfoifaaGpP
set_option linter.unusedSimpArgs false
set_option linter.unusedVariables false
namespace Go.Proofs.Ytbflmgpcjfoifaa
open Go.RowKit Go.Sel Go.Sel.Gp

/-- A slice value that reads as these numbers. -/
def Sl (w : World) (v : Value) (xs : List Int) : Prop := ∃ A c, v = .slice A xs.length c ∧ Rd w A xs.length c (iv .i64 xs)
theorem Sl.below {w w' : World} {v : Value} {xs : List Int} (h : Sl w v xs) (hB : Below w.heap.size w w') : Sl w' v xs := by
  obtain ⟨A, c, e, hr⟩ := h
  exact ⟨A, c, e, hr.below hB⟩
theorem Sl.nil {w : World} : Sl w (.slice none 0 0) [] := ⟨none, 0, rfl, Rd.nil (by omega)⟩
theorem Sl.own {w : World} {base n : Nat} {v : Value} {xs : List Int} (h : w.ownsRow base 3 1 v n (iv .i64 xs)) : Sl w v xs := by
  obtain ⟨A, c, rfl, hl, hr⟩ := rd_own h
  have : xs.length = n := by simpa using hl
  subst this
  exact ⟨A, c, rfl, hr⟩
theorem Rd.cell_i {w : World} {A : Option Addr} {n c : Nat} {xs : List Int} (h : Rd w A n c (iv .i64 xs)) {k : Nat} (hk : k < xs.length) : ∃ b off, A = some ⟨b, off, none⟩ ∧ w.cell? ⟨b, off + k, none⟩ = some (.int .i64 xs[k]) := by
  rcases h.3 with h0 | ⟨b, off, e, hc⟩
  · have : xs = [] := by simpa [iv] using h0
    subst this; simp at hk
  · refine ⟨b, off, e, ?_⟩
    have := hc k (by simpa using hk)
    rwa [iv_at] at this
theorem below_two {w a b : World} (h : Below w.heap.size w a) (k : Below a.heap.size a b) : Below w.heap.size w b := below_then h k

set_option maxRecDepth 100000 in
set_option maxHeartbeats 8000000 in
theorem rAhead_any (F : Nat → Prop) (w : World) (rb : Nat) (S : List G) (next : Int) (h : GR F w rb S next) (n : Int) (hs : S.length ≤ 1000000) (hA : (Ah S).length ≤ 1000000) (hC : ∀ x ∈ Ah S, ∃ i, posG S x = some i) :
    Calls Try.prog 47 #[.pointer (some ⟨rb, 0, none⟩), .int .i64 n] w fun e w' => (∃ v, e = .returned v ∧ Sl w' v (aheadS S n)) ∧ Below w.heap.size w w' := by
  obtain ⟨lA, m, c, ss, h⟩ := h
  have H := Lib.hid h
  have HL := Lib.hid h.len
  have HC := Lib.hid (at_any F w rb lA m c S ss next h n)
  have HA := Lib.hid hA
  have HCL := Lib.hid hC
  have hm : m ≤ 1000000 := by rw [← h.len]; exact hs
  have h0 := h.h0
  have l1 := h.le
  have l2 := h.cap
  clear hA hC hs
  cases hp : posG S n with
  | none =>
    have HV : Hid (posV S n = -1) := by show _ = _; rw [posV, hp]
    have HE : Hid (aheadS S n = []) := by show _ = _; rw [aheadS, hp]
    rw [HV.out] at HC
    rw [HE.out]
    clear h hp
    go_enter Try.func47, Try.ntmps47
    go_wp2_with (go_at_call 57; (with_reducible refine HC.out.mono ?_); rintro e w' ⟨rfl, rfl⟩)
    go_ret
    exact ⟨⟨_, rfl, Sl.nil⟩, Below.refl _ _⟩
  | some i =>
    have hi := posG_lt hp
    have him : i < m := by rw [← h.len]; exact hi.1
    have hiS : i < S.length := hi.1
    have HV : Hid (posV S n = (i : Int)) := by show _ = _; rw [posV, hp]
    have HE : Hid (aheadS S n = roundsS S S.length (withAll [] (nthG S i).ah)) := by show _ = _; rw [aheadS, hp]
    rw [HV.out] at HC
    rw [HE.out, HL.out]
    obtain ⟨lb, p, q, rfl, _, hlb, _, _, _, _, _, c3, _, _, hrow⟩ := h.get him
    have HI0 : Hid (∀ x ∈ (nthG S i).ah, x ∈ Ah S) := fun x hx => mem_ah hiS hx
    clear h hp hi
    obtain ⟨qa, qn, qc⟩ := q
    have hpl := hrow.1
    have hrd := hrow.rd
    simp only at hpl hrd
    subst hpl
    simp only [sv] at c3
    have HRD := Lib.hid hrd
    clear hrow hrd
    generalize (nthG S i).ah = xs at *
    have hq1 := HRD.out.le
    have hq2 := HRD.out.cap
    have hrb := H.out.lt
    go_enter Try.func47, Try.ntmps47
    go_wp2_with (go_at_call 57; (with_reducible refine HC.out.mono ?_); rintro e w2 ⟨rfl, hw⟩; subst w2)
    go_loopw [6, 7] (fun v k wr => ∃ j : Nat, j ≤ xs.length ∧ k = .int .i64 j ∧ Hid (Sl wr v (withAll [] (xs.take j))) ∧ Hid (Below w.heap.size w wr)) (fun _ k _ => xs.length - (intOf k).toNat)
    case atStart => exact ⟨0, by omega, rfl, Sl.nil, Below.refl _ _⟩
    case round =>
      obtain ⟨j, hj, rfl, HO, HB⟩ := hrel
      obtain ⟨oA, oc, rfl, hor⟩ := HO
      have HOR := Lib.hid hor
      have h0' : wr.cell? ⟨rb, 0, none⟩ = some (.slice (some ⟨lb, 0, none⟩) m c) := (HB.out.cell (p := ⟨rb, 0, none⟩) hrb).trans h0
      have c3' : wr.cell? ⟨lb, i * 4 + 3, none⟩ = some (.slice qa xs.length qc) := (HB.out.cell (p := ⟨lb, i * 4 + 3, none⟩) hlb).trans c3
      have HOK : Hid (Ok (Ah S) (withAll [] (xs.take j))) := Ok.nil.all fun x hx => HI0.out x (List.mem_of_mem_take hx)
      have hol : (withAll [] (xs.take j)).length ≤ 1000000 := Nat.le_trans HOK.out.length HA.out
      clear h0 c3 hor
      by_cases hlt : j < xs.length
      · have HSTEP : Hid (withL (withAll [] (xs.take j)) xs[j] = withAll [] (xs.take (j + 1))) := (foldl_take withL xs [] hlt).symm
        obtain ⟨qb, qo, rfl, hcell⟩ := Rd.cell_i (HRD.out.below HB.out) hlt
        generalize withAll [] (xs.take j) = o1 at *
        generalize xs[j] = x at *
        have HCW := Lib.hid (with_any oA o1.length oc o1 x wr HOR.out rfl hol)
        have hp1 := HOR.out.le
        have hp2 := HOR.out.cap
        go_wp2_with (go_at_call 60; (with_reducible refine HCW.out.mono ?_); rintro e w2 ⟨⟨v2, rfl, hown⟩, hB⟩; have HOWN := Lib.hid hown; have HB2 := Lib.hid hB; clear hown hB)
        go_roundw
        case rel => exact ⟨j + 1, by omega, by go_num, by rw [← HSTEP.out]; exact Sl.own HOWN.out, below_two HB.out HB2.out⟩
        case measure => simp [intOf] <;> omega
      · obtain rfl : j = xs.length := by omega
        rw [List.take_length] at *
        have HOK0 := HOK
        have HR0 : Hid (Sl wr (.slice oA (withAll [] xs).length oc) (withAll [] xs)) := ⟨oA, oc, rfl, HOR.out⟩
        clear HOR HOK hol
        generalize hz : withAll [] xs = z at HOK0 HR0
        have HZZ := Lib.hid hz
        clear hz
        go_wp2
        go_loopw [6, 8] (fun v r wt => ∃ k : Nat, k ≤ m ∧ r = .int .i64 k ∧ Hid (Sl wt v (roundsS S k z)) ∧ Hid (Below w.heap.size w wt)) (fun _ r _ => m - (intOf r).toNat)
        case atStart => exact ⟨0, by omega, rfl, HR0, HB⟩
        case round =>
          rename World => wt
          obtain ⟨k, hk, rfl, HO, HB⟩ := hrel
          obtain ⟨oA, oc, rfl, hor⟩ := HO
          have HOR := Lib.hid hor
          have h0t : wt.cell? ⟨rb, 0, none⟩ = some (.slice (some ⟨lb, 0, none⟩) m c) := (HB.out.cell (p := ⟨rb, 0, none⟩) hrb).trans (H.out.h0)
          clear h0' c3' hor
          by_cases hlt : k < m
          · have HSTEP : Hid (roundsS S (k + 1) z = (roundsS S k z).foldl (round1 S) (roundsS S k z)) := rfl
            have HOK : Hid (Ok (Ah S) (roundsS S k z)) := HOK0.out.rounds k
            generalize roundsS S k z = ks at *
            have hp1 := HOR.out.le
            have hp2 := HOR.out.cap
            go_wp2
            go_loopw [6, 10] (fun v x wu => ∃ j : Nat, j ≤ ks.length ∧ x = .int .i64 j ∧ Hid (Sl wu v ((ks.take j).foldl (round1 S) ks)) ∧ Hid (Below wt.heap.size wt wu)) (fun _ x _ => ks.length - (intOf x).toNat)
            case atStart => exact ⟨0, by omega, rfl, ⟨oA, oc, rfl, HOR.out⟩, Below.refl _ _⟩
            case round =>
              rename World => wu
              obtain ⟨j, hj, rfl, HO, HB3⟩ := hrel
              obtain ⟨pA, pc, rfl, hor⟩ := HO
              have HPR := Lib.hid hor
              have HBU : Hid (Below w.heap.size w wu) := below_two HB.out HB3.out
              have h0u : wu.cell? ⟨rb, 0, none⟩ = some (.slice (some ⟨lb, 0, none⟩) m c) := (HBU.out.cell (p := ⟨rb, 0, none⟩) hrb).trans (H.out.h0)
              have HPOK : Hid (Ok (Ah S) ((ks.take j).foldl (round1 S) ks)) := Ok.fold HOK.out
              clear h0t hor
              by_cases hlt3 : j < ks.length
              · have HST3 : Hid ((ks.take (j + 1)).foldl (round1 S) ks = withAll ((ks.take j).foldl (round1 S) ks) (ahOf S ks[j])) := foldl_take _ _ _ hlt3
                have HMEM : Hid (ks[j] ∈ Ah S) := HOK.out.of _ (List.getElem_mem hlt3)
                obtain ⟨i', hpi⟩ := HCL.out _ HMEM.out
                have hi' := posG_lt hpi
                have hi'm : i' < m := by rw [← HL.out]; exact hi'.1
                have HV' : Hid (posV S ks[j] = (i' : Int)) := by show _ = _; rw [posV, hpi]
                have HAO : Hid (ahOf S ks[j] = (nthG S i').ah) := by show _ = _; rw [ahOf, hpi]
                have HX := Lib.hid (H.out.below HBU.out)
                have HAL : Hid (∀ x ∈ (nthG S i').ah, x ∈ Ah S) := fun x hx => mem_ah hi'.1 hx
                obtain ⟨lb', pp, qq, e, _, hlb', _, _, _, _, _, d3, _, _, hrow⟩ := HX.out.get hi'm
                injection e with e; injection e with e; subst e
                obtain ⟨ya, yn, yc⟩ := qq
                have hyl := hrow.1
                have hyd := hrow.rd
                simp only at hyl hyd
                subst hyl
                simp only [sv] at d3
                have HYD := Lib.hid hyd
                obtain ⟨kb, ko, rfl, hcell⟩ := Rd.cell_i (HOR.out.below HB3.out) hlt3
                rw [HAO.out] at HST3
                have HAT := Lib.hid (at_any F wu.drew rb (some ⟨lb, 0, none⟩) m c S ss next (HX.out.below (Sel.below_drewN wu 1)) ks[j])
                rw [HV'.out] at HAT
                clear hpi hi' HV' HAO hrow hyd
                generalize (nthG S i').ah = ys at *
                generalize (ks.take j).foldl (round1 S) ks = o3 at *
                generalize ks[j] = x at *
                go_upto_region 16 with (fail)
                have HS0 : At (fun w' : World => w'.cell? ⟨rb, 0, none⟩ = some (.slice (some ⟨lb, 0, none⟩) m c) ∧ w'.cell? ⟨kb, ko + j, none⟩ = some (.int .i64 x) ∧ w'.cell? ⟨lb, i' * 4 + 3, none⟩ = some (.slice ya ys.length yc)) wu.drew := ⟨h0u, hcell, d3⟩
                have HY0 : Hid (Rd wu.drew ya ys.length yc (iv .i64 ys)) := rd_drewN 1 HYD.out
                have HB4 : Hid (Below wt.heap.size wt wu.drew) := HB3.out.drew
                have HPR4 : Hid (Rd wu.drew pA o3.length pc (iv .i64 o3)) := rd_drewN 1 HPR.out
                clear h0u hcell d3 HYD HPR HX
                refine wp_region_lexD HS0 [0, 1, 2, 3, 4, 5, 6, 7, 8, 10, 11, 12, 13] (by kernel_rfl) (by kernel_rfl) (fun _ _ d _ _ h => by cases d <;> exact h) ?_
                change wpLexD _ _ _ _ _ _ _ _ _ wu.drew
                generalize wu.drew = w4 at *
                repeat (refine lexD_take (by decide) (by kernel_rfl) HS0 (fun w9 h9 => by obtain ⟨s0, s1, s2⟩ := h9; go_simp; first | done | rfl) (fun K hK => ?_); go_simp; refine hK _ ?_; clear hK K)
                refine lexD_do (by decide) (by kernel_rfl) (fun K hK => ?_)
                go_simp
                refine HAT.out.mono ?_
                rintro e w5 ⟨rfl, hw⟩; subst w5
                refine hK _ _ (fun _ => HS0) ?_
                clear hK K
                repeat (refine lexD_take (by decide) (by kernel_rfl) HS0 (fun w9 h9 => by obtain ⟨s0, s1, s2⟩ := h9; go_simp; first | done | rfl) (fun K hK => ?_); go_simp; refine hK _ ?_; clear hK K)
                refine lexD_nil ?_
                clear HS0 HAT
                have hy1 := HY0.out.le
                have hy2 := HY0.out.cap
                go_wp2
                go_loopw [6, 12] (fun v t wv => ∃ d : Nat, d ≤ ys.length ∧ t = .int .i64 d ∧ Hid (Sl wv v (withAll o3 (ys.take d))) ∧ Hid (Below w4.heap.size w4 wv)) (fun _ t _ => ys.length - (intOf t).toNat)
                case atStart => exact ⟨0, by omega, rfl, ⟨pA, pc, rfl, HPR4.out⟩, Below.refl _ _⟩
                case round =>
                  rename World => wv
                  obtain ⟨d, hd, rfl, HO, HB5⟩ := hrel
                  obtain ⟨tA, tc, rfl, hor⟩ := HO
                  have HTR := Lib.hid hor
                  have HTOK : Hid (Ok (Ah S) (withAll o3 (ys.take d))) := HPOK.out.all fun x hx => HAL.out x (List.mem_of_mem_take hx)
                  have hol : (withAll o3 (ys.take d)).length ≤ 1000000 := Nat.le_trans HTOK.out.length HA.out
                  clear hor
                  by_cases hlt5 : d < ys.length
                  · have HST5 : Hid (withL (withAll o3 (ys.take d)) ys[d] = withAll o3 (ys.take (d + 1))) := (foldl_take withL ys o3 hlt5).symm
                    obtain ⟨yb, yo, rfl, hcell⟩ := Rd.cell_i (HY0.out.below HB5.out) hlt5
                    generalize withAll o3 (ys.take d) = o5 at *
                    generalize ys[d] = y at *
                    have HCW := Lib.hid (with_any tA o5.length tc o5 y wv HTR.out rfl hol)
                    have ht1 := HTR.out.le
                    have ht2 := HTR.out.cap
                    go_wp2_with (go_at_call 60; (with_reducible refine HCW.out.mono ?_); rintro e w2 ⟨⟨v2, rfl, hown⟩, hB⟩; have HOWN := Lib.hid hown; have HB2 := Lib.hid hB; clear hown hB)
                    go_roundw
                    case rel => exact ⟨d + 1, by omega, by go_num, by rw [← HST5.out]; exact Sl.own HOWN.out, below_two HB5.out HB2.out⟩
                    case measure => simp [intOf] <;> omega
                  · obtain rfl : d = ys.length := by omega
                    rw [List.take_length] at *
                    rw [← HST3.out] at *
                    clear hol
                    go_wp2
                    go_roundw
                    case rel => exact ⟨j + 1, by omega, by go_num, ⟨tA, tc, rfl, HTR.out⟩, below_two HB4.out HB5.out⟩
                    case measure => simp [intOf] <;> omega
              · obtain rfl : j = ks.length := by omega
                rw [List.take_length] at *
                rw [← HSTEP.out] at *
                go_wp2
                go_roundw
                case rel => exact ⟨k + 1, by omega, by go_num, ⟨pA, pc, rfl, HPR.out⟩, HBU⟩
                case measure => simp [intOf] <;> omega
          · obtain rfl : k = m := by omega
            go_wp2
            go_ret
            rw [HZZ.out]
            exact ⟨⟨_, rfl, ⟨oA, oc, rfl, HOR.out⟩⟩, HB.out⟩
end Go.Proofs.Ytbflmgpcjfoifaa
/- Walks of the reference's groups: Behind. -/
set_option linter.unusedSimpArgs false
set_option linter.unusedVariables false
namespace Go.Sel.Gp
def bstep (S : List G) (o : List Int) (a : Int) : List Int := withAll o (patchesS S a)
theorem Ok.bstep {S : List G} {o : List Int} (h : Ok (Ps S) o) (a : Int) : Ok (Ps S) (bstep S o a) := h.all fun x hx => patchesS_mem hx
theorem Ok.bfold {S : List G} : ∀ {l o : List Int}, Ok (Ps S) o → Ok (Ps S) (l.foldl (Gp.bstep S) o)
  | [], _, h => h
  | k :: l, o, h => Ok.bfold (l := l) (h.bstep k)
theorem Ok.behind1 {S : List G} {o : List Int} (h : Ok (Ps S) o) (g : G) : Ok (Ps S) (behind1 S o g) := by
  unfold Gp.behind1
  split
  · exact h.bfold
  · exact h
theorem Ok.behinds {S : List G} : ∀ {l : List G} {o : List Int}, Ok (Ps S) o → Ok (Ps S) (l.foldl (Gp.behind1 S) o)
  | [], _, h => h
  | k :: l, o, h => Ok.behinds (l := l) (h.behind1 k)
theorem patchesS_le (S : List G) (n : Int) : (patchesS S n).length ≤ (Ps S).length := by
  unfold patchesS
  cases hp : posG S n with
  | none => simp
  | some i => exact ps_le (posG_lt hp).1
end Go.Sel.Gp
namespace Go.Proofs.Ytbflmgpcjfoifaa
open Go.RowKit Go.Sel Go.Sel.Gp

set_option maxRecDepth 100000 in
set_option maxHeartbeats 8000000 in
theorem rBehind_any (F : Nat → Prop) (w : World) (rb : Nat) (S : List G) (next : Int) (h : GR F w rb S next) (hs : S.length ≤ 1000000) (hA : (Ah S).length ≤ 1000000) (hP : (Ps S).length ≤ 1000000) (hC : ∀ x ∈ Ah S, ∃ i, posG S x = some i) :
    Calls Try.prog 48 #[.pointer (some ⟨rb, 0, none⟩)] w fun e w' => (∃ v, e = .returned v ∧ Sl w' v (behindS S)) ∧ Below w.heap.size w w' := by
  have HG := Lib.hid h
  obtain ⟨lA, m, c, ss, h⟩ := h
  have H := Lib.hid h
  have HL := Lib.hid h.len
  have HA := Lib.hid hA
  have HP := Lib.hid hP
  have HCL := Lib.hid hC
  have HSL := Lib.hid hs
  have hm : m ≤ 1000000 := by rw [← h.len]; exact hs
  have h0 := h.h0
  have l1 := h.le
  have l2 := h.cap
  have hrb := h.lt
  have HBH : Hid (behindS S = (S.take m).foldl (behind1 S) []) := by show _ = _; rw [← h.len, List.take_length]; rfl
  clear hA hP hC hs h
  go_enter Try.func48, Try.ntmps48
  go_wp2
  go_loopw [3, 4] (fun v i wr => ∃ k : Nat, k ≤ m ∧ i = .int .i64 k ∧ Hid (Sl wr v ((S.take k).foldl (behind1 S) [])) ∧ Hid (Below w.heap.size w wr)) (fun _ i _ => m - (intOf i).toNat)
  case atStart => exact ⟨0, by omega, rfl, Sl.nil, Below.refl _ _⟩
  case round =>
    obtain ⟨k, hk, rfl, HO, HB⟩ := hrel
    obtain ⟨oA, oc, rfl, hor⟩ := HO
    have HOR := Lib.hid hor
    have HX := Lib.hid (H.out.below HB.out)
    have h0' := HX.out.h0
    clear h0 hor
    by_cases hlt : k < m
    · have hkS : k < S.length := by rw [HL.out]; exact hlt
      obtain ⟨lb, p, q, rfl, _, hlb, _, _, c0, c1, _⟩ := HX.out.get hlt
      have HS := Lib.hid (foldl_take (behind1 S) S [] hkS)
      rw [← nthG_get hkS] at HS
      have HOK : Hid (Ok (Ps S) ((S.take k).foldl (behind1 S) [])) := Ok.behinds Ok.nil
      by_cases hst : (nthG S k).st = 2
      · have e1 : ((nthG S k).st != 2) = false := by simpa using hst
        have HST : Hid ((S.take (k + 1)).foldl (behind1 S) [] = (aheadS S (nthG S k).n).foldl (bstep S) ((S.take k).foldl (behind1 S) [])) := by
          show _ = _
          rw [HS.out]
          show behind1 S _ _ = _
          unfold behind1
          rw [if_pos hst]
          rfl
        have HAW := Lib.hid (rAhead_any F wr rb S next ⟨_, _, _, _, HX.out⟩ (nthG S k).n HSL.out HA.out HCL.out)
        clear HS hst
        generalize (S.take k).foldl (behind1 S) [] = o1 at *
        generalize aheadS S (nthG S k).n = a at *
        generalize (nthG S k).n = gn at *
        generalize (nthG S k).st = y at *
        go_wp2_with (go_at_call 47; (with_reducible refine HAW.out.mono ?_); rintro e w2 ⟨⟨v2, rfl, hsl⟩, hB⟩; obtain ⟨aA, ac, rfl, hra⟩ := hsl; have HRA := Lib.hid hra; have HB2 : Hid (Below w.heap.size w w2) := below_two HB.out hB; have HOR2 : Hid (Rd w2 oA o1.length oc (iv .i64 o1)) := HOR.out.below hB; have ha1 := hra.le; have ha2 := hra.cap; clear hra hB)
        clear h0' c0 c1
        go_loopw [3, 6] (fun v x wu => ∃ j : Nat, j ≤ a.length ∧ x = .int .i64 j ∧ Hid (Sl wu v ((a.take j).foldl (bstep S) o1)) ∧ Hid (Below w2.heap.size w2 wu)) (fun _ x _ => a.length - (intOf x).toNat)
        case atStart => exact ⟨0, by omega, rfl, ⟨oA, oc, rfl, HOR2.out⟩, Below.refl _ _⟩
        case round =>
          rename World => wu
          obtain ⟨j, hj, rfl, HO, HB3⟩ := hrel
          obtain ⟨pA, pc, rfl, hor⟩ := HO
          have HPR := Lib.hid hor
          have HBU : Hid (Below w.heap.size w wu) := below_two HB2.out HB3.out
          have HPOK : Hid (Ok (Ps S) ((a.take j).foldl (bstep S) o1)) := HOK.out.bfold
          clear hor
          by_cases hlt3 : j < a.length
          · have HST3 : Hid ((a.take (j + 1)).foldl (bstep S) o1 = withAll ((a.take j).foldl (bstep S) o1) (patchesS S a[j])) := foldl_take _ _ _ hlt3
            obtain ⟨kb, ko, rfl, hcell⟩ := Rd.cell_i (HRA.out.below HB3.out) hlt3
            have HPW := Lib.hid (rPatches_any F wu rb S next ⟨_, _, _, _, H.out.below HBU.out⟩ a[j] (Nat.le_trans (patchesS_le S _) HP.out))
            have HPM : Hid (∀ x ∈ patchesS S a[j], x ∈ Ps S) := fun x hx => patchesS_mem hx
            generalize patchesS S a[j] = ys at *
            generalize (a.take j).foldl (bstep S) o1 = o3 at *
            generalize a[j] = x at *
            go_wp2_with (go_at_call 46; (with_reducible refine HPW.out.mono ?_); rintro e w4 ⟨⟨yA, yc, rfl, hry⟩, hB⟩; have HY0 := Lib.hid hry; have HB4 : Hid (Below w2.heap.size w2 w4) := below_two HB3.out hB; have HPR4 : Hid (Rd w4 pA o3.length pc (iv .i64 o3)) := HPR.out.below hB; have hy1 := hry.le; have hy2 := hry.cap; clear hry hB)
            clear hcell
            go_loopw [3, 8] (fun v t wv => ∃ d : Nat, d ≤ ys.length ∧ t = .int .i64 d ∧ Hid (Sl wv v (withAll o3 (ys.take d))) ∧ Hid (Below w4.heap.size w4 wv)) (fun _ t _ => ys.length - (intOf t).toNat)
            case atStart => exact ⟨0, by omega, rfl, ⟨pA, pc, rfl, HPR4.out⟩, Below.refl _ _⟩
            case round =>
              rename World => wv
              obtain ⟨d, hd, rfl, HO, HB5⟩ := hrel
              obtain ⟨tA, tc, rfl, hor⟩ := HO
              have HTR := Lib.hid hor
              have HTOK : Hid (Ok (Ps S) (withAll o3 (ys.take d))) := HPOK.out.all fun x hx => HPM.out x (List.mem_of_mem_take hx)
              have hol : (withAll o3 (ys.take d)).length ≤ 1000000 := Nat.le_trans HTOK.out.length HP.out
              clear hor
              by_cases hlt5 : d < ys.length
              · have HST5 : Hid (withL (withAll o3 (ys.take d)) ys[d] = withAll o3 (ys.take (d + 1))) := (foldl_take withL ys o3 hlt5).symm
                obtain ⟨yb, yo, rfl, hcell⟩ := Rd.cell_i (HY0.out.below HB5.out) hlt5
                generalize withAll o3 (ys.take d) = o5 at *
                generalize ys[d] = y at *
                have HCW := Lib.hid (with_any tA o5.length tc o5 y wv HTR.out rfl hol)
                have ht1 := HTR.out.le
                have ht2 := HTR.out.cap
                go_wp2_with (go_at_call 60; (with_reducible refine HCW.out.mono ?_); rintro e w2 ⟨⟨v2, rfl, hown⟩, hB⟩; have HOWN := Lib.hid hown; have HB2 := Lib.hid hB; clear hown hB)
                go_roundw
                case rel => exact ⟨d + 1, by omega, by go_num, by rw [← HST5.out]; exact Sl.own HOWN.out, below_two HB5.out HB2.out⟩
                case measure => simp [intOf] <;> omega
              · obtain rfl : d = ys.length := by omega
                rw [List.take_length] at *
                rw [← HST3.out] at *
                clear hol
                go_wp2
                go_roundw
                case rel => exact ⟨j + 1, by omega, by go_num, ⟨tA, tc, rfl, HTR.out⟩, below_two HB4.out HB5.out⟩
                case measure => simp [intOf] <;> omega
          · obtain rfl : j = a.length := by omega
            rw [List.take_length] at *
            rw [← HST.out] at *
            go_wp2
            go_roundw
            case rel => exact ⟨k + 1, by omega, by go_num, ⟨pA, pc, rfl, HPR.out⟩, HBU⟩
            case measure => simp [intOf] <;> omega
      · have e1 : ((nthG S k).st != 2) = true := by simpa using hst
        have HST : Hid ((S.take (k + 1)).foldl (behind1 S) [] = (S.take k).foldl (behind1 S) []) := by
          show _ = _
          rw [HS.out]
          show behind1 S _ _ = _
          unfold behind1
          rw [if_neg hst]
        clear HS hst
        generalize (nthG S k).n = gn at *
        generalize (nthG S k).st = y at *
        go_wp2
        go_roundw
        case rel => exact ⟨k + 1, by omega, by go_num, by rw [HST.out]; exact ⟨oA, oc, rfl, HOR.out⟩, HB⟩
        case measure => simp [intOf] <;> omega
    · obtain rfl : k = m := by omega
      go_wp2
      go_ret
      rw [HBH.out]
      exact ⟨⟨_, rfl, ⟨oA, oc, rfl, HOR.out⟩⟩, HB.out⟩
end Go.Proofs.Ytbflmgpcjfoifaa
