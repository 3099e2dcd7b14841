/- Walks of merge's reference: ref06.of. -/
import Derived.Test.YtpicagcapgjiaaaMer13
import Derived.Test.YtpicagcapgjiaaaMerM
import Derived.Test.YtpicagcapgjiaaaGraW
set_option linter.unusedSimpArgs false
set_option linter.unusedVariables false
namespace Go.Proofs.Ytpicagcapgjiaaa
open Go.RowKit Go.Sel Go.Sel.Gra Go.Sel.Mer Go.Shelf

def OfB (w : World) (S n : Nat) (out : List Int) : Prop := Bk w S 3 (iv .i64 (partI out n))
theorem OfB.cell {w : World} {S n d : Nat} {out : List Int} (h : OfB w S n out) (hd : d < out.length) : w.cell? ⟨S, d, none⟩ = some (.int .i64 (out.getD d 0)) := by
  have h1 := Bk.cell h d (by simp [partI]; omega)
  rw [h1, iv_at]
  simp [partI, List.getElem_append_left hd, List.getD_eq_getElem?_getD, List.getElem?_eq_getElem hd]
theorem OfB.cell0 {w : World} {S n : Nat} {out : List Int} (h : OfB w S n out) (hd : out.length < n) : ∃ v, w.cell? ⟨S, out.length, none⟩ = some v := ⟨_, Bk.cell h out.length (by simp [partI]; omega)⟩
theorem OfB.store {w : World} {S n : Nat} {out : List Int} (h : OfB w S n out) (hd : out.length < n) (x : Int) : OfB (w.setCell ⟨S, out.length, none⟩ (.int .i64 x)) S n (out ++ [x]) := by
  have h1 := Bk.set h out.length (.int .i64 x)
  unfold OfB
  rw [← partI_snoc hd]
  simpa [iv, List.map_set] using h1
theorem OfB.over {w : World} {S n : Nat} {out : List Int} {x : Int} (h : OfB w S n (out ++ [x])) (hd : out.length < n) (y : Int) : OfB (w.setCell ⟨S, out.length, none⟩ (.int .i64 y)) S n (out ++ [y]) := by
  have h1 := Bk.set h out.length (.int .i64 y)
  unfold OfB
  have e : partI (out ++ [y]) n = (partI (out ++ [x]) n).set out.length y := by
    rw [← partI_snoc hd, ← partI_snoc hd, List.set_set]
  rw [e]
  simpa [iv, List.map_set] using h1
theorem OfB.keep {w w' : World} {S n : Nat} {out : List Int} (h : OfB w S n out) (hB : Below w.heap.size w w') : OfB w' S n out := Bk.keep h hB
def lastV : Option Nat → Int
  | none => -1
  | some p => p
theorem drew1' (w : World) : Below w.heap.size w w.drew := ⟨rfl, rfl, rfl, Nat.le_refl _, fun _ _ => rfl⟩
theorem ip_block {w : World} {b off n c : Nat} {L : List It} (h : Ip w (some ⟨b, off, none⟩) n c L) {i : Nat} (hi : i < n) : w.cell? ⟨b, off + i * 4, none⟩ = some (.int .i64 (nthI L i).b) := by
  obtain ⟨b', off', _, _, _, e, _, h1, _⟩ := h.at_ hi
  injection e with e; injection e with e1 e2; subst e1 e2
  exact h1
theorem nearR_succ (D : List (List Int)) (out : List Int) (m : Nat) (g d : Int) : nearR D out (m + 1) g d = (nearR D out m g d || (decide (out.getD m 0 = g) && bit (aheadL D m) d.toNat)) := by
  unfold nearR
  rw [List.range_succ, List.any_append, ← Bool.or_assoc]
  simp
theorem nearR_zero (D : List (List Int)) (out : List Int) (g d : Int) : nearR D out 0 g d = decide (out.getD d.toNat 0 = g) := by simp [nearR]
theorem all_snoc {ds : List Int} {f : Int → Bool} {t : Nat} (h : t < ds.length) : (ds.take (t + 1)).all f = ((ds.take t).all f && f ds[t]) := by
  rw [List.take_succ_eq_append_getElem h, List.all_append]; simp
theorem getD_snocO {o : List Int} {x : Int} {d : Nat} (h : d < o.length) : (o ++ [x]).getD d 0 = o.getD d 0 := by rw [getD_snocI, if_pos h]
theorem lastK_succ (L : List It) (k : Nat) (b : Int) : lastK L (k + 1) b = if (nthI L k).b = b then some k else lastK L k b := rfl

set_option maxRecDepth 100000 in
set_option maxHeartbeats 8000000 in
theorem of_any (A : Option Addr) (n c : Nat) (L : List It) (w : World) (hL : Ip w A n c L) (hr : mrightB L = true) :
    Calls Try.prog 70 #[.slice A n c] w fun e w' => (∃ g, e = .returned (.slice (some ⟨g, 0, none⟩) n n) ∧ OfB w' g n (ofL L n)) ∧ Below w.heap.size w w' := by
  have HL := Lib.hid hL
  have HN := Lib.hid hL.len
  have l1 := hL.le
  have l2 := hL.cap
  have HR := Lib.hid hr
  have HD := Lib.hid (mright_iff.1 hr).2.2
  have hn64 : n ≤ 64 := by have := mright_len hr; have := HN.out; omega
  clear hL hr
  have hmk := mkIn n (by omega)
  go_enter Try.func70, Try.ntmps70
  go_upto_region 4 with (first
    | (go_at_call 37; (with_reducible refine (DepsOf_any A _ c L _ HL.out (by omega)).mono ?_); rintro e w1 ⟨⟨A2, c2, rfl, hd⟩, hB⟩; have HDP := Lib.hid hd; have HB1 := Lib.hid hB; have HL1 := Lib.hid (HL.out.below hB); clear hd hB)
    | (go_at_call 102; (with_reducible refine (rUps_any A2 _ c2 (depsL L) _ HDP.out HD.out).mono ?_); rintro e w2 ⟨⟨A3, c3, vs, rfl, hvl, hvr, hvs⟩, hB⟩; have HVL := Lib.hid hvl; have HVR := Lib.hid hvr; have HVS := Lib.hid hvs; have HB2 := Lib.hid (below_then HB1.out hB); have HL2 := Lib.hid (HL1.out.below hB); have HDP2 := Lib.hid (HDP.out.below hB); clear hvl hvr hvs hB))
  have HS0 : Hid (OfB (w2.alloc (.cells (iv .i64 (partI [] n)).toArray 3)) w2.heap.size n (ofL L 0)) := Bk.new _ _ _
  have HW0 : Hid (Below w2.heap.size w2 (w2.alloc (.cells (iv .i64 (partI [] n)).toArray 3))) := below_al _ _
  clear hmk
  generalize w2.alloc (.cells (iv .i64 (partI [] n)).toArray 3) = w3 at *
  have v1 := HVR.out.le
  have v2 := HVR.out.cap
  go_wp2
  go_loopw [6, 7, 8, 9, 10, 11, 12, 13, 14] (fun v _ _ _ _ _ _ _ _ wr => ∃ k : Nat, k ≤ n ∧ v = .int .i64 k ∧ Hid (OfB wr w2.heap.size n (ofL L k)) ∧ Hid (Below w2.heap.size w2 wr)) (fun v _ _ _ _ _ _ _ _ _ => n - (intOf v).toNat)
  case atStart => exact ⟨0, by omega, rfl, HS0, HW0⟩
  case round =>
    obtain ⟨k, hk, rfl, HS, HW⟩ := hrel
    by_cases hlt : k < n
    · have hol : (ofL L k).length = k := ofL_length L k
      obtain ⟨v0, s0⟩ := HS.out.cell0 (by rw [hol]; exact hlt)
      rw [hol] at s0
      have s1 := Bk.free HS.out k
      have HO1 : Hid (OfB (wr.setCell ⟨w2.heap.size, k, none⟩ (.int .i64 (k : Int))) w2.heap.size n (ofL L k ++ [(k : Int)])) := by
        have := HS.out.store (by rw [hol]; exact hlt) (k : Int)
        rw [hol] at this; exact this
      have HW1 : Hid (Below w2.heap.size w2 (wr.setCell ⟨w2.heap.size, k, none⟩ (.int .i64 (k : Int)))) := HW.out.setCell (Nat.le_refl _) _
      obtain ⟨eb, eo, rfl⟩ : ∃ eb eo, A = some ⟨eb, eo, none⟩ := by
        obtain ⟨b, off, _, _, _, e, _⟩ := HL.out.at_ hlt
        exact ⟨b, off, e⟩
      go_upto_region 8 with (fail)
      clear s0 s1
      generalize wr.setCell ⟨w2.heap.size, k, none⟩ (.int .i64 (k : Int)) = w4 at *
      go_wp2
      go_loopw [7, 8] (fun v7 v8 wi => ∃ j : Nat, j ≤ k ∧ v8 = .int .i64 j ∧ v7 = .int .i64 (lastV (lastK L j (nthI L k).b)) ∧ Hid (OfB wi w2.heap.size n (ofL L k ++ [(k : Int)])) ∧ Hid (Below w2.heap.size w2 wi)) (fun _ v8 _ => k - (intOf v8).toNat)
      case atStart => exact ⟨0, by omega, rfl, rfl, HO1, HW1⟩
      case round =>
        rename World => wi
        obtain ⟨j, hj, rfl, rfl, HSi, HWi⟩ := hrel
        by_cases hjk : j < k
        · have e1 := ip_block (HL2.out.below HWi.out) (show j < n by omega)
          have e2 := ip_block (HL2.out.below HWi.out) hlt
          have HLS := Lib.hid (lastK_succ L j (nthI L k).b)
          have HSD : Hid (OfB wi.drew w2.heap.size n (ofL L k ++ [(k : Int)])) := HSi.out.keep (drew1' wi)
          have HWD : Hid (Below w2.heap.size w2 wi.drew) := below_then HWi.out (drew1' wi)
          generalize (nthI L j).b = bj at *
          generalize (nthI L k).b = bk at *
          by_cases hbb : bj = bk
          · subst hbb
            rw [if_pos rfl] at HLS
            go_wp2_with (fail)
            have hb1 : ¬ (n ≤ j) := by omega
            have hb2 : ¬ (n ≤ k) := by omega
            have hb3 : (j : Int) < (n : Int) := by omega
            have hb4 : (k : Int) < (n : Int) := by omega
            have hb5 : (0 : Int) ≤ (j : Int) := by omega
            have hb6 : (0 : Int) ≤ (k : Int) := by omega
            go_region_held3 (fun w' => w'.cell? ⟨eb, eo + j * 4, none⟩ = some (.int .i64 bj) ∧ w'.cell? ⟨eb, eo + k * 4, none⟩ = some (.int .i64 bj)) (go_keep) (fail)
            go_wp2
            go_roundw
            case rel => exact ⟨j + 1, by omega, by go_num, by rw [HLS.out]; rfl, HSD, HWD⟩
            case measure => simp [intOf] <;> omega
          · rw [if_neg hbb] at HLS
            go_wp2_with (fail)
            have hb1 : ¬ (n ≤ j) := by omega
            have hb2 : ¬ (n ≤ k) := by omega
            have hb3 : (j : Int) < (n : Int) := by omega
            have hb4 : (k : Int) < (n : Int) := by omega
            have hb5 : (0 : Int) ≤ (j : Int) := by omega
            have hb6 : (0 : Int) ≤ (k : Int) := by omega
            go_region_held3 (fun w' => w'.cell? ⟨eb, eo + j * 4, none⟩ = some (.int .i64 bj) ∧ w'.cell? ⟨eb, eo + k * 4, none⟩ = some (.int .i64 bk)) (go_keep) (fail)
            go_wp2
            go_roundw
            case rel => exact ⟨j + 1, by omega, by go_num, by rw [HLS.out], HSD, HWD⟩
            case measure => simp [intOf] <;> omega
        · obtain rfl : j = k := by omega
          have HOFS : Hid (ofL L (j + 1) = ofL L j ++ [nameR L j (ofL L j)]) := (rfl : _ = _)
          cases hlk : lastK L j (nthI L j).b with
          | none =>
            have HNM : Hid (nameR L j (ofL L j) = (j : Int)) := by show _ = _; unfold nameR; rw [hlk]
            simp only [lastV]
            clear hlk
            go_wp2
            go_roundw
            case rel => exact ⟨j + 1, by omega, by go_num, by rw [HOFS.out, HNM.out]; exact HSi, HWi⟩
            case measure => simp [intOf] <;> omega
          | some p =>
            have hpj := (lastK_lt hlk).1
            have HNM : Hid (nameR L j (ofL L j) = if (nthI L j).ds.all (fun d => nearR (depsL L) (ofL L j) j ((ofL L j).getD p 0) d) then (ofL L j).getD p 0 else (j : Int)) := by show _ = _; unfold nameR; rw [hlk]
            have k7 := HSi.out.cell (d := p) (by rw [List.length_append, ofL_length]; simp; omega)
            rw [getD_snocO (by rw [ofL_length]; exact hpj)] at k7
            have hpn : p < n := by omega
            have HOL : Hid ((ofL L j).length = j) := ofL_length L j
            have HNDS : Hid (nth (depsL L) j = (nthI L j).ds) := nth_depsL (by have := HN.out; omega)
            have HDSL : Hid (∀ d ∈ (nthI L j).ds, 0 ≤ d ∧ d < (j : Int)) := fun d hd => ds_lt HR.out (by have := HN.out; omega) hd
            simp only [lastV]
            clear hlk
            generalize (nthI L j).ds = ds at *
            generalize hg : (ofL L j).getD p 0 = g at *
            clear hg
            obtain ⟨rb, ro, A', n', c', rfl, _⟩ := HDP2.out.at_ hlt
            go_wp2
            go_loopw [10, 11, 12, 13, 14] (fun v10 v11 _ _ _ wx => ∃ t : Nat, t ≤ ds.length ∧ v11 = .int .i64 t ∧ v10 = .bool ((ds.take t).all fun d => nearR (depsL L) (ofL L j) j g d) ∧ Hid (OfB wx w2.heap.size n (ofL L j ++ [(j : Int)])) ∧ Hid (Below w2.heap.size w2 wx)) (fun _ v11 _ _ _ _ => ds.length - (intOf v11).toNat)
            case atStart => exact ⟨0, by omega, rfl, rfl, HSi, HWi⟩
            case round =>
              rename World => wx
              obtain ⟨t, ht, rfl, rfl, HSx, HWx⟩ := hrel
              obtain ⟨rb', ro', A', n', c', e, d1, d2, d3⟩ := (HDP2.out.below HWx.out).at_ hlt
              injection e with e; injection e with e1 e2; subst e1 e2
              rw [HNDS.out] at d2 d3
              subst d2
              have d4 := d3.le
              have d5 := d3.cap
              by_cases htl : t < ds.length
              · obtain ⟨db, dof, rfl, _, hcs⟩ := d3.form (by simpa using (show 0 < ds.length by omega))
                have k8 := hcs t (by simpa using htl)
                rw [iv_at] at k8
                have HALL := Lib.hid (all_snoc (f := fun d => nearR (depsL L) (ofL L j) j g d) htl)
                obtain ⟨dn, hdn⟩ : ∃ dn : Nat, ds[t] = (dn : Int) := ⟨ds[t].toNat, by have := HDSL.out _ (List.getElem_mem htl); omega⟩
                have hdj : dn < j := by have := HDSL.out _ (List.getElem_mem htl); omega
                rw [hdn] at k8 HALL
                have k9 := HSx.out.cell (d := dn) (by rw [List.length_append, HOL.out]; simp; omega)
                rw [getD_snocO (by rw [HOL.out]; exact hdj)] at k9
                have hdn2 : dn < n := by omega
                have HN0 := Lib.hid (nearR_zero (depsL L) (ofL L j) g (dn : Int))
                rw [Int.toNat_natCast] at HN0
                clear hdn hcs d3
                generalize (ofL L j).getD dn 0 = od at *
                generalize (ds.take t).all (fun d => nearR (depsL L) (ofL L j) j g d) = jb at *
                go_wp2
                go_loopw [13, 14] (fun v13 v14 wy => ∃ m : Nat, m ≤ j ∧ v14 = .int .i64 m ∧ v13 = .bool (nearR (depsL L) (ofL L j) m g (dn : Int)) ∧ Hid (OfB wy w2.heap.size n (ofL L j ++ [(j : Int)])) ∧ Hid (Below w2.heap.size w2 wy)) (fun _ v14 _ => j - (intOf v14).toNat)
                case atStart => exact ⟨0, by omega, rfl, by rw [HN0.out]; rfl, HSx, HWx⟩
                case round =>
                  rename World => wy
                  obtain ⟨m, hm, rfl, rfl, HSy, HWy⟩ := hrel
                  by_cases hmj : m < j
                  · have HSUC := Lib.hid (nearR_succ (depsL L) (ofL L j) m g (dn : Int))
                    rw [Int.toNat_natCast] at HSUC
                    cases hok : nearR (depsL L) (ofL L j) m g (dn : Int) with
                    | true =>
                      rw [hok, Bool.true_or] at HSUC
                      go_wp2
                      go_roundw
                      case rel => exact ⟨m + 1, by omega, by go_num, by rw [HSUC.out], HSy, HWy⟩
                      case measure => simp [intOf] <;> omega
                    | false =>
                      rw [hok, Bool.false_or] at HSUC
                      have k10 := HSy.out.cell (d := m) (by rw [List.length_append, HOL.out]; simp; omega)
                      rw [getD_snocO (by rw [HOL.out]; exact hmj)] at k10
                      have hmn : m < n := by omega
                      by_cases hom : (ofL L j).getD m 0 = g
                      · rw [hom] at k10
                        rw [decide_eq_true hom, Bool.true_and] at HSUC
                        obtain ⟨u, hu1, hu2⟩ := HVS.out m hmn
                        obtain ⟨ub, uo, rfl, _, huc⟩ := (HVR.out.below HWy.out).form (by have := HVL.out; omega)
                        have k11 := huc m (by have := HVL.out; omega)
                        have hvm : vs[m]'(by have := HVL.out; omega) = .slice (some ⟨u, 0, none⟩) n n := by
                          rw [List.getElem?_eq_getElem (by have := HVL.out; omega)] at hu1; exact Option.some.inj hu1
                        rw [hvm] at k11
                        have k12 := Bk.bit (hu2.keep HWy.out) dn (by rw [aheadL_length, depsL_length]; have := HN.out; omega)
                        generalize bit (aheadL (depsL L) m) dn = ub1 at *
                        clear hu1 hu2 huc hvm hok hom
                        go_wp2
                        go_roundw
                        case rel => exact ⟨m + 1, by omega, by go_num, by rw [HSUC.out], HSy, HWy⟩
                        case measure => simp [intOf] <;> omega
                      · have hom2 : decide ((ofL L j).getD m 0 = g) = false := decide_eq_false hom
                        rw [hom2, Bool.false_and] at HSUC
                        generalize (ofL L j).getD m 0 = om at *
                        clear hok
                        go_wp2
                        go_roundw
                        case rel => exact ⟨m + 1, by omega, by go_num, by rw [HSUC.out], HSy, HWy⟩
                        case measure => simp [intOf] <;> omega
                  · obtain rfl : m = j := by omega
                    generalize nearR (depsL L) (ofL L m) m g (dn : Int) = nb at *
                    cases jb with
                    | true =>
                      go_wp2
                      go_roundw
                      case rel => exact ⟨t + 1, by omega, by go_num, by rw [HALL.out, Bool.true_and], HSy, HWy⟩
                      case measure => simp [intOf] <;> omega
                    | false =>
                      go_wp2
                      go_roundw
                      case rel => exact ⟨t + 1, by omega, by go_num, by rw [HALL.out, Bool.false_and], HSy, HWy⟩
                      case measure => simp [intOf] <;> omega
              · obtain rfl : t = ds.length := by omega
                rw [List.take_length]
                cases hall : ds.all (fun d => nearR (depsL L) (ofL L j) j g d) with
                | true =>
                  rw [hall, if_pos rfl] at HNM
                  clear hall
                  have s0 := HSx.out.cell (d := j) (by rw [List.length_append, HOL.out]; simp)
                  have s1 := Bk.free HSx.out j
                  have HO5 : Hid (OfB (wx.setCell ⟨w2.heap.size, j, none⟩ (.int .i64 g)) w2.heap.size n (ofL L (j + 1))) := by
                    have := HSx.out.over (by rw [HOL.out]; exact hlt) g
                    rw [HOL.out] at this
                    show OfB _ _ _ _
                    rw [HOFS.out, HNM.out]; exact this
                  have HW5 : Hid (Below w2.heap.size w2 (wx.setCell ⟨w2.heap.size, j, none⟩ (.int .i64 g))) := HWx.out.setCell (Nat.le_refl _) _
                  go_wp2
                  go_roundw
                  case rel => exact ⟨j + 1, by omega, by go_num, HO5, HW5⟩
                  case measure => simp [intOf] <;> omega
                | false =>
                  rw [hall, if_neg (by decide)] at HNM
                  clear hall
                  go_wp2
                  go_roundw
                  case rel => exact ⟨j + 1, by omega, by go_num, by rw [HOFS.out, HNM.out]; exact HSx, HWx⟩
                  case measure => simp [intOf] <;> omega
    · obtain rfl : k = n := by omega
      go_wp2
      go_ret
      exact ⟨⟨_, rfl, HS.out⟩, below_then HB2.out HW.out⟩
end Go.Proofs.Ytpicagcapgjiaaa
