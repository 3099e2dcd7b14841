/- Walks of graph: Closed. -/
import Derived.Test.YtpicagcapgjiaaaGra4
import Derived.Deep.CutBlock
import Derived.WalkMore
import Derived.Deep.DeepCutAuto
set_option linter.unusedSimpArgs false
set_option linter.unusedVariables false
namespace Go.Proofs.Ytpicagcapgjiaaa
open Go.RowKit Go.Sel Go.Sel.Gra Go.Shelf

attribute [local go_sem] Oper.semAt_some

theorem fr_own {β : Type} {S : Nat → Prop} {w : World} {B : Nat} (hB : w.heap.size ≤ B) : OwnFrom B (fun (_ : β) W => Fr S w W) := fun s W W' row h hg hr =>
  ⟨hg.os.trans h.os, hg.tape.trans h.tape, hg.output.trans h.output, Nat.le_trans h.size hg.size, fun k hk hs => (hg.block k (Nat.lt_of_lt_of_le hk h.size) (fun e => by have := (hr k e.symm).1; omega)).trans (h.block k hk hs)⟩
theorem bk_own {β : Type} {g : Nat} {T : TypeId} {B : Nat} (vs : β → List Value) : OwnFrom B (fun (s : β) W => Bk W g T (vs s)) := fun s W W' row h hg hr => by
  have hlt := h.lt
  refine (hg.block g hlt (fun e => ?_)).trans h
  obtain ⟨_, o, ho, hc⟩ := hr g e.symm
  have h' : W.heap[g]? = some (.cells (vs s).toArray T (0, 0)) := h
  rw [h'] at ho; cases ho; cases hc

set_option maxRecDepth 100000 in
set_option maxHeartbeats 4000000 in
theorem Closed_any (A : Option Addr) (n c : Nat) (D : List (List Int)) (B : Option Addr) (m d : Nat) (s : List Int) (w : World) (hD : Dp w A n c D) (hs : Rd w B m d (iv .i64 s)) (hm : s.length = m) (hn : n ≤ 1000) :
    Calls Try.prog 36 #[.slice A n c, .slice B m d] w fun e w' => e = .returned (.bool (closedB D s)) ∧ Below w.heap.size w w' := by
  have hl := hD.len
  have l1 := hD.le
  have l2 := hD.cap
  have HD := Lib.hid hD
  have HS := Lib.hid hs
  have HM := Lib.hid hm
  have HL := Lib.hid hl
  have m1 := hs.le
  have m2 := hs.cap
  clear hD hs hm
  generalize hq : closedB D s = q
  have HQ := Lib.hid hq
  clear hq
  by_cases hn0 : True
  · refine (callsIn_wide (n := 6)).1 ?_
    refine callsIn_of_wp_marks Try.func36 rfl trivial ?_ rfl
    simp only [Try.ntmps36, List.size_toArray, List.length_cons, List.length_nil, Nat.reduceAdd, Nat.reduceSub, Array.replicate_succ, Array.replicate_zero, List.push_toArray, List.append_toArray, List.nil_append, List.cons_append]
    refine wpIn_wide.2 ?_
    cases hall : allIn s n with
    | false =>
      have HALL := Lib.hid hall
      have HE : Hid (closedB D s = false) := by show _ = _; simp [closedB, hl, hall]
      clear hl hall
      go_wp2
      go_step3
      go_wp2_with (go_at_call 61; (with_reducible refine (marks_any B m d s n _ (HS.out.below (below_al w _)) HM.out hn).mono ?_); rw [HALL.out]; rintro e w1 ⟨rfl, hbk, hB⟩; have HB1 := Lib.hid (below_then (below_al w _) hB); clear hB hbk)
      rw [Exit.noGoto_ret]
      obtain rfl : q = false := by rw [← HQ.out, HE.out]
      exact ⟨_, results_tmp rfl _ _ _, rfl, below_then HB1.out (below_then (below_al _ _) (below_al _ _))⟩
    | true =>
      have HALL := Lib.hid hall
      cases hr : rightD D with
      | false =>
        have HR := Lib.hid hr
        have HE : Hid (closedB D s = false) := by show _ = _; simp [closedB, hr]
        clear hl hall hr
        go_wp2
        go_step3
        go_wp2_with (first
          | (go_at_call 61; (with_reducible refine (marks_any B m d s n _ (HS.out.below (below_al w _)) HM.out hn).mono ?_); rw [HALL.out]; rintro e w1 ⟨rfl, hbk, hB⟩; have HB1 := Lib.hid (below_then (below_al w _) hB); have hc0 : w1.cell? ⟨w.heap.size, 0, none⟩ = some (.slice A n c) := keep_cell (new_cell w #[.slice A n c] 22 0 _ rfl) hB; have hc0' := fun o o' => keep_cell (keep_cell hc0 (below_al w1 o)) (below_al _ o'); clear hB hbk)
          | (go_at_call 16; (with_reducible refine (Right_any A n c D _ (HD.out.below (below_then HB1.out (below_then (below_al _ _) (below_al _ _))))).mono ?_); rw [HR.out]; rintro e w2 ⟨rfl, hB⟩; have HB2 := Lib.hid (below_then HB1.out (below_then (below_then (below_al _ _) (below_al _ _)) hB)); clear hB))
        rw [Exit.noGoto_ret]
        obtain rfl : q = false := by rw [← HQ.out, HE.out]
        exact ⟨_, results_tmp rfl _ _ _, rfl, HB2.out⟩
      | true =>
        have HR := Lib.hid hr
        clear hl hall hr
        go_wp2
        go_step3
        go_wp2_with (first
          | (go_at_call 61; (with_reducible refine (marks_any B m d s n _ (HS.out.below (below_al w _)) HM.out hn).mono ?_); rw [HALL.out]; rintro e w1 ⟨rfl, hbk, hB⟩; have HB1 := Lib.hid (below_then (below_al w _) hB); have HBK := Lib.hid hbk; have hc0 : w1.cell? ⟨w.heap.size, 0, none⟩ = some (.slice A n c) := keep_cell (new_cell w #[.slice A n c] 22 0 _ rfl) hB; have hc0' := fun o o' => keep_cell (keep_cell hc0 (below_al w1 o)) (below_al _ o'); clear hB hbk)
          | (go_at_call 16; (with_reducible refine (Right_any A n c D _ (HD.out.below (below_then HB1.out (below_then (below_al _ _) (below_al _ _))))).mono ?_); rw [HR.out]; rintro e w2 ⟨rfl, hB⟩; have HX := Lib.hid hB; clear hB))
        go_step3
        have HMK : Hid (Bk w2 (w.heap.size + 1) 4 (bv (marksL s n))) := by
          have h1 := HBK.out
          rw [World.size_alloc] at h1
          exact ((h1.keep (below_al _ _)).keep (below_al _ _)).keep HX.out
        have hcD : w2.cell? ⟨w.heap.size, 0, none⟩ = some (.slice A n c) := keep_cell (hc0' _ _) HX.out
        have hcM : w2.cell? ⟨w1.heap.size, 0, none⟩ = some (.slice (some ⟨w.heap.size + 1, 0, none⟩) n n) := keep_cell (keep_cell (new_cell w1 #[.slice (some ⟨w.heap.size + 1, 0, none⟩) n n] 87 0 _ rfl) (below_al _ _)) HX.out
        have HAL : Hid (Bk w2 (w1.heap.size + 1) 4 [.bool true]) := by
          have h1 := Bk.new (w1.alloc (.cells #[.slice (some ⟨w.heap.size + 1, 0, none⟩) n n] 87)) 4 [.bool true]
          rw [World.size_alloc] at h1
          exact h1.keep HX.out
        have hlt1 : w.heap.size + 1 < w1.heap.size := by have := HBK.out.lt; rwa [World.size_alloc] at this
        have HW2 : Hid (Below w.heap.size w w2) := below_then HB1.out (below_then (below_then (below_al _ _) (below_al _ _)) HX.out)
        have hlt2 : w1.heap.size + 1 < w2.heap.size := HAL.out.lt
        clear hc0 hc0' HX HBK HB1
        generalize w1.heap.size = bm at *
        go_wp2_with (go_at_call 64; (with_reducible refine (those_any _ _ _ _).mono ?_); rintro e w5 ⟨rfl, rfl⟩)
        have hbox : (w2.alloc (.cells #[.slice (some ⟨w.heap.size + 1, 0, none⟩) n n] 87)).cell? ⟨w2.heap.size, 0, none⟩ = some (.slice (some ⟨w.heap.size + 1, 0, none⟩) n n) := new_cell w2 #[.slice (some ⟨w.heap.size + 1, 0, none⟩) n n] 87 0 _ rfl
        have HMK3 := Lib.hid (HMK.out.keep (below_al w2 (.cells #[.slice (some ⟨w.heap.size + 1, 0, none⟩) n n] 87)))
        have hcD3 := keep_cell hcD (below_al w2 (.cells #[.slice (some ⟨w.heap.size + 1, 0, none⟩) n n] 87))
        have hcM3 := keep_cell hcM (below_al w2 (.cells #[.slice (some ⟨w.heap.size + 1, 0, none⟩) n n] 87))
        have HAL3 := Lib.hid (HAL.out.keep (below_al w2 (.cells #[.slice (some ⟨w.heap.size + 1, 0, none⟩) n n] 87)))
        have HW3 := Lib.hid (below_then HW2.out (below_al w2 (.cells #[.slice (some ⟨w.heap.size + 1, 0, none⟩) n n] 87)))
        clear hcD hcM HMK HAL HW2
        have HMS : Hid ((marksL s n).length = n) := by show _ = _; simp
        generalize w2.alloc (.cells #[.slice (some ⟨w.heap.size + 1, 0, none⟩) n n] 87) = w3 at *
        generalize w2.heap.size = b3 at *
        have hw3 : bm + 1 < w3.heap.size := HAL3.out.lt
        refine wpIn_wide.1 (wpIn_rangeFunc_ownG (F := Fence.wide) (n := 6) rfl (by omega) (gf := 101) (lb := #[.pointer (some ⟨b3, 0, none⟩)]) rfl trivial (enters_of Try.func101 (by kernel_rfl) rfl)
          (those_stops 5 (by omega) b3 (w.heap.size + 1) n (· = bm + 1) (marksL s n) HMS.out hn (by omega) w3 hbox HMK3.out) KeepC.trans keepC_b (Below.refl _ _) (fun _ => rfl)
          (fun pre W => (Bk W (bm + 1) 4 [.bool true] ∧ Fr (· = bm + 1) w3 W) ∧ ∀ x ∈ pre, ∀ d ∈ nth D x.val, bit (marksL s n) d.toNat = true)
          (fun c pre W => c = .exit 0 ∧ Bk W (bm + 1) 4 [.bool false] ∧ Fr (· = bm + 1) w3 W ∧ closedB D s = false)
          (fun u X Y row h hg hr => ⟨⟨bk_own (fun _ => [.bool true]) u X Y row h.1.1 hg hr, fr_own (Nat.le_refl _) u X Y row h.1.2 hg hr⟩, h.2⟩)
          (fun c u X Y row h hg hr => ⟨h.1, bk_own (fun _ => [.bool false]) u X Y row h.2.1 hg hr, fr_own (Nat.le_refl _) u X Y row h.2.2.1 hg hr, h.2.2.2⟩)
          ⟨⟨HAL3.out, Fr.refl _ _⟩, by simp⟩
          (fun x => { tmps := #[.slice A n c, .slice B m d, .pointer (some ⟨w.heap.size, 0, none⟩), undef, .bool false, .pointer (some ⟨bm, 0, none⟩), .pointer (some ⟨bm + 1, 0, none⟩), .int .i64 (x.val : Int), undef, undef, .tuple #[.slice (some ⟨w.heap.size + 1, 0, none⟩) n n, .bool true], .slice B m d, .slice A n c, .int .i64 n, .tuple #[.slice (some ⟨w.heap.size + 1, 0, none⟩) n n, .bool true], .slice (some ⟨w.heap.size + 1, 0, none⟩) n n, .bool true, .bool true, .bool false, .bool false, .slice A n c, .bool true, .bool false, .bool false, .slice (some ⟨w.heap.size + 1, 0, none⟩) n n, .func (.func 101) #[] #[.pointer (some ⟨b3, 0, none⟩)], .int .i64 (x.val : Int), undef, undef, undef, undef, undef, undef, undef, undef, undef, undef, undef, undef, undef, undef, undef], defers := [] }) ?assign ?body ?done ?stop)
        case assign =>
          intro l x W K hK
          simp only [encF]
          gi_wp2
          exact hK
        case body =>
          rintro l pre x W ⟨⟨hal, hfr⟩, hpre⟩ hlt
          have hD1 : W.cell? ⟨w.heap.size, 0, none⟩ = some (.slice A n c) := by rw [← hcD3]; exact hfr.cell (by show ¬ (w.heap.size = bm + 1); omega) hcD3
          have hM1 : W.cell? ⟨bm, 0, none⟩ = some (.slice (some ⟨w.heap.size + 1, 0, none⟩) n n) := by rw [← hcM3]; exact hfr.cell (by show ¬ (bm = bm + 1); omega) hcM3
          have HM1 := Lib.hid (hfr.far HMK3.out (show ¬ (w.heap.size + 1 = bm + 1) by omega))
          have HWW : Hid (Below w.heap.size w W) := HW3.out.trans (hfr.below HW3.out.size (fun j h => by subst h; omega))
          have HFR := Lib.hid hfr
          have HPRE := Lib.hid hpre
          have hal0 := hal.cell 0 (by simp)
          have half := hal.free 0
          simp only [List.getElem_cons_zero] at hal0
          have HALB := Lib.hid hal
          clear hfr hpre hal hcD3 hcM3 hbox
          have hx := x.2.1
          have hxb := x.2.2
          obtain ⟨b, off, A', n', c', rfl, hc, hn', hrd⟩ := (HD.out.below HWW.out).at_ hx
          have hl1 := hrd.le
          have hl2 := hrd.cap
          have HNL := Lib.hid hn'
          have HRD := Lib.hid hrd
          clear hn' hrd
          generalize hxv : x.val = xv at *
          have HXV := Lib.hid hxv
          clear hxv
          gi_wp2
          gi_loopw [9, 32] (fun _ v wr => ∃ j : Nat, j ≤ n' ∧ v = .int .i64 j ∧ Hid (∀ i (h : i < (nth D xv).length), i < j → bit (marksL s n) (nth D xv)[i].toNat = true) ∧ wr = W) (fun _ v _ => n' - (intOf v).toNat)
          case atStart => exact ⟨0, by omega, rfl, Lib.hid (fun i h hi => by omega), rfl⟩
          case round =>
            obtain ⟨j, hj, rfl, hz, rfl⟩ := hrel
            by_cases hjl : j < n'
            · have hxl : j < (nth D xv).length := by have := HNL.out; omega
              obtain ⟨b2, off2, rfl, _, hc2⟩ := HRD.out.form (by simp; omega)
              have hcj := hc2 j (by simpa using hxl)
              rw [iv_at] at hcj
              clear hc2
              obtain ⟨d0, d1, d2⟩ := right_mem HR.out (List.getElem_mem hxl)
              have HMEM := Lib.hid (List.getElem_mem hxl)
              have HDJ : Hid ((nth D xv)[j] = (nth D xv)[j]) := Lib.hid rfl
              generalize hdd : (nth D xv)[j] = dd at *
              have HDD := Lib.hid hdd
              clear hdd HDJ
              obtain ⟨dn, rfl⟩ := Int.eq_ofNat_of_zero_le d0
              have hdn : dn < n := by have := HL.out; omega
              have hcm := HM1.out.bit dn (by have := HMS.out; omega)
              cases hbit : bit (marksL s n) dn with
              | true =>
                rw [hbit] at hcm
                have HBIT := Lib.hid hbit
                clear hbit
                gi_wp2
                go_roundw
                case rel =>
                  refine ⟨j + 1, by omega, by go_num, fun i h hi => ?_, trivial⟩
                  by_cases hij : i = j
                  · subst hij; rw [HDD.out]; exact HBIT.out
                  · exact hz.out i h (by omega)
                case measure => simp [intOf] <;> omega
              | false =>
                rw [hbit] at hcm
                have HNO : Hid (closedB D s = false) := by
                  show _ = _
                  rw [Bool.eq_false_iff]
                  intro hcl
                  have := (closed_iff.1 hcl).2.2 xv ?_ _ HMEM.out
                  · rw [Bool.eq_false_iff] at hbit
                    exact hbit (bit_marksL.2 ⟨hdn, this⟩)
                  · exact (bit_marksL.1 hxb).2
                clear hbit
                gi_wp2
                exact ⟨(KeepsOthers.setCell _ _ _).from _, rfl, HALB.out.set 0 (.bool false), HFR.out.setCell (.inl rfl) _, HNO.out⟩
            · have hjn : j = n' := by omega
              gi_wp2
              refine ⟨KeepsFrom.refl _ _, KeepC.refl _ _, ⟨HALB.out, HFR.out⟩, fun y hy d hd => ?_⟩
              rcases List.mem_append.1 hy with h | h
              · exact HPRE.out y h d hd
              · obtain rfl : y = x := by simpa using h
                rw [HXV.out] at hd
                obtain ⟨i, hi, rfl⟩ := List.mem_iff_getElem.1 hd
                exact hz.out i hi (by have := HNL.out; omega)
        case done =>
          rintro Dd ys W hDd hS ⟨⟨hal, hfr⟩, hpre⟩ hK
          have hal0 := hal.cell 0 (by simp)
          simp only [List.getElem_cons_zero] at hal0
          have HC : Hid (closedB D s = true) := by
            show _ = _
            rw [closed_iff]
            refine ⟨HR.out, fun i hi => by have := allIn_iff.1 HALL.out i hi; have := HL.out; omega, fun i hi d hd => ?_⟩
            have hil : i < n := by have := allIn_iff.1 HALL.out i hi; omega
            have hmem : (i : Int) ∈ thoseL (marksL s n) := by rw [mem_thoseL', bit_marksL]; exact ⟨hil, hi⟩
            rw [← hS, List.mem_map] at hmem
            obtain ⟨y, hy, hyi⟩ := hmem
            have e : y.val = i := by omega
            have hb := hpre y hy d (by rw [e]; exact hd)
            have hr := right_mem HR.out hd
            have := (bit_marksL.1 hb).2
            rwa [Int.toNat_of_nonneg hr.1] at this
          obtain rfl : q = true := by rw [← HQ.out, HC.out]
          have HWW : Hid (Below w.heap.size w W) := HW3.out.trans (hfr.below HW3.out.size (fun j h => by subst h; omega))
          have HK := Lib.hid hK
          clear hfr hpre hS hal
          go_wp2
          rw [Exit.noGoto_ret]
          refine ⟨by simp, .inl ⟨_, _, rfl, run_takeDeferred HK.out, ?_⟩⟩
          exact ⟨_, results_tmp rfl _ _ _, rfl, HWW.out.trans (belowK_b (w := w3) HW3.out.size W Dd _ _ hDd HK.out rfl rfl)⟩
        case stop =>
          rintro Dd c pre W hDd _ ⟨rfl, hal, hfr, hcl⟩ hK
          have hal0 := hal.cell 0 (by simp)
          simp only [List.getElem_cons_zero] at hal0
          obtain rfl : q = false := by rw [← HQ.out, hcl]
          have HWW : Hid (Below w.heap.size w W) := HW3.out.trans (hfr.below HW3.out.size (fun j h => by subst h; omega))
          have HK := Lib.hid hK
          clear hfr hal hcl
          refine wpIn_wide.2 ?_
          go_wp2
          rw [Exit.noGoto_ret]
          refine ⟨by simp, .inl ⟨_, _, rfl, run_takeDeferred HK.out, ?_⟩⟩
          exact ⟨_, results_tmp rfl _ _ _, rfl, HWW.out.trans (belowK_b (w := w3) HW3.out.size W Dd _ _ hDd HK.out rfl rfl)⟩
  · exact absurd trivial hn0
end Go.Proofs.Ytpicagcapgjiaaa
