/- Walks of graph: Collect over the marked ones, Close. -/
import Derived.Test.YtpicagcapgjiaaaGra3
set_option linter.unusedSimpArgs false
set_option linter.unusedVariables false
namespace Go.Proofs.Ytpicagcapgjiaaa
open Go.RowKit Go.Sel Go.Sel.Gra Go.Shelf

attribute [local go_sem] Oper.semAt_some

theorem infoInt : (Try.prog.info? 3).map (fun i => (i.zero, i.size, i.bytes)) = some (some (.int .i64 0), 1, 8) := by kernel_rfl
def fv (ms : List Bool) (N : Nat) (x : MkT ms N) : Value := .int .i64 (x.val : Int)

set_option maxRecDepth 100000 in
set_option maxHeartbeats 2000000 in
theorem AppendSeq_in (n : Nat) (hn : 3 ≤ n) (gf : Nat) (lb : Array Value) (eg : ∀ args w, (callFunc gf args).run Try.prog w = .ok (.enter gf args) w) (ms : List Bool) (N : Nat) (hN : N ≤ 1000) (Sx Sp : List (MkT ms N) → Prop) (w : World)
    (hseq : SeqStopsK Fence.wide (n - 1) Try.prog gf lb (encF ms N) (KeepC fun k => w.heap.size ≤ k) Sx Sp N w) (hlen : ∀ ys, Sx ys → True) :
    CallsIn Fence.wide n Try.prog 100 #[.slice none 0 0, .func (.func gf) #[] lb] w fun e W' => ∃ v ys, e = .returned v ∧ Sx ys ∧ W'.ownsRow w.heap.size 3 1 v ys.length (ys.map (fv ms N)) ∧ Below w.heap.size w W' := by
  have h1 : 1 ≤ n := by omega
  obtain ⟨i0, hi, hz0, hz1, hz2⟩ := info_parts infoInt
  refine callsIn_of_wp_marks Try.func100 rfl trivial ?_ rfl
  simp only [Try.ntmps100, List.size_toArray, List.length_cons, List.length_nil, Nat.reduceAdd, Nat.reduceSub, Array.replicate_succ, Array.replicate_zero, List.push_toArray, List.append_toArray, List.nil_append, List.cons_append]
  have bO := Boxed.new w 23 (.slice none 0 0)
  have hB0 : Below w.heap.size w (w.alloc (.cells #[.slice none 0 0] 23)) := below_al _ _
  have HSEQ := Lib.hid hseq
  clear hseq
  gi_wp2
  refine wpIn_rangeFunc_ownG rfl h1 (gf := gf) (lb := lb) rfl trivial eg HSEQ.out KeepC.trans keepC_b hB0 (fun _ => rfl)
    (fun pre W => (∃ v, Boxed W w.heap.size 23 v ∧ W.ownsRow w.heap.size 3 1 v pre.length (pre.map (fv ms N)) ∧ (v = .slice none 0 0 ↔ pre = [])) ∧ Below w.heap.size w W)
    (fun _ _ _ => False)
    (OwnFrom.and (Own.from (holdsRow_own w.heap.size w.heap.size 23 3 1 (fun pre => pre.length) (fun pre => pre.map (fv ms N)) (fun pre v => v = .slice none 0 0 ↔ pre = [])) _) (ownFrom_below (Nat.le_refl _) (by simp)))
    (fun _ _ _ _ _ hs _ _ => hs)
    ⟨⟨_, bO, World.ownsRow_nil _ _ _ _, by simp⟩, hB0⟩
    (fun x => { tmps := #[.slice none 0 0, .func (.func gf) #[] lb, .pointer (some ⟨w.heap.size, 0, none⟩), undef, .slice none 0 0, .int .i64 (x.val : Int), .func (.func gf) #[] lb, .int .i64 (x.val : Int), undef, undef, undef, undef, undef], defers := [] }) ?assign ?body ?done ?stop
  case assign =>
    intro l x W K hK
    simp only [encF]
    gi_wp2
    exact hK
  case body =>
    rintro l pre x W ⟨⟨v, hv, hrow, hnil⟩, hB⟩ hlt
    have hc := hv.cell
    gi_wp2_with (gi_at_builtin; refine wpListIn_append_own _ rfl _ _ 23 rfl w.heap.size 3 i0 (.int .i64 0) 1 8 Try.underlying23 hi hz0 hz1 hz2 rfl (by decide) _ _ _ rfl (hrow.alloc _) ⟨W.heap.size, 0, none⟩ 1 1 [.int .i64 (x.val : Int)] rfl rfl (cell_one_new _ _ _) (by simp [Value.oneCell']) (by simp [maxLen]; omega) (by omega) (by have := hB.size; simp; omega) ?_; intro v' w1 hown' hgrow _; obtain ⟨g', cap', rfl⟩ := ownsRow_succ hown'; obtain ⟨hv1, hv2, hr2, hk2, hb2⟩ := hv.appended (by decide) hrow hB.size (Nat.le_refl _) hown' hgrow; have hc1 := hv1.cell; have hf1 := hv1.frozen)
    exact ⟨hk2.from _, KeepC.of_below hb2, ⟨_, hv2, by simpa [fv] using hr2, by simp⟩, hB.trans hb2⟩
  case done =>
    rintro D ys W hD hS ⟨⟨v, hv, hrow, hnil⟩, hB⟩ hK
    have hc := hv.cell
    gi_wp2
    refine ⟨by simp, .inl ⟨_, _, rfl, run_takeDeferred hK, ?_⟩⟩
    exact ⟨_, results_tmp rfl _ _ _, v, ys, rfl, hS, ownsRow_putObj hrow _ hK rfl, hB.trans (belowK_b (w := w) (Nat.le_refl _) W D _ _ (by simp at hD; omega) hK rfl rfl)⟩
  case stop =>
    rintro D c pre W _ _ h _
    exact h.elim

theorem fv_map (ms : List Bool) (N : Nat) (ys : List (MkT ms N)) : ys.map (fv ms N) = iv .i64 (ys.map fun j => (j.val : Int)) := by simp [iv, fv, List.map_map]

set_option maxHeartbeats 1000000 in
theorem Collect_those (Bs g N : Nat) (ms : List Bool) (hlen : ms.length = N) (hN : N ≤ 1000) (w : World) (hc : w.cell? ⟨Bs, 0, none⟩ = some (.slice (some ⟨g, 0, none⟩) N N)) (hb : Bk w g 4 (bv ms)) :
    Calls Try.prog 63 #[.func (.func 101) #[] #[.pointer (some ⟨Bs, 0, none⟩)]] w fun e w' => (∃ A c, e = .returned (.slice A (thoseL ms).length c) ∧ Rd w' A (thoseL ms).length c (iv .i64 (thoseL ms))) ∧ Below w.heap.size w w' := by
  have HC : Hid (CallsIn Fence.wide 4 Try.prog 100 #[.slice none 0 0, .func (.func 101) #[] #[.pointer (some ⟨Bs, 0, none⟩)]] w fun e W' => ∃ (v : Value) (ys : List (MkT ms N)), e = .returned v ∧ ys.map (fun j => (j.val : Int)) = thoseL ms ∧ W'.ownsRow w.heap.size 3 1 v ys.length (ys.map (fv ms N)) ∧ Below w.heap.size w W') :=
    AppendSeq_in 4 (by omega) _ _ (enters_of Try.func101 (by kernel_rfl) rfl) ms N hN _ _ w (those_stops 3 (by omega) Bs g N _ ms hlen hN (by have := hb.lt; omega) w hc hb) (fun _ _ => trivial)
  clear hc hb
  refine (callsIn_wide (n := 5)).1 ?_
  refine callsIn_of_wp Try.func63 rfl trivial ?_ rfl
  simp only [Try.ntmps63, List.size_toArray, List.length_cons, List.length_nil, Nat.reduceAdd, Nat.reduceSub, Array.replicate_succ, Array.replicate_zero, List.push_toArray, List.append_toArray, List.nil_append, List.cons_append]
  gi_wp2_with (refine ⟨trivial, ?_⟩; gi_at_call 100; refine HC.out.mono ?_; rintro e w1 ⟨v, ys, rfl, hy, hrow, hB⟩; have HY := Lib.hid hy; have HR := Lib.hid hrow; have HB := Lib.hid hB; clear hy hrow hB)
  go_ret
  obtain ⟨A, c, rfl, hl, hr⟩ := rd_own HR.out
  rw [fv_map, HY.out] at hr
  have hl' : ys.length = (thoseL ms).length := by rw [← HY.out, List.length_map]
  rw [hl'] at hr ⊢
  exact ⟨⟨A, c, rfl, hr⟩, HB.out⟩

set_option maxHeartbeats 1000000 in
theorem Close_any (A : Option Addr) (n c : Nat) (D : List (List Int)) (B : Option Addr) (m d : Nat) (s : List Int) (w : World) (hD : Dp w A n c D) (hs : Rd w B m d (iv .i64 s)) (hm : s.length = m) :
    Calls Try.prog 20 #[.slice A n c, .slice B m d] w fun e w' => (∃ A' c', e = .returned (.slice A' (closeL D s).length c') ∧ Rd w' A' (closeL D s).length c' (iv .i64 (closeL D s))) ∧ Below w.heap.size w w' := by
  have hl := hD.len
  have l1 := hD.le
  have l2 := hD.cap
  have HD := Lib.hid hD
  have HS := Lib.hid hs
  have HM := Lib.hid hm
  have m1 := hs.le
  have m2 := hs.cap
  clear hD hs hm
  cases hr : rightD D with
  | false =>
    have HR := Lib.hid hr
    have HE : Hid (closeL D s = []) := by show _ = _; simp [closeL, hr]
    rw [HE.out]
    clear hl hr
    go_enter Try.func20, Try.ntmps20
    go_wp2_with (go_at_call 16; (with_reducible refine (Right_any A n c D _ HD.out).mono ?_); rw [HR.out]; rintro e w1 ⟨rfl, hB⟩; have HB1 := Lib.hid hB; clear hB)
    go_ret
    exact ⟨⟨none, 0, rfl, Rd.nil (by omega)⟩, HB1.out⟩
  | true =>
    have h256 := (right_iff.1 hr).1
    have hn : n ≤ 1000 := by omega
    have HR := Lib.hid hr
    have HE : Hid (closeL D s = thoseL (closeD D (marksL s n))) := by show _ = _; simp [closeL, hr, hl]
    have HL : Hid ((closeD D (marksL s n)).length = n) := by show _ = _; simp
    rw [HE.out]
    clear hl hr h256
    go_enter Try.func20, Try.ntmps20
    go_wp2_with (first
      | (go_at_call 16; (with_reducible refine (Right_any A n c D _ HD.out).mono ?_); rw [HR.out]; rintro e w1 ⟨rfl, hB⟩; have HB1 := Lib.hid hB; clear hB)
      | (go_at_call 61; (with_reducible refine (marks_any B m d s n _ (HS.out.below HB1.out) HM.out hn).mono ?_); rintro e w2 ⟨rfl, hb1, hB⟩; have HB2 := Lib.hid (below_then HB1.out hB); have HBK := Lib.hid hb1; clear hB hb1)
      | (go_at_call 65; (with_reducible refine (closeAll_any A n c D w1.heap.size (marksL s n) w _ HD.out HR.out (by simp) HB2.out HB1.out.size HBK.out).mono ?_); rintro e w3 ⟨rfl, hb3, hF⟩; have HB3 := Lib.hid (HB2.out.trans (hF.below HB2.out.size (fun k h => by subst h; exact HB1.out.size))); have HBK3 := Lib.hid (hb3.keep (below_al w3 (.cells #[.slice (some ⟨w1.heap.size, 0, none⟩) n n] 87))); clear hb3 hF)
      | (go_at_call 64; (with_reducible refine (those_any _ _ _ _).mono ?_); rintro e w4 ⟨rfl, rfl⟩)
      | (go_at_call 63; (with_reducible refine (Collect_those w3.heap.size w1.heap.size n (closeD D (marksL s n)) HL.out hn _ (by simp) HBK3.out).mono ?_); rintro e w5 ⟨⟨A5, c5, rfl, hr5⟩, hB⟩; have HR5 := Lib.hid hr5; have HB5 := Lib.hid (below_then HB3.out (below_then (below_al w3 _) hB)); clear hr5 hB))
    go_ret
    exact ⟨⟨A5, c5, rfl, HR5.out⟩, HB5.out⟩
end Go.Proofs.Ytpicagcapgjiaaa
