/- Walks of the program's groups: Engaged. -/
import Derived.Test.YtbflmgpcjfoifaaGq10
import Derived.Test.YtbflmgpcjfoifaaIt1
import Derived.Maps.AppendAt
set_option linter.unusedSimpArgs false
set_option linter.unusedVariables false
namespace Go.Proofs.Ytbflmgpcjfoifaa
open Go.RowKit Go.Sel Go.Sel.Gp Go.Shelf Go.Maps Go.Sort

attribute [local go_sem] Oper.semAt_some

def numV (S : List G) (x : EngT S) : Value := .int .i64 (nthG S x.val).n
theorem engI_nums (S : List G) : (engI S).map (fun i => (nthG S i).n) = engagedS S := by
  unfold engI engagedS
  have key : ∀ k, k ≤ S.length → ((List.range k).filter fun i => decide ((nthG S i).st = 2)).map (fun i => (nthG S i).n) = ((S.take k).filter fun g => decide (g.st = 2)).map (·.n) := by
    intro k
    induction k with
    | zero => intro _; rfl
    | succ k ih =>
      intro h
      have hk : k < S.length := by omega
      rw [List.range_succ, List.filter_append, List.map_append, ih (by omega), List.take_succ_eq_append_getElem hk, List.filter_append, List.map_append]
      congr 1
      rw [← nthG_get hk]
      by_cases hst : (nthG S k).st = 2 <;> simp [hst]
  have := key S.length (Nat.le_refl _)
  rwa [List.take_length] at this
theorem numV_map (S : List G) (ys : List (EngT S)) (h : ys.map (·.val) = engI S) : ys.map (numV S) = iv .i64 (engagedS S) := by
  rw [← engI_nums, ← h, iv, List.map_map, List.map_map]
  rfl

set_option maxRecDepth 100000 in
set_option maxHeartbeats 4000000 in
theorem pEngaged_any (F : Nat → Prop) (w : World) (gb : Nat) (S : List G) (next : Int) (h : GP F w gb S next) (hl : S.length ≤ 1000) (hrise : (S.map (·.n)).Pairwise (· < ·)) (hwf : ∀ g ∈ S, -9223372036854775808 ≤ g.n ∧ g.n ≤ 9223372036854775807) :
    Calls Try.prog 25 #[.pointer (some ⟨gb, 0, none⟩)] w fun e w' => (∃ v, e = .returned v ∧ Sl w' v (engagedS S)) ∧ Below w.heap.size w w' := by
  obtain ⟨mb, bs, h⟩ := h
  have H := Lib.hid h
  clear h
  obtain ⟨i0, hi, hz0, hz1, hz2⟩ := info_parts infoI
  refine (callsIn_wide (n := 9)).1 ?_
  refine callsIn_of_wp_marks Try.func25 rfl trivial ?_ rfl
  simp only [Try.ntmps25, List.size_toArray, List.length_cons, List.length_nil, Nat.reduceAdd, Nat.reduceSub, Array.replicate_succ, Array.replicate_zero, List.push_toArray, List.append_toArray, List.nil_append, List.cons_append]
  refine wpIn_wide.2 ?_
  go_wp2_with (go_at_call 50; (with_reducible refine (engaged_any gb _).mono ?_); rintro e w2 ⟨rfl, hw⟩; subst w2)
  have hBa := below_al w (.cells #[.slice none 0 0] 28)
  have hBb := below_al (w.alloc (.cells #[.slice none 0 0] 28)) (.cells #[.pointer (some ⟨gb, 0, none⟩)] 23)
  have hB1 := below_then hBa hBb
  have hs1 : ((w.alloc (.cells #[.slice none 0 0] 28)).alloc (.cells #[.pointer (some ⟨gb, 0, none⟩)] 23)).heap.size = w.heap.size + 2 := by simp
  have bO : Boxed ((w.alloc (.cells #[.slice none 0 0] 28)).alloc (.cells #[.pointer (some ⟨gb, 0, none⟩)] 23)) w.heap.size 28 (.slice none 0 0) := (Boxed.new w 28 (.slice none 0 0)).alloc _
  have hc2 : ((w.alloc (.cells #[.slice none 0 0] 28)).alloc (.cells #[.pointer (some ⟨gb, 0, none⟩)] 23)).cell? ⟨w.heap.size + 1, 0, none⟩ = some (.pointer (some ⟨gb, 0, none⟩)) := by
    have := new_cell (w.alloc (.cells #[.slice none 0 0] 28)) #[.pointer (some ⟨gb, 0, none⟩)] 23 0 _ rfl
    rw [World.size_alloc] at this
    exact this
  have HX1 := Lib.hid (H.out.below hB1)
  clear hBa hBb
  generalize ((w.alloc (.cells #[.slice none 0 0] 28)).alloc (.cells #[.pointer (some ⟨gb, 0, none⟩)] 23)) = W1 at *
  have hFl := H.out.flt
  have hro : ∀ k, RowOf (some w.heap.size) W1 k → k = w.heap.size := fun k hk => by
    obtain ⟨b, e, hb⟩ := hk
    cases e
    rcases hb with rfl | ⟨off, n, c, hc⟩
    · rfl
    · rw [bO.cell] at hc; cases hc
  have hprot : ∀ k, (k = w.heap.size + 1 ∨ k = gb ∨ k = mb ∨ ∃ i, i < S.length ∧ k = (bs i).1) → k < W1.heap.size ∧ ¬ (fun _ : Nat => False) k ∧ ¬ RowOf (some w.heap.size) W1 k := fun k hk => by
    have hk2 : k = w.heap.size + 1 ∨ k < w.heap.size := by
      rcases hk with rfl | rfl | rfl | ⟨i, hi, rfl⟩
      · exact .inl rfl
      · exact .inr H.out.lt
      · exact .inr (hFl _ H.out.fm)
      · exact .inr (hFl _ (H.out.fe i hi).1)
    refine ⟨by omega, id, fun h => ?_⟩
    have := hro k h
    omega
  refine wpIn_wide.1 (wpIn_rangeFunc_ownG (F := Fence.wide) (n := 9) rfl (by omega) (gf := 62) (lb := #[.pointer (some ⟨w.heap.size + 1, 0, none⟩)]) rfl trivial (enters_of Try.func62 (by kernel_rfl) rfl)
    (engaged_stops 8 (by omega) (w.heap.size + 1) gb mb F S bs next (fun _ => False) (some w.heap.size) W1.heap.size W1 HX1.out hprot (Nat.le_refl _) (fun b e => by cases e; omega) (fun k hk => hk.elim) (fun k hk => by have := hro k hk; omega) hc2 hrise hwf hl)
    KeepD.trans (keepD_b (Nat.le_refl _) (fun b e => by cases e; omega)) (Below.refl _ _) (fun _ => rfl)
    (fun pre W => (∃ v, Boxed W w.heap.size 28 v ∧ W.ownsRow w.heap.size 3 1 v pre.length (pre.map (numV S)) ∧ (v = .slice none 0 0 ↔ pre = [])) ∧ (Below w.heap.size w W ∧ w.heap.size + 2 ≤ W.heap.size))
    (fun _ _ _ => False)
    (OwnFrom.and (Own.from (holdsRow_own w.heap.size w.heap.size 28 3 1 (fun pre => pre.length) (fun pre => pre.map (numV S)) (fun pre v => v = .slice none 0 0 ↔ pre = [])) _) (OwnFrom.and (ownFrom_below (Nat.le_refl _) (by omega)) (fun s X Y row hx hg hr => Nat.le_trans hx hg.size)))
    (fun _ _ _ _ _ hs _ _ => hs)
    ⟨⟨_, bO, World.ownsRow_nil _ _ _ _, by simp⟩, hB1, by omega⟩
    (fun x => { tmps := #[.pointer (some ⟨gb, 0, none⟩), undef, .slice none 0 0, .pointer (some ⟨w.heap.size, 0, none⟩), .int .i64 (nthG S x.val).n, .pointer (some ⟨gb, 0, none⟩), .func (.func 62) #[] #[.pointer (some ⟨w.heap.size + 1, 0, none⟩)], .int .i64 (nthG S x.val).n, .pointer (some ⟨(bs x.val).1, 0, none⟩), undef, undef, undef, undef, undef], defers := [] }) ?assign ?body ?done ?stop)
  case assign =>
    intro l x W K hK
    simp only [encE]
    gi_wp2
    exact hK
  case body =>
    rintro l pre x W ⟨⟨v, hv, hrow, hnil⟩, hB, hWs⟩ hlt
    have hc := hv.cell
    have hor : ∀ k, v.ownBlock = some k → RowOf (some w.heap.size) W k := fun k hk => by
      rcases hrow.2 with ⟨e, _⟩ | ⟨g, cap, cur, e, _⟩
      · rw [e] at hk; cases hk
      · subst e
        have : g = k := by simpa [Value.ownBlock] using hk
        subst this
        exact ⟨_, rfl, .inr ⟨0, _, _, hc⟩⟩
    have hcl : ∀ (j : Nat) (o : Obj), v.ownBlock = some j → W.heap[j]? = some o → o.isCells = true := fun j o hj ho => by
      rcases hrow.2 with ⟨e, _⟩ | ⟨g, cap, cur, e, _, hh, _⟩
      · rw [e] at hj; cases hj
      · subst e
        have : g = j := by simpa [Value.ownBlock] using hj
        subst this
        rw [hh] at ho
        cases ho
        rfl
    have hnr := hv.not_row (e := 3) (by decide) hrow
    have HNV : Hid (numV S x = .int .i64 (nthG S x.val).n) := rfl
    generalize hxn : (nthG S x.val).n = xn at *
    have HOR := Lib.hid hor
    have HCL := Lib.hid hcl
    have HNR := Lib.hid hnr
    have HROW := Lib.hid hrow
    have HV := Lib.hid hv
    clear hor hcl hnr hnil
    gi_wp2_with (gi_at_builtin; refine wpListIn_push W rfl (.tmp 9) (.tmp 11) 28 3 rfl w.heap.size (.int .i64 0) 8 Try.underlying28 infoI rfl (by omega) _ _ _ (.int .i64 xn) rfl rfl rfl hrow hB.size (by omega) rfl ?_; intro g cap w1 ho hg hat hlt1; have HO := Lib.hid ho; have HG := Lib.hid hg; have HAT := Lib.hid hat; have hv1 := HV.out.kept hg HNR.out; have hc1 := hv1.cell; have hf1 := hv1.frozen; clear ho hg hat)
    have hk2 : KeepsOthers W (w1.setCell ⟨w.heap.size, 0, none⟩ (.slice (some ⟨g, 0, none⟩) (pre.length + 1) cap)) := (KeepsOthers.of_grownBy HG.out HCL.out).trans (KeepsOthers.setCell _ _ _)
    have hb2 : Below w.heap.size w (w1.setCell ⟨w.heap.size, 0, none⟩ (.slice (some ⟨g, 0, none⟩) (pre.length + 1) cap)) := (below_grown hB HG.out hB.size (own_row HROW.out)).setCell (p := ⟨w.heap.size, 0, none⟩) (Nat.le_refl _) _
    have hfr : Fr (fun k => RowOf (some w.heap.size) W k) W (w1.setCell ⟨w.heap.size, 0, none⟩ (.slice (some ⟨g, 0, none⟩) (pre.length + 1) cap)) := (show Fr (fun k => RowOf (some w.heap.size) W k) W w1 from ⟨HG.out.os, HG.out.tape, HG.out.output, HG.out.size, fun k hk hn => HG.out.block k hk (fun e => hn (HOR.out k e.symm))⟩).setCell (p := ⟨w.heap.size, 0, none⟩) (.inl ⟨_, rfl, .inl rfl⟩) _
    refine ⟨hk2.from _, KeepD.appended (by omega) hfr hk2 (hv1.set _).cell (fun k off e => ?_), ⟨_, hv1.set _, ?_, by simp⟩, hb2, by have := hk2.size; omega⟩
    · injection e with e
      injection e with e1 _ _
      subst e1
      exact HAT.out.imp (HOR.out _) id
    · have := HO.out.kept (grownBy_setCell' w1 w.heap.size (.slice (some ⟨g, 0, none⟩) (pre.length + 1) cap)) (.inr (hv1.not_row (e := 3) (by decide) HO.out).symm)
      rw [List.length_append, List.length_singleton, List.map_append, List.map_singleton, HNV.out]
      exact this
  case done =>
    rintro D ys W hD hys ⟨⟨v, hv, hrow, hnil⟩, hB, hWs⟩ hK
    have hc := hv.cell
    rw [numV_map S ys hys] at hrow
    go_wp2
    try rw [Exit.noGoto_ret]
    refine ⟨by simp, .inl ⟨_, _, rfl, run_takeDeferred hK, ?_⟩⟩
    exact ⟨_, results_tmp rfl _ _ _, ⟨_, rfl, Sl.own (ownsRow_putObj hrow _ hK rfl)⟩, hB.trans (belowK_b (w := W1) (by omega) W D _ _ hD hK rfl rfl)⟩
  case stop =>
    rintro D c pre W _ _ h _
    exact h.elim
end Go.Proofs.Ytbflmgpcjfoifaa
