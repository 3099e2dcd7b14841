/- Walks of the program's groups: Took. -/
import Derived.Test.YtbflmgpcjfoifaaGpT
import Derived.Test.YtbflmgpcjfoifaaSelD
import Derived.Maps.OwnIn
set_option linter.unusedSimpArgs false
set_option linter.unusedVariables false
namespace Go.Sel
open Go.RowKit
section
variable {F : Fence} {n : Nat} {P : Program} {Q : Exit → Act → World → Prop}
/-- A store into a map, in a fence. -/
theorem in_mapstore {o : Oper} {a : Act} {K : Act → World → Prop} {w : World} (m x v : Operand) (t : TypeId) (hop : o.op = Op.mapUpdate t m x v) {kt e : TypeId} {q : IntKind}
    (ht : P.underlying t = some (.map kt e)) (hk : P.underlying kt = some (.int q)) {b : Nat} {l : List (Int × Value)} {k : Int} {val : Value}
    (hm : a.eval m = .map (some b)) (hx : a.eval x = .int .i64 k) (hv : a.eval v = val) (h : IMap w b l)
    (hK : ∀ w', IMap w' b (put l k val) → ButBlock b w w' → K (a.put o.dst undef) w') : o.wpIn F n P a w K Q := by
  obtain ⟨w', hrun, r1, r2⟩ := h.store ht hk k val
  unfold Oper.wpIn
  refine ⟨?_, ?_⟩
  · simp [Oper.about, hop]
  · rw [Oper.semAt_plain F _ _ (by rw [hop]; intro c hc'; cases hc')]
    simp [execOp, hop, hm, hx, hv, hrun, Result.andThen]
    exact hK w' r1 r2
end
end Go.Sel
namespace Go.Proofs.Ytbflmgpcjfoifaa
open Go.RowKit Go.Sel Go.Sel.Gp Go.Shelf Go.Maps Go.Sort

attribute [local go_sem] Oper.semAt_some

set_option maxRecDepth 100000 in
set_option maxHeartbeats 4000000 in
theorem pTook_any (F : Nat → Prop) (w : World) (gb : Nat) (S : List G) (next : Int) (h : GP F w gb S next) (p : Int) (hl : S.length ≤ 1000) (hrise : (S.map (·.n)).Pairwise (· < ·)) (hwf : ∀ g ∈ S, -9223372036854775808 ≤ g.n ∧ g.n ≤ 9223372036854775807) :
    Calls Try.prog 27 #[.pointer (some ⟨gb, 0, none⟩), .int .i64 p] w fun e w' => e = .returned (.int .i64 (tookS S p).1) ∧ GPn F w w' gb (tookS S p).2 next := by
  have HG := Lib.hid h
  obtain ⟨mb, bs, h⟩ := h
  have H := Lib.hid h
  by_cases hp : p < 0
  · have HE : Hid (tookS S p = (2, S)) := by show _ = _; rw [tookS, if_pos hp]
    clear h
    generalize tookS S p = r at *
    have he := HE.out
    subst he
    have d1 : decide (p < 0) = true := decide_eq_true hp
    clear hp
    go_enter Try.func27, Try.ntmps27
    go_wp2
    go_ret
    exact ⟨rfl, (GPn.same (HG.out.below (below_al w _))).behind (below_al w _)⟩
  · have HE : Hid (tookS S p = (0, S.map (took1 p))) := by show _ = _; rw [tookS, if_neg hp]
    clear h
    generalize tookS S p = r at *
    have he := HE.out
    subst he
    have d1 : decide (p < 0) = false := decide_eq_false hp
    clear hp
    refine (callsIn_wide (n := 9)).1 ?_
    refine callsIn_of_wp_marks Try.func27 rfl trivial ?_ rfl
    simp only [Try.ntmps27, List.size_toArray, List.length_cons, List.length_nil, Nat.reduceAdd, Nat.reduceSub, Array.replicate_succ, Array.replicate_zero, List.push_toArray, List.append_toArray, List.nil_append, List.cons_append]
    refine wpIn_wide.2 ?_
    go_wp2_with (go_at_call 50; (with_reducible refine (engaged_any gb _).mono ?_); rintro e w2 ⟨rfl, hw⟩; subst w2)
    have hB1 : Below w.heap.size w ((w.alloc (.cells #[.int .i64 p] 3)).alloc (.cells #[.pointer (some ⟨gb, 0, none⟩)] 23)) := below_then (below_al w _) (below_al _ _)
    have hs1 : ((w.alloc (.cells #[.int .i64 p] 3)).alloc (.cells #[.pointer (some ⟨gb, 0, none⟩)] 23)).heap.size = w.heap.size + 2 := by simp
    have hc1 : ((w.alloc (.cells #[.int .i64 p] 3)).alloc (.cells #[.pointer (some ⟨gb, 0, none⟩)] 23)).cell? ⟨w.heap.size, 0, none⟩ = some (.int .i64 p) := keep_cell (new_cell w _ _ 0 _ rfl) (below_al _ _)
    have hc2 : ((w.alloc (.cells #[.int .i64 p] 3)).alloc (.cells #[.pointer (some ⟨gb, 0, none⟩)] 23)).cell? ⟨w.heap.size + 1, 0, none⟩ = some (.pointer (some ⟨gb, 0, none⟩)) := by
      have := new_cell (w.alloc (.cells #[.int .i64 p] 3)) #[.pointer (some ⟨gb, 0, none⟩)] 23 0 _ rfl
      rw [World.size_alloc] at this
      exact this
    have HX1 := Lib.hid (H.out.below hB1)
    generalize ((w.alloc (.cells #[.int .i64 p] 3)).alloc (.cells #[.pointer (some ⟨gb, 0, none⟩)] 23)) = W1 at *
    have hFl := H.out.flt
    have hnr : ∀ k, ¬ RowOf none W1 k := fun k hk => by obtain ⟨b, e, _⟩ := hk; cases e
    have hSp : ∀ k, (∃ i, i < S.length ∧ k = (bs i).2.1) → k < w.heap.size := fun k ⟨i, hi, e⟩ => by rw [e]; exact hFl _ (H.out.fe i hi).2.1
    have hprot : ∀ k, (k = w.heap.size + 1 ∨ k = gb ∨ k = mb ∨ ∃ i, i < S.length ∧ k = (bs i).1) → k < W1.heap.size ∧ ¬ (∃ i, i < S.length ∧ k = (bs i).2.1) ∧ ¬ RowOf none W1 k := fun k hk => by
      refine ⟨?_, ?_, hnr k⟩
      · rcases hk with rfl | rfl | rfl | ⟨i, hi, rfl⟩
        · omega
        · have := H.out.lt; omega
        · have := hFl _ H.out.fm; omega
        · have := hFl _ (H.out.fe i hi).1; omega
      · intro hc
        have hlt := hSp k hc
        obtain ⟨i, hi, e⟩ := hc
        obtain ⟨_, m1, _⟩ := (H.out.each i hi).ps
        obtain ⟨lm, hmm, _⟩ := H.out.all
        rcases hk with rfl | rfl | rfl | ⟨j, hj, rfl⟩
        · omega
        · exact bk_imap H.out.hd m1 e
        · exact (H.out.sepm i hi).1 e.symm
        · exact bk_imap (H.out.each j hj).cells m1 e
    refine wpIn_wide.1 (wpIn_rangeFunc_ownG (F := Fence.wide) (n := 9) rfl (by omega) (gf := 62) (lb := #[.pointer (some ⟨w.heap.size + 1, 0, none⟩)]) rfl trivial (enters_of Try.func62 (by kernel_rfl) rfl)
      (engaged_stops 8 (by omega) (w.heap.size + 1) gb mb F S bs next (fun k => ∃ i, i < S.length ∧ k = (bs i).2.1) none W1.heap.size W1 HX1.out hprot (Nat.le_refl _) (fun b e => by cases e) (fun k hk => by have := hSp k hk; omega) (fun k hk => (hnr k hk).elim) hc2 hrise hwf hl)
      KeepD.trans (keepD_b (Nat.le_refl _) (fun b e => by cases e)) (Below.refl _ _) (fun _ => rfl)
      (fun pre W => GPx F W gb mb (tookI S p (pre.map fun (x : EngT S) => x.val)) bs next ∧ W.cell? ⟨w.heap.size, 0, none⟩ = some (.int .i64 p) ∧ Fr F W1 W)
      (fun _ _ _ => False)
      (fun s X Y row hx hg hr => by
        obtain ⟨x1, x2, x3⟩ := hx
        have hne : ∀ k, k < W1.heap.size → some k ≠ row := fun k hk e => by have := (hr k e.symm).1; omega
        refine ⟨x1.keep hg.size (fun b hb => hg.block b (x1.flt b hb) (hne b (by have := hFl b hb; omega))), ?_, ⟨hg.os.trans x3.os, hg.tape.trans x3.tape, hg.output.trans x3.output, Nat.le_trans x3.size hg.size, fun k hk hF => (hg.block k (Nat.lt_of_lt_of_le hk x3.size) (hne k hk)).trans (x3.block k hk hF)⟩⟩
        rw [← x2]
        simp only [World.cell?]
        rw [hg.block w.heap.size (by have := x3.size; omega) (hne _ (by omega))])
      (fun _ _ _ _ _ hs _ _ => hs)
      ⟨HX1.out, hc1, Fr.refl _ _⟩
      (fun x => { tmps := #[.pointer (some ⟨gb, 0, none⟩), .int .i64 p, undef, .pointer (some ⟨w.heap.size, 0, none⟩), .int .i64 0, undef, .pointer (some ⟨(bs x.val).1, 0, none⟩), .pointer (some ⟨gb, 0, none⟩), .bool false, .int .i64 p, .bool false, .pointer (some ⟨gb, 0, none⟩), .func (.func 62) #[] #[.pointer (some ⟨w.heap.size + 1, 0, none⟩)], .int .i64 (nthG S x.val).n, .pointer (some ⟨(bs x.val).1, 0, none⟩), undef, undef, undef, undef, undef], defers := [] })
      ?assign ?body ?done ?stop)
    case assign =>
      intro l x W K hK
      simp only [encE]
      gi_wp2
      exact hK
    case body =>
      rintro l pre x W ⟨hx, hc, hf⟩ hlen
      have hi : x.val < (tookI S p (pre.map fun (x : EngT S) => x.val)).length := by rw [tookI_length]; exact x.2.1
      have hO := hx.each x.val hi
      have c1 := hO.cells.cell 1 (by simp)
      simp only [List.getElem_cons_zero, List.getElem_cons_succ] at c1
      obtain ⟨ks, him, hks⟩ := hO.ps
      have HIM := Lib.hid him
      have HKS := Lib.hid hks
      have HX := Lib.hid hx
      have HF := Lib.hid hf
      have HI := Lib.hid hi
      have HXV := Lib.hid x.2.1
      clear hx hf hi hO him hks
      generalize hpb : (bs x.val).2.1 = pb at *
      have HPB := Lib.hid hpb
      generalize (bs x.val).1 = ob at *
      generalize (nthG S x.val).n = xn at *
      clear hpb
      gi_wp2
      refine wpIn_region_any (by kernel_rfl) ?_
      change wpAnyIn _ _ _ _ _ _ 6 (Array.replicate 6 false) _ W.drew
      have c1d : W.drew.cell? ⟨ob, 1, none⟩ = some (.map (some pb)) := c1
      have hcd : W.drew.cell? ⟨w.heap.size, 0, none⟩ = some (.int .i64 p) := hc
      clear c1 hc
      have HIMW : Hid (IMap W.drew pb (seenL ks)) := ⟨HIM.out.nodup, HIM.out.is⟩
      have HPOST0 : Hid (∀ w9, IMap w9 pb (put (seenL ks) p (.bool true)) → ButBlock pb W.drew w9 → KeepsFrom W1.heap.size W w9 ∧ KeepD (fun k => ∃ i, i < S.length ∧ k = (bs i).2.1) none W1.heap.size W w9 ∧ (GPx F w9 gb mb (tookI S p ((pre ++ [x]).map fun (x : EngT S) => x.val)) bs next ∧ w9.cell? ⟨w.heap.size, 0, none⟩ = some (.int .i64 p) ∧ Fr F W1 w9)) := fun w9 q1 q2 => by
        have hWs : W1.heap.size ≤ W.heap.size := HF.out.size
        have hpl : pb < w.heap.size := hSp pb ⟨x.val, HXV.out, HPB.out.symm⟩
        have hg : W.drew.grownBy w9 (some pb) := ⟨q2.os, q2.tape, q2.output, Nat.le_of_eq q2.size.symm, fun i hi hne => q2.far i (fun e => hne (by rw [e]))⟩
        have hput := (HX.out.below (Sel.below_drewN W 1)).putPs HI.out (ks := ks) (k := p) (ps := withL (nthG (tookI S p (pre.map fun (x : EngT S) => x.val)) x.val).ps p) (by rw [HPB.out]; exact HIMW.out) HKS.out (by rw [HPB.out]; exact q2) (by rw [HPB.out]; exact q1) (fun y => by rw [mem_withL]; exact Or.comm)
        refine ⟨((KeepsOthers.drew W).from _).trans (KeepsFrom.of_grownBy hg (fun j e => by cases e; omega)), (KeepD.of_below hWs (fun b e => by cases e) (Sel.below_drewN W 1)).trans (KeepD.of_but (b := pb) hWs (fun b e => by cases e) ⟨x.val, HXV.out, HPB.out.symm⟩ q2), ?_, ?_, (HF.out.drewN 1).trans (fr_but q2 (by rw [← HPB.out]; exact (H.out.fe x.val HXV.out).2.1))⟩
        · rw [List.map_append, List.map_singleton, tookI_snoc]
          exact hput
        · exact (q2.cell (a := ⟨w.heap.size, 0, none⟩) (by simp only; omega)).trans hcd
      generalize W.drew = Wd at *
      have HIMd : Hid (IMap Wd pb (seenL ks)) := HIMW.out
      have HPOST : Hid (∀ w9, IMap w9 pb (put (seenL ks) p (.bool true)) → ButBlock pb Wd w9 → KeepsFrom W1.heap.size W w9 ∧ KeepD (fun k => ∃ i, i < S.length ∧ k = (bs i).2.1) none W1.heap.size W w9 ∧ (GPx F w9 gb mb (tookI S p ((pre ++ [x]).map fun (x : EngT S) => x.val)) bs next ∧ w9.cell? ⟨w.heap.size, 0, none⟩ = some (.int .i64 p) ∧ Fr F W1 w9)) := HPOST0
      --<orders
      refine in_two 0 4 rfl rfl (by kernel_rfl) (by kernel_rfl) (by kernel_rfl) (fun K hK => ?_) (fun K hK => ?_)
      · go_simp; refine hK _ _ ?_; clear hK K
        refine in_two 1 4 rfl rfl (by kernel_rfl) (by kernel_rfl) (by kernel_rfl) (fun K hK => ?_) (fun K hK => ?_)
        · go_simp; refine hK _ _ ?_; clear hK K
          refine in_two 2 4 rfl rfl (by kernel_rfl) (by kernel_rfl) (by kernel_rfl) (fun K hK => ?_) (fun K hK => ?_)
          · go_simp; refine hK _ _ ?_; clear hK K
            refine in_two 3 4 rfl rfl (by kernel_rfl) (by kernel_rfl) (by kernel_rfl) (fun K hK => ?_) (fun K hK => ?_)
            · go_simp; refine hK _ _ ?_; clear hK K
              refine in_one 4 rfl (by kernel_rfl) (by kernel_rfl) (fun K hK => ?_); go_simp; refine hK _ _ ?_; clear hK K
              refine in_one 5 rfl (by kernel_rfl) (by kernel_rfl) (fun K hK => ?_)
              refine in_mapstore (k := p) (val := .bool true) _ _ _ _ rfl Try.underlying52 Try.underlying3 (by kernel_rfl) (by kernel_rfl) (by kernel_rfl) HIMd.out ?_
              intro w9 q1 q2
              refine hK _ _ ?_
              clear hK K
              refine in_end (by kernel_rfl) ?_
              exact HPOST.out w9 q1 q2
            · go_simp; refine hK _ _ ?_; clear hK K
              refine in_one 3 rfl (by kernel_rfl) (by kernel_rfl) (fun K hK => ?_); go_simp; refine hK _ _ ?_; clear hK K
              refine in_one 5 rfl (by kernel_rfl) (by kernel_rfl) (fun K hK => ?_)
              refine in_mapstore (k := p) (val := .bool true) _ _ _ _ rfl Try.underlying52 Try.underlying3 (by kernel_rfl) (by kernel_rfl) (by kernel_rfl) HIMd.out ?_
              intro w9 q1 q2
              refine hK _ _ ?_
              clear hK K
              refine in_end (by kernel_rfl) ?_
              exact HPOST.out w9 q1 q2
          · go_simp; refine hK _ _ ?_; clear hK K
            refine in_one 2 rfl (by kernel_rfl) (by kernel_rfl) (fun K hK => ?_); go_simp; refine hK _ _ ?_; clear hK K
            refine in_one 3 rfl (by kernel_rfl) (by kernel_rfl) (fun K hK => ?_); go_simp; refine hK _ _ ?_; clear hK K
            refine in_one 5 rfl (by kernel_rfl) (by kernel_rfl) (fun K hK => ?_)
            refine in_mapstore (k := p) (val := .bool true) _ _ _ _ rfl Try.underlying52 Try.underlying3 (by kernel_rfl) (by kernel_rfl) (by kernel_rfl) HIMd.out ?_
            intro w9 q1 q2
            refine hK _ _ ?_
            clear hK K
            refine in_end (by kernel_rfl) ?_
            exact HPOST.out w9 q1 q2
        · go_simp; refine hK _ _ ?_; clear hK K
          refine in_one 1 rfl (by kernel_rfl) (by kernel_rfl) (fun K hK => ?_); go_simp; refine hK _ _ ?_; clear hK K
          refine in_one 2 rfl (by kernel_rfl) (by kernel_rfl) (fun K hK => ?_); go_simp; refine hK _ _ ?_; clear hK K
          refine in_one 3 rfl (by kernel_rfl) (by kernel_rfl) (fun K hK => ?_); go_simp; refine hK _ _ ?_; clear hK K
          refine in_one 5 rfl (by kernel_rfl) (by kernel_rfl) (fun K hK => ?_)
          refine in_mapstore (k := p) (val := .bool true) _ _ _ _ rfl Try.underlying52 Try.underlying3 (by kernel_rfl) (by kernel_rfl) (by kernel_rfl) HIMd.out ?_
          intro w9 q1 q2
          refine hK _ _ ?_
          clear hK K
          refine in_end (by kernel_rfl) ?_
          exact HPOST.out w9 q1 q2
      · go_simp; refine hK _ _ ?_; clear hK K
        refine in_one 0 rfl (by kernel_rfl) (by kernel_rfl) (fun K hK => ?_); go_simp; refine hK _ _ ?_; clear hK K
        refine in_one 1 rfl (by kernel_rfl) (by kernel_rfl) (fun K hK => ?_); go_simp; refine hK _ _ ?_; clear hK K
        refine in_one 2 rfl (by kernel_rfl) (by kernel_rfl) (fun K hK => ?_); go_simp; refine hK _ _ ?_; clear hK K
        refine in_one 3 rfl (by kernel_rfl) (by kernel_rfl) (fun K hK => ?_); go_simp; refine hK _ _ ?_; clear hK K
        refine in_one 5 rfl (by kernel_rfl) (by kernel_rfl) (fun K hK => ?_)
        refine in_mapstore (k := p) (val := .bool true) _ _ _ _ rfl Try.underlying52 Try.underlying3 (by kernel_rfl) (by kernel_rfl) (by kernel_rfl) HIMd.out ?_
        intro w9 q1 q2
        refine hK _ _ ?_
        clear hK K
        refine in_end (by kernel_rfl) ?_
        exact HPOST.out w9 q1 q2
      --orders>
    case done =>
      rintro D ys W hD hys ⟨hx, hc, hf⟩ hK
      rw [hys, tookI_all] at hx
      go_wp2
      try rw [Exit.noGoto_ret]
      refine ⟨by simp, .inl ⟨_, _, rfl, run_takeDeferred hK, ?_⟩⟩
      have hWs : W1.heap.size ≤ W.heap.size := hf.size
      have hF2 : Fr F w W := (fr_of_below hB1 F).trans hf
      exact ⟨_, results_tmp rfl _ _ _, rfl, F, ⟨mb, bs, hx.keep (by simp) (fun b hb => World.putObj_heap_other (by have := hFl b hb; omega))⟩, ⟨hF2.os, hF2.tape, hF2.output, by simpa using hF2.size, fun k hk hF => (World.putObj_heap_other (by omega)).trans (hF2.block k hk hF)⟩, fun b hb => .inl hb⟩
    case stop =>
      rintro D c pre W _ _ hx _
      exact hx.elim
end Go.Proofs.Ytbflmgpcjfoifaa
