/- Walks of the program's groups: Patches and Ahead, whose rows are new. -/
import Derived.Test.YtbflmgpcjfoifaaGq13
set_option linter.unusedSimpArgs false
set_option linter.unusedVariables false
namespace Go.Proofs.Ytbflmgpcjfoifaa
open Go.RowKit Go.Sel Go.Sel.Gp Go.Shelf Go.Maps Go.Sort

attribute [local go_sem] Oper.semAt_some

set_option maxHeartbeats 1000000 in
/-- 'slices.Sorted(maps.Keys(m))', m a set: the row is new. -/
theorem sortedA_own (w : World) (b : Nat) (l : List (Int × Value)) (ps : List Int) (h : IMap w b l) (hw : ∀ p ∈ l, (Lit.int .i64 p.1).wf = true) (h3 : ps.Pairwise (· < ·)) (h4 : ∀ x, x ∈ l.map (·.1) ↔ x ∈ ps) (hl : l.length ≤ 1000000) :
    Calls Try.prog 34 #[.func (.func 56) #[] #[.pointer (some ⟨w.heap.size, 0, none⟩)]] (w.alloc (.cells #[.map (some b)] 52)) fun e w' => (∃ v, e = .returned v ∧ w'.ownsRow w.heap.size 3 1 v ps.length (iv .i64 ps)) ∧ Below w.heap.size w w' := by
  refine (callsIn_wide (n := 6)).1 ?_
  have hbl := h.lt
  have hB := below_al w (.cells #[.map (some b)] 52)
  obtain ⟨D, hown, hperm, hsz, _⟩ := (h.below hB hbl).owns (P := Try.prog) (kt := 3) (H := Unit) (R := fun _ => some (.nil, [])) Try.underlying3 hw (fun _ _ => ⟨_, rfl⟩) (by simp only [maxLen]; omega)
  have hseq : SeqGives Fence.wide 3 Try.prog 56 #[.pointer (some ⟨w.heap.size, 0, none⟩)] encZ (fun ss => ss.Perm (intKeys D)) (Maps.size D) (w.alloc (.cells #[.map (some b)] 52)) :=
    AnyZI.keys_gives (ρ := Try.keysA_ren) { Try.keysA with } Fence.wide _ trivial rfl (by omega) w.heap.size b l.length D _ (by simp) (by simp) hown
  have cS := AnyZI.sorted_in Try.sortedA Fence.wide 6 trivial trivial trivial trivial rfl (by omega) (Try.sortsA _) (enters_of Try.func55 (by kernel_rfl) rfl) 56 #[.pointer (some ⟨w.heap.size, 0, none⟩)] trivial (enters_of Try.func56 (by kernel_rfl) rfl) _ _ (by rw [hsz]; simp only [maxLen]; omega) (by rw [hsz]; omega) _ hseq
  change CallsIn _ _ Try.prog 34 _ _ _ at cS
  refine cS.mono ?_
  rintro e w' ⟨v, ss, rfl, hS, hrow, _, hb⟩
  have hps : ss.mergeSort (fun x y => decide (x ≤ y)) = ps := sorted_rises (hS.trans hperm) h.nodup h3 h4
  have hlen : ss.length = ps.length := by rw [← hps, List.length_mergeSort]
  rw [hps, hlen] at hrow
  exact ⟨⟨v, rfl, ownsRow_base_a hrow (by simp)⟩, below_then hB hb⟩

set_option maxRecDepth 100000 in
set_option maxHeartbeats 4000000 in
theorem pPatches_own (F : Nat → Prop) (w : World) (gb : Nat) (S : List G) (next : Int) (h : GP F w gb S next) (n : Int) (hb : (patchesS S n).length ≤ 1000000) (hr : (patchesS S n).Pairwise (· < ·)) (hw : ∀ x ∈ patchesS S n, -9223372036854775808 ≤ x ∧ x ≤ 9223372036854775807) :
    Calls Try.prog 16 #[.pointer (some ⟨gb, 0, none⟩), .int .i64 n] w fun e w' => (∃ v, e = .returned v ∧ w'.ownsRow w.heap.size 3 1 v (patchesS S n).length (iv .i64 (patchesS S n))) ∧ Below w.heap.size w w' := by
  obtain ⟨mb, bs, h⟩ := h
  have HC := Lib.hid (find_any F w gb mb S bs next h n)
  cases hp : posG S n with
  | none =>
    have HV : Hid (findV S bs n = .tuple #[.pointer none, .int .i64 5]) := by show _ = _; rw [findV, hp]
    have HE : Hid (patchesS S n = []) := by show _ = _; rw [patchesS, hp]
    rw [HV.out] at HC
    rw [HE.out]
    clear h hp hb hr hw
    go_enter Try.func16, Try.ntmps16
    go_wp2_with (go_at_call 36; (with_reducible refine HC.out.mono ?_); rintro e w2 ⟨rfl, hw⟩; subst w2)
    go_ret
    exact ⟨⟨_, rfl, World.ownsRow_nil _ _ _ _⟩, Below.refl _ _⟩
  | some i =>
    have hi := (posG_lt hp).1
    have HV : Hid (findV S bs n = .tuple #[.pointer (some ⟨(bs i).1, 0, none⟩), .int .i64 0]) := by show _ = _; rw [findV, hp]
    have HE : Hid (patchesS S n = (nthG S i).ps) := by show _ = _; rw [patchesS, hp]
    rw [HV.out] at HC
    have c1 := (h.each i hi).cells.cell 1 (by simp)
    simp only [List.getElem_cons_succ, List.getElem_cons_zero] at c1
    obtain ⟨ks, him, hks⟩ := (h.each i hi).ps
    have hkeys : (seenL ks).map (·.1) = ks := by simp [seenL, Function.comp_def]
    have hkl : ks.length ≤ 1000000 := by
      have h1 := him.nodup
      rw [hkeys] at h1
      have h2 : (nthG S i).ps.Nodup := by rw [← HE.out]; exact hr.imp fun h => by omega
      rw [(List.perm_ext_iff_of_nodup h1 h2).2 hks |>.length_eq, ← HE.out]
      exact hb
    have HS := Lib.hid (sortedA_own w (bs i).2.1 (seenL ks) (patchesS S n) him (fun p hp => by
      obtain ⟨x, hx, rfl⟩ := List.mem_map.1 hp
      exact wf_i64 (hw x (by rw [HE.out]; exact (hks x).1 hx))) hr (fun x => by rw [hkeys, HE.out]; exact hks x) (by simpa [seenL] using hkl))
    clear h hp hi hb hr hw him hks hkeys hkl
    generalize (bs i).2.1 = pb at *
    generalize (bs i).1 = ob at *
    generalize patchesS S n = xs at *
    go_enter Try.func16, Try.ntmps16
    go_wp2_with (first
      | (go_at_call 36; (with_reducible refine HC.out.mono ?_); rintro e w2 ⟨rfl, hw⟩; subst w2)
      | (go_at_call 35; (with_reducible refine (keysA_any _ _).mono ?_); rintro e w2 ⟨rfl, hw⟩; subst w2)
      | (go_at_call 34; (with_reducible refine HS.out.mono ?_); rintro e w3 ⟨⟨v, rfl, hsl⟩, hB⟩; have HSL := Lib.hid hsl; have HB := Lib.hid hB; clear hsl hB))
    go_ret
    exact ⟨⟨_, rfl, HSL.out⟩, HB.out⟩
set_option maxRecDepth 100000 in
set_option maxHeartbeats 4000000 in
theorem pAhead_own (F : Nat → Prop) (w : World) (gb : Nat) (S : List G) (next : Int) (h : GP F w gb S next) (n : Int) (hA : AhOk S) (hl : S.length ≤ 1000) (hwf : ∀ g ∈ S, -9223372036854775808 ≤ g.n ∧ g.n ≤ 9223372036854775807) :
    Calls Try.prog 14 #[.pointer (some ⟨gb, 0, none⟩), .int .i64 n] w fun e w' => (∃ v, e = .returned v ∧ w'.ownsRow w.heap.size 3 1 v (aheadS S n).length (iv .i64 (aheadS S n))) ∧ Below w.heap.size w w' := by
  obtain ⟨mb, bs, h⟩ := h
  have H := Lib.hid h.exact
  obtain ⟨rk, hrk⟩ := hA.of
  have HRK := Lib.hid hrk
  have HWF := Lib.hid hwf
  have HAO := Lib.hid hA
  have hmm := @run_makeMap Try.prog
  clear h hrk hwf hA
  refine (callsIn_wide (n := 9)).1 ?_
  refine callsIn_of_wp_marks Try.func14 rfl trivial ?_ rfl
  simp only [Try.ntmps14, List.size_toArray, List.length_cons, List.length_nil, Nat.reduceAdd, Nat.reduceSub, Array.replicate_succ, Array.replicate_zero, List.push_toArray, List.append_toArray, List.nil_append, List.cons_append]
  refine wpIn_wide.2 ?_
  go_wp2_with (go_at_call 33; (with_reducible refine (above_any gb n _).mono ?_); rintro e w2 ⟨rfl, hw⟩; subst w2)
  obtain ⟨HB4, HIM4, hc1, hc2, hc3, hs4⟩ : Hid (Below w.heap.size w ((((w.alloc (.map #[] 0)).alloc (.cells #[.map (some w.heap.size)] 52)).alloc (.cells #[.pointer (some ⟨gb, 0, none⟩)] 23)).alloc (.cells #[.int .i64 n] 3))) ∧ Hid (IMap ((((w.alloc (.map #[] 0)).alloc (.cells #[.map (some w.heap.size)] 52)).alloc (.cells #[.pointer (some ⟨gb, 0, none⟩)] 23)).alloc (.cells #[.int .i64 n] 3)) w.heap.size []) ∧ ((((w.alloc (.map #[] 0)).alloc (.cells #[.map (some w.heap.size)] 52)).alloc (.cells #[.pointer (some ⟨gb, 0, none⟩)] 23)).alloc (.cells #[.int .i64 n] 3)).cell? ⟨w.heap.size + 1, 0, none⟩ = some (.map (some w.heap.size)) ∧ ((((w.alloc (.map #[] 0)).alloc (.cells #[.map (some w.heap.size)] 52)).alloc (.cells #[.pointer (some ⟨gb, 0, none⟩)] 23)).alloc (.cells #[.int .i64 n] 3)).cell? ⟨w.heap.size + 1 + 1, 0, none⟩ = some (.pointer (some ⟨gb, 0, none⟩)) ∧ ((((w.alloc (.map #[] 0)).alloc (.cells #[.map (some w.heap.size)] 52)).alloc (.cells #[.pointer (some ⟨gb, 0, none⟩)] 23)).alloc (.cells #[.int .i64 n] 3)).cell? ⟨w.heap.size + 1 + 1 + 1, 0, none⟩ = some (.int .i64 n) ∧ ((((w.alloc (.map #[] 0)).alloc (.cells #[.map (some w.heap.size)] 52)).alloc (.cells #[.pointer (some ⟨gb, 0, none⟩)] 23)).alloc (.cells #[.int .i64 n] 3)).heap.size = w.heap.size + 4 := by
    refine ⟨below_then (below_then (below_then (below_al _ _) (below_al _ _)) (below_al _ _)) (below_al _ _), (IMap.new w (t := 0) (kt := 0) (e := 0)).below (below_then (below_then (below_al _ _) (below_al _ _)) (below_al _ _)) (by simp), ?_, ?_, ?_, by simp⟩
    · have := new_cell (w.alloc (.map #[] 0)) #[.map (some w.heap.size)] 52 0 _ rfl
      rw [World.size_alloc] at this
      exact keep_cell (keep_cell this (below_al _ _)) (below_al _ _)
    · have := new_cell ((w.alloc (.map #[] 0)).alloc (.cells #[.map (some w.heap.size)] 52)) #[.pointer (some ⟨gb, 0, none⟩)] 23 0 _ rfl
      rw [World.size_alloc, World.size_alloc] at this
      exact keep_cell this (below_al _ _)
    · have := new_cell (((w.alloc (.map #[] 0)).alloc (.cells #[.map (some w.heap.size)] 52)).alloc (.cells #[.pointer (some ⟨gb, 0, none⟩)] 23)) #[.int .i64 n] 3 0 _ rfl
      rw [World.size_alloc, World.size_alloc, World.size_alloc] at this
      exact this
  clear hmm
  generalize ((((w.alloc (.map #[] 0)).alloc (.cells #[.map (some w.heap.size)] 52)).alloc (.cells #[.pointer (some ⟨gb, 0, none⟩)] 23)).alloc (.cells #[.int .i64 n] 3)) = w4 at *
  have HX4 := Lib.hid (H.out.below HB4.out)
  have hlb : ∀ k, Bl gb mb S bs k → ¬ (fun k => k = w.heap.size) k := fun k hk e => by
    have := H.out.flt k hk
    subst e
    omega
  refine wpIn_wide.1 (wpIn_rangeFunc_O (F := Fence.wide) (n := 9) rfl (by omega) (gf := 53) (lb := #[.pointer (some ⟨w.heap.size + 1 + 1, 0, none⟩), .pointer (some ⟨w.heap.size + 1 + 1 + 1, 0, none⟩)]) rfl trivial (enters_of Try.func53 (by kernel_rfl) rfl)
    (SeqO.wide (above_O S rk HRK.out hl gb mb bs next (fun k => k = w.heap.size) hlb (rk n + 1) n (by omega) (w.heap.size + 1 + 1) (w.heap.size + 1 + 1 + 1) w4 HX4.out (fun k hk => by subst hk; omega) hc2 hc3 (by show ¬ _ = _; omega) (by show ¬ _ = _; omega)))
    KeepD.trans (fun W l o o' h1 h2 h3 h4 => keepD_b (w := w4) (Nat.zero_le _) (fun b e => by cases e) W l o o' h1 h2 h3 h4) (Below.refl _ _) (fun _ => rfl)
    (fun q V => ((∃ ks, IMap V w.heap.size (seenL ks) ∧ ∀ x, x ∈ ks ↔ x ∈ q.map (numA S)) ∧ V.cell? ⟨w.heap.size + 1, 0, none⟩ = some (.map (some w.heap.size))) ∧ Below w.heap.size w V)
    (fun _ _ _ => False)
    (OwnFrom.and (fun s X Y row hx hg hr => by
      obtain ⟨⟨ks, h1, h2⟩, h3⟩ := hx
      have key : ∀ k, k < w.heap.size + 4 → k < X.heap.size → Y.heap[k]? = X.heap[k]? := fun k hk hlt => hg.block k hlt (fun e => by have := (hr k e.symm).1; omega)
      refine ⟨⟨ks, imap_bl h1 (key _ (by omega) h1.lt), h2⟩, ?_⟩
      rw [← h3]
      simp only [World.cell?]
      rw [key (w.heap.size + 1) (by omega) (by
        have := World.block_lt_of_cell? _ _ h3
        exact this)]) (ownFrom_below (Nat.le_refl _) (by omega)))
    (fun _ _ _ _ _ hs _ _ => hs)
    ⟨⟨⟨[], HIM4.out, by simp⟩, hc1⟩, HB4.out⟩
    (fun y => { tmps := #[.pointer (some ⟨gb, 0, none⟩), .int .i64 n, undef, undef, .slice none 0 0, .pointer (some ⟨w.heap.size + 1, 0, none⟩), .int .i64 (nthG S y.val).n, .map (some w.heap.size), .pointer (some ⟨gb, 0, none⟩), .int .i64 n, .func (.func 53) #[] #[.pointer (some ⟨w.heap.size + 1 + 1, 0, none⟩), .pointer (some ⟨w.heap.size + 1 + 1 + 1, 0, none⟩)], .int .i64 (nthG S y.val).n, undef, undef, undef, undef, undef], defers := [] }) ?assign ?body ?done ?stop)
  case assign =>
    intro l y V K hK
    simp only [encA]
    gi_wp2
    exact hK
  case body =>
    rintro l q y V hV ⟨⟨⟨ks, him, hks⟩, hc⟩, hB⟩
    have HIM := Lib.hid him
    have HKS := Lib.hid hks
    have HB := Lib.hid hB
    have HNA : Hid (numA S y = (nthG S y.val).n) := rfl
    clear him hks hB
    generalize (nthG S y.val).n = yn at *
    obtain ⟨ks', hput, hks'⟩ := put_seen_any ks yn
    have HPUT := Lib.hid hput
    clear hput
    gi_wp2_with (refine wpListIn_mapstore rfl _ _ _ _ rfl Try.underlying52 Try.underlying3 rfl rfl rfl HIM.out ?_; intro w9 q1 q2; have HQ1 := Lib.hid q1; have HQ2 := Lib.hid q2; clear q1 q2)
    have hq := HQ2.out
    have hsz := hq.size
    have hg : V.grownBy w9 (some w.heap.size) := ⟨hq.os, hq.tape, hq.output, Nat.le_of_eq hq.size.symm, fun i hi hne => hq.far i (fun e => hne (by rw [e]))⟩
    refine ⟨KeepsFrom.of_grownBy hg (fun j e => by cases e; omega), KeepD.of_but (b := w.heap.size) (Nat.zero_le _) (fun b e => by cases e) rfl hq, ⟨⟨ks', ?_, fun x => ?_⟩, ?_⟩, HB.out.grown hg HB.out.size (fun k e => by cases e; exact Nat.le_refl _)⟩
    · rw [← HPUT.out]
      exact HQ1.out
    · have hm : x ∈ (q ++ [y]).map (numA S) ↔ x ∈ q.map (numA S) ∨ x = yn := by rw [List.map_append, List.mem_append, List.map_singleton, List.mem_singleton, HNA.out]
      rw [hks' x, HKS.out x, ← hm, List.mem_map]
      exact ⟨fun ⟨z, h1, h2⟩ => ⟨z.1, z.2, h1, h2⟩, fun ⟨a, b, h1, h2⟩ => ⟨⟨a, b⟩, h1, h2⟩⟩
    · rw [← hc]
      simp only [World.cell?]
      rw [hq.far (w.heap.size + 1) (by omega)]
  case done =>
    rintro D ys V hD hys ⟨⟨⟨ks, him, hks⟩, hc⟩, hB⟩ hK
    have hmem : ∀ x, x ∈ ks ↔ x ∈ aheadS S n := fun x => by rw [hks x, hys x, mem_aheadS HAO.out]
    have hkeys : (seenL ks).map (·.1) = ks := by simp [seenL, Function.comp_def]
    have hrch : ∀ x ∈ aheadS S n, x ∈ S.map (·.n) := fun x hx => by
      obtain ⟨k, hk, _⟩ := HAO.out.rch ((mem_aheadS HAO.out).1 hx)
      exact posG_mem hk
    have hkl : ks.length ≤ 1000000 := by
      have h1 := him.nodup
      rw [hkeys] at h1
      have := nodup_length h1 (L := S.map (·.n)) (fun x hx => hrch x ((hmem x).1 hx))
      simp only [List.length_map] at this
      omega
    have HS := Lib.hid (sortedA_own V w.heap.size (seenL ks) (aheadS S n) him (fun p hp => by
      obtain ⟨x, hx, rfl⟩ := List.mem_map.1 hp
      obtain ⟨g, hg, rfl⟩ := List.mem_map.1 (hrch x ((hmem x).1 hx))
      exact wf_i64 (HWF.out g hg)) (aheadS_rises S n) (fun x => by rw [hkeys]; exact hmem x) (by simpa [seenL] using hkl))
    have HBV := Lib.hid hB
    have HKV := Lib.hid hK
    clear him hks hmem hkeys hrch hkl hB hK hys
    go_wp2_with (first
      | (go_at_call 35; (with_reducible refine (keysA_any _ _).mono ?_); rintro e w2 ⟨rfl, hw⟩; subst w2)
      | (go_at_call 34; (with_reducible refine HS.out.mono ?_); rintro e w3 ⟨⟨v, rfl, hsl⟩, hB⟩; have HSL := Lib.hid hsl; have HB := Lib.hid hB; clear hsl hB))
    try rw [Exit.noGoto_ret]
    have hDl := (Array.getElem?_eq_some_iff.1 HKV.out).1
    have hK3 := (HB.out.block D hDl).trans HKV.out
    refine ⟨by simp, .inl ⟨_, _, rfl, run_takeDeferred hK3, ?_⟩⟩
    exact ⟨_, results_tmp rfl _ _ _, ⟨_, rfl, ownsRow_putObj (ownsRow_base_a HSL.out HBV.out.size) _ hK3 rfl⟩, (HBV.out.trans (HB.out.mono HBV.out.size)).trans (belowK_b (w := w4) (by omega) _ D _ _ hD hK3 rfl rfl)⟩
  case stop =>
    rintro D c pre W _ h _
    exact h.elim
end Go.Proofs.Ytbflmgpcjfoifaa
