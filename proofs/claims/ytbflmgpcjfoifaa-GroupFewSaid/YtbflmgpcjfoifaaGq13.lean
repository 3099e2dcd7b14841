/- Walks of the program's groups: Ahead. -/
import Derived.Test.YtbflmgpcjfoifaaGq12
import Derived.Test.YtbflmgpcjfoifaaGq10
import Derived.Test.YtbflmgpcjfoifaaSelD
set_option linter.unusedSimpArgs false
set_option linter.unusedVariables false
namespace Go.Proofs.Ytbflmgpcjfoifaa
open Go.RowKit Go.Sel Go.Sel.Gp Go.Shelf Go.Maps Go.Sort

attribute [local go_sem] Oper.semAt_some

theorem aheadS_rises (S : List G) (n : Int) : (aheadS S n).Pairwise (· < ·) := (aheadS_ok n).rises
theorem imap_bl {w : World} {b : Nat} {l : List (Int × Value)} (h : IMap w b l) {w' : World} (e : w'.heap[b]? = w.heap[b]?) : IMap w' b l := ⟨h.nodup, by rw [e]; exact h.is⟩

theorem sl_putObj {w : World} {v : Value} {xs : List Int} (h : Sl w v xs) {D : Nat} {ds : Option (List Deferred)} (hD : w.heap[D]? = some (.deferred ds)) {o : Obj} : Sl (w.putObj D o) v xs := by
  obtain ⟨A, c, e, hr⟩ := h
  refine ⟨A, c, e, hr.1, hr.2, hr.3.imp id fun ⟨b, off, e', hc⟩ => ⟨b, off, e', fun k hk => ?_⟩⟩
  exact cell_kept (hc k hk) (grownBy_putObj' _ _ _) (fun r e => by cases e; exact ⟨_, hD, rfl⟩)

set_option maxRecDepth 100000 in
set_option maxHeartbeats 4000000 in
theorem pAhead_any (F : Nat → Prop) (w : World) (gb : Nat) (S : List G) (next : Int) (h : GP F w gb S next) (n : Int) (hA : AhOk S) (hl : S.length ≤ 1000) (hwf : ∀ g ∈ S, -9223372036854775808 ≤ g.n ∧ g.n ≤ 9223372036854775807) :
    Calls Try.prog 14 #[.pointer (some ⟨gb, 0, none⟩), .int .i64 n] w fun e w' => (∃ v, e = .returned v ∧ Sl w' v (aheadS S n)) ∧ Below w.heap.size w w' := by
  obtain ⟨mb, bs, h⟩ := h
  have H := Lib.hid h.exact
  obtain ⟨rk, hrk⟩ := hA.of
  have HRK := Lib.hid hrk
  have HWF := Lib.hid hwf
  have HAO := Lib.hid hA
  have hmm := @run_makeMap Try.prog
  clear h hrk hwf hA
  refine (callsIn_wide (n := 9)).1 ?_
  refine callsIn_of_wp_marks Try.func14 rfl trivial ?_ rfl
  simp only [Try.ntmps14, List.size_toArray, List.length_cons, List.length_nil, Nat.reduceAdd, Nat.reduceSub, Array.replicate_succ, Array.replicate_zero, List.push_toArray, List.append_toArray, List.nil_append, List.cons_append]
  refine wpIn_wide.2 ?_
  go_wp2_with (go_at_call 33; (with_reducible refine (above_any gb n _).mono ?_); rintro e w2 ⟨rfl, hw⟩; subst w2)
  obtain ⟨HB4, HIM4, hc1, hc2, hc3, hs4⟩ : Hid (Below w.heap.size w ((((w.alloc (.map #[] 0)).alloc (.cells #[.map (some w.heap.size)] 52)).alloc (.cells #[.pointer (some ⟨gb, 0, none⟩)] 23)).alloc (.cells #[.int .i64 n] 3))) ∧ Hid (IMap ((((w.alloc (.map #[] 0)).alloc (.cells #[.map (some w.heap.size)] 52)).alloc (.cells #[.pointer (some ⟨gb, 0, none⟩)] 23)).alloc (.cells #[.int .i64 n] 3)) w.heap.size []) ∧ ((((w.alloc (.map #[] 0)).alloc (.cells #[.map (some w.heap.size)] 52)).alloc (.cells #[.pointer (some ⟨gb, 0, none⟩)] 23)).alloc (.cells #[.int .i64 n] 3)).cell? ⟨w.heap.size + 1, 0, none⟩ = some (.map (some w.heap.size)) ∧ ((((w.alloc (.map #[] 0)).alloc (.cells #[.map (some w.heap.size)] 52)).alloc (.cells #[.pointer (some ⟨gb, 0, none⟩)] 23)).alloc (.cells #[.int .i64 n] 3)).cell? ⟨w.heap.size + 1 + 1, 0, none⟩ = some (.pointer (some ⟨gb, 0, none⟩)) ∧ ((((w.alloc (.map #[] 0)).alloc (.cells #[.map (some w.heap.size)] 52)).alloc (.cells #[.pointer (some ⟨gb, 0, none⟩)] 23)).alloc (.cells #[.int .i64 n] 3)).cell? ⟨w.heap.size + 1 + 1 + 1, 0, none⟩ = some (.int .i64 n) ∧ ((((w.alloc (.map #[] 0)).alloc (.cells #[.map (some w.heap.size)] 52)).alloc (.cells #[.pointer (some ⟨gb, 0, none⟩)] 23)).alloc (.cells #[.int .i64 n] 3)).heap.size = w.heap.size + 4 := by
    refine ⟨below_then (below_then (below_then (below_al _ _) (below_al _ _)) (below_al _ _)) (below_al _ _), (IMap.new w (t := 0) (kt := 0) (e := 0)).below (below_then (below_then (below_al _ _) (below_al _ _)) (below_al _ _)) (by simp), ?_, ?_, ?_, by simp⟩
    · have := new_cell (w.alloc (.map #[] 0)) #[.map (some w.heap.size)] 52 0 _ rfl
      rw [World.size_alloc] at this
      exact keep_cell (keep_cell this (below_al _ _)) (below_al _ _)
    · have := new_cell ((w.alloc (.map #[] 0)).alloc (.cells #[.map (some w.heap.size)] 52)) #[.pointer (some ⟨gb, 0, none⟩)] 23 0 _ rfl
      rw [World.size_alloc, World.size_alloc] at this
      exact keep_cell this (below_al _ _)
    · have := new_cell (((w.alloc (.map #[] 0)).alloc (.cells #[.map (some w.heap.size)] 52)).alloc (.cells #[.pointer (some ⟨gb, 0, none⟩)] 23)) #[.int .i64 n] 3 0 _ rfl
      rw [World.size_alloc, World.size_alloc, World.size_alloc] at this
      exact this
  clear hmm
  generalize ((((w.alloc (.map #[] 0)).alloc (.cells #[.map (some w.heap.size)] 52)).alloc (.cells #[.pointer (some ⟨gb, 0, none⟩)] 23)).alloc (.cells #[.int .i64 n] 3)) = w4 at *
  have HX4 := Lib.hid (H.out.below HB4.out)
  have hlb : ∀ k, Bl gb mb S bs k → ¬ (fun k => k = w.heap.size) k := fun k hk e => by
    have := H.out.flt k hk
    subst e
    omega
  refine wpIn_wide.1 (wpIn_rangeFunc_O (F := Fence.wide) (n := 9) rfl (by omega) (gf := 53) (lb := #[.pointer (some ⟨w.heap.size + 1 + 1, 0, none⟩), .pointer (some ⟨w.heap.size + 1 + 1 + 1, 0, none⟩)]) rfl trivial (enters_of Try.func53 (by kernel_rfl) rfl)
    (SeqO.wide (above_O S rk HRK.out hl gb mb bs next (fun k => k = w.heap.size) hlb (rk n + 1) n (by omega) (w.heap.size + 1 + 1) (w.heap.size + 1 + 1 + 1) w4 HX4.out (fun k hk => by subst hk; omega) hc2 hc3 (by show ¬ _ = _; omega) (by show ¬ _ = _; omega)))
    KeepD.trans (fun W l o o' h1 h2 h3 h4 => keepD_b (w := w4) (Nat.zero_le _) (fun b e => by cases e) W l o o' h1 h2 h3 h4) (Below.refl _ _) (fun _ => rfl)
    (fun q V => ((∃ ks, IMap V w.heap.size (seenL ks) ∧ ∀ x, x ∈ ks ↔ x ∈ q.map (numA S)) ∧ V.cell? ⟨w.heap.size + 1, 0, none⟩ = some (.map (some w.heap.size))) ∧ Below w.heap.size w V)
    (fun _ _ _ => False)
    (OwnFrom.and (fun s X Y row hx hg hr => by
      obtain ⟨⟨ks, h1, h2⟩, h3⟩ := hx
      have key : ∀ k, k < w.heap.size + 4 → k < X.heap.size → Y.heap[k]? = X.heap[k]? := fun k hk hlt => hg.block k hlt (fun e => by have := (hr k e.symm).1; omega)
      refine ⟨⟨ks, imap_bl h1 (key _ (by omega) h1.lt), h2⟩, ?_⟩
      rw [← h3]
      simp only [World.cell?]
      rw [key (w.heap.size + 1) (by omega) (by
        have := World.block_lt_of_cell? _ _ h3
        exact this)]) (ownFrom_below (Nat.le_refl _) (by omega)))
    (fun _ _ _ _ _ hs _ _ => hs)
    ⟨⟨⟨[], HIM4.out, by simp⟩, hc1⟩, HB4.out⟩
    (fun y => { tmps := #[.pointer (some ⟨gb, 0, none⟩), .int .i64 n, undef, undef, .slice none 0 0, .pointer (some ⟨w.heap.size + 1, 0, none⟩), .int .i64 (nthG S y.val).n, .map (some w.heap.size), .pointer (some ⟨gb, 0, none⟩), .int .i64 n, .func (.func 53) #[] #[.pointer (some ⟨w.heap.size + 1 + 1, 0, none⟩), .pointer (some ⟨w.heap.size + 1 + 1 + 1, 0, none⟩)], .int .i64 (nthG S y.val).n, undef, undef, undef, undef, undef], defers := [] }) ?assign ?body ?done ?stop)
  case assign =>
    intro l y V K hK
    simp only [encA]
    gi_wp2
    exact hK
  case body =>
    rintro l q y V hV ⟨⟨⟨ks, him, hks⟩, hc⟩, hB⟩
    have HIM := Lib.hid him
    have HKS := Lib.hid hks
    have HB := Lib.hid hB
    have HNA : Hid (numA S y = (nthG S y.val).n) := rfl
    clear him hks hB
    generalize (nthG S y.val).n = yn at *
    obtain ⟨ks', hput, hks'⟩ := put_seen_any ks yn
    have HPUT := Lib.hid hput
    clear hput
    gi_wp2_with (refine wpListIn_mapstore rfl _ _ _ _ rfl Try.underlying52 Try.underlying3 rfl rfl rfl HIM.out ?_; intro w9 q1 q2; have HQ1 := Lib.hid q1; have HQ2 := Lib.hid q2; clear q1 q2)
    have hq := HQ2.out
    have hsz := hq.size
    have hg : V.grownBy w9 (some w.heap.size) := ⟨hq.os, hq.tape, hq.output, Nat.le_of_eq hq.size.symm, fun i hi hne => hq.far i (fun e => hne (by rw [e]))⟩
    refine ⟨KeepsFrom.of_grownBy hg (fun j e => by cases e; omega), KeepD.of_but (b := w.heap.size) (Nat.zero_le _) (fun b e => by cases e) rfl hq, ⟨⟨ks', ?_, fun x => ?_⟩, ?_⟩, HB.out.grown hg HB.out.size (fun k e => by cases e; exact Nat.le_refl _)⟩
    · rw [← HPUT.out]
      exact HQ1.out
    · have hm : x ∈ (q ++ [y]).map (numA S) ↔ x ∈ q.map (numA S) ∨ x = yn := by rw [List.map_append, List.mem_append, List.map_singleton, List.mem_singleton, HNA.out]
      rw [hks' x, HKS.out x, ← hm, List.mem_map]
      exact ⟨fun ⟨z, h1, h2⟩ => ⟨z.1, z.2, h1, h2⟩, fun ⟨a, b, h1, h2⟩ => ⟨⟨a, b⟩, h1, h2⟩⟩
    · rw [← hc]
      simp only [World.cell?]
      rw [hq.far (w.heap.size + 1) (by omega)]
  case done =>
    rintro D ys V hD hys ⟨⟨⟨ks, him, hks⟩, hc⟩, hB⟩ hK
    have hmem : ∀ x, x ∈ ks ↔ x ∈ aheadS S n := fun x => by rw [hks x, hys x, mem_aheadS HAO.out]
    have hkeys : (seenL ks).map (·.1) = ks := by simp [seenL, Function.comp_def]
    have hrch : ∀ x ∈ aheadS S n, x ∈ S.map (·.n) := fun x hx => by
      obtain ⟨k, hk, _⟩ := HAO.out.rch ((mem_aheadS HAO.out).1 hx)
      exact posG_mem hk
    have hkl : ks.length ≤ 1000000 := by
      have h1 := him.nodup
      rw [hkeys] at h1
      have := nodup_length h1 (L := S.map (·.n)) (fun x hx => hrch x ((hmem x).1 hx))
      simp only [List.length_map] at this
      omega
    have HS := Lib.hid (sortedA_any V w.heap.size (seenL ks) (aheadS S n) him (fun p hp => by
      obtain ⟨x, hx, rfl⟩ := List.mem_map.1 hp
      obtain ⟨g, hg, rfl⟩ := List.mem_map.1 (hrch x ((hmem x).1 hx))
      exact wf_i64 (HWF.out g hg)) (aheadS_rises S n) (fun x => by rw [hkeys]; exact hmem x) (by simpa [seenL] using hkl))
    have HBV := Lib.hid hB
    have HKV := Lib.hid hK
    clear him hks hmem hkeys hrch hkl hB hK hys
    go_wp2_with (first
      | (go_at_call 35; (with_reducible refine (keysA_any _ _).mono ?_); rintro e w2 ⟨rfl, hw⟩; subst w2)
      | (go_at_call 34; (with_reducible refine HS.out.mono ?_); rintro e w3 ⟨⟨v, rfl, hsl⟩, hB⟩; have HSL := Lib.hid hsl; have HB := Lib.hid hB; clear hsl hB))
    try rw [Exit.noGoto_ret]
    have hDl := (Array.getElem?_eq_some_iff.1 HKV.out).1
    have hK3 := (HB.out.block D hDl).trans HKV.out
    refine ⟨by simp, .inl ⟨_, _, rfl, run_takeDeferred hK3, ?_⟩⟩
    exact ⟨_, results_tmp rfl _ _ _, ⟨_, rfl, sl_putObj HSL.out hK3⟩, (HBV.out.trans (HB.out.mono HBV.out.size)).trans (belowK_b (w := w4) (by omega) _ D _ _ hD hK3 rfl rfl)⟩
  case stop =>
    rintro D c pre W _ h _
    exact h.elim
end Go.Proofs.Ytbflmgpcjfoifaa
/- Walks of the program's groups: Behind. -/
set_option linter.unusedSimpArgs false
set_option linter.unusedVariables false
namespace Go.Sel
open Go.RowKit
theorem KeepD.of_fr {S : Nat → Prop} {B m : Nat} {w w' : World} (hB : B ≤ w.heap.size) (hS : S m) (h : Fr (· = m) w w') : KeepD S none B w w' := by
  refine ⟨hB, h.size, fun k cs ty fr h1 _ h3 => ?_, fun k h0 h1 _ => ?_, fun k o h0 h1 h2 => ?_, fun k hk => by obtain ⟨b, e, _⟩ := hk; cases e⟩
  · exact (h.block k (Array.getElem?_eq_some_iff.1 h3).1 (fun e => h1 (e ▸ hS))).trans h3
  · exact h.block k (by omega) (fun e => h1 (e ▸ hS))
  · exact (h.block k (Array.getElem?_eq_some_iff.1 h1).1 (fun e => h0 (e ▸ hS))).trans h1
theorem keepsFrom_below {B : Nat} {w w' : World} (h : Below w.heap.size w w') : KeepsFrom B w w' := ⟨h.size, fun k o _ ho _ => (h.block k (Array.getElem?_eq_some_iff.1 ho).1).trans ho⟩
def pick (b : Bool) (v u : Value) : Value := if b then v else u
theorem pick_true (v u : Value) : pick true v u = v := rfl
theorem pick_false (v u : Value) : pick false v u = u := rfl
theorem KeepsFrom.of_fr {B m : Nat} {w w' : World} (hm : m < B) (h : Fr (· = m) w w') : KeepsFrom B w w' :=
  ⟨h.size, fun k o hk ho _ => (h.block k (Array.getElem?_eq_some_iff.1 ho).1 (fun e => by omega)).trans ho⟩
end Go.Sel
namespace Go.Proofs.Ytbflmgpcjfoifaa
open Go.RowKit Go.Sel Go.Sel.Gp Go.Shelf Go.Maps Go.Sort

attribute [local go_sem] Oper.semAt_some

/-- What has been copied when these engaged ones are over. -/
def BehM (S : List G) (pre : List (EngT S)) (ks : List Int) : Prop := ∀ x, x ∈ ks ↔ ∃ e ∈ pre, ∃ a ∈ aheadS S (nthG S e.val).n, x ∈ patchesS S a

set_option maxRecDepth 100000 in
set_option maxHeartbeats 4000000 in
theorem pBehind_any (F : Nat → Prop) (w : World) (gb : Nat) (S : List G) (next : Int) (h : GP F w gb S next) (hA : AhOk S) (hl : S.length ≤ 1000) (hrise : (S.map (·.n)).Pairwise (· < ·)) (hwf : ∀ g ∈ S, -9223372036854775808 ≤ g.n ∧ g.n ≤ 9223372036854775807)
    (hps : ∀ x ∈ behindS S, -9223372036854775808 ≤ x ∧ x ≤ 9223372036854775807) (hpl : (behindS S).length ≤ 1000000) :
    Calls Try.prog 24 #[.pointer (some ⟨gb, 0, none⟩)] w fun e w' => (∃ v, e = .returned v ∧ Sl w' v (behindS S)) ∧ Below w.heap.size w w' := by
  obtain ⟨mb, bs, h⟩ := h
  have H := Lib.hid h.exact
  have HWF := Lib.hid hwf
  have HAO := Lib.hid hA
  have HPS := Lib.hid hps
  have HPL := Lib.hid hpl
  have HRI := Lib.hid hrise
  have hmm := @run_makeMap Try.prog
  clear h hwf hA hps hpl hrise
  refine (callsIn_wide (n := 9)).1 ?_
  refine callsIn_of_wp_marks Try.func24 rfl trivial ?_ rfl
  simp only [Try.ntmps24, List.size_toArray, List.length_cons, List.length_nil, Nat.reduceAdd, Nat.reduceSub, Array.replicate_succ, Array.replicate_zero, List.push_toArray, List.append_toArray, List.nil_append, List.cons_append]
  refine wpIn_wide.2 ?_
  go_wp2_with (go_at_call 50; (with_reducible refine (engaged_any gb _).mono ?_); rintro e w2 ⟨rfl, hw⟩; subst w2)
  obtain ⟨HB4, HIM4, hc0, hc1, hc2, hs4⟩ : Hid (Below w.heap.size w ((((w.alloc (.cells #[.pointer (some ⟨gb, 0, none⟩)] 23)).alloc (.map #[] 0)).alloc (.cells #[.map (some (w.heap.size + 1))] 52)).alloc (.cells #[.pointer (some ⟨gb, 0, none⟩)] 23))) ∧ Hid (IMap ((((w.alloc (.cells #[.pointer (some ⟨gb, 0, none⟩)] 23)).alloc (.map #[] 0)).alloc (.cells #[.map (some (w.heap.size + 1))] 52)).alloc (.cells #[.pointer (some ⟨gb, 0, none⟩)] 23)) (w.heap.size + 1) []) ∧ ((((w.alloc (.cells #[.pointer (some ⟨gb, 0, none⟩)] 23)).alloc (.map #[] 0)).alloc (.cells #[.map (some (w.heap.size + 1))] 52)).alloc (.cells #[.pointer (some ⟨gb, 0, none⟩)] 23)).cell? ⟨w.heap.size, 0, none⟩ = some (.pointer (some ⟨gb, 0, none⟩)) ∧ ((((w.alloc (.cells #[.pointer (some ⟨gb, 0, none⟩)] 23)).alloc (.map #[] 0)).alloc (.cells #[.map (some (w.heap.size + 1))] 52)).alloc (.cells #[.pointer (some ⟨gb, 0, none⟩)] 23)).cell? ⟨w.heap.size + 1 + 1, 0, none⟩ = some (.map (some (w.heap.size + 1))) ∧ ((((w.alloc (.cells #[.pointer (some ⟨gb, 0, none⟩)] 23)).alloc (.map #[] 0)).alloc (.cells #[.map (some (w.heap.size + 1))] 52)).alloc (.cells #[.pointer (some ⟨gb, 0, none⟩)] 23)).cell? ⟨w.heap.size + 1 + 1 + 1, 0, none⟩ = some (.pointer (some ⟨gb, 0, none⟩)) ∧ ((((w.alloc (.cells #[.pointer (some ⟨gb, 0, none⟩)] 23)).alloc (.map #[] 0)).alloc (.cells #[.map (some (w.heap.size + 1))] 52)).alloc (.cells #[.pointer (some ⟨gb, 0, none⟩)] 23)).heap.size = w.heap.size + 4 := by
    refine ⟨below_then (below_then (below_then (below_al _ _) (below_al _ _)) (below_al _ _)) (below_al _ _), ?_, ?_, ?_, ?_, by simp⟩
    · have := (IMap.new (w.alloc (.cells #[.pointer (some ⟨gb, 0, none⟩)] 23)) (t := 0) (kt := 0) (e := 0))
      rw [World.size_alloc] at this
      exact (this.below (below_al _ _) (by simp)).below (below_al _ _) (by simp)
    · have := new_cell w #[.pointer (some ⟨gb, 0, none⟩)] 23 0 _ rfl
      exact keep_cell (keep_cell (keep_cell this (below_al _ _)) (below_al _ _)) (below_al _ _)
    · have := new_cell ((w.alloc (.cells #[.pointer (some ⟨gb, 0, none⟩)] 23)).alloc (.map #[] 0)) #[.map (some (w.heap.size + 1))] 52 0 _ rfl
      rw [World.size_alloc, World.size_alloc] at this
      exact keep_cell this (below_al _ _)
    · have := new_cell (((w.alloc (.cells #[.pointer (some ⟨gb, 0, none⟩)] 23)).alloc (.map #[] 0)).alloc (.cells #[.map (some (w.heap.size + 1))] 52)) #[.pointer (some ⟨gb, 0, none⟩)] 23 0 _ rfl
      rw [World.size_alloc, World.size_alloc, World.size_alloc] at this
      exact this
  clear hmm
  generalize ((((w.alloc (.cells #[.pointer (some ⟨gb, 0, none⟩)] 23)).alloc (.map #[] 0)).alloc (.cells #[.map (some (w.heap.size + 1))] 52)).alloc (.cells #[.pointer (some ⟨gb, 0, none⟩)] 23)) = w4 at *
  have HX4 := Lib.hid (H.out.below HB4.out)
  have hFl := H.out.flt
  have hnr : ∀ k, ¬ RowOf none w4 k := fun k hk => by obtain ⟨b, e, _⟩ := hk; cases e
  have hprot : ∀ k, (k = w.heap.size + 1 + 1 + 1 ∨ k = gb ∨ k = mb ∨ ∃ i, i < S.length ∧ k = (bs i).1) → k < w4.heap.size ∧ ¬ (fun k => k = w.heap.size + 1) k ∧ ¬ RowOf none w4 k := fun k hk => by
    have hk2 : k = w.heap.size + 1 + 1 + 1 ∨ k < w.heap.size := by
      rcases hk with rfl | rfl | rfl | ⟨i, hi, rfl⟩
      · exact .inl rfl
      · exact .inr H.out.lt
      · exact .inr (hFl _ H.out.fm)
      · exact .inr (hFl _ (H.out.fe i hi).1)
    exact ⟨by omega, by show ¬ _ = _; omega, hnr k⟩
  refine wpIn_wide.1 (wpIn_rangeFunc_ownG (F := Fence.wide) (n := 9) rfl (by omega) (gf := 62) (lb := #[.pointer (some ⟨w.heap.size + 1 + 1 + 1, 0, none⟩)]) rfl trivial (enters_of Try.func62 (by kernel_rfl) rfl)
    (engaged_stops 8 (by omega) (w.heap.size + 1 + 1 + 1) gb mb (Bl gb mb S bs) S bs next (fun k => k = w.heap.size + 1) none w4.heap.size w4 HX4.out hprot (Nat.le_refl _) (fun b e => by cases e) (fun k hk => by subst hk; omega) (fun k hk => (hnr k hk).elim) hc2 HRI.out HWF.out hl)
    KeepD.trans (keepD_b (Nat.le_refl _) (fun b e => by cases e)) (Below.refl _ _) (fun _ => rfl)
    (fun pre V => ((∃ ks, IMap V (w.heap.size + 1) (seenL ks) ∧ BehM S pre ks) ∧ V.cell? ⟨w.heap.size, 0, none⟩ = some (.pointer (some ⟨gb, 0, none⟩)) ∧ V.cell? ⟨w.heap.size + 1 + 1, 0, none⟩ = some (.map (some (w.heap.size + 1)))) ∧ Below w.heap.size w V ∧ w4.heap.size ≤ V.heap.size)
    (fun _ _ _ => False)
    (OwnFrom.and (fun s X Y row hx hg hr => by
      obtain ⟨⟨ks, h1, h2⟩, h3, h4⟩ := hx
      have key : ∀ k, k < w.heap.size + 4 → k < X.heap.size → Y.heap[k]? = X.heap[k]? := fun k hk hlt => hg.block k hlt (fun e => by have := (hr k e.symm).1; omega)
      refine ⟨⟨ks, imap_bl h1 (key _ (by omega) h1.lt), h2⟩, ?_, ?_⟩
      · rw [← h3]
        simp only [World.cell?]
        rw [key w.heap.size (by omega) (World.block_lt_of_cell? _ _ h3)]
      · rw [← h4]
        simp only [World.cell?]
        rw [key (w.heap.size + 1 + 1) (by omega) (World.block_lt_of_cell? _ _ h4)]) (OwnFrom.and (ownFrom_below (Nat.le_refl _) (by omega)) (fun s X Y row hx hg hr => Nat.le_trans hx hg.size)))
    (fun _ _ _ _ _ hs _ _ => hs)
    ⟨⟨⟨[], HIM4.out, fun x => by simp⟩, hc0, hc1⟩, HB4.out, Nat.le_refl _⟩
    (fun y => { tmps := #[.pointer (some ⟨gb, 0, none⟩), .pointer (some ⟨w.heap.size, 0, none⟩), .slice none 0 0, .pointer (some ⟨w.heap.size + 1 + 1, 0, none⟩), .int .i64 (nthG S y.val).n, undef, undef, .map (some (w.heap.size + 1)), .pointer (some ⟨gb, 0, none⟩), .func (.func 62) #[] #[.pointer (some ⟨w.heap.size + 1 + 1 + 1, 0, none⟩)], .int .i64 (nthG S y.val).n, .pointer (some ⟨(bs y.val).1, 0, none⟩), undef, undef, undef, undef, undef, undef, undef, undef, undef, undef, undef, undef, undef, undef, undef, undef, undef, undef, undef, undef, undef, undef, undef], defers := [] }) ?assign ?body ?done ?stop)
  case assign =>
    intro l y V K hK
    simp only [encE]
    gi_wp2
    exact hK
  case body =>
    rintro l pre y V ⟨⟨⟨ks, him, hks⟩, hd0, hd1⟩, hB, hsV⟩ hlen
    have HIM := Lib.hid him
    have HKS := Lib.hid hks
    have HB := Lib.hid hB
    have HX := Lib.hid (H.out.below hB)
    have HCA := Lib.hid (pAhead_any (Bl gb mb S bs) V gb S next ⟨mb, bs, HX.out⟩ (nthG S y.val).n HAO.out hl HWF.out)
    clear him hks hB
    have hrch : ∀ a ∈ aheadS S (nthG S y.val).n, ∃ k, posG S a = some k := fun a ha => by
      obtain ⟨k, hk, _⟩ := HAO.out.rch ((mem_aheadS HAO.out).1 ha)
      exact ⟨k, hk⟩
    have HRCH := Lib.hid hrch
    have HBEH : Hid (∀ zs : List Int, (∀ x, x ∈ zs ↔ x ∈ ks ∨ ∃ a ∈ aheadS S (nthG S y.val).n, x ∈ patchesS S a) → BehM S (pre ++ [y]) zs) := fun zs hz x => by
      rw [hz x, HKS.out x]
      simp only [List.mem_append, List.mem_singleton]
      constructor
      · rintro (⟨e, h1, h2⟩ | h2)
        · exact ⟨e, .inl h1, h2⟩
        · exact ⟨y, .inr rfl, h2⟩
      · rintro ⟨e, h1 | rfl, h2⟩
        · exact .inl ⟨e, h1, h2⟩
        · exact .inr h2
    clear hrch HKS
    generalize aheadS S (nthG S y.val).n = zz at *
    generalize (nthG S y.val).n = yn at *
    generalize (bs y.val).1 = yb at *
    gi_wp2_with (refine ⟨trivial, ?_⟩; gi_at_call 14; refine (CallsIn.inRound l (callsIn_wide.2 HCA.out)).mono ?_; rintro e V5 ⟨⟨v, rfl, hsl⟩, hB5⟩; obtain ⟨A5, c5, rfl, hrd⟩ := hsl; have HRD := Lib.hid hrd; have HB5 := Lib.hid hB5; clear hrd hB5)
    have hl1 := HRD.out.1
    have hl2 := HRD.out.2
    have HIM5 := Lib.hid (HIM.out.below HB5.out HIM.out.lt)
    have HX5 := Lib.hid (HX.out.below HB5.out)
    have hd05 := keep_cell hd0 HB5.out
    have hd15 := keep_cell hd1 HB5.out
    have HD0 := Lib.hid hd05
    have HD1 := Lib.hid hd15
    have hs5 : V.heap.size ≤ V5.heap.size := HB5.out.size
    clear hd0 hd1 HCA hd05 hd15
    gi_loopw [16] (fun v wr => ∃ k : Nat, k ≤ zz.length ∧ v = .int .i64 k ∧ (∃ zs, Hid (IMap wr (w.heap.size + 1) (seenL zs)) ∧ Hid (∀ x, x ∈ zs ↔ x ∈ ks ∨ ∃ a ∈ zz.take k, x ∈ patchesS S a)) ∧ Hid (Fr (· = w.heap.size + 1) V5 wr)) (fun v _ => zz.length - (intOf v).toNat)
    case atStart => exact ⟨0, by omega, rfl, ⟨ks, HIM5, fun x => by simp⟩, Fr.refl _ _⟩
    case round =>
      obtain ⟨k, hk, rfl, ⟨zs, HZ, HZM⟩, HF⟩ := hrel
      by_cases hlt : k < zz.length
      · obtain ⟨rb, ro, rfl, hcell⟩ := Rd.cell_i HRD.out (k := k) hlt
        have hrb : rb ≠ w.heap.size + 1 := fun e => by
          obtain ⟨o, ho, hc⟩ := cells_of_cell hcell
          obtain ⟨es, c, hm, _⟩ := HIM5.out.is
          rw [← e, ho] at hm
          cases hm
          cases hc
        have hcw : wr.cell? ⟨rb, ro + k, none⟩ = some (.int .i64 zz[k]) := (HF.out.cell hrb hcell).trans hcell
        have HTK : Hid (zz.take (k + 1) = zz.take k ++ [zz[k]]) := List.take_succ_eq_append_getElem hlt
        obtain ⟨i, hi⟩ := HRCH.out zz[k] (List.getElem_mem hlt)
        have hil := (posG_lt hi).1
        have HPM : Hid (patchesS S zz[k] = (nthG S i).ps) := by show _ = _; rw [patchesS, hi]
        have hq0 : wr.cell? ⟨w.heap.size, 0, none⟩ = some (.pointer (some ⟨gb, 0, none⟩)) := (HF.out.cell (by show ¬ _ = _; simp) HD0.out).trans HD0.out
        have hq1 : wr.cell? ⟨w.heap.size + 1 + 1, 0, none⟩ = some (.map (some (w.heap.size + 1))) := (HF.out.cell (by show ¬ _ = _; simp) HD1.out).trans HD1.out
        have HXr : Hid (GPx (Bl gb mb S bs) wr gb mb S bs next) := HX5.out.keep HF.out.size fun b hb => HF.out.block b (HX5.out.flt b hb) (fun e => by have := hFl b hb; omega)
        have hq2 := HXr.out.h0
        obtain ⟨lm, hm, _, hlook⟩ := HXr.out.look
        have hrun := fun W (hW : IMap W mb lm) => IMap.lookup hW Try.underlying64 Try.underlying3 (zeroOne W) zz[k]
        rw [hlook, hi, Option.map_some, Option.getD_some] at hrun
        have hq3 := (HXr.out.each i hil).cells.cell 1 (by simp)
        simp only [List.getElem_cons_succ, List.getElem_cons_zero] at hq3
        obtain ⟨qs, hqm, hqs⟩ := (HXr.out.each i hil).ps
        have HQM := Lib.hid hqm
        have HQS := Lib.hid hqs
        have HLM := Lib.hid hm
        have HPB : Hid (w.heap.size + 1 ≠ (bs i).2.1) := fun e => by have := hFl _ (H.out.fe i hil).2.1; omega
        clear hcell hm hlook hqm hqs hi
        generalize zz[k] = ak at *
        generalize (bs i).2.1 = pb at *
        generalize (bs i).1 = ob at *
        gi_wp2
        have HIMd : Hid (IMap wr.drew (w.heap.size + 1) (seenL zs)) := ⟨HZ.out.nodup, HZ.out.is⟩
        have HQMd : Hid (IMap wr.drew pb (seenL qs)) := ⟨HQM.out.nodup, HQM.out.is⟩
        have hr6 := hrun wr.drew ⟨HLM.out.nodup, HLM.out.is⟩
        have e0 : wr.drew.cell? ⟨w.heap.size + 1 + 1, 0, none⟩ = some (.map (some (w.heap.size + 1))) := hq1
        have e1 : wr.drew.cell? ⟨w.heap.size, 0, none⟩ = some (.pointer (some ⟨gb, 0, none⟩)) := hq0
        have e4 : wr.drew.cell? ⟨gb, 0, none⟩ = some (.map (some mb)) := hq2
        have e9 : wr.drew.cell? ⟨ob, 1, none⟩ = some (.map (some pb)) := hq3
        have HFd : Hid (Fr (· = w.heap.size + 1) V5 wr.drew) := HF.out.drewN 1
        clear hq0 hq1 hq2 hq3 hcw hrun HZ HF HXr
        refine wpIn_region_any (by kernel_rfl) ?_
        change wpAnyIn _ _ _ _ _ _ 11 (Array.replicate 11 false) _ wr.drew
        generalize wr.drew = wd at *
        refine in_reads (Q := _) 10 wd (fun L => { tmps := #[.pointer (some ⟨gb, 0, none⟩), .pointer (some ⟨w.heap.size, 0, none⟩), .slice none 0 0, .pointer (some ⟨w.heap.size + 1 + 1, 0, none⟩), .int .i64 yn, undef, .int .i64 ak, .map (some (w.heap.size + 1)), .pointer (some ⟨gb, 0, none⟩), .func (.func 62) #[] #[.pointer (some ⟨w.heap.size + 1 + 1 + 1, 0, none⟩)], .int .i64 yn, .pointer (some ⟨yb, 0, none⟩), .pointer (some ⟨gb, 0, none⟩), .int .i64 yn, .slice (some ⟨rb, ro, none⟩) zz.length c5, .int .i64 (zz.length : Nat), .int .i64 (k : Nat), .bool true, .pointer (some ⟨rb, ro + k, none⟩), .int .i64 ak, pick (L 0) (.map (some (w.heap.size + 1))) u20, pick (L 1) (.pointer (some ⟨gb, 0, none⟩)) u21, pick (L 2) (.pointer (some ⟨gb, 0, none⟩)) u22, pick (L 3) (.pointer (some ⟨gb, 0, none⟩)) u23, pick (L 4) (.map (some mb)) u24, pick (L 5) (.int .i64 ak) u25, pick (L 6) (.pointer (some ⟨ob, 0, none⟩)) u26, pick (L 7) (.pointer (some ⟨ob, 0, none⟩)) u27, pick (L 8) (.pointer (some ⟨ob, 1, none⟩)) u28, pick (L 9) (.map (some pb)) u29, u30, u31, undef, undef, undef], defers := [] }) rfl (by kernel_rfl) (by kernel_rfl) (by dsimp only; simp only [pick_false]) (fun L L' h => by simp only [h 0 (by decide), h 1 (by decide), h 2 (by decide), h 3 (by decide), h 4 (by decide), h 5 (by decide), h 6 (by decide), h 7 (by decide), h 8 (by decide), h 9 (by decide)]) (fun i o ho hi L hd K hK => ?_) (fun K hK => ?_)
        · rcases (show i = 0 ∨ i = 1 ∨ i = 2 ∨ i = 3 ∨ i = 4 ∨ i = 5 ∨ i = 6 ∨ i = 7 ∨ i = 8 ∨ i = 9 by omega) with rfl | rfl | rfl | rfl | rfl | rfl | rfl | rfl | rfl | rfl
          · obtain rfl := Option.some.inj ho
            dsimp only at hK ⊢
            simp only [pick_true, Nat.reduceEqDiff, decide_false, decide_true, Bool.false_or, Bool.true_or, Bool.or_true] at hK ⊢
            refine wpOpIn_lit rfl rfl ?_
            clear hd
            go_simp
            try exact hK
          · obtain rfl := Option.some.inj ho
            dsimp only at hK ⊢
            simp only [pick_true, Nat.reduceEqDiff, decide_false, decide_true, Bool.false_or, Bool.true_or, Bool.or_true] at hK ⊢
            refine wpOpIn_lit rfl rfl ?_
            clear hd
            go_simp
            try exact hK
          · obtain rfl := Option.some.inj ho
            have d1 := hd ⟨1, .data⟩ (by simp) rfl
            dsimp only at hK ⊢
            simp only [d1, pick_true, Nat.reduceEqDiff, decide_false, decide_true, Bool.false_or, Bool.true_or, Bool.or_true] at hK ⊢
            refine wpOpIn_lit rfl rfl ?_
            clear hd
            go_simp
            try exact hK
          · obtain rfl := Option.some.inj ho
            have d2 := hd ⟨2, .data⟩ (by simp) rfl
            dsimp only at hK ⊢
            simp only [d2, pick_true, Nat.reduceEqDiff, decide_false, decide_true, Bool.false_or, Bool.true_or, Bool.or_true] at hK ⊢
            refine wpOpIn_lit rfl rfl ?_
            clear hd
            go_simp
            try exact hK
          · obtain rfl := Option.some.inj ho
            have d3 := hd ⟨3, .data⟩ (by simp) rfl
            dsimp only at hK ⊢
            simp only [d3, pick_true, Nat.reduceEqDiff, decide_false, decide_true, Bool.false_or, Bool.true_or, Bool.or_true] at hK ⊢
            refine wpOpIn_lit rfl rfl ?_
            clear hd
            go_simp
            try exact hK
          · obtain rfl := Option.some.inj ho
            dsimp only at hK ⊢
            simp only [pick_true, Nat.reduceEqDiff, decide_false, decide_true, Bool.false_or, Bool.true_or, Bool.or_true] at hK ⊢
            refine wpOpIn_lit rfl rfl ?_
            clear hd
            go_simp
            try exact hK
          · obtain rfl := Option.some.inj ho
            have d4 := hd ⟨4, .data⟩ (by simp) rfl
            have d5 := hd ⟨5, .data⟩ (by simp) rfl
            dsimp only at hK ⊢
            simp only [d4, d5, pick_true, Nat.reduceEqDiff, decide_false, decide_true, Bool.false_or, Bool.true_or, Bool.or_true] at hK ⊢
            refine wpOpIn_lit rfl rfl ?_
            clear hd
            go_simp
            try exact hK
          · obtain rfl := Option.some.inj ho
            have d6 := hd ⟨6, .data⟩ (by simp) rfl
            dsimp only at hK ⊢
            simp only [d6, pick_true, Nat.reduceEqDiff, decide_false, decide_true, Bool.false_or, Bool.true_or, Bool.or_true] at hK ⊢
            refine wpOpIn_lit rfl rfl ?_
            clear hd
            go_simp
            try exact hK
          · obtain rfl := Option.some.inj ho
            have d7 := hd ⟨7, .data⟩ (by simp) rfl
            dsimp only at hK ⊢
            simp only [d7, pick_true, Nat.reduceEqDiff, decide_false, decide_true, Bool.false_or, Bool.true_or, Bool.or_true] at hK ⊢
            refine wpOpIn_lit rfl rfl ?_
            clear hd
            go_simp
            try exact hK
          · obtain rfl := Option.some.inj ho
            have d8 := hd ⟨8, .data⟩ (by simp) rfl
            dsimp only at hK ⊢
            simp only [d8, pick_true, Nat.reduceEqDiff, decide_false, decide_true, Bool.false_or, Bool.true_or, Bool.or_true] at hK ⊢
            refine wpOpIn_lit rfl rfl ?_
            clear hd
            go_simp
            try exact hK
        · dsimp only
          simp only [pick_true]
          refine wpOpIn_lit rfl rfl ?_
          go_simp
          refine ⟨trivial, (callsIn_wide.2 (copy_any wd (w.heap.size + 1) pb zs qs HIMd.out HQMd.out HPB.out)).mono ?_⟩
          rintro e w7 ⟨⟨v7, rfl⟩, ⟨zs', hz1, hz2⟩, hf7⟩
          refine hK _ _ ?_
          have HZ7 := Lib.hid hz1
          have HF7 : Hid (Fr (· = w.heap.size + 1) V5 w7) := HFd.out.trans hf7
          have HM7 : Hid (∀ x, x ∈ zs' ↔ x ∈ ks ∨ ∃ a ∈ zz.take (k + 1), x ∈ patchesS S a) := fun x => by
            rw [hz2 x, HZM.out x, HTK.out, HQS.out x, ← HPM.out]
            simp only [List.mem_append, List.mem_singleton]
            constructor
            · rintro ((h | ⟨a, h1, h2⟩) | h)
              · exact .inl h
              · exact .inr ⟨a, .inl h1, h2⟩
              · exact .inr ⟨ak, .inr rfl, h⟩
            · rintro (h | ⟨a, h1 | rfl, h2⟩)
              · exact .inl (.inl h)
              · exact .inl (.inr ⟨a, h1, h2⟩)
              · exact .inr h2
          clear hK hz1 hz2 hf7 HFd HIMd HQMd hr6 e0 e1 e4 e9 K
          gi_wp2
          go_roundw
          case rel => exact ⟨k + 1, hlt, by go_num, ⟨zs', HZ7, HM7⟩, HF7⟩
          case measure => simp [intOf] <;> omega
      · obtain rfl : k = zz.length := by omega
        have hm : w.heap.size + 1 < V5.heap.size := by omega
        have h1 : KeepsFrom w4.heap.size V wr := (keepsFrom_below HB5.out).trans (KeepsFrom.of_fr (by omega) HF.out)
        have h2 : KeepD (fun k => k = w.heap.size + 1) none w4.heap.size V wr := (KeepD.of_below hsV (fun b e => by cases e) HB5.out).trans (KeepD.of_fr (by omega) rfl HF.out)
        have h3 : Below w.heap.size w wr := (HB.out.trans (HB5.out.mono HB.out.size)).trans (HF.out.below (by omega) (fun k e => by omega))
        have h4 : wr.cell? ⟨w.heap.size, 0, none⟩ = some (.pointer (some ⟨gb, 0, none⟩)) := (HF.out.cell (by show ¬ _ = _; simp) HD0.out).trans HD0.out
        have h5 : wr.cell? ⟨w.heap.size + 1 + 1, 0, none⟩ = some (.map (some (w.heap.size + 1))) := (HF.out.cell (by show ¬ _ = _; simp) HD1.out).trans HD1.out
        have h6 : BehM S (pre ++ [y]) zs := HBEH.out zs fun x => by rw [HZM.out x, List.take_length]
        have h7 := HF.out.size
        have G1 := Lib.hid h1
        have G2 := Lib.hid h2
        have G3 := Lib.hid h3
        have G4 := Lib.hid h4
        have G5 := Lib.hid h5
        have G6 := Lib.hid h6
        clear h1 h2 h3 h4 h5 h6
        gi_wp2
        exact ⟨G1.out, G2.out, ⟨⟨zs, HZ.out, G6.out⟩, G4.out, G5.out⟩, G3.out, by omega⟩
  case done =>
    rintro D ys V hD hys ⟨⟨⟨ks, him, hks⟩, hc, hc'⟩, hB, hsV⟩ hK
    have hmem : ∀ x, x ∈ ks ↔ x ∈ behindS S := fun x => by
      rw [hks x, mem_behindS]
      constructor
      · rintro ⟨e, h1, h2⟩
        refine ⟨S[e.val]'e.2.1, List.getElem_mem _, ?_, ?_⟩
        · have := e.2.2
          rwa [nthG_get e.2.1] at this
        · rwa [nthG_get e.2.1] at h2
      · rintro ⟨g, hg, h1, h2⟩
        obtain ⟨i, hi, rfl⟩ := List.getElem_of_mem hg
        have hin : i ∈ engI S := by
          rw [engI, List.mem_filter]
          refine ⟨by simpa using hi, ?_⟩
          rw [nthG_get hi]
          simpa using h1
        rw [← hys] at hin
        obtain ⟨e, he, rfl⟩ := List.mem_map.1 hin
        refine ⟨e, he, ?_⟩
        rwa [nthG_get hi]
    have hkeys : (seenL ks).map (·.1) = ks := by simp [seenL, Function.comp_def]
    have hkl : ks.length ≤ 1000000 := by
      have h1 := him.nodup
      rw [hkeys] at h1
      have := nodup_length h1 (fun x hx => (hmem x).1 hx)
      have := HPL.out
      omega
    have HS := Lib.hid (sortedA_any V (w.heap.size + 1) (seenL ks) (behindS S) him (fun p hp => by
      obtain ⟨x, hx, rfl⟩ := List.mem_map.1 hp
      exact wf_i64 (HPS.out x ((hmem x).1 hx))) (behindS_rises S) (fun x => by rw [hkeys]; exact hmem x) (by simpa [seenL] using hkl))
    have HBV := Lib.hid hB
    have HKV := Lib.hid hK
    clear him hks hmem hkeys hkl hB hK hys hc
    go_wp2_with (first
      | (go_at_call 35; (with_reducible refine (keysA_any _ _).mono ?_); rintro e w2 ⟨rfl, hw⟩; subst w2)
      | (go_at_call 34; (with_reducible refine HS.out.mono ?_); rintro e w3 ⟨⟨v, rfl, hsl⟩, hB⟩; have HSL := Lib.hid hsl; have HB := Lib.hid hB; clear hsl hB))
    try rw [Exit.noGoto_ret]
    have hDl := (Array.getElem?_eq_some_iff.1 HKV.out).1
    have hK3 := (HB.out.block D hDl).trans HKV.out
    refine ⟨by simp, .inl ⟨_, _, rfl, run_takeDeferred hK3, ?_⟩⟩
    exact ⟨_, results_tmp rfl _ _ _, ⟨_, rfl, sl_putObj HSL.out hK3⟩, (HBV.out.trans (HB.out.mono HBV.out.size)).trans (belowK_b (w := w4) (by omega) _ D _ _ hD hK3 rfl rfl)⟩
  case stop =>
    rintro D c pre W _ _ h _
    exact h.elim
end Go.Proofs.Ytbflmgpcjfoifaa
