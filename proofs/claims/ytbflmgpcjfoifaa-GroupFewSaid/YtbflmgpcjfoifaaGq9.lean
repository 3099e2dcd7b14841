/- Walks of the program's groups: the engaged ones, as an iterator. -/
import Derived.Test.YtbflmgpcjfoifaaGq8
import Derived.Test.YtbflmgpcjfoifaaIt1
import Derived.RangeFuncBound
import Derived.RangeFuncCalls
import Derived.RangeFuncLeaves
import Derived.Shelf.Abstract
import Derived.Shelf.RegionOpen
import Derived.Shelf.AbstractIn
import Derived.WalkKit
import Derived.OwnWalkIn
import Derived.TacticsInMore
import Derived.LoopNIn
import Derived.LoopIn
set_option linter.unusedSimpArgs false
set_option linter.unusedVariables false
namespace Go.Proofs.Ytbflmgpcjfoifaa
open Go.RowKit Go.Sel Go.Sel.Gp Go.Shelf Go.Maps Go.Sort

attribute [local go_sem] Oper.semAt_some

set_option maxHeartbeats 1000000 in
/-- 'slices.Sorted(maps.Keys(m))', m the groups: the row is new. -/
theorem sortedB_own (w : World) (b : Nat) (l : List (Int × Value)) (ps : List Int) (h : IMap w b l) (hw : ∀ p ∈ l, (Lit.int .i64 p.1).wf = true) (h3 : ps.Pairwise (· < ·)) (h4 : ∀ x, x ∈ l.map (·.1) ↔ x ∈ ps) (hl : l.length ≤ 1000000) :
    Calls Try.prog 34 #[.func (.func 69) #[] #[.pointer (some ⟨w.heap.size, 0, none⟩)]] (w.alloc (.cells #[.map (some b)] 64)) fun e w' => (∃ v, e = .returned v ∧ w'.ownsRow w.heap.size 3 1 v ps.length (iv .i64 ps)) ∧ Below w.heap.size w w' := by
  refine (callsIn_wide (n := 6)).1 ?_
  have hbl := h.lt
  have hB := below_al w (.cells #[.map (some b)] 64)
  obtain ⟨D, hown, hperm, hsz, _⟩ := (h.below hB hbl).owns (P := Try.prog) (kt := 3) (H := Unit) (R := fun _ => some (.nil, [])) Try.underlying3 hw (fun _ _ => ⟨_, rfl⟩) (by simp only [maxLen]; omega)
  have hseq : SeqGives Fence.wide 3 Try.prog 69 #[.pointer (some ⟨w.heap.size, 0, none⟩)] encZ (fun ss => ss.Perm (intKeys D)) (Maps.size D) (w.alloc (.cells #[.map (some b)] 64)) :=
    AnyZI.keys_gives (ρ := Try.keysB_ren) { Try.keysB with } Fence.wide _ trivial rfl (by omega) w.heap.size b l.length D _ (by simp) (by simp) hown
  have cS := AnyZI.sorted_in Try.sortedA Fence.wide 6 trivial trivial trivial trivial rfl (by omega) (Try.sortsA _) (enters_of Try.func55 (by kernel_rfl) rfl) 69 #[.pointer (some ⟨w.heap.size, 0, none⟩)] trivial (enters_of Try.func69 (by kernel_rfl) rfl) _ _ (by rw [hsz]; simp only [maxLen]; omega) (by rw [hsz]; omega) _ hseq
  change CallsIn _ _ Try.prog 34 _ _ _ at cS
  refine cS.mono ?_
  rintro e w' ⟨v, ss, rfl, hS, hrow, _, hb⟩
  have hps : ss.mergeSort (fun x y => decide (x ≤ y)) = ps := sorted_rises (hS.trans hperm) h.nodup h3 h4
  have hlen : ss.length = ps.length := by rw [← hps, List.length_mergeSort]
  rw [hps, hlen] at hrow
  exact ⟨⟨v, rfl, ownsRow_base_a hrow (by simp)⟩, below_then hB hb⟩

theorem rowOf_below {ob : Option Nat} {B : Nat} {w w' : World} (hob : ∀ b, ob = some b → b < B) (hB : B ≤ w.heap.size) (h : Below w.heap.size w w') {k : Nat} (hk : RowOf ob w' k) : RowOf ob w k := by
  obtain ⟨b, e, hb⟩ := hk
  have hbl := hob b e
  refine ⟨b, e, hb.imp id fun ⟨off, n, c, hcell⟩ => ⟨off, n, c, ?_⟩⟩
  rw [← hcell]
  simp only [World.cell?]
  rw [h.block b (by omega)]
abbrev EngT (S : List G) := { i : Nat // i < S.length ∧ (nthG S i).st = 2 }
def encE (S : List G) (bs : Nat → B3) (x : EngT S) : Array Value := #[.int .i64 (nthG S x.val).n, .pointer (some ⟨(bs x.val).1, 0, none⟩)]
def upE (S : List G) : (k : Nat) → k ≤ S.length → List (EngT S)
  | 0, _ => []
  | k + 1, h => upE S k (by omega) ++ (if hb : (nthG S k).st = 2 then [⟨k, by omega, hb⟩] else [])
theorem upE_length (S : List G) (k : Nat) (h : k ≤ S.length) : (upE S k h).length ≤ k := by
  induction k with
  | zero => simp [upE]
  | succ k ih =>
    have := ih (by omega)
    rw [upE, List.length_append]
    split <;> simp <;> omega
/-- The places of the engaged. -/
def engI (S : List G) : List Nat := (List.range S.length).filter fun i => decide ((nthG S i).st = 2)
theorem upE_map (S : List G) (k : Nat) (h : k ≤ S.length) : (upE S k h).map (·.val) = (List.range k).filter fun i => decide ((nthG S i).st = 2) := by
  induction k with
  | zero => rfl
  | succ k ih =>
    rw [upE, List.map_append, ih (by omega), List.range_succ, List.filter_append]
    congr 1
    by_cases hb : (nthG S k).st = 2 <;> simp [hb]

set_option maxRecDepth 100000 in
set_option maxHeartbeats 4000000 in
theorem engaged1_in (n : Nat) (hn : 8 ≤ n) (l b1 gb mb : Nat) (F : Nat → Prop) (S : List G) (bs : Nat → B3) (next : Int) (Sx : Nat → Prop) (ob : Option Nat) (B : Nat) (J Jx : List (EngT S) → World → Prop) (W : World)
    (HX : GPx F W gb mb S bs next) (hprot : ∀ k, (k = b1 ∨ k = gb ∨ k = mb ∨ ∃ i, i < S.length ∧ k = (bs i).1) → k < B ∧ ¬ Sx k ∧ ¬ RowOf ob W k) (hB : B ≤ W.heap.size) (hob : ∀ b, ob = some b → b < B) (hS : ∀ k, Sx k → k < B) (hrow : ∀ k, RowOf ob W k → k < W.heap.size)
    (h1 : W.cell? ⟨b1, 0, none⟩ = some (.pointer (some ⟨gb, 0, none⟩))) (hrise : (S.map (·.n)).Pairwise (· < ·)) (hwf : ∀ g ∈ S, -9223372036854775808 ≤ g.n ∧ g.n ≤ 9223372036854775807) (hl : S.length ≤ 1000)
    (hJ : AbidesFrom W.heap.size J)
    (hY : ∀ pre x W1, J pre W1 → pre.length < S.length → YieldAt Fence.wide (n - 1) Try.prog l (encE S bs x) W1 fun e W' =>
      (e = .returned (.bool true) ∧ J (pre ++ [x]) W' ∧ KeepD Sx ob B W1 W') ∨ (e = .returned (.bool false) ∧ Jx (pre ++ [x]) W'))
    (h0 : J [] W) :
    CallsIn Fence.wide n Try.prog 62 #[.func (.yield l) #[] #[], .pointer (some ⟨b1, 0, none⟩)] W fun e W' => (∃ v, e = .returned v) ∧
      ((∃ ys : List (EngT S), ys.map (·.val) = engI S ∧ J ys W') ∨ (∃ pre : List (EngT S), True ∧ Jx pre W')) := by
  obtain ⟨lm, hm, hpm⟩ := HX.all
  have H := Lib.hid HX
  have HPM := Lib.hid hpm
  have HIM := Lib.hid hm
  have HPR := Lib.hid hprot
  have HSX := Lib.hid hS
  have HRW := Lib.hid hrow
  have HOB := Lib.hid hob
  have HJ := Lib.hid hJ
  have HBB := Lib.hid hB
  have g0 := HX.h0
  have hll : lm.length = S.length := by rw [hpm.length_eq]; simp [pairsG]
  have CK : Hid (CallsIn Fence.wide (n - 1) Try.prog 63 #[.map (some mb)] W fun e w' => e = .returned (.func (.func 69) #[] #[.pointer (some ⟨W.heap.size, 0, none⟩)]) ∧ w' = W.alloc (.cells #[.map (some mb)] 64)) := callsIn_wide.2 (keysB_any (some mb) W)
  have CS : Hid (CallsIn Fence.wide (n - 1) Try.prog 34 #[.func (.func 69) #[] #[.pointer (some ⟨W.heap.size, 0, none⟩)]] (W.alloc (.cells #[.map (some mb)] 64)) fun e w' => (∃ v, e = .returned v ∧ w'.ownsRow W.heap.size 3 1 v (S.map (·.n)).length (iv .i64 (S.map (·.n)))) ∧ Below W.heap.size W w') :=
    callsIn_wide.2 (sortedB_own W mb lm (S.map (·.n)) hm (fun p hp => by
      obtain ⟨i, hi, rfl⟩ := mem_pairs (hpm.mem_iff.1 hp)
      rw [nthG_get hi]
      exact wf_i64 (hwf _ (List.getElem_mem hi))) hrise (fun x => by rw [(hpm.map _).mem_iff, pairsG_keys]) (by omega))
  have hn1 : 1 ≤ n := by omega
  have hf1 : Fence.wide.fn 63 := trivial
  have hf2 : Fence.wide.fn 34 := trivial
  have HN0 := Lib.hid h0
  clear hm hpm HX hprot hS hrow hob hJ hB hwf h0
  refine callsIn_of_wp Try.func62 rfl trivial ?_ rfl
  simp only [Try.ntmps62, List.size_toArray, List.length_cons, List.length_nil, Nat.reduceAdd, Nat.reduceSub, Array.replicate_succ, Array.replicate_zero, List.push_toArray, List.append_toArray, List.nil_append, List.cons_append]
  gi_wp2_with (first
    | (gi_at_call 63; refine CK.out.mono ?_; rintro e w' ⟨rfl, rfl⟩)
    | (gi_at_call 34; refine CS.out.mono ?_; rintro e W1 ⟨⟨v, rfl, hown⟩, hB1⟩; obtain ⟨A1, c1, rfl, hl1, hr1⟩ := rd_own hown; have HOW := Lib.hid hown; have HB1 := Lib.hid hB1; have hr2 := hr1.le; have hr3 := hr1.cap; clear hown hB1 hr1))
  have HR1 : Hid (∀ k, RowOf ob W1 k → RowOf ob W k) := fun k hk => rowOf_below HOB.out HBB.out HB1.out hk
  have HJ1 : Hid (J [] W1) := HJ.out [] W W1 none HN0.out ⟨HB1.out.os, HB1.out.tape, HB1.out.output, HB1.out.size, fun k hk _ => HB1.out.block k hk⟩ (fun r e => by cases e)
  have HPK : Hid (∀ wr, KeepD Sx ob B W1 wr → ∀ k, (k = b1 ∨ k = gb ∨ k = mb ∨ ∃ i, i < S.length ∧ k = (bs i).1) → wr.heap[k]? = W.heap[k]?) := fun wr hk k hp => by
    obtain ⟨p1, p2, p3⟩ := HPR.out k hp
    exact (hk.low k p1 p2 (fun h => p3 (HR1.out k h))).trans (HB1.out.block k (Nat.lt_of_lt_of_le p1 HBB.out))
  have HROW : Hid (∀ wr, KeepD Sx ob B W1 wr → Rd wr A1 (S.map (·.n)).length c1 (iv .i64 (S.map (·.n)))) := fun wr hk => by
    have ho := own_same HOW.out (w' := wr) (fun k hk' => by
      have hge := own_row HOW.out k hk'
      rcases HOW.out.2 with ⟨e, _⟩ | ⟨g, cap, cur, e, hb, hh, _⟩
      · rw [e] at hk'; cases hk'
      · rw [e] at hk'
        have : g = k := by simpa [Value.ownBlock] using hk'
        subst this
        rw [hh]
        refine hk.cells g _ _ _ (fun h => ?_) (fun h => ?_) hh
        · have := HSX.out g h; have := HBB.out; omega
        · have := HRW.out g (HR1.out g h); omega)
    exact (rd_own ho).choose_spec.choose_spec.2.2 |> fun h => by
      obtain ⟨A', c', e, _, hr⟩ := rd_own ho
      injection e with e1 e2 e3
      subst e1 e3
      exact hr
  clear HR1
  have hlm : (S.map (·.n)).length = S.length := by simp
  gi_loopw [15] (fun v wr => ∃ (k : Nat) (hk : k ≤ S.length), v = .int .i64 k ∧ J (upE S k hk) wr ∧ Hid (KeepD Sx ob B W1 wr)) (fun v _ => S.length - (intOf v).toNat)
  case atStart => exact ⟨0, Nat.zero_le _, rfl, HJ1.out, KeepD.refl (Nat.le_trans HBB.out HB1.out.size)⟩
  case round =>
    obtain ⟨k, hk, rfl, hJs, HK⟩ := hrel
    have HP := Lib.hid (HPK.out wr HK.out)
    by_cases hlt : k < S.length
    · obtain ⟨rb, ro, rfl, hcell⟩ := Rd.cell_i (HROW.out wr HK.out) (k := k) (by omega)
      have ek : (S.map (·.n))[k]'(by omega) = (nthG S k).n := by rw [List.getElem_map, nthG_get hlt]
      rw [ek] at hcell
      have q1 : wr.cell? ⟨b1, 0, none⟩ = some (.pointer (some ⟨gb, 0, none⟩)) := by rw [← h1]; simp only [World.cell?]; rw [HP.out b1 (.inl rfl)]
      have q2 : wr.cell? ⟨gb, 0, none⟩ = some (.map (some mb)) := by rw [← g0]; simp only [World.cell?]; rw [HP.out gb (.inr (.inl rfl))]
      have him : IMap wr mb lm := ⟨HIM.out.nodup, by rw [HP.out mb (.inr (.inr (.inl rfl)))]; exact HIM.out.is⟩
      have hrun := IMap.lookup him Try.underlying64 Try.underlying3 (zeroOne wr) (nthG S k).n
      have hlook : Sel.look lm (nthG S k).n = some (.pointer (some ⟨(bs k).1, 0, none⟩)) := by
        rw [look_perm HPM.out (by rw [pairsG_keys]; exact H.out.num), look_pairs H.out.num, posV_some hlt rfl (fun j hj e => by have := num_inj H.out.num (by omega) hlt e; omega)]
        rfl
      rw [hlook, Option.getD_some] at hrun
      have q3 : wr.cell? ⟨(bs k).1, 0, none⟩ = some (.int .u8 (nthG S k).st) := by
        have := (H.out.each k hlt).cells.cell 0 (by simp)
        simp only [List.getElem_cons_zero] at this
        rw [← this]
        simp only [World.cell?]
        rw [HP.out _ (.inr (.inr (.inr ⟨k, hlt, rfl⟩)))]
      clear ek him hlook h1 g0
      by_cases hst : (nthG S k).st = 2
      · have e1 : ((nthG S k).st == 2) = true := by simpa using hst
        have hex : ∃ x : EngT S, x.val = k ∧ upE S (k + 1) hlt = upE S k hk ++ [x] := ⟨⟨k, hlt, hst⟩, rfl, by simp [upE, hst]⟩
        obtain ⟨x, hxv, hU⟩ := hex
        obtain ⟨fn, tmps, assign, body, hy, hR⟩ := hY _ x wr hJs (by have := upE_length S k hk; omega)
        dsimp only [encE] at hy
        rw [hxv] at hy
        have HU := Lib.hid hU
        clear hxv hU hst
        generalize (nthG S k).n = kn at *
        generalize (nthG S k).st = ks at *
        generalize (bs k).1 = kb at *
        gi_wp2
        refine hR.mono ?_
        rintro e W3 (⟨rfl, hJ3, hk3⟩ | ⟨rfl, hJx3⟩)
        · have HK3 := Lib.hid (HK.out.trans hk3)
          gi_wp2
          go_roundw
          case rel => exact ⟨k + 1, hlt, by go_num, by rw [HU.out]; exact hJ3, HK3⟩
          case measure => simp [intOf] <;> omega
        · gi_wp2
          refine bodyPost_ret (results_none rfl _ _ _) rfl ?_
          exact ⟨⟨_, rfl⟩, .inr ⟨_, trivial, hJx3⟩⟩
      · have e1 : ((nthG S k).st == 2) = false := by simpa using hst
        have HU : Hid (upE S (k + 1) hlt = upE S k hk) := by show _ = _; simp [upE, hst]
        clear hst
        generalize (nthG S k).n = kn at *
        generalize (nthG S k).st = ks at *
        generalize (bs k).1 = kb at *
        gi_wp2
        refine ⟨fun _ h => (by cases h), ?_⟩
        gi_wp2
        go_roundw
        case rel => exact ⟨k + 1, hlt, by go_num, by rw [HU.out]; exact hJs, HK⟩
        case measure => simp [intOf] <;> omega
    · obtain rfl : k = S.length := by omega
      gi_wp2
      go_end0
      exact ⟨⟨_, rfl⟩, .inl ⟨_, upE_map S _ hk, hJs⟩⟩
theorem engaged_any (gb : Nat) (w : World) : Calls Try.prog 50 #[.pointer (some ⟨gb, 0, none⟩)] w fun e w' => e = .returned (.func (.func 62) #[] #[.pointer (some ⟨w.heap.size, 0, none⟩)]) ∧ w' = w.alloc (.cells #[.pointer (some ⟨gb, 0, none⟩)] 23) := by
  go_enter Try.func50, Try.ntmps50
  go_wp2
  go_ret
  exact ⟨rfl, rfl⟩

theorem engaged_stops (n : Nat) (hn : 8 ≤ n) (b1 gb mb : Nat) (F : Nat → Prop) (S : List G) (bs : Nat → B3) (next : Int) (Sx : Nat → Prop) (ob : Option Nat) (B : Nat) (w : World)
    (HX : GPx F w gb mb S bs next) (hprot : ∀ k, (k = b1 ∨ k = gb ∨ k = mb ∨ ∃ i, i < S.length ∧ k = (bs i).1) → k < B ∧ ¬ Sx k ∧ ¬ RowOf ob w k) (hB : B ≤ w.heap.size) (hob : ∀ b, ob = some b → b < B) (hS : ∀ k, Sx k → k < B) (hrow : ∀ k, RowOf ob w k → k < w.heap.size)
    (h1 : w.cell? ⟨b1, 0, none⟩ = some (.pointer (some ⟨gb, 0, none⟩))) (hrise : (S.map (·.n)).Pairwise (· < ·)) (hwf : ∀ g ∈ S, -9223372036854775808 ≤ g.n ∧ g.n ≤ 9223372036854775807) (hl : S.length ≤ 1000) :
    SeqStopsK Fence.wide n Try.prog 62 #[.pointer (some ⟨b1, 0, none⟩)] (encE S bs) (KeepD Sx ob B) (fun ys : List (EngT S) => ys.map (·.val) = engI S) (fun _ => True) S.length w := fun l J Jx W hW hJ _ hY h0 =>
  engaged1_in n hn l b1 gb mb F S bs next Sx ob B J Jx W (HX.below hW) (fun k hk => ⟨(hprot k hk).1, (hprot k hk).2.1, fun h => (hprot k hk).2.2 (rowOf_below hob hB hW h)⟩) (Nat.le_trans hB hW.size) hob hS (fun k hk => Nat.lt_of_lt_of_le (hrow k (rowOf_below hob hB hW hk)) hW.size) (keep_cell h1 hW) hrise hwf hl hJ hY h0
end Go.Proofs.Ytbflmgpcjfoifaa
