/- Walks of graph: those, Collect, Close. -/
import Derived.Test.YtpicagcapgjiaaaGra2
import Derived.RangeFuncNested
import Derived.RangeFuncBound
import Derived.RangeFuncCalls
import Derived.RangeFuncLeaves
import Derived.RangeFuncBox
import Derived.Shelf.RegionOpen
import Derived.OwnWalkIn
import Derived.TacticsInMore
import Derived.LoopNIn
import Derived.LoopIn
import Derived.Maps.AppendAt
set_option linter.unusedSimpArgs false
set_option linter.unusedVariables false
namespace Go.Proofs.Ytpicagcapgjiaaa
open Go.RowKit Go.Sel Go.Sel.Gra Go.Shelf

attribute [local go_sem] Oper.semAt_some

/-- Marks that lay stay, but for the blocks of S. -/
structure KeepC (S : Nat → Prop) (w w' : World) : Prop where
  block : ∀ (k : Nat) (cs : Array Value), ¬ S k → w.heap[k]? = some (.cells cs 4 (0, 0)) → w'.heap[k]? = some (.cells cs 4 (0, 0))
theorem KeepC.trans {S : Nat → Prop} {a b c : World} (h : KeepC S a b) (k : KeepC S b c) : KeepC S a c := ⟨fun i cs hs ho => k.block i cs hs (h.block i cs hs ho)⟩
theorem KeepC.refl (S : Nat → Prop) (w : World) : KeepC S w w := ⟨fun _ _ _ h => h⟩
theorem KeepC.mono {S T : Nat → Prop} {a b : World} (h : KeepC S a b) (hs : ∀ k, S k → T k) : KeepC T a b := ⟨fun k cs ht ho => h.block k cs (fun hS => ht (hs k hS)) ho⟩
theorem KeepC.of_fr {S : Nat → Prop} {w w' : World} (h : Fr S w w') : KeepC S w w' :=
  ⟨fun k cs hs ho => (h.block k (Array.getElem?_eq_some_iff.1 ho).1 hs).trans ho⟩
theorem KeepC.of_below {B : Nat} {w w' : World} (h : Below B w w') : KeepC (fun k => B ≤ k) w w' :=
  ⟨fun k cs hs ho => (h.block k (by omega)).trans ho⟩
theorem keepC_b {S : Nat → Prop} {w : World} (W : World) (l : Nat) (o o' : Obj) (_ : w.heap.size ≤ l) (h : W.heap[l]? = some o) (hc : o.isCells = false) (_ : o.isWalk = false) : KeepC S W (W.putObj l o') :=
  ⟨fun k cs _ h1 => by
    by_cases e : k = l
    · subst e; rw [h] at h1; cases h1; cases hc
    · exact (World.putObj_heap_other e).trans h1⟩
theorem KeepC.bk {S : Nat → Prop} {w w' : World} (h : KeepC S w w') {g : Nat} {vs : List Value} (hb : Bk w g 4 vs) (hs : ¬ S g) : Bk w' g 4 vs := h.block g _ hs hb
/-- A block of another element type, or one of S, is turned. -/
theorem KeepC.set {S : Nat → Prop} {w : World} {p : Addr} (h : S p.block ∨ ∀ cs, w.heap[p.block]? ≠ some (.cells cs 4 (0, 0))) (v : Value) : KeepC S w (w.setCell p v) :=
  ⟨fun k cs hs ho => by
    have hne : k ≠ p.block := fun e => by
      subst e
      rcases h with h | h
      · exact hs h
      · exact h cs ho
    rw [Below.heap_setCell _ _ _ _ hne]; exact ho⟩
theorem KeepC.grown {S : Nat → Prop} {w w' : World} {row : Option Nat} (hg : w.grownBy w' row) (h : ∀ r, row = some r → S r ∨ ∀ cs, w.heap[r]? ≠ some (.cells cs 4 (0, 0))) : KeepC S w w' :=
  ⟨fun k cs hs ho => (hg.block k (Array.getElem?_eq_some_iff.1 ho).1 (fun e => by
    rcases h k e.symm with h | h
    · exact hs h
    · exact h cs ho)).trans ho⟩

/-- What has come of the marked ones when k rounds are over. -/
abbrev MkT (ms : List Bool) (N : Nat) := { j : Nat // j < N ∧ bit ms j = true }
def upM (ms : List Bool) (N : Nat) : (k : Nat) → k ≤ N → List (MkT ms N)
  | 0, _ => []
  | k + 1, h => upM ms N k (by omega) ++ (if hb : bit ms k = true then [⟨k, by omega, hb⟩] else [])
theorem upM_length (ms : List Bool) (N k : Nat) (h : k ≤ N) : (upM ms N k h).length ≤ k := by
  induction k with
  | zero => simp [upM]
  | succ k ih =>
    have := ih (by omega)
    rw [upM, List.length_append]
    split <;> simp <;> omega
theorem upM_map (ms : List Bool) (N k : Nat) (h : k ≤ N) : (upM ms N k h).map (fun j => (j.val : Int)) = ((List.range k).filter fun j => bit ms j).map fun j : Nat => (j : Int) := by
  induction k with
  | zero => rfl
  | succ k ih =>
    rw [upM, List.map_append, ih (by omega), List.range_succ, List.filter_append, List.map_append]
    congr 1
    by_cases hb : bit ms k = true
    · simp [hb]
    · simp [hb]
theorem upM_all (ms : List Bool) (N : Nat) (h : ms.length = N) : (upM ms N N (Nat.le_refl _)).map (fun j => (j.val : Int)) = thoseL ms := by
  rw [upM_map, thoseL, h]

def encF (ms : List Bool) (N : Nat) (x : MkT ms N) : Array Value := #[.int .i64 (x.val : Int)]

set_option maxRecDepth 100000 in
set_option maxHeartbeats 2000000 in
/-- The marked ones, one by one, for every loop body that keeps the marks. -/
theorem those1_in (n : Nat) (hn : 1 ≤ n) (l Bs g N : Nat) (S : Nat → Prop) (ms : List Bool) (hlen : ms.length = N) (hN : N ≤ 1000) (hS : ¬ S g) (J Jx : List (MkT ms N) → World → Prop)
    (hY : ∀ pre x W, J pre W → pre.length < N → YieldAt Fence.wide (n - 1) Try.prog l (encF ms N x) W fun e W' =>
      (e = .returned (.bool true) ∧ J (pre ++ [x]) W' ∧ KeepC S W W') ∨ (e = .returned (.bool false) ∧ Jx (pre ++ [x]) W'))
    (W : World) (hBs : W.cell? ⟨Bs, 0, none⟩ = some (.slice (some ⟨g, 0, none⟩) N N)) (hb : Bk W g 4 (bv ms)) (h0 : J [] W) :
    CallsIn Fence.wide n Try.prog 101 #[.func (.yield l) #[] #[], .pointer (some ⟨Bs, 0, none⟩)] W fun e W' => (∃ v, e = .returned v) ∧
      ((∃ ys : List (MkT ms N), ys.map (fun j => (j.val : Int)) = thoseL ms ∧ J ys W') ∨ (∃ pre : List (MkT ms N), True ∧ Jx pre W')) := by
  refine callsIn_of_wp Try.func101 rfl trivial ?_ rfl
  simp only [Try.ntmps101, List.size_toArray, List.length_cons, List.length_nil, Nat.reduceAdd, Nat.reduceSub, Array.replicate_succ, Array.replicate_zero, List.push_toArray, List.append_toArray, List.nil_append, List.cons_append]
  have HB := Lib.hid hb
  have HL := Lib.hid hlen
  clear hb hlen
  gi_wp2
  gi_loopw [3, 4, 7] (fun _ _ i wr => ∃ (k : Nat) (hk : k ≤ N), i = .int .i64 k ∧ J (upM ms N k hk) wr ∧ Hid (Bk wr g 4 (bv ms)))
    (fun _ _ i _ => N - (intOf i).toNat)
  case atStart => exact ⟨0, Nat.zero_le _, rfl, h0, HB⟩
  case round =>
    obtain ⟨k, hk, rfl, hJs, HBr⟩ := hrel
    by_cases hlt : k < N
    · have hck := HBr.out.bit k (by have := HL.out; omega)
      cases hbit : bit ms k with
      | true =>
        rw [hbit] at hck
        have hex : ∃ x : MkT ms N, x.val = k ∧ upM ms N (k + 1) hlt = upM ms N k hk ++ [x] := ⟨⟨k, hlt, hbit⟩, rfl, by simp [upM, hbit]⟩
        obtain ⟨x, hxv, hU⟩ := hex
        obtain ⟨fn, tmps, assign, body, hy, hR⟩ := hY _ x wr hJs (by have := upM_length ms N k hk; omega)
        dsimp only [encF] at hy
        rw [hxv] at hy
        have HU := Lib.hid hU
        clear hxv hU
        clear hbit
        gi_wp2
        refine hR.mono ?_
        rintro e W3 (⟨rfl, hJ3, hk3⟩ | ⟨rfl, hJx3⟩)
        · have HB3 := Lib.hid (hk3.bk HBr.out hS)
          gi_wp2
          go_roundw
          case rel => exact ⟨k + 1, hlt, by go_num, by rw [HU.out]; exact hJ3, HB3⟩
          case measure => simp [intOf]; omega
        · gi_wp2
          refine bodyPost_ret (results_none rfl _ _ _) rfl ?_
          exact ⟨⟨_, rfl⟩, .inr ⟨_, trivial, hJx3⟩⟩
      | false =>
        rw [hbit] at hck
        have HU : Hid (upM ms N (k + 1) hlt = upM ms N k hk) := by show _ = _; simp [upM, hbit]
        clear hbit
        gi_wp2
        refine ⟨fun _ h => (by cases h), ?_⟩
        gi_wp2
        go_roundw
        case rel => exact ⟨k + 1, hlt, by go_num, by rw [HU.out]; exact hJs, HBr⟩
        case measure => simp [intOf]; omega
    · obtain rfl : k = N := by omega
      gi_wp2
      go_end0
      exact ⟨⟨_, rfl⟩, .inl ⟨_, upM_all ms k HL.out, hJs⟩⟩

theorem those_any (A : Option Addr) (n c : Nat) (w : World) :
    Calls Try.prog 64 #[.slice A n c] w fun e w' => e = .returned (.func (.func 101) #[] #[.pointer (some ⟨w.heap.size, 0, none⟩)]) ∧ w' = w.alloc (.cells #[.slice A n c] 87) := by
  go_enter Try.func64, Try.ntmps64
  go_wp2
  go_ret
  exact ⟨rfl, rfl⟩

theorem those_stops (n : Nat) (hn : 1 ≤ n) (Bs g N : Nat) (S : Nat → Prop) (ms : List Bool) (hlen : ms.length = N) (hN : N ≤ 1000) (hS : ¬ S g) (w : World)
    (hc : w.cell? ⟨Bs, 0, none⟩ = some (.slice (some ⟨g, 0, none⟩) N N)) (hb : Bk w g 4 (bv ms)) :
    SeqStopsK Fence.wide n Try.prog 101 #[.pointer (some ⟨Bs, 0, none⟩)] (encF ms N) (KeepC S) (fun ys : List (MkT ms N) => ys.map (fun j => (j.val : Int)) = thoseL ms) (fun _ => True) N w := fun l J Jx W hW _ _ hY h0 =>
  those1_in n hn l Bs g N S ms hlen hN hS J Jx hY W (keep_cell hc hW) (hb.keep hW) h0
end Go.Proofs.Ytpicagcapgjiaaa
