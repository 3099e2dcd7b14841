/- Walks of graph: falling. -/
import Derived.Test.YtpicagcapgjiaaaGra4
set_option linter.unusedSimpArgs false
set_option linter.unusedVariables false
namespace Go.Proofs.Ytpicagcapgjiaaa
open Go.RowKit Go.Sel Go.Sel.Gra Go.Shelf

attribute [local go_sem] Oper.semAt_some

/-- What has come of the marked ones, the greatest first, when j rounds are over. -/
def dnM (ms : List Bool) (N : Nat) : (j : Nat) → j ≤ N → List (MkT ms N)
  | 0, _ => []
  | j + 1, h => dnM ms N j (by omega) ++ (if hb : bit ms (N - 1 - j) = true then [⟨N - 1 - j, by omega, hb⟩] else [])
theorem dnM_length (ms : List Bool) (N j : Nat) (h : j ≤ N) : (dnM ms N j h).length ≤ j := by
  induction j with
  | zero => simp [dnM]
  | succ j ih =>
    have := ih (by omega)
    rw [dnM, List.length_append]
    split <;> simp <;> omega
theorem dnM_map (ms : List Bool) (N j : Nat) (h : j ≤ N) : (dnM ms N j h).map (fun j => (j.val : Int)) = (((List.range' (N - j) j).filter fun j => bit ms j).map fun j : Nat => (j : Int)).reverse := by
  induction j with
  | zero => rfl
  | succ j ih =>
    have e : N - j = N - (j + 1) + 1 := by omega
    rw [dnM, List.map_append, ih (by omega), List.range'_succ, List.filter_cons, e]
    have e2 : N - 1 - j = N - (j + 1) := by omega
    by_cases hb : bit ms (N - (j + 1)) = true
    · simp [e2, hb]
    · simp [e2, hb]
theorem dnM_all (ms : List Bool) (N : Nat) (h : ms.length = N) : (dnM ms N N (Nat.le_refl _)).map (fun j => (j.val : Int)) = (thoseL ms).reverse := by
  rw [dnM_map, Nat.sub_self, thoseL, h, List.range_eq_range']

set_option maxRecDepth 100000 in
set_option maxHeartbeats 2000000 in
theorem falling1_in (n : Nat) (hn : 2 ≤ n) (l b1 b2 N : Nat) (S : Nat → Prop) (A : Option Addr) (m c : Nat) (xs : List Int) (hxs : xs.length = m) (hN : N ≤ 1000) (J Jx : List (MkT (marksL xs N) N) → World → Prop)
    (W : World) (hS : ¬ S W.heap.size) (hJ : AbidesFrom W.heap.size J)
    (hY : ∀ pre x W, J pre W → pre.length < N → YieldAt Fence.wide (n - 1) Try.prog l (encF (marksL xs N) N x) W fun e W' =>
      (e = .returned (.bool true) ∧ J (pre ++ [x]) W' ∧ KeepC S W W') ∨ (e = .returned (.bool false) ∧ Jx (pre ++ [x]) W'))
    (h1 : W.cell? ⟨b1, 0, none⟩ = some (.slice A m c)) (h2 : W.cell? ⟨b2, 0, none⟩ = some (.int .i64 N)) (h3 : W.cell? ⟨b2, 0, none⟩ = some (.int .i64 N)) (hr : Rd W A m c (iv .i64 xs)) (hS2 : ¬ S b2) (h0 : J [] W) :
    CallsIn Fence.wide n Try.prog 118 #[.func (.yield l) #[] #[], .pointer (some ⟨b1, 0, none⟩), .pointer (some ⟨b2, 0, none⟩)] W fun e W' => (∃ v, e = .returned v) ∧
      ((∃ ys : List (MkT (marksL xs N) N), ys.map (fun j => (j.val : Int)) = (thoseL (marksL xs N)).reverse ∧ J ys W') ∨ (∃ pre : List (MkT (marksL xs N) N), True ∧ Jx pre W')) := by
  have hl1 := hr.le
  have hl2 := hr.cap
  have HC : Hid (CallsIn Fence.wide (n - 1) Try.prog 61 #[.slice A m c, .int .i64 (N : Int)] W fun e w' => e = .returned (.tuple #[.slice (some ⟨W.heap.size, 0, none⟩) N N, .bool (allIn xs N)]) ∧ Bk w' W.heap.size 4 (bv (marksL xs N)) ∧ Below W.heap.size W w') := callsIn_wide.2 (marks_any A m c xs N W hr hxs hN)
  have HML : Hid ((marksL xs N).length = N) := by show _ = _; simp
  have HJ := Lib.hid hJ
  have HS := Lib.hid hS
  have hn1 : 1 ≤ n := by omega
  have hf : Fence.wide.fn 61 := trivial
  clear hr hxs hJ hS
  refine callsIn_of_wp Try.func118 rfl trivial ?_ rfl
  simp only [Try.ntmps118, List.size_toArray, List.length_cons, List.length_nil, Nat.reduceAdd, Nat.reduceSub, Array.replicate_succ, Array.replicate_zero, List.push_toArray, List.append_toArray, List.nil_append, List.cons_append]
  gi_wp2_with (gi_at_call 61; refine HC.out.mono ?_; rintro e W1 ⟨rfl, hbk, hB⟩; have HBK := Lib.hid hbk; have h2 := keep_cell h2 hB; have HJ1 : Hid (J [] W1) := HJ.out [] W W1 none h0 ⟨hB.os, hB.tape, hB.output, hB.size, fun k hk _ => hB.block k hk⟩ (fun r e => by cases e); clear hbk hB)
  have hgm := HBK.out.lt
  generalize hms : marksL xs N = ms at *
  clear hms
  gi_loopw [6] (fun v wr => ∃ (j : Nat) (hj : j ≤ N), v = .int .i64 ((N : Int) - 1 - j) ∧ J (dnM ms N j hj) wr ∧ Hid (Bk wr W.heap.size 4 (bv ms)))
    (fun v _ => (intOf v + 1).toNat)
  case atStart => exact ⟨0, Nat.zero_le _, by go_num, HJ1.out, HBK⟩
  case round =>
    obtain ⟨j, hj, rfl, hJs, HBr⟩ := hrel
    by_cases hlt : j < N
    · obtain ⟨i, hi⟩ : ∃ i : Nat, i = N - 1 - j := ⟨_, rfl⟩
      have hv : (N : Int) - 1 - j = (i : Int) := by omega
      rw [hv]
      have hiN : i < N := by omega
      have hck := HBr.out.bit i (by have := HML.out; omega)
      have hnext : (N : Int) - 1 - ((j + 1 : Nat) : Int) = (i : Int) - 1 := by omega
      have HNX := Lib.hid hnext
      have HI := Lib.hid hi
      clear hv hi hnext
      cases hbit : bit ms i with
      | true =>
        rw [hbit] at hck
        have hex : ∃ x : MkT ms N, x.val = i ∧ dnM ms N (j + 1) hlt = dnM ms N j hj ++ [x] := ⟨⟨i, hiN, hbit⟩, rfl, by
          have e := HI.out
          subst e
          simp [dnM, hbit]⟩
        obtain ⟨x, hxv, hU⟩ := hex
        obtain ⟨fn, tmps, assign, body, hy, hR⟩ := hY _ x wr hJs (by have := dnM_length ms N j hj; omega)
        dsimp only [encF] at hy
        rw [hxv] at hy
        have HU := Lib.hid hU
        clear hxv hU hbit
        gi_wp2
        refine hR.mono ?_
        rintro e W3 (⟨rfl, hJ3, hk3⟩ | ⟨rfl, hJx3⟩)
        · have HB3 := Lib.hid (hk3.bk HBr.out HS.out)
          gi_wp2
          go_roundw
          case rel => exact ⟨j + 1, hlt, by rw [HNX.out], by rw [HU.out]; exact hJ3, HB3⟩
          case measure => simp [intOf] <;> omega
        · gi_wp2
          refine bodyPost_ret (results_none rfl _ _ _) rfl ?_
          exact ⟨⟨_, rfl⟩, .inr ⟨_, trivial, hJx3⟩⟩
      | false =>
        rw [hbit] at hck
        have HU : Hid (dnM ms N (j + 1) hlt = dnM ms N j hj) := by
          show _ = _
          have e := HI.out
          subst e
          simp [dnM, hbit]
        clear hbit
        gi_wp2
        refine ⟨fun _ h => (by cases h), ?_⟩
        gi_wp2
        go_roundw
        case rel => exact ⟨j + 1, hlt, by rw [HNX.out], by rw [HU.out]; exact hJs, HBr⟩
        case measure => simp [intOf] <;> omega
    · obtain rfl : j = N := by omega
      gi_wp2
      go_end0
      exact ⟨⟨_, rfl⟩, .inl ⟨_, dnM_all ms j HML.out, hJs⟩⟩

theorem falling_any (A : Option Addr) (m c : Nat) (k : Int) (w : World) :
    Calls Try.prog 98 #[.slice A m c, .int .i64 k] w fun e w' => e = .returned (.func (.func 118) #[] #[.pointer (some ⟨w.heap.size, 0, none⟩), .pointer (some ⟨w.heap.size + 1, 0, none⟩)]) ∧ w' = (w.alloc (.cells #[.slice A m c] 23)).alloc (.cells #[.int .i64 k] 3) := by
  go_enter Try.func98, Try.ntmps98
  go_wp2
  go_ret
  exact ⟨rfl, rfl⟩

theorem falling_stops (n : Nat) (hn : 2 ≤ n) (b1 b2 N : Nat) (S : Nat → Prop) (A : Option Addr) (m c : Nat) (xs : List Int) (hxs : xs.length = m) (hN : N ≤ 1000) (w : World) (hS : ∀ k, S k → k < w.heap.size) (hS2 : ¬ S b2)
    (h1 : w.cell? ⟨b1, 0, none⟩ = some (.slice A m c)) (h2 : w.cell? ⟨b2, 0, none⟩ = some (.int .i64 N)) (hr : Rd w A m c (iv .i64 xs)) :
    SeqStopsK Fence.wide n Try.prog 118 #[.pointer (some ⟨b1, 0, none⟩), .pointer (some ⟨b2, 0, none⟩)] (encF (marksL xs N) N) (KeepC S) (fun ys : List (MkT (marksL xs N) N) => ys.map (fun j => (j.val : Int)) = (thoseL (marksL xs N)).reverse) (fun _ => True) N w := fun l J Jx W hW hJ _ hY h0 =>
  falling1_in n hn l b1 b2 N S A m c xs hxs hN J Jx W (fun h => by have := hS _ h; have := hW.size; omega) hJ hY (keep_cell h1 hW) (keep_cell h2 hW) (keep_cell h2 hW) (hr.below hW) hS2 h0
end Go.Proofs.Ytpicagcapgjiaaa
