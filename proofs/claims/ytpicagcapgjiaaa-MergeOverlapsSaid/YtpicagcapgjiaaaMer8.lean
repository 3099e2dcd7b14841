/- Walks of merge's laws: few, live. -/
import Derived.Test.YtpicagcapgjiaaaMer7
set_option linter.unusedSimpArgs false
set_option linter.unusedVariables false
namespace Go.Proofs.Ytpicagcapgjiaaa
open Go.RowKit Go.Sel Go.Sel.Gra Go.Sel.Mer Go.Shelf

def few1 (x : It) : It := { x with ds := x.ds.take 24 }
def fewI (L : List It) : List It := (L.take 24).map few1
def cutI (s : Option Addr × Nat × Nat) : Option Addr × Nat × Nat := (s.1, min s.2.1 24, s.2.2)
@[simp] theorem fewI_length (L : List It) : (fewI L).length = min 24 L.length := by simp [fewI]
theorem infoItem : (Try.prog.info? 44).map (fun i => (i.zero, i.size, i.bytes)) = some (some (.agg #[.int .i64 0, .int .i64 0, .string ⟨#[]⟩, .slice none 0 0]), 4, 56) := by kernel_rfl

section
variable {P : Program} {ops : Array Oper} {o : Oper} {a : Act} {Q : Exit → Act → World → Prop}
theorem wpList_pushH {Wg : World} (W : World) {rest : List Oper} (hgd : o.guard = none) (s x : Operand) (t e : TypeId)
    (ho : o.op = .call { callee := .builtin .append, args := #[s, x], argTypes := #[t, t] }) (base : Nat) (z : Value) (size bytes : Nat)
    (ht : P.underlying t = some (.slice e)) (hinfo : (P.info? e).map (fun i => (i.zero, i.size, i.bytes)) = some (some z, size, bytes)) (hz : z.cells.size = size) (hs0 : 0 < size) (hb0 : 0 < bytes)
    (v : Value) (n : Nat) (xs ys : List Value) (hs : a.eval s = v) (H : Nat) (hx : a.eval x = .slice (some ⟨H, 0, none⟩) 1 1) (hH : W.heap.size = H) (hys : ys.length = size) (h1 : ∀ u ∈ ys, u.oneCell' = true)
    (HO : W.ownsRow base e size v n xs) (hbase : base ≤ W.heap.size) (hl : (n + 1) * bytes ≤ 140737488355328) (hW : Wg = W.alloc (.cells ys.toArray e))
    (h : ∀ g cap w1, w1.ownsRow base e size (.slice (some ⟨g, 0, none⟩) (n + 1) cap) (n + 1) (xs ++ ys) → W.grownBy w1 v.ownBlock → (v.ownBlock = some g ∨ W.heap.size ≤ g) → g < w1.heap.size → wpList P ops Q rest (a.put o.dst (.slice (some ⟨g, 0, none⟩) (n + 1) cap)) w1) :
    wpList P ops Q (o :: rest) a Wg := by
  subst hH
  exact wpList_pushN W hgd s x t e ho base z size bytes ht hinfo hz hs0 hb0 v n xs ys hs hx hys h1 HO hbase hl hW h
end
set_option maxRecDepth 100000 in
set_option maxHeartbeats 4000000 in
theorem mfew_any (A : Option Addr) (n c : Nat) (L : List It) (w : World) (hL : Ip w A n c L) :
    Calls Try.prog 22 #[.slice A n c] w fun e w' => (∃ A' c', e = .returned (.slice A' (min n 24) c') ∧ Ip w' A' (min n 24) c' (fewI L)) ∧ Below w.heap.size w w' := by
  have l1 := hL.le
  have l2 := hL.cap
  have hN : min n 24 ≤ n ∧ min n 24 ≤ 24 := by omega
  have hq : (24 < n ∧ min n 24 = 24) ∨ (n ≤ 24 ∧ min n 24 = n) := by omega
  obtain ⟨ss, hS⟩ := hL
  have HS := Lib.hid hS
  have HLN := Lib.hid hS.len
  have HSN := Lib.hid hS.slen
  clear hS
  generalize hNN : min n 24 = N at *
  have HNN := Lib.hid hNN
  clear hNN
  obtain ⟨hN1, hN2⟩ := hN
  go_enter Try.func22, Try.ntmps22
  go_upto_if 8 with (fail)
  go_cut [0] (fun v0 wx => v0 = .slice A N c ∧ w = wx)
  case first =>
    rcases hq with ⟨hq1, rfl⟩ | ⟨hq1, rfl⟩
    · have hq3 : decide ((24 : Int) < (n : Int)) = true := by simp; omega
      go_wp2
      go_meet
      exact ⟨rfl, rfl⟩
    · have hq3 : decide ((24 : Int) < (N : Int)) = false := by simp; omega
      go_wp2
      go_meet
      exact ⟨rfl, rfl⟩
  case rest =>
    obtain ⟨rfl, rfl⟩ := hcut
    clear hq
    go_wp2
    go_loopw [3, 4, 5] (fun v i _ wr => ∃ k : Nat, k ≤ N ∧ i = .int .i64 k ∧ Hid (wr.ownsRow w.heap.size 44 4 v k (itvs ((fewI L).take k) ((ss.map cutI).take k))) ∧ Hid (Below w.heap.size w wr)) (fun _ i _ _ => N - (intOf i).toNat)
    case atStart => exact ⟨0, by omega, rfl, (by show World.ownsRow _ _ _ _ _ _ _; simpa [itvs] using World.ownsRow_nil _ _ _ _), Below.refl _ _⟩
    case round =>
      obtain ⟨k, hk, rfl, HO, HW⟩ := hrel
      by_cases hlt : k < N
      · have hks : k < ss.length := by have := HSN.out; omega
        have hkL : k < L.length := by have := HLN.out; omega
        obtain ⟨b, off, rfl, hb, c0, c1, c2, c3⟩ := (HS.out.below HW.out).at_ (show k < n by omega)
        have hd := HS.out.deps k hks
        have HTK : Hid (itvs ((fewI L).take (k + 1)) ((ss.map cutI).take (k + 1)) = itvs ((fewI L).take k) ((ss.map cutI).take k) ++ itv (few1 (nthI L k)) (cutI ss[k])) := by
          show _ = _
          have h1 : k < (fewI L).length := by rw [fewI_length]; omega
          have h2 : k < (ss.map cutI).length := by simpa using hks
          rw [List.take_succ_eq_append_getElem h1, List.take_succ_eq_append_getElem h2, itvs_snoc (by rw [List.length_take, List.length_take]; omega)]
          rw [List.getElem_map, nthI_get hkL]
          simp [fewI]
        have hrr : ss[k].2.1 ≤ ss[k].2.2 ∧ ss[k].2.2 ≤ 9223372036854775807 := ⟨hd.2.le, hd.2.cap⟩
        clear hd
        generalize hx : nthI L k = x at *
        obtain ⟨xb, xo, xs, xds⟩ := x
        simp only at c0 c1 c2
        generalize hs : ss[k] = q at *
        obtain ⟨qa, qn, qc⟩ := q
        simp only [sv] at c3
        simp only [few1, cutI, itv, sv] at HTK
        obtain ⟨r1, r2⟩ := hrr
        simp only at r1 r2
        clear hx hs
        rcases (show 24 < qn ∨ qn ≤ 24 by omega) with hl | hl
        · rw [Nat.min_eq_right (by omega)] at HTK
          go_wp2_with (at_builtin; refine wpList_pushH (wr.alloc (.cells #[.int .i64 xb, .int .i64 xo, .string xs, .slice qa 24 qc] 44)) rfl (.tmp 29) (.tmp 31) 33 44 rfl w.heap.size (.agg #[.int .i64 0, .int .i64 0, .string ⟨#[]⟩, .slice none 0 0]) 4 56 Try.underlying33 infoItem rfl (by omega) (by omega) _ k _ [.int .i64 xb, .int .i64 xo, .string xs, .slice qa 24 qc] rfl (wr.heap.size + 1) rfl (by simp) rfl (by simp [Value.oneCell']) (HO.out.alloc _) (by have := HW.out.size; simp; omega) (by omega) rfl ?_; intro g cap w1 ho hg hat hlt1; have HO1 := Lib.hid ho; have HW1 := Lib.hid (below_grown (below_then HW.out (below_al _ _)) hg (by have := HW.out.size; simp; omega) (own_row HO.out)); clear ho hg hat)
          go_roundw
          case rel => exact ⟨k + 1, by omega, by go_num, by rw [HTK.out]; exact HO1.out, HW1⟩
          case measure => simp [intOf] <;> omega
        · rw [Nat.min_eq_left hl] at HTK
          go_wp2_with (at_builtin; refine wpList_pushH (wr.alloc (.cells #[.int .i64 xb, .int .i64 xo, .string xs, .slice qa qn qc] 44)) rfl (.tmp 29) (.tmp 31) 33 44 rfl w.heap.size (.agg #[.int .i64 0, .int .i64 0, .string ⟨#[]⟩, .slice none 0 0]) 4 56 Try.underlying33 infoItem rfl (by omega) (by omega) _ k _ [.int .i64 xb, .int .i64 xo, .string xs, .slice qa qn qc] rfl (wr.heap.size + 1) rfl (by simp) rfl (by simp [Value.oneCell']) (HO.out.alloc _) (by have := HW.out.size; simp; omega) (by omega) rfl ?_; intro g cap w1 ho hg hat hlt1; have HO1 := Lib.hid ho; have HW1 := Lib.hid (below_grown (below_then HW.out (below_al _ _)) hg (by have := HW.out.size; simp; omega) (own_row HO.out)); clear ho hg hat)
          go_roundw
          case rel => exact ⟨k + 1, by omega, by go_num, by rw [HTK.out]; exact HO1.out, HW1⟩
          case measure => simp [intOf] <;> omega
      · obtain rfl : k = N := by omega
        obtain ⟨A5, c5, rfl, hl5, hr5⟩ := rd_ownN (by omega) HO.out
        have HR5 := Lib.hid hr5
        clear hr5 hl5
        go_wp2
        go_ret
        have hfl : (fewI L).length = k := by rw [fewI_length]; have := HLN.out; have := HNN.out; omega
        have e1 : (fewI L).take k = fewI L := List.take_of_length_le (by omega)
        refine ⟨⟨A5, c5, rfl, (ss.map cutI).take k, hfl, by rw [List.length_take, List.length_map]; have := HSN.out; omega, by have := HR5.out; rwa [e1] at this, fun j hj => ?_⟩, HW.out⟩
        have hj' : j < k ∧ j < ss.length := by simp at hj; omega
        have h4 := (HS.out.below HW.out).deps j hj'.2
        have hjL : j < L.length := by have := HLN.out; omega
        have e2 : (nthI (fewI L) j).ds = (nthI L j).ds.take 24 := by
          rw [nthI_get (by omega), nthI_get hjL]
          simp [fewI, few1]
        rw [e2]
        simp only [List.getElem_take, List.getElem_map, cutI]
        refine ⟨by rw [List.length_take, h4.1]; exact Nat.min_comm _ _, ?_⟩
        by_cases hjl : (nthI L j).ds.length ≤ 24
        · have e : List.take 24 (nthI L j).ds = (nthI L j).ds := List.take_of_length_le hjl
          have e2 : min ss[j].2.1 24 = ss[j].2.1 := Nat.min_eq_left (by rw [← h4.1]; exact hjl)
          rw [e, e2]; exact h4.2
        · have e2 : min ss[j].2.1 24 = 24 := Nat.min_eq_right (by have := h4.1; omega)
          rw [e2]
          have := Rd.upto h4.2 24 (by have := h4.1; omega)
          rwa [iv, ← List.map_take] at this
end Go.Proofs.Ytpicagcapgjiaaa
