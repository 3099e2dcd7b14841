/- Walks of the statements' helpers: whether both tell the same; live. -/
import Derived.Test.YtbflmgpcjfoifaaGr1
import Derived.Test.YtbflmgpcjfoifaaGq11
import Derived.Test.YtbflmgpcjfoifaaMb1
set_option linter.unusedSimpArgs false
set_option linter.unusedVariables false
namespace Go.Proofs.Ytbflmgpcjfoifaa
open Go.RowKit Go.Sel Go.Sel.Gp

theorem below_q {w w' : World} (h : Below w.heap.size w w') (q : Nat) : Below w.heap.size w (w'.drewN q) := h.trans ((Sel.below_drewN w' q).mono h.size)
theorem below_j {w a b : World} (h : Below w.heap.size w a) (k : Below a.heap.size a b) : Below w.heap.size w b := h.trans (k.mono h.size)

set_option maxRecDepth 100000 in
set_option maxHeartbeats 8000000 in
theorem same_any (F : Nat → Prop) (w : World) (gb rb : Nat) (S : List G) (next : Int) (k : Nat) (h : BT F w gb rb S next) (hi : Inv S next k) (hk : k ≤ 1000) :
    Calls Try.prog 23 #[.pointer (some ⟨gb, 0, none⟩), .pointer (some ⟨rb, 0, none⟩)] w fun e w' => e = .returned (.bool true) ∧ Below w.heap.size w w' := by
  obtain ⟨Fg, Fr0, hg, hr, hd, hF⟩ := h
  have HGP : Hid (∀ w', Below w.heap.size w w' → GP Fg w' gb S next) := fun w' hB => hg.below hB
  have HRP : Hid (∀ w', Below w.heap.size w w' → GR Fr0 w' rb S next) := fun w' hB => hr.below hB
  have HI := Lib.hid hi
  have HOK := Lib.hid hi.ok
  have HPT : Hid (∀ n, (patchesS S n).length ≤ 1000000 ∧ (patchesS S n).Pairwise (· < ·) ∧ ∀ x ∈ patchesS S n, -9223372036854775808 ≤ x ∧ x ≤ 9223372036854775807) := fun n => ⟨by have := (hi.patches n).2.2; omega, (hi.patches n).1, fun x hx => by have := (hi.patches n).2.1 x hx; omega⟩
  have HWF := Lib.hid (hi.wf (by omega))
  have HAH : Hid ((Ah S).length ≤ 1000000) := by show _ ≤ _; have := hi.ahS; omega
  have HPS : Hid ((Ps S).length ≤ 1000000) := by show _ ≤ _; have := hi.psS; omega
  have hl := hi.len
  have HBH : Hid (∀ x ∈ behindS S, -9223372036854775808 ≤ x ∧ x ≤ 9223372036854775807) := fun x hx => by have := hi.behind x hx; omega
  have HBL : Hid ((behindS S).length ≤ 1000000) := by show _ ≤ _; have := hi.behindl; omega
  clear hg hr hd hF hi
  go_enter Try.func23, Try.ntmps23
  go_wp2
  go_loopw [5] (fun v wr => ∃ j : Nat, j ≤ 31 ∧ v = .int .i64 ((j : Int) - 1) ∧ Hid (Below w.heap.size w wr)) (fun v _ => 31 - (intOf v + 1).toNat)
  case atStart => exact ⟨0, by omega, by go_num, Below.refl _ _⟩
  case round =>
    obtain ⟨j, hj, rfl, HB⟩ := hrel
    by_cases hlt : j < 31
    · obtain ⟨n, hn⟩ : ∃ n : Int, n = (j : Int) - 1 := ⟨_, rfl⟩
      rw [← hn]
      have hnj : ((j + 1 : Nat) : Int) - 1 = n + 1 := by omega
      have hn30 : n < 30 := by omega
      have hn0 : -1 ≤ n := by omega
      have HNJ := Lib.hid hnj
      have HNN := Lib.hid hn
      clear hnj hn
      go_wp2_with (first
        | (go_at_call 15; (with_reducible refine (pState_any Fg _ gb S next (HGP.out _ HB.out) n).mono ?_); rintro e w2 ⟨rfl, hw⟩; subst w2)
        | (go_at_call 45; (with_reducible refine (rState_any Fr0 _ rb S next (HRP.out _ HB.out) n).mono ?_); rintro e w2 ⟨rfl, hw⟩; subst w2)
        | (go_at_call 16; (with_reducible refine (pPatches_any Fg _ gb S next (HGP.out _ HB.out) n (HPT.out n).1 (HPT.out n).2.1 (HPT.out n).2.2).mono ?_); rintro e wa ⟨⟨v, rfl, A1, c1, rfl, hr1⟩, hBa⟩; have HBa := Lib.hid (below_j HB.out hBa); have HR1 := Lib.hid hr1; clear hr1 hBa)
        | (go_at_call 46; (with_reducible refine (rPatches_any Fr0 _ rb S next (HRP.out _ HBa.out) n (HPT.out n).1).mono ?_); rintro e wb ⟨⟨A2, c2, rfl, hr2⟩, hBb⟩; have HBb := Lib.hid (below_j HBa.out hBb); have HR2 := Lib.hid hr2; have HR1b := Lib.hid (HR1.out.below hBb); have l1 := HR1b.out.le; have l2 := HR2.out.le; have l3 := HR1b.out.cap; have l4 := HR2.out.cap; clear hr2 hBb)
        | (go_at_call 18; (with_reducible refine (Same1_any A1 A2 (patchesS S n).length (patchesS S n).length c1 c2 (patchesS S n) (patchesS S n) _ HR1b.out HR2.out rfl rfl).mono ?_); rintro e wq ⟨rfl, q, rfl⟩; have HBq := Lib.hid (below_q HBb.out q); clear HR1b HR2)
        | (go_at_call 14; (with_reducible refine (pAhead_any Fg _ gb S next (HGP.out _ HBq.out) n HOK.out (by omega) HWF.out).mono ?_); rintro e wc ⟨⟨v, rfl, A3, c3, rfl, hr3⟩, hBc⟩; have HBc := Lib.hid (below_j HBq.out hBc); have HR3 := Lib.hid hr3; clear hr3 hBc)
        | (go_at_call 47; (with_reducible refine (rAhead_any Fr0 _ rb S next (HRP.out _ HBc.out) n (by omega) HAH.out HI.out.pos).mono ?_); rintro e wd ⟨⟨v, rfl, A4, c4, rfl, hr4⟩, hBd⟩; have HBd := Lib.hid (below_j HBc.out hBd); have HR4 := Lib.hid hr4; have HR3d := Lib.hid (HR3.out.below hBd); clear hr4 hBd)
        | (go_at_call 18; (with_reducible refine (Same1_any A3 A4 (aheadS S n).length (aheadS S n).length c3 c4 (aheadS S n) (aheadS S n) _ HR3d.out HR4.out rfl rfl).mono ?_); rintro e wq ⟨rfl, q4, rfl⟩; have HBr := Lib.hid (below_q HBd.out q4); clear HR3d HR4))
      go_roundw
      case rel => exact ⟨j + 1, by omega, by rw [HNJ.out], HBr⟩
      case measure => simp [intOf] <;> omega
    · obtain rfl : j = 31 := by omega
      go_wp2_with (first
        | (go_at_call 24; (with_reducible refine (pBehind_any Fg _ gb S next (HGP.out _ HB.out) HOK.out (by omega) HI.out.rise HWF.out HBH.out HBL.out).mono ?_); rintro e wa ⟨⟨v, rfl, A1, c1, rfl, hr1⟩, hBa⟩; have HBa := Lib.hid (below_j HB.out hBa); have HR1 := Lib.hid hr1; clear hr1 hBa)
        | (go_at_call 48; (with_reducible refine (rBehind_any Fr0 _ rb S next (HRP.out _ HBa.out) (by omega) HAH.out HPS.out HI.out.pos).mono ?_); rintro e wb ⟨⟨v, rfl, A2, c2, rfl, hr2⟩, hBb⟩; have HBb := Lib.hid (below_j HBa.out hBb); have HR2 := Lib.hid hr2; have HR1b := Lib.hid (HR1.out.below hBb); clear hr2 hBb)
        | (go_at_call 18; (with_reducible refine (Same1_any A1 A2 (behindS S).length (behindS S).length c1 c2 (behindS S) (behindS S) _ HR1b.out HR2.out rfl rfl).mono ?_); rintro e wq ⟨rfl, q, rfl⟩; have HBq := Lib.hid (below_q HBb.out q); clear HR1b HR2)
        | (go_at_call 25; (with_reducible refine (pEngaged_any Fg _ gb S next (HGP.out _ HBq.out) (by omega) HI.out.rise HWF.out).mono ?_); rintro e wc ⟨⟨v, rfl, A3, c3, rfl, hr3⟩, hBc⟩; have HBc := Lib.hid (below_j HBq.out hBc); have HR3 := Lib.hid hr3; clear hr3 hBc)
        | (go_at_call 49; (with_reducible refine (rEngaged_any Fr0 _ rb S next (HRP.out _ HBc.out) (by omega)).mono ?_); rintro e wd ⟨⟨A4, c4, rfl, hr4⟩, hBd⟩; have HBd := Lib.hid (below_j HBc.out hBd); have HR4 := Lib.hid hr4; have HR3d := Lib.hid (HR3.out.below hBd); clear hr4 hBd)
        | (go_at_call 18; (with_reducible refine (Same1_any A3 A4 (engagedS S).length (engagedS S).length c3 c4 (engagedS S) (engagedS S) _ HR3d.out HR4.out rfl rfl).mono ?_); rintro e wq ⟨rfl, q4, rfl⟩; have HBr := Lib.hid (below_q HBd.out q4); clear HR3d HR4))
      go_ret
      exact ⟨rfl, HBr.out⟩
end Go.Proofs.Ytbflmgpcjfoifaa
/- Walks of the statements' helpers: deeds that came in, play, live. -/
set_option linter.unusedSimpArgs false
set_option linter.unusedVariables false
namespace Go.Sel.Gp
structure D3 where
  k : Int
  n : Int
  m : Int
def nthD (L : List D3) (i : Nat) : D3 := L.getD i ⟨0, 0, 0⟩
theorem nthD_get {L : List D3} {i : Nat} (h : i < L.length) : nthD L i = L[i] := by simp [nthD, List.getD_eq_getElem?_getD, h]
def stepS (s : List G × Int) (d : D3) : List G × Int := doS s.1 s.2 d.k d.n d.m
def goK (s : List G × Int) (L : List D3) (j : Nat) : List G × Int := (L.take j).foldl stepS s
def playK (L : List D3) (j : Nat) : List G × Int := goK ([], 1) L j
theorem goK_succ (s : List G × Int) {L : List D3} {j : Nat} (h : j < L.length) : goK s L (j + 1) = doS (goK s L j).1 (goK s L j).2 (nthD L j).k (nthD L j).n (nthD L j).m := by
  rw [goK, List.take_succ_eq_append_getElem h, List.foldl_append, nthD_get h]
  rfl
theorem goK_inv {s : List G × Int} {k : Nat} (hs : Inv s.1 s.2 k) {L : List D3} (hm : ∀ d ∈ L, d.m ≤ 9223372036854775807) (j : Nat) : Inv (goK s L j).1 (goK s L j).2 (k + j) := by
  induction j with
  | zero => exact hs
  | succ j ih =>
    by_cases h : j < L.length
    · rw [goK_succ s h]
      refine ih.deed _ _ _ ?_
      rw [nthD_get h]
      exact hm _ (List.getElem_mem h)
    · have e : goK s L (j + 1) = goK s L j := by rw [goK, goK, List.take_of_length_le (by omega), List.take_of_length_le (by omega)]
      rw [e]
      exact ih.mono (by omega)
end Go.Sel.Gp
namespace Go.Proofs.Ytbflmgpcjfoifaa
open Go.RowKit Go.Sel Go.Sel.Gp

def dvs : List D3 → List Value
  | [] => []
  | d :: L => .int .i64 d.k :: .int .i64 d.n :: .int .i64 d.m :: dvs L
theorem dvs_length (L : List D3) : (dvs L).length = L.length * 3 := by
  induction L with
  | nil => rfl
  | cons d L ih => simp [dvs, ih]; omega
theorem dvs_at : ∀ {L : List D3} {i : Nat} (hi : i < L.length), (dvs L)[i * 3]? = some (.int .i64 L[i].k) ∧ (dvs L)[i * 3 + 1]? = some (.int .i64 L[i].n) ∧ (dvs L)[i * 3 + 2]? = some (.int .i64 L[i].m)
  | [], i, hi => by simp at hi
  | d :: L, 0, _ => ⟨rfl, rfl, rfl⟩
  | d :: L, i + 1, hi => by
    have h := dvs_at (L := L) (i := i) (by simpa using hi)
    have e0 : (i + 1) * 3 = i * 3 + 1 + 1 + 1 := by omega
    rw [e0]
    exact ⟨h.1, h.2.1, h.2.2⟩
/-- '.slice A n c' reads as the deeds L. -/
structure Dd (w : World) (A : Option Addr) (n c : Nat) (L : List D3) : Prop where
  len : L.length = n
  rd : Rd w A n c (dvs L)
  bd : ∀ d ∈ L, d.m ≤ 9223372036854775807
section
variable {w w' : World} {A : Option Addr} {n c : Nat} {L : List D3}
theorem Dd.below (h : Dd w A n c L) (hb : Below w.heap.size w w') : Dd w' A n c L := ⟨h.len, h.rd.below hb, h.bd⟩
theorem Dd.at_ (h : Dd w A n c L) {i : Nat} (hi : i < n) :
    ∃ b off, A = some ⟨b, off, none⟩ ∧ w.cell? ⟨b, off + i * 3, none⟩ = some (.int .i64 (nthD L i).k) ∧ w.cell? ⟨b, off + i * 3 + 1, none⟩ = some (.int .i64 (nthD L i).n) ∧ w.cell? ⟨b, off + i * 3 + 2, none⟩ = some (.int .i64 (nthD L i).m) := by
  have hl := h.len
  obtain ⟨b, off, rfl, hb, hc⟩ := h.rd.form (by rw [dvs_length]; omega)
  have hi1 : i < L.length := by omega
  obtain ⟨a0, a1, a2⟩ := dvs_at hi1
  have hat : ∀ t (ht : t < 3) v, (dvs L)[i * 3 + t]? = some v → w.cell? ⟨b, off + i * 3 + t, none⟩ = some v := fun t ht v hv => by
    have h5 := hc (i * 3 + t) (by rw [dvs_length]; omega)
    rw [List.getElem?_eq_getElem (by rw [dvs_length]; omega)] at hv
    rw [Nat.add_assoc, h5]
    exact hv
  rw [nthD_get hi1]
  exact ⟨b, off, rfl, hat 0 (by omega) _ a0, hat 1 (by omega) _ a1, hat 2 (by omega) _ a2⟩
end
/-- The program's groups, in blocks of the call's own. -/
def GL (base : Nat) (w0 w : World) (gb : Nat) (S : List G) (next : Int) : Prop := ∃ F, GP F w gb S next ∧ (∀ b, F b → base ≤ b) ∧ Below base w0 w
theorem GL.next {base : Nat} {w0 w : World} {gb : Nat} {S S' : List G} {next next' : Int} (h : GL base w0 w gb S next) (hb : base ≤ w.heap.size) {P : Program} {f : Nat} {args : Array Value} {r : Ending}
    (hc : ∀ F, GP F w gb S next → Calls P f args w fun e w' => e = r ∧ GPn F w w' gb S' next') : Calls P f args w fun e w' => e = r ∧ GL base w0 w' gb S' next' ∧ base ≤ w'.heap.size := by
  obtain ⟨F, h1, h2, h3⟩ := h
  refine (hc F h1).mono ?_
  rintro e w' ⟨he, F', g1, g2, g3⟩
  refine ⟨he, ⟨F', g1, fun b hb' => ?_, h3.trans (g2.below hb h2)⟩, Nat.le_trans hb g2.size⟩
  rcases g3 b hb' with h | h
  · exact h2 b h
  · omega
/-- Both, in blocks of the call's own. -/
def BL (base : Nat) (w0 w : World) (gb rb : Nat) (S : List G) (next : Int) : Prop := ∃ F, BT F w gb rb S next ∧ (∀ b, F b → base ≤ b) ∧ Below base w0 w ∧ base ≤ w.heap.size
theorem BL.next {base : Nat} {w0 w w' : World} {gb rb : Nat} {S S' : List G} {next next' : Int} (h : BL base w0 w gb rb S next) (hc : ∀ F, BT F w gb rb S next → BTn F w w' gb rb S' next') : BL base w0 w' gb rb S' next' := by
  obtain ⟨F, h1, h2, h3, hb⟩ := h
  obtain ⟨F', g1, g2, g3⟩ := hc F h1
  refine ⟨F', g1, fun b hb' => ?_, h3.trans (g2.below hb h2), Nat.le_trans hb g2.size⟩
  rcases g3 b hb' with h | h
  · exact h2 b h
  · omega
theorem BL.calls {base : Nat} {w0 w : World} {gb rb : Nat} {S S' : List G} {next next' : Int} (h : BL base w0 w gb rb S next) {P : Program} {f : Nat} {args : Array Value} {r : Ending}
    (hc : ∀ F, BT F w gb rb S next → Calls P f args w fun e w' => e = r ∧ BTn F w w' gb rb S' next') : Calls P f args w fun e w' => e = r ∧ BL base w0 w' gb rb S' next' := by
  obtain ⟨F, h1, h2, h3, hb⟩ := h
  refine (hc F h1).mono ?_
  rintro e w' ⟨he, F', g1, g2, g3⟩
  refine ⟨he, F', g1, fun b hb' => ?_, h3.trans (g2.below hb h2), Nat.le_trans hb g2.size⟩
  rcases g3 b hb' with h | h
  · exact h2 b h
  · omega

set_option maxRecDepth 100000 in
set_option maxHeartbeats 8000000 in
theorem play_any (A : Option Addr) (n c : Nat) (L : List D3) (w : World) (hL : Dd w A n c L) :
    Calls Try.prog 12 #[.slice A n c] w fun e w' => ∃ gb rb, e = .returned (.tuple #[.pointer (some ⟨gb, 0, none⟩), .pointer (some ⟨rb, 0, none⟩), .bool true]) ∧ BL w.heap.size w w' gb rb (playK L (min n 60)).1 (playK L (min n 60)).2 := by
  have HL := Lib.hid hL
  have HLN := Lib.hid hL.len
  have HBD := Lib.hid hL.bd
  have l1 := hL.rd.le
  have l2 := hL.rd.cap
  clear hL
  go_enter Try.func12, Try.ntmps12
  go_wp2_with (first
    | (go_at_call 31; (with_reducible refine (pNew_any _).mono ?_); rintro e w1 ⟨rfl, hg, hB⟩; have HG := Lib.hid hg; have HB1 := Lib.hid hB; clear hg hB)
    | (go_at_call 32; (with_reducible refine (rNew_any _).mono ?_); rintro e w2 ⟨rfl, hr, hB⟩; have HR := Lib.hid hr; have HB2 := Lib.hid hB; clear hr hB))
  obtain ⟨gb, hgb⟩ : ∃ gb, gb = w.heap.size + 1 := ⟨_, rfl⟩
  obtain ⟨rb, hrb⟩ : ∃ rb, rb = w1.heap.size := ⟨_, rfl⟩
  rw [← hgb, ← hrb]
  have HBL : Hid (BL w.heap.size w w2 gb rb (playK L 0).1 (playK L 0).2) := by
    have h1 := HB1.out.size
    have h2 := HB2.out.size
    refine ⟨fun b => (w.heap.size ≤ b ∧ b < w1.heap.size) ∨ b = w1.heap.size, ⟨fun b => w.heap.size ≤ b ∧ b < w1.heap.size, fun b => b = w1.heap.size, ?_, ?_, fun b hb e => by omega, fun b hb => hb⟩, fun b hb => by omega, below_j HB1.out HB2.out, by omega⟩
    · rw [hgb]; exact HG.out.below HB2.out
    · rw [hrb]; exact HR.out
  clear HG HR HB1 HB2 hgb hrb
  go_loopw [7] (fun v wr => ∃ j : Nat, j ≤ n ∧ j ≤ 60 ∧ v = .int .i64 (j : Int) ∧ Hid (BL w.heap.size w wr gb rb (playK L j).1 (playK L j).2)) (fun v _ => n - (intOf v).toNat)
  case atStart => exact ⟨0, by omega, by omega, rfl, HBL⟩
  case round =>
    clear HBL
    obtain ⟨j, hj, hj6, rfl, HB⟩ := hrel
    have hBw : Below w.heap.size w wr := by obtain ⟨F, _, _, h, _⟩ := HB.out; exact h
    by_cases hlt : j < n
    · by_cases h60 : j < 60
      · obtain ⟨b, off, rfl, c0, c1, c2⟩ := (HL.out.below hBw).at_ hlt
        have HNX := Lib.hid (goK_succ ([], 1) (L := L) (j := j) (by have := HLN.out; omega))
        have HIV := Lib.hid (goK_inv (s := ([], 1)) Inv.nil HBD.out j)
        have HC : Hid (Calls Try.prog 17 #[.pointer (some ⟨gb, 0, none⟩), .pointer (some ⟨rb, 0, none⟩), .agg #[.int .i64 (nthD L j).k, .int .i64 (nthD L j).n, .int .i64 (nthD L j).m]] wr fun e w' => e = .returned (.bool true) ∧ BL w.heap.size w w' gb rb (playK L (j + 1)).1 (playK L (j + 1)).2) := by
          refine HB.out.calls fun F hF => ?_
          have := do_any F wr gb rb _ _ (0 + j) hF HIV.out (by omega) (nthD L j).k (nthD L j).n (nthD L j).m
          rw [show playK L (j + 1) = doS (playK L j).1 (playK L j).2 (nthD L j).k (nthD L j).n (nthD L j).m from HNX.out]
          exact this
        clear hBw HIV HNX
        generalize (nthD L j).k = dk at *
        generalize (nthD L j).n = dn at *
        generalize (nthD L j).m = dm at *
        have e36 : decide ((j : Int) < 60) = true := by simp; omega
        go_wp2_with (go_at_call 17; (with_reducible refine HC.out.mono ?_); rintro e w3 ⟨rfl, hb⟩; have HB3 := Lib.hid hb; clear hb)
        go_roundw
        case rel => exact ⟨j + 1, by omega, by omega, by go_num, HB3⟩
        case measure => simp [intOf] <;> omega
      · obtain rfl : j = 60 := by omega
        have e1 : min n 60 = 60 := by omega
        go_wp2
        go_ret3
        exact ⟨gb, rb, rfl, by rw [e1]; exact HB.out⟩
    · obtain rfl : j = n := by omega
      have e1 : min j 60 = j := by omega
      go_wp2
      go_ret3
      exact ⟨gb, rb, rfl, by rw [e1]; exact HB.out⟩
end Go.Proofs.Ytbflmgpcjfoifaa
/- Walks of the statements' helpers: live. -/
set_option linter.unusedSimpArgs false
set_option linter.unusedVariables false
namespace Go.Proofs.Ytbflmgpcjfoifaa
open Go.RowKit Go.Sel Go.Sel.Gp

def v1 : List G := [⟨1, 1, [], []⟩]
def v2 : List G := [⟨1, 2, [], []⟩]
def v3 : List G := [⟨1, 2, [7], []⟩]
def v4 : List G := [⟨1, 3, [7], []⟩]
def v5 : List G := [⟨1, 4, [7], []⟩]
def v6 : List G := [⟨1, 4, [7], []⟩, ⟨2, 1, [], []⟩]
def v7 : List G := [⟨1, 4, [7], []⟩, ⟨2, 1, [], [1]⟩]
def v8 : List G := [⟨1, 4, [7], []⟩, ⟨2, 2, [], [1]⟩]
theorem live1 : makeS [] 1 = (1, 0, v1, 2) := by decide
theorem live2 : turnS v1 1 1 3 2 = (0, v2) := by decide
theorem live3 : tookS v2 7 = (0, v3) := by decide
theorem live4 : turnS v3 1 2 2 3 = (0, v4) := by decide
theorem live5 : turnS v4 1 1 3 4 = (0, v5) := by decide
theorem live6 : makeS v5 2 = (2, 0, v6, 3) := by decide
theorem live7 : dependS v6 2 1 = (0, v7) := by decide
theorem live8 : turnS v7 2 1 3 2 = (0, v8) := by decide
theorem live9 : behindS v8 = [7] := by decide
theorem live10 : stateS v8 1 = 4 := by decide
theorem live_inv : Inv v8 3 8 := by
  have h1 : Inv v1 2 1 := by have := Inv.nil.make; rw [live1] at this; exact this
  have h2 : Inv v2 2 2 := by have := h1.turn 1 1 3 2 (by decide) (by decide) (by decide); rw [live2] at this; exact this
  have h3 : Inv v3 2 3 := by have := h2.took 7 (by decide); rw [live3] at this; exact this
  have h4 : Inv v4 2 4 := by have := h3.turn 1 2 2 3 (by decide) (by decide) (by decide); rw [live4] at this; exact this
  have h5 : Inv v5 2 5 := by have := h4.turn 1 1 3 4 (by decide) (by decide) (by decide); rw [live5] at this; exact this
  have h6 : Inv v6 3 6 := by have := h5.make; rw [live6] at this; exact this
  have h7 : Inv v7 3 7 := by have := h6.depend 2 1; rw [live7] at this; exact this
  have h8 := h7.turn 2 1 3 2 (by decide) (by decide) (by decide)
  rw [live8] at h8
  exact h8

set_option maxRecDepth 100000 in
set_option maxHeartbeats 8000000 in
theorem live_any (w : World) : Calls Try.prog 13 #[] w fun e w' => e = .returned (.bool true) ∧ Below w.heap.size w w' := by
  have HI := Lib.hid live_inv
  go_enter Try.func13, Try.ntmps13
  go_upto_region 2 with (go_at_call 31; (with_reducible refine (pNew_any _).mono ?_); rintro e w1 ⟨rfl, hg, hB⟩; have HG1 : Hid (GL w.heap.size w w1 (w.heap.size + 1) [] 1) := ⟨_, hg, fun b hb => hb.1, hB⟩; have hs1 := hB.size; clear hg hB)
  have C1 : Hid (Calls Try.prog 21 #[.pointer (some ⟨w.heap.size + 1, 0, none⟩)] w1 fun e w' => e = .returned (.tuple #[.int .i64 1, .int .i64 0]) ∧ GL w.heap.size w w' (w.heap.size + 1) v1 2 ∧ w.heap.size ≤ w'.heap.size) := HG1.out.next hs1 fun F h => by
    have := pMake_any F w1 _ _ _ h (by simp) (by simp) (by decide) (by decide)
    rw [live1] at this
    exact this
  have C2 : Hid (∀ u, GL w.heap.size w u (w.heap.size + 1) v1 2 → w.heap.size ≤ u.heap.size → Calls Try.prog 19 #[.pointer (some ⟨w.heap.size + 1, 0, none⟩), .int .i64 1] u fun e w' => e = .returned (.int .i64 0) ∧ GL w.heap.size w w' (w.heap.size + 1) v2 2 ∧ w.heap.size ≤ w'.heap.size) := fun u hu hs => hu.next hs fun F h => by
    have := pEngage_any F u _ _ _ h 1
    rw [live2] at this
    exact this
  have C3 : Hid (∀ u, GL w.heap.size w u (w.heap.size + 1) v2 2 → w.heap.size ≤ u.heap.size → Calls Try.prog 27 #[.pointer (some ⟨w.heap.size + 1, 0, none⟩), .int .i64 7] u fun e w' => e = .returned (.int .i64 0) ∧ GL w.heap.size w w' (w.heap.size + 1) v3 2 ∧ w.heap.size ≤ w'.heap.size) := fun u hu hs => hu.next hs fun F h => by
    have := pTook_any F u _ _ _ h 7 (by decide) (by decide) (by simp [v2])
    rw [live3] at this
    exact this
  have C4 : Hid (∀ u, GL w.heap.size w u (w.heap.size + 1) v3 2 → w.heap.size ≤ u.heap.size → Calls Try.prog 30 #[.pointer (some ⟨w.heap.size + 1, 0, none⟩), .int .i64 1] u fun e w' => e = .returned (.int .i64 0) ∧ GL w.heap.size w w' (w.heap.size + 1) v4 2 ∧ w.heap.size ≤ w'.heap.size) := fun u hu hs => hu.next hs fun F h => by
    have := pDisengage_any F u _ _ _ h 1
    rw [live4] at this
    exact this
  have C5 : Hid (∀ u, GL w.heap.size w u (w.heap.size + 1) v4 2 → w.heap.size ≤ u.heap.size → Calls Try.prog 20 #[.pointer (some ⟨w.heap.size + 1, 0, none⟩), .int .i64 1] u fun e w' => e = .returned (.int .i64 0) ∧ GL w.heap.size w w' (w.heap.size + 1) v5 2 ∧ w.heap.size ≤ w'.heap.size) := fun u hu hs => hu.next hs fun F h => by
    have := pRelease_any F u _ _ _ h 1
    rw [live5] at this
    exact this
  have C6 : Hid (∀ u, GL w.heap.size w u (w.heap.size + 1) v5 2 → w.heap.size ≤ u.heap.size → Calls Try.prog 21 #[.pointer (some ⟨w.heap.size + 1, 0, none⟩)] u fun e w' => e = .returned (.tuple #[.int .i64 2, .int .i64 0]) ∧ GL w.heap.size w w' (w.heap.size + 1) v6 3 ∧ w.heap.size ≤ w'.heap.size) := fun u hu hs => hu.next hs fun F h => by
    have := pMake_any F u _ _ _ h (by decide) (by simp [v5]) (by decide) (by decide)
    rw [live6] at this
    exact this
  have C7 : Hid (∀ u, GL w.heap.size w u (w.heap.size + 1) v6 3 → w.heap.size ≤ u.heap.size → Calls Try.prog 29 #[.pointer (some ⟨w.heap.size + 1, 0, none⟩), .int .i64 2, .int .i64 1] u fun e w' => e = .returned (.int .i64 0) ∧ GL w.heap.size w w' (w.heap.size + 1) v7 3 ∧ w.heap.size ≤ w'.heap.size) := fun u hu hs => hu.next hs fun F h => by
    have := pDepend_any F u _ _ _ h 2 1
    rw [live7] at this
    exact this
  have C8 : Hid (∀ u, GL w.heap.size w u (w.heap.size + 1) v7 3 → w.heap.size ≤ u.heap.size → Calls Try.prog 19 #[.pointer (some ⟨w.heap.size + 1, 0, none⟩), .int .i64 2] u fun e w' => e = .returned (.int .i64 0) ∧ GL w.heap.size w w' (w.heap.size + 1) v8 3 ∧ w.heap.size ≤ w'.heap.size) := fun u hu hs => hu.next hs fun F h => by
    have := pEngage_any F u _ _ _ h 2
    rw [live8] at this
    exact this
  have C9 : Hid (∀ u, GL w.heap.size w u (w.heap.size + 1) v8 3 → Calls Try.prog 24 #[.pointer (some ⟨w.heap.size + 1, 0, none⟩)] u fun e w' => (∃ A c, e = .returned (.slice A 1 c) ∧ Rd w' A 1 c [.int .i64 7]) ∧ Below u.heap.size u w') := fun u hu => by
    obtain ⟨F, h, _, _⟩ := hu
    have hb := HI.out.behind
    have hl := HI.out.behindl
    refine (pBehind_any F u _ _ _ h HI.out.ok (by decide) HI.out.rise (HI.out.wf (by decide)) (fun x hx => by have := hb x hx; omega) (by omega)).mono ?_
    rintro e w' ⟨⟨v, rfl, A, c, rfl, hr⟩, hB⟩
    rw [live9] at hr ⊢
    exact ⟨⟨A, c, rfl, hr⟩, hB⟩
  have C10 : Hid (∀ u u', GL w.heap.size w u (w.heap.size + 1) v8 3 → Below u.heap.size u u' → Calls Try.prog 15 #[.pointer (some ⟨w.heap.size + 1, 0, none⟩), .int .i64 1] u' fun e w' => e = .returned (.int .u8 4) ∧ w' = u') := fun u u' hu hb => by
    obtain ⟨F, h, _, _⟩ := hu
    have := pState_any F u' _ _ _ (h.below hb) 1
    rw [live10] at this
    exact this
  go_upto_region 10 with (first
    | (go_at_call 21; (with_reducible refine C1.out.mono ?_); clear C1; rintro e u1 ⟨rfl, hg, hs⟩; have HG2 := Lib.hid hg; have hs2 := hs; clear hg hs)
    | (go_at_call 19; (with_reducible refine (C2.out _ HG2.out hs2).mono ?_); clear C2; rintro e u2 ⟨rfl, hg, hs⟩; have HG3 := Lib.hid hg; have hs3 := hs; clear hg hs)
    | (go_at_call 27; (with_reducible refine (C3.out _ HG3.out hs3).mono ?_); clear C3; rintro e u3 ⟨rfl, hg, hs⟩; have HG4 := Lib.hid hg; have hs4 := hs; clear hg hs)
    | (go_at_call 30; (with_reducible refine (C4.out _ HG4.out hs4).mono ?_); clear C4; rintro e u4 ⟨rfl, hg, hs⟩; have HG5 := Lib.hid hg; have hs5 := hs; clear hg hs)
    | (go_at_call 20; (with_reducible refine (C5.out _ HG5.out hs5).mono ?_); clear C5; rintro e u5 ⟨rfl, hg, hs⟩; have HG6 := Lib.hid hg; have hs6 := hs; clear hg hs)
    | (go_at_call 21; (with_reducible refine (C6.out _ HG6.out hs6).mono ?_); clear C6; rintro e u6 ⟨rfl, hg, hs⟩; have HG7 := Lib.hid hg; have hs7 := hs; clear hg hs)
    | (go_at_call 29; (with_reducible refine (C7.out _ HG7.out hs7).mono ?_); clear C7; rintro e u7 ⟨rfl, hg, hs⟩; have HG8 := Lib.hid hg; have hs8 := hs; clear hg hs)
    | (go_at_call 19; (with_reducible refine (C8.out _ HG8.out hs8).mono ?_); clear C8; rintro e u8 ⟨rfl, hg, hs⟩; have HG9 := Lib.hid hg; have hs9 := hs; clear hg hs))
  go_upto_region 11 with (go_at_call 24; (with_reducible refine (C9.out _ HG9.out).mono ?_); rintro e u9 ⟨⟨A, c, rfl, hr⟩, hB⟩; have HR := Lib.hid hr; have HB := Lib.hid hB; clear hr hB)
  obtain ⟨b, off, rfl, _, hc⟩ := HR.out.form (by simp)
  have hc0 := hc 0 (by simp)
  simp only [List.getElem_cons_zero, Nat.add_zero] at hc0
  have l1 := HR.out.le
  have l2 := HR.out.cap
  clear hc
  go_wp2_with (go_at_call 15; (with_reducible refine (C10.out _ _ HG9.out HB.out).mono ?_); rintro e u10 ⟨rfl, hw⟩; subst u10)
  go_ret
  obtain ⟨F, _, hF, hB0⟩ := HG9.out
  exact ⟨rfl, hB0.trans (HB.out.mono hs9)⟩
end Go.Proofs.Ytbflmgpcjfoifaa
