/- Walks of the reference's groups: at, State, Patches, New, Engaged. -/
import Derived.Test.YtbflmgpcjfoifaaGp2
import Derived.Test.YtbflmgpcjfoifaaSelC
set_option linter.unusedSimpArgs false
set_option linter.unusedVariables false
namespace Go.Proofs.Ytbflmgpcjfoifaa
open Go.RowKit Go.Sel Go.Sel.Gp

def posV (S : List G) (n : Int) : Int := match posG S n with | none => -1 | some i => i
theorem posV_some {S : List G} {n : Int} {i : Nat} (h : i < S.length) (h1 : (nthG S i).n = n) (h2 : ∀ j, j < i → (nthG S j).n ≠ n) : posG S n = some i := by
  unfold posG
  rw [List.findIdx?_eq_some_iff_getElem]
  refine ⟨h, by rw [nthG_get h] at h1; simpa using h1, fun j hj => ?_⟩
  have := h2 j hj
  rw [nthG_get (by omega)] at this
  simpa using this
theorem posV_none {S : List G} {n : Int} (h2 : ∀ j, j < S.length → (nthG S j).n ≠ n) : posG S n = none := by
  unfold posG
  rw [List.findIdx?_eq_none_iff]
  intro g hg
  obtain ⟨j, hj, rfl⟩ := List.mem_iff_getElem.1 hg
  have := h2 j hj
  rw [nthG_get hj] at this
  simpa using this

set_option maxRecDepth 100000 in
set_option maxHeartbeats 4000000 in
theorem at_any (F : Nat → Prop) (w : World) (rb : Nat) (lA : Option Addr) (m c : Nat) (S : List G) (ss : List (Q3 × Q3)) (next : Int) (h : GRx F w rb lA m c S ss next) (n : Int) :
    Calls Try.prog 57 #[.pointer (some ⟨rb, 0, none⟩), .int .i64 n] w fun e w' => e = .returned (.int .i64 (posV S n)) ∧ w' = w := by
  have H := Lib.hid h
  have HL := Lib.hid h.len
  have h0 := h.h0
  have l1 := h.le
  have l2 := h.cap
  clear h
  go_enter Try.func57, Try.ntmps57
  go_wp2
  go_loop [5] (fun v => ∃ k : Nat, k ≤ m ∧ v = .int .i64 k ∧ Hid (∀ j, j < k → (nthG S j).n ≠ n)) (fun v => m - (intOf v).toNat)
  case atStart => exact ⟨0, by omega, rfl, fun j hj => by omega⟩
  case round =>
    obtain ⟨k, hk, rfl, HJ⟩ := hrel
    by_cases hlt : k < m
    · obtain ⟨lb, p, q, rfl, _, hlb, _, _, c0, _⟩ := H.out.get hlt
      by_cases hn : (nthG S k).n = n
      · have e1 : ((nthG S k).n == n) = true := by simpa using hn
        have HE : Hid (posV S n = (k : Int)) := by show _ = _; rw [posV, posV_some (by rw [HL.out]; exact hlt) hn HJ.out]
        clear hn
        generalize (nthG S k).n = x at *
        go_wp2
        go_ret
        exact ⟨ret_int HE.out.symm, rfl⟩
      · have e1 : ((nthG S k).n == n) = false := by simpa using hn
        have HN := Lib.hid hn
        clear hn
        generalize hx : (nthG S k).n = x at *
        have HX := Lib.hid hx
        clear hx
        go_wp2
        go_round
        case rel => exact ⟨k + 1, by omega, by go_num, fun j hj => by
          by_cases e : j = k
          · subst e; rw [HX.out]; exact HN.out
          · exact HJ.out j (by omega)⟩
        case measure => simp [intOf] <;> omega
    · obtain rfl : k = m := by omega
      have HE : Hid (posV S n = -1) := by show _ = _; rw [posV, posV_none (by rw [HL.out]; exact HJ.out)]
      go_wp2
      go_ret
      exact ⟨ret_int HE.out.symm, rfl⟩

set_option maxRecDepth 100000 in
set_option maxHeartbeats 4000000 in
theorem rState_any (F : Nat → Prop) (w : World) (rb : Nat) (S : List G) (next : Int) (h : GR F w rb S next) (n : Int) :
    Calls Try.prog 45 #[.pointer (some ⟨rb, 0, none⟩), .int .i64 n] w fun e w' => e = .returned (.int .u8 (stateS S n)) ∧ w' = w := by
  obtain ⟨lA, m, c, ss, h⟩ := h
  have H := Lib.hid h
  have HC := Lib.hid (at_any F w rb lA m c S ss next h n)
  have h0 := h.h0
  have l1 := h.le
  have l2 := h.cap
  cases hp : posG S n with
  | none =>
    have HV : Hid (posV S n = -1) := by show _ = _; rw [posV, hp]
    have HE : Hid (stateS S n = 0) := by show _ = _; rw [stateS, hp]
    rw [HV.out] at HC
    clear h hp
    go_enter Try.func45, Try.ntmps45
    go_wp2_with (go_at_call 57; (with_reducible refine HC.out.mono ?_); rintro e w' ⟨rfl, rfl⟩)
    go_ret
    exact ⟨ret_int HE.out.symm, rfl⟩
  | some i =>
    have hi := posG_lt hp
    have him : i < m := by rw [← h.len]; exact hi.1
    have HV : Hid (posV S n = (i : Int)) := by show _ = _; rw [posV, hp]
    have HE : Hid (stateS S n = (nthG S i).st) := by show _ = _; rw [stateS, hp]
    rw [HV.out] at HC
    obtain ⟨lb, p, q, rfl, _, hlb, _, _, _, c1, _⟩ := h.get him
    clear h hp hi
    generalize (nthG S i).st = x at *
    go_enter Try.func45, Try.ntmps45
    go_wp2_with (go_at_call 57; (with_reducible refine HC.out.mono ?_); rintro e w' ⟨rfl, rfl⟩)
    go_ret
    exact ⟨ret_int HE.out.symm, rfl⟩

set_option maxRecDepth 100000 in
set_option maxHeartbeats 4000000 in
theorem rPatches_any (F : Nat → Prop) (w : World) (rb : Nat) (S : List G) (next : Int) (h : GR F w rb S next) (n : Int) (hb : (patchesS S n).length ≤ 1000000) :
    Calls Try.prog 46 #[.pointer (some ⟨rb, 0, none⟩), .int .i64 n] w fun e w' => (∃ A c, e = .returned (.slice A (patchesS S n).length c) ∧ Rd w' A (patchesS S n).length c (iv .i64 (patchesS S n))) ∧ Below w.heap.size w w' := by
  obtain ⟨lA, m, c, ss, h⟩ := h
  have H := Lib.hid h
  have HC := Lib.hid (at_any F w rb lA m c S ss next h n)
  have h0 := h.h0
  have l1 := h.le
  have l2 := h.cap
  cases hp : posG S n with
  | none =>
    have HV : Hid (posV S n = -1) := by show _ = _; rw [posV, hp]
    have HE : Hid (patchesS S n = []) := by show _ = _; rw [patchesS, hp]
    rw [HV.out] at HC
    rw [HE.out]
    clear h hp hb
    go_enter Try.func46, Try.ntmps46
    go_wp2_with (go_at_call 57; (with_reducible refine HC.out.mono ?_); rintro e w' ⟨rfl, rfl⟩)
    go_ret
    exact ⟨⟨none, 0, rfl, Rd.nil (by omega)⟩, Below.refl _ _⟩
  | some i =>
    have hi := posG_lt hp
    have him : i < m := by rw [← h.len]; exact hi.1
    have HV : Hid (posV S n = (i : Int)) := by show _ = _; rw [posV, hp]
    have HE : Hid (patchesS S n = (nthG S i).ps) := by show _ = _; rw [patchesS, hp]
    rw [HV.out] at HC
    rw [HE.out] at hb ⊢
    have hrb := h.lt
    obtain ⟨lb, p, q, rfl, _, hlb, _, _, _, _, c2, _, _, hp1, _⟩ := h.get him
    have hpl := hp1.1
    have hrd := hp1.rd
    clear h hp hi hp1
    generalize (nthG S i).ps = xs at *
    obtain ⟨pa, pn, pc⟩ := p
    simp only [sv] at *
    subst hpl
    obtain ⟨v2, w2, hc2, hg2, hgr2, _⟩ := run_extend (P := Try.prog) (w := w.alloc (.cells #[] 3)) w.heap.size 28 28 3 (.int .i64 0) 8 Try.underlying28 infoI rfl _ 0 [] (own_empty w 3 w.heap.size (Nat.le_refl _)) pa xs.length pc (iv .i64 xs) (hrd.alloc _) (by simp) (one_iv _ _) (by simp only [maxLen]; omega) (by omega) (by simp)
    have HRUN := Lib.hid hc2
    have HO := Lib.hid hg2
    have HB : Hid (Below w.heap.size w w2) := below_grown (below_al w _) hgr2 (by simp) (fun k hk => by simp [Value.ownBlock] at hk; omega)
    have p1 := hrd.le
    have p2 := hrd.cap
    clear hrd hc2 hg2 hgr2
    go_enter Try.func46, Try.ntmps46
    go_wp2_with (first
      | (go_at_call 57; (with_reducible refine HC.out.mono ?_); rintro e w' ⟨rfl, rfl⟩)
      | (at_builtin; refine wpList_append_run rfl _ _ _ _ rfl _ _ _ rfl rfl HRUN.out ?_))
    go_ret
    obtain ⟨A', c', rfl, _, hr'⟩ := rd_own HO.out
    simp only [Nat.zero_add, List.nil_append] at hr'
    exact ⟨⟨A', c', by simp, hr'⟩, HB.out⟩

set_option maxHeartbeats 1000000 in
theorem rNew_any (w : World) : Calls Try.prog 32 #[] w fun e w' => e = .returned (.pointer (some ⟨w.heap.size, 0, none⟩)) ∧ GR (fun b => b = w.heap.size) w' w.heap.size [] 1 ∧ Below w.heap.size w w' := by
  go_enter Try.func32, Try.ntmps32
  go_wp2
  go_ret
  refine ⟨rfl, ⟨none, 0, 0, [], blk11 w _, rfl, fun b hb => by subst hb; simp, rfl, rfl, Nat.le_refl _, by omega, .inl rfl, fun j hj => by simp at hj⟩, below_al _ _⟩

def engK (S : List G) (k : Nat) : List Int := ((S.take k).filter fun g => decide (g.st = 2)).map (·.n)
theorem engK_succ {S : List G} {k : Nat} (h : k < S.length) : engK S (k + 1) = if (nthG S k).st = 2 then engK S k ++ [(nthG S k).n] else engK S k := by
  rw [nthG_get h]
  unfold engK
  rw [List.take_succ_eq_append_getElem h, List.filter_append, List.map_append]
  by_cases e : S[k].st = 2 <;> simp [e]
theorem engK_length (S : List G) (k : Nat) : (engK S k).length ≤ k := by
  unfold engK
  rw [List.length_map]
  exact Nat.le_trans (List.length_filter_le _ _) (by simp; omega)

set_option maxRecDepth 100000 in
set_option maxHeartbeats 4000000 in
theorem rEngaged_any (F : Nat → Prop) (w : World) (rb : Nat) (S : List G) (next : Int) (h : GR F w rb S next) (hs : S.length ≤ 1000) :
    Calls Try.prog 49 #[.pointer (some ⟨rb, 0, none⟩)] w fun e w' => (∃ A c, e = .returned (.slice A (engagedS S).length c) ∧ Rd w' A (engagedS S).length c (iv .i64 (engagedS S))) ∧ Below w.heap.size w w' := by
  obtain ⟨lA, m, c, ss, h⟩ := h
  have H := Lib.hid h
  have HL := Lib.hid h.len
  have hm : m ≤ 1000 := by rw [← h.len]; exact hs
  have l1 := h.le
  have l2 := h.cap
  have hrb := h.lt
  have h0 := h.h0
  clear h
  go_enter Try.func49, Try.ntmps49
  go_wp2
  go_loopw [3, 4] (fun v i wr => ∃ k : Nat, k ≤ m ∧ i = .int .i64 k ∧ Hid (wr.ownsRow w.heap.size 3 1 v (engK S k).length (iv .i64 (engK S k))) ∧ Hid (Below w.heap.size w wr)) (fun _ i _ => m - (intOf i).toNat)
  case atStart => exact ⟨0, by omega, rfl, World.ownsRow_nil _ _ _ _, Below.refl _ _⟩
  case round =>
    obtain ⟨k, hk, rfl, HO, HB⟩ := hrel
    have hkl := engK_length S k
    have HX := Lib.hid (H.out.below HB.out)
    have h0' := HX.out.h0
    clear h0
    by_cases hlt : k < m
    · obtain ⟨lb, p, q, rfl, _, hlb, _, _, c0, c1, _⟩ := HX.out.get hlt
      have HS := Lib.hid (engK_succ (S := S) (k := k) (by rw [HL.out]; exact hlt))
      by_cases hst : (nthG S k).st = 2
      · have e1 : ((nthG S k).st == 2) = true := by simpa using hst
        have HN : Hid (engK S (k + 1) = engK S k ++ [(nthG S k).n]) := by show _ = _; rw [HS.out, if_pos hst]
        clear HS hst
        generalize (nthG S k).n = x at *
        generalize (nthG S k).st = y at *
        go_wp2_with (at_builtin; refine wpList_push wr rfl (.tmp 27) (.tmp 36) 28 3 rfl w.heap.size (.int .i64 0) 8 Try.underlying28 infoI rfl (by omega) _ _ _ (.int .i64 x) rfl rfl rfl HO.out HB.out.size (by omega) rfl ?_; intro g cap w2 ho hg hat hlt1; have HO2 := Lib.hid ho; have HB2 := Lib.hid (below_grown HB.out hg HB.out.size (own_row HO.out)); clear ho hg hat)
        go_roundw
        case rel => exact ⟨k + 1, by omega, by go_num, (by show World.ownsRow _ _ _ _ _ _ _; rw [HN.out]; simpa [iv] using HO2.out), HB2⟩
        case measure => simp [intOf] <;> omega
      · have e1 : ((nthG S k).st == 2) = false := by simpa using hst
        have HN : Hid (engK S (k + 1) = engK S k) := by show _ = _; rw [HS.out, if_neg hst]
        clear HS hst
        generalize (nthG S k).n = x at *
        generalize (nthG S k).st = y at *
        go_wp2
        go_roundw
        case rel => exact ⟨k + 1, by omega, by go_num, (by show World.ownsRow _ _ _ _ _ _ _; rw [HN.out]; exact HO.out), HB⟩
        case measure => simp [intOf] <;> omega
    · obtain rfl : k = m := by omega
      go_wp2
      go_ret
      have e : engK S k = engagedS S := by rw [engK, List.take_of_length_le (by rw [HL.out]; omega)]; rfl
      have ho := HO.out
      rw [e] at ho
      obtain ⟨A', c', rfl, _, hr'⟩ := rd_own ho
      exact ⟨⟨A', c', rfl, hr'⟩, HB.out⟩
end Go.Proofs.Ytbflmgpcjfoifaa
/- Walks of the reference's groups: Make. -/
set_option linter.unusedSimpArgs false
set_option linter.unusedVariables false
namespace Go.Proofs.Ytbflmgpcjfoifaa
open Go.RowKit Go.Sel Go.Sel.Gp

theorem infoG : (Try.prog.info? 76).map (fun i => (i.zero, i.size, i.bytes)) = some (some (.agg #[.int .i64 0, .int .u8 0, .slice none 0 0, .slice none 0 0]), 4, 64) := by kernel_rfl
theorem one_gv (g : G) (q : Q3 × Q3) : ∀ u ∈ gv g q, u.oneCell' = true := by
  intro u hu
  simp only [gv, List.mem_cons, List.not_mem_nil, or_false] at hu
  rcases hu with rfl | rfl | rfl | rfl <;> rfl
theorem one_gvs (S : List G) (ss : List (Q3 × Q3)) : ∀ u ∈ gvs S ss, u.oneCell' = true := by
  intro u hu
  obtain ⟨us, h1, h2⟩ := List.mem_flatten.1 hu
  obtain ⟨p, _, rfl⟩ := List.mem_map.1 h1
  exact one_gv _ _ u h2
theorem GRx.rd {F : Nat → Prop} {w : World} {rb : Nat} {lA : Option Addr} {n c : Nat} {S : List G} {ss : List (Q3 × Q3)} {next : Int} (h : GRx F w rb lA n c S ss next) : Rd w lA n c (gvs S ss) := by
  refine ⟨h.le, h.cap, ?_⟩
  have hl := h.len
  have hs := h.slen
  rcases h.at_ with h0 | ⟨lb, cur, rfl, _, hb, hc⟩
  · left; exact List.eq_nil_of_length_eq_zero (by rw [gvs_length (by omega)]; omega)
  · right
    refine ⟨lb, 0, rfl, fun j hj => ?_⟩
    rw [gvs_length (by omega)] at hj
    rw [blk_cell hb, Nat.zero_add, hc j (by omega), List.getElem?_eq_getElem]
/-- A new slice of groups is laid into it. -/
theorem GRx.turned {F : Nat → Prop} {w w' : World} {rb : Nat} {lA : Option Addr} {n c : Nat} {S : List G} {ss : List (Q3 × Q3)} {next : Int} (h : GRx F w rb lA n c S ss next) (hB : Below w.heap.size w w') {v : Value} {k : Nat} {S' : List G} {ss' : List (Q3 × Q3)}
    (ho : w'.ownsRow w.heap.size 76 4 v k (gvs S' ss')) (hS : S'.length = k) (hs : ss'.length = k) (hr : ∀ j (hj : j < ss'.length), RowI F w' ss'[j].1 (nthG S' j).ps ∧ RowI F w' ss'[j].2 (nthG S' j).ah) :
    ∃ A c', v = .slice A k c' ∧ GRx (fun b => F b ∨ (w.heap.size ≤ b ∧ b < w'.heap.size)) (w'.setCell ⟨rb, 0, none⟩ v) rb A k c' S' ss' next := by
  obtain ⟨A, c', rfl, hl, hrd⟩ := rd_ownM (by omega) ho
  have hrb := h.lt
  have hd := (h.hd.keep hB).set 0 (.slice A k c')
  have hrow : ∀ {q : Q3} {xs : List Int}, RowI F w' q xs → RowI (fun b => F b ∨ (w.heap.size ≤ b ∧ b < w'.heap.size)) (w'.setCell ⟨rb, 0, none⟩ (.slice A k c')) q xs := fun {q xs} hr => hr.keep (fun _ h => .inl h) fun b cur' fr _ hb' => by
    refine Below.heap_setCell _ _ _ _ fun e => ?_
    simp only at e
    subst e
    have h2 := h.hd.keep hB
    unfold Bk at h2
    rw [h2] at hb'
    injection hb' with hb'
    injection hb' with _ h3 _
    exact absurd h3 (by decide)
  refine ⟨A, c', rfl, hd, .inl h.fh, fun b hb => ?_, hS, hs, hrd.le, hrd.cap, ?_, fun j hj => ⟨hrow (hr j hj).1, hrow (hr j hj).2⟩⟩
  · rcases hb with hb | hb
    · have := h.flt b hb; have := hB.size; simp; omega
    · simp; omega
  · rcases ho.2 with ⟨_, h0⟩ | ⟨g, cap, cur, e, hb, hh, hn, hc, hsz, ht⟩
    · exact .inl h0
    · right
      injection e with e1 e2 e3
      subst e1
      refine ⟨g, cur, rfl, .inr ⟨hb, (Array.getElem?_eq_some_iff.1 hh).1⟩, blk_far hh (by simp; omega) _, fun j hj => ?_⟩
      have h1 : (cur.toList.take (k * 4))[j]? = (gvs S' ss')[j]? := by rw [ht]
      rwa [List.getElem?_take_of_lt hj, Array.getElem?_toList] at h1
theorem GRx.nexted {F : Nat → Prop} {w : World} {rb : Nat} {lA : Option Addr} {n c : Nat} {S : List G} {ss : List (Q3 × Q3)} {next : Int} (h : GRx F w rb lA n c S ss next) (x : Int) : GRx F (w.setCell ⟨rb, 1, none⟩ (.int .i64 x)) rb lA n c S ss x := by
  have hrow : ∀ {q : Q3} {xs : List Int}, RowI F w q xs → RowI F (w.setCell ⟨rb, 1, none⟩ (.int .i64 x)) q xs := fun {q xs} hr => hr.keep (fun _ h => h) fun b cur' fr _ hb' => by
    refine Below.heap_setCell _ _ _ _ fun e => ?_
    simp only at e
    subst e
    have h2 := h.hd
    unfold Bk at h2
    rw [h2] at hb'
    injection hb' with hb'
    injection hb' with _ h3 _
    exact absurd h3 (by decide)
  refine ⟨h.hd.set 1 _, h.fh, fun b hb => by simpa using h.flt b hb, h.len, h.slen, h.le, h.cap, ?_, fun j hj => ⟨hrow (h.rows j hj).1, hrow (h.rows j hj).2⟩⟩
  rcases h.at_ with h0 | ⟨lb, cur, e, hf, hb, hc⟩
  · exact .inl h0
  · refine .inr ⟨lb, cur, e, hf, blk_far hb (fun e' => ?_) _, hc⟩
    simp only at e'
    subst e'
    have h2 := h.hd
    unfold Bk at h2
    rw [h2] at hb
    injection hb with hb
    injection hb with _ h3 _
    exact absurd h3 (by decide)

theorem made_rows {F : Nat → Prop} {w w' : World} {rb : Nat} {lA : Option Addr} {n c : Nat} {S : List G} {ss : List (Q3 × Q3)} {next : Int} (h : GRx F w rb lA n c S ss next) (hB : Below w.heap.size w w') {x y : Int} :
    ∀ j (hj : j < (ss ++ [(((none, 0, 0) : Q3), ((none, 0, 0) : Q3))]).length), RowI F w' (ss ++ [((none, 0, 0), (none, 0, 0))])[j].1 (nthG (S ++ [⟨x, y, [], []⟩]) j).ps ∧ RowI F w' (ss ++ [((none, 0, 0), (none, 0, 0))])[j].2 (nthG (S ++ [⟨x, y, [], []⟩]) j).ah := by
  intro j hj
  have hl := h.len
  have hs := h.slen
  have h' := h.below hB
  by_cases hjs : j < ss.length
  · rw [List.getElem_append_left hjs]
    have e : nthG (S ++ [⟨x, y, [], []⟩]) j = nthG S j := by
      rw [nthG_get (by simp; omega), nthG_get (by omega), List.getElem_append_left (by omega)]
    rw [e]
    exact h'.rows j hjs
  · have ej : j = ss.length := by simp at hj; omega
    subst ej
    simp only [List.getElem_concat_length]
    have e : nthG (S ++ [⟨x, y, [], []⟩]) ss.length = ⟨x, y, [], []⟩ := by
      rw [nthG_get (by simp; omega)]
      simp [show ss.length = S.length by omega]
    rw [e]
    exact ⟨RowI.nil, RowI.nil⟩

set_option maxRecDepth 100000 in
set_option maxHeartbeats 8000000 in
theorem rMake_any (F : Nat → Prop) (w : World) (rb : Nat) (S : List G) (next : Int) (h : GR F w rb S next) (hs : S.length ≤ 8) (hn0 : 0 ≤ next) (hn1 : next ≤ 1000000) :
    Calls Try.prog 37 #[.pointer (some ⟨rb, 0, none⟩)] w fun e w' => e = .returned (.tuple #[.int .i64 (makeS S next).1, .int .i64 (makeS S next).2.1]) ∧ GRn F w w' rb (makeS S next).2.2.1 (makeS S next).2.2.2 := by
  obtain ⟨lA, m, c, ss, h⟩ := h
  have H := Lib.hid h
  have HL := Lib.hid h.len
  have hm : m ≤ 8 := by rw [← h.len]; exact hs
  have h0 := h.h0
  have h1 := h.h1
  have hrb := h.lt
  have l1 := h.le
  have l2 := h.cap
  by_cases h8 : 8 ≤ m
  · have HE : Hid (makeS S next = (0, 11, S, next)) := by show _ = _; rw [makeS, if_pos (by rw [HL.out]; exact h8)]
    clear h hs
    generalize makeS S next = r at *
    have he := HE.out
    subst he
    have d1 : decide ((8 : Int) ≤ (m : Int)) = true := decide_eq_true (by omega)
    go_enter Try.func37, Try.ntmps37
    go_wp2
    go_ret2
    exact ⟨rfl, F, ⟨lA, m, c, ss, H.out⟩, Fr.refl _ _, fun b hb => .inl hb⟩
  · have HE : Hid (makeS S next = (next, 0, S ++ [⟨next, 1, [], []⟩], next + 1)) := by show _ = _; rw [makeS, if_neg (by rw [HL.out]; exact h8)]
    clear h hs
    generalize makeS S next = r at *
    have he := HE.out
    subst he
    have d1 : decide ((8 : Int) ≤ (m : Int)) = false := decide_eq_false (by omega)
    go_enter Try.func37, Try.ntmps37
    go_upto_region 5 with (fail)
    have HS0 : At (fun w' : World => w'.cell? ⟨rb, 0, none⟩ = some (.slice lA m c) ∧ w'.cell? ⟨rb, 1, none⟩ = some (.int .i64 next)) w.drew := ⟨h0, h1⟩
    have HD : Hid (GRx F w.drew rb lA m c S ss next) := H.out.below (Sel.below_drewN w 1)
    have HFD : Hid (Fr F w w.drew) := (Fr.refl F w).drewN 1
    have hrb0 : rb < w.drew.heap.size := hrb
    clear h0 h1
    refine any_start HS0 [0, 2, 3, 4, 5, 7, 8, 9, 10, 11] (by kernel_rfl) ?_
    change wpAnyD _ _ _ _ _ _ 17 (Array.replicate 17 false) _ w.drew
    have HZ : Hid (w.drew.heap.size = w.heap.size) := rfl
    generalize w.drew = w0 at *
    refine any_take 0 rfl (by kernel_rfl) (fun _ _ d _ _ h => by cases d <;> exact h) (by kernel_rfl) HS0 (fun w9 h9 => by obtain ⟨s0, s1⟩ := h9; go_simp; first | done | rfl) (fun K hK => ?_); go_simp; refine hK _ ?_; clear hK K
    refine any_take 2 rfl (by kernel_rfl) (fun _ _ d _ _ h => by cases d <;> exact h) (by kernel_rfl) HS0 (fun w9 h9 => by obtain ⟨s0, s1⟩ := h9; go_simp; first | done | rfl) (fun K hK => ?_); go_simp; refine hK _ ?_; clear hK K
    refine any_take 3 rfl (by kernel_rfl) (fun _ _ d _ _ h => by cases d <;> exact h) (by kernel_rfl) HS0 (fun w9 h9 => by obtain ⟨s0, s1⟩ := h9; go_simp; first | done | rfl) (fun K hK => ?_); go_simp; refine hK _ ?_; clear hK K
    refine any_take 4 rfl (by kernel_rfl) (fun _ _ d _ _ h => by cases d <;> exact h) (by kernel_rfl) HS0 (fun w9 h9 => by obtain ⟨s0, s1⟩ := h9; go_simp; first | done | rfl) (fun K hK => ?_); go_simp; refine hK _ ?_; clear hK K
    refine any_take 5 rfl (by kernel_rfl) (fun _ _ d _ _ h => by cases d <;> exact h) (by kernel_rfl) HS0 (fun w9 h9 => by obtain ⟨s0, s1⟩ := h9; go_simp; first | done | rfl) (fun K hK => ?_); go_simp; refine hK _ ?_; clear hK K
    refine any_take 7 rfl (by kernel_rfl) (fun _ _ d _ _ h => by cases d <;> exact h) (by kernel_rfl) HS0 (fun w9 h9 => by obtain ⟨s0, s1⟩ := h9; go_simp; first | done | rfl) (fun K hK => ?_); go_simp; refine hK _ ?_; clear hK K
    refine any_take 8 rfl (by kernel_rfl) (fun _ _ d _ _ h => by cases d <;> exact h) (by kernel_rfl) HS0 (fun w9 h9 => by obtain ⟨s0, s1⟩ := h9; go_simp; first | done | rfl) (fun K hK => ?_); go_simp; refine hK _ ?_; clear hK K
    refine any_take 9 rfl (by kernel_rfl) (fun _ _ d _ _ h => by cases d <;> exact h) (by kernel_rfl) HS0 (fun w9 h9 => by obtain ⟨s0, s1⟩ := h9; go_simp; first | done | rfl) (fun K hK => ?_); go_simp; refine hK _ ?_; clear hK K
    refine any_take 10 rfl (by kernel_rfl) (fun _ _ d _ _ h => by cases d <;> exact h) (by kernel_rfl) HS0 (fun w9 h9 => by obtain ⟨s0, s1⟩ := h9; go_simp; first | done | rfl) (fun K hK => ?_); go_simp; refine hK _ ?_; clear hK K
    refine any_take 11 rfl (by kernel_rfl) (fun _ _ d _ _ h => by cases d <;> exact h) (by kernel_rfl) HS0 (fun w9 h9 => by obtain ⟨s0, s1⟩ := h9; go_simp; first | done | rfl) (fun K hK => ?_); go_simp; refine hK _ ?_; clear hK K
    have HRD : Hid (Rd w0 lA m c (gvs S ss)) := HD.out.rd
    have HGL : Hid ((gvs S ss).length = m * 4) := by show _ = _; rw [gvs_length (by have := HD.out.len; have := HD.out.slen; omega), HD.out.len]
    have HB0 : Hid (Below w0.heap.size w0 w0) := Below.refl _ _
    refine any_two 1 12 rfl rfl (by kernel_rfl) (by kernel_rfl) (by kernel_rfl) (fun K hK => ?_) (fun K hK => ?_)
    · go_simp
      have HB1 : Hid (Below w0.heap.size w0 (w0.alloc (.cells #[] 76))) := HB0.out.alloc HB0.out.size _
      have HE1 : Hid ((w0.alloc (.cells #[] 76)).ownsRow w0.heap.size 76 4 (.slice (some ⟨w0.heap.size, 0, none⟩) 0 0) 0 []) := own_emptyN w0 76 _ _ HB0.out.size
      have hlt1 : w0.heap.size < (w0.alloc (.cells #[] 76)).heap.size := by simp
      generalize w0.alloc (.cells #[] 76) = W1 at *
      have HS1 : At (fun w' : World => w'.cell? ⟨rb, 0, none⟩ = some (.slice lA m c) ∧ w'.cell? ⟨rb, 1, none⟩ = some (.int .i64 next)) W1 := ⟨(HB1.out.cell (p := ⟨rb, 0, none⟩) hrb0).trans HS0.1, (HB1.out.cell (p := ⟨rb, 1, none⟩) hrb0).trans HS0.2⟩
      refine hK _ _ (fun _ => HS1) ?_
      clear hK K
      refine any_two 6 12 rfl rfl (by kernel_rfl) (by kernel_rfl) (by kernel_rfl) (fun K hK => ?_) (fun K hK => ?_)
      · obtain ⟨v1, W2, hrun2, ho2, hg2, hat2⟩ := run_extendN (P := Try.prog) (w := W1) w0.heap.size 72 72 76 (.agg #[.int .i64 0, .int .u8 0, .slice none 0 0, .slice none 0 0]) 4 64 Try.underlying72 infoG rfl (by omega) _ 0 [] HE1.out lA m c (gvs S ss) (HRD.out.below HB1.out) HGL.out (one_gvs _ _) (by simp only [maxLen]; omega) (by omega) HB1.out.size
        rw [Nat.zero_add, List.nil_append] at ho2
        have HB2 : Hid (Below w0.heap.size w0 W2) := below_grown HB1.out hg2 HB1.out.size (own_row HE1.out)
        have HV2 := Lib.hid ho2
        refine oper_append (.tmp 15) (.tmp 19) 72 (by kernel_rfl) _ _ _ (by kernel_rfl) (by kernel_rfl) hrun2 ?_
        clear hrun2 ho2 hg2 hat2
        go_simp
        have HS2 : At (fun w' : World => w'.cell? ⟨rb, 0, none⟩ = some (.slice lA m c) ∧ w'.cell? ⟨rb, 1, none⟩ = some (.int .i64 next)) W2 := ⟨(HB2.out.cell (p := ⟨rb, 0, none⟩) hrb0).trans HS0.1, (HB2.out.cell (p := ⟨rb, 1, none⟩) hrb0).trans HS0.2⟩
        refine hK _ _ (fun _ => HS2) ?_
        clear hK K
        refine any_one 12 rfl (by kernel_rfl) (by kernel_rfl) (fun K hK => ?_)
        go_simp
        have HB3 : Hid (Below w0.heap.size w0 (W2.alloc (.cells #[.int .i64 next, .int .u8 1, .slice none 0 0, .slice none 0 0] 76))) := HB2.out.alloc HB2.out.size _
        have HY3 : Hid (Rd (W2.alloc (.cells #[.int .i64 next, .int .u8 1, .slice none 0 0, .slice none 0 0] 76)) (some ⟨W2.heap.size, 0, none⟩) 1 1 (gv ⟨next, 1, [], []⟩ ((none, 0, 0), (none, 0, 0)))) := rd_block (blk11 W2 _) 1 1 _ 0 (Nat.le_refl _) (by omega) (fun j hj => by simp only [gv, List.length_cons, List.length_nil] at hj; rw [Nat.zero_add]; rcases (show j = 0 ∨ j = 1 ∨ j = 2 ∨ j = 3 by omega) with rfl | rfl | rfl | rfl <;> rfl)
        have HV3 := Lib.hid (HV2.out.alloc (.cells #[.int .i64 next, .int .u8 1, .slice none 0 0, .slice none 0 0] 76))
        have hlt3 : W2.heap.size < (W2.alloc (.cells #[.int .i64 next, .int .u8 1, .slice none 0 0, .slice none 0 0] 76)).heap.size := by simp
        generalize W2.alloc (.cells #[.int .i64 next, .int .u8 1, .slice none 0 0, .slice none 0 0] 76) = W3 at *
        have HS3 : At (fun w' : World => w'.cell? ⟨rb, 0, none⟩ = some (.slice lA m c) ∧ w'.cell? ⟨rb, 1, none⟩ = some (.int .i64 next)) W3 := ⟨(HB3.out.cell (p := ⟨rb, 0, none⟩) hrb0).trans HS0.1, (HB3.out.cell (p := ⟨rb, 1, none⟩) hrb0).trans HS0.2⟩
        refine hK _ _ (fun _ => HS3) ?_
        clear hK K
        refine any_one 13 rfl (by kernel_rfl) (by kernel_rfl) (fun K hK => ?_)
        obtain ⟨v2, W4, hrun4, ho4, hg4, hat4⟩ := run_extendN (P := Try.prog) (w := W3) w0.heap.size 72 72 76 (.agg #[.int .i64 0, .int .u8 0, .slice none 0 0, .slice none 0 0]) 4 64 Try.underlying72 infoG rfl (by omega) _ m (gvs S ss) HV3.out _ 1 1 (gv ⟨next, 1, [], []⟩ ((none, 0, 0), (none, 0, 0))) HY3.out (by simp [gv]) (one_gv _ _) (by simp only [maxLen]; omega) (by omega) HB3.out.size
        have HB4 : Hid (Below w0.heap.size w0 W4) := below_grown HB3.out hg4 HB3.out.size (own_row HV3.out)
        have HR4 := Lib.hid ho4
        refine oper_append (.tmp 20) (.tmp 26) 72 (by kernel_rfl) _ _ _ (by kernel_rfl) (by kernel_rfl) hrun4 ?_
        clear hrun4 ho4 hg4 hat4
        go_simp
        have HS4 : At (fun w' : World => w'.cell? ⟨rb, 0, none⟩ = some (.slice lA m c) ∧ w'.cell? ⟨rb, 1, none⟩ = some (.int .i64 next)) W4 := ⟨(HB4.out.cell (p := ⟨rb, 0, none⟩) hrb0).trans HS0.1, (HB4.out.cell (p := ⟨rb, 1, none⟩) hrb0).trans HS0.2⟩
        refine hK _ _ (fun _ => HS4) ?_
        clear hK K
        refine any_one 14 rfl (by kernel_rfl) (by kernel_rfl) (fun K hK => ?_); go_simp; refine hK _ _ (fun _ => HS4) ?_; clear hK K
        refine any_one 15 rfl (by kernel_rfl) (by kernel_rfl) (fun K hK => ?_); go_simp; refine hK _ _ (fun _ => HS4) ?_; clear hK K
        obtain ⟨A9, c9, rfl, hgx⟩ := HD.out.turned HB4.out (S' := S ++ [⟨next, 1, [], []⟩]) (ss' := ss ++ [((none, 0, 0), (none, 0, 0))]) (k := m + 1) (by rw [gvs_append (by have := HD.out.len; have := HD.out.slen; omega)]; simpa [gvs] using HR4.out) (by simp; exact HL.out) (by simp; exact HD.out.slen) (made_rows HD.out HB4.out)
        have f0 := ((HD.out.hd).keep HB4.out).free 0
        have g0 := hgx.h0
        have g1 := hgx.h1
        have g2 := hgx.hd.free 1
        have HX := Lib.hid hgx
        have HF5 : Hid (Fr F w (W4.setCell ⟨rb, 0, none⟩ (.slice A9 (m + 1) c9))) := (HFD.out.trans (fr_of_below HB4.out F)).setCell (.inl HD.out.fh) _
        have HW5 : Hid (w.heap.size ≤ (W4.setCell ⟨rb, 0, none⟩ (.slice A9 (m + 1) c9)).heap.size) := HF5.out.size
        clear hgx
        obtain ⟨k0, k1⟩ := HS4
        refine any_last 16 rfl (by kernel_rfl) (by kernel_rfl) (by kernel_rfl) (fun K hK => ?_)
        go_simp
        refine hK _ _ ?_
        clear hK K k0 k1 f0 HS0 HS1 HS2 HS3
        refine any_end (by kernel_rfl) ?_
        generalize W4.setCell ⟨rb, 0, none⟩ (.slice A9 (m + 1) c9) = W5 at *
        go_wp2
        go_ret2
        exact ⟨rfl, _, ⟨_, _, _, _, HX.out.nexted (next + 1)⟩, HF5.out.setCell (.inl HD.out.fh) _, fun b hb => hb.imp id fun h => by rw [← HZ.out]; exact h.1⟩
      · go_simp
        have HB2 : Hid (Below w0.heap.size w0 (W1.alloc (.cells #[.int .i64 next, .int .u8 1, .slice none 0 0, .slice none 0 0] 76))) := HB1.out.alloc HB1.out.size _
        have HY2 : Hid (Rd (W1.alloc (.cells #[.int .i64 next, .int .u8 1, .slice none 0 0, .slice none 0 0] 76)) (some ⟨W1.heap.size, 0, none⟩) 1 1 (gv ⟨next, 1, [], []⟩ ((none, 0, 0), (none, 0, 0)))) := rd_block (blk11 W1 _) 1 1 _ 0 (Nat.le_refl _) (by omega) (fun j hj => by simp only [gv, List.length_cons, List.length_nil] at hj; rw [Nat.zero_add]; rcases (show j = 0 ∨ j = 1 ∨ j = 2 ∨ j = 3 by omega) with rfl | rfl | rfl | rfl <;> rfl)
        have HE2 := Lib.hid (HE1.out.alloc (.cells #[.int .i64 next, .int .u8 1, .slice none 0 0, .slice none 0 0] 76))
        have hlt2 : W1.heap.size < (W1.alloc (.cells #[.int .i64 next, .int .u8 1, .slice none 0 0, .slice none 0 0] 76)).heap.size := by simp
        generalize W1.alloc (.cells #[.int .i64 next, .int .u8 1, .slice none 0 0, .slice none 0 0] 76) = W2 at *
        have HS2 : At (fun w' : World => w'.cell? ⟨rb, 0, none⟩ = some (.slice lA m c) ∧ w'.cell? ⟨rb, 1, none⟩ = some (.int .i64 next)) W2 := ⟨(HB2.out.cell (p := ⟨rb, 0, none⟩) hrb0).trans HS0.1, (HB2.out.cell (p := ⟨rb, 1, none⟩) hrb0).trans HS0.2⟩
        refine hK _ _ (fun _ => HS2) ?_
        clear hK K
        refine any_one 6 rfl (by kernel_rfl) (by kernel_rfl) (fun K hK => ?_)
        obtain ⟨v1, W3, hrun3, ho3, hg3, hat3⟩ := run_extendN (P := Try.prog) (w := W2) w0.heap.size 72 72 76 (.agg #[.int .i64 0, .int .u8 0, .slice none 0 0, .slice none 0 0]) 4 64 Try.underlying72 infoG rfl (by omega) _ 0 [] HE2.out lA m c (gvs S ss) (HRD.out.below HB2.out) HGL.out (one_gvs _ _) (by simp only [maxLen]; omega) (by omega) HB2.out.size
        rw [Nat.zero_add, List.nil_append] at ho3
        have HB3 : Hid (Below w0.heap.size w0 W3) := below_grown HB2.out hg3 HB2.out.size (own_row HE2.out)
        have HY3 : Hid (Rd W3 (some ⟨W1.heap.size, 0, none⟩) 1 1 (gv ⟨next, 1, [], []⟩ ((none, 0, 0), (none, 0, 0)))) := rd_far HY2.out hg3 (by simp [Value.ownBlock]; omega)
        have HV3 := Lib.hid ho3
        refine oper_append (.tmp 15) (.tmp 19) 72 (by kernel_rfl) _ _ _ (by kernel_rfl) (by kernel_rfl) hrun3 ?_
        clear hrun3 ho3 hg3 hat3
        go_simp
        have HS3 : At (fun w' : World => w'.cell? ⟨rb, 0, none⟩ = some (.slice lA m c) ∧ w'.cell? ⟨rb, 1, none⟩ = some (.int .i64 next)) W3 := ⟨(HB3.out.cell (p := ⟨rb, 0, none⟩) hrb0).trans HS0.1, (HB3.out.cell (p := ⟨rb, 1, none⟩) hrb0).trans HS0.2⟩
        refine hK _ _ (fun _ => HS3) ?_
        clear hK K
        refine any_one 13 rfl (by kernel_rfl) (by kernel_rfl) (fun K hK => ?_)
        obtain ⟨v2, W4, hrun4, ho4, hg4, hat4⟩ := run_extendN (P := Try.prog) (w := W3) w0.heap.size 72 72 76 (.agg #[.int .i64 0, .int .u8 0, .slice none 0 0, .slice none 0 0]) 4 64 Try.underlying72 infoG rfl (by omega) _ m (gvs S ss) HV3.out _ 1 1 (gv ⟨next, 1, [], []⟩ ((none, 0, 0), (none, 0, 0))) HY3.out (by simp [gv]) (one_gv _ _) (by simp only [maxLen]; omega) (by omega) HB3.out.size
        have HB4 : Hid (Below w0.heap.size w0 W4) := below_grown HB3.out hg4 HB3.out.size (own_row HV3.out)
        have HR4 := Lib.hid ho4
        refine oper_append (.tmp 20) (.tmp 26) 72 (by kernel_rfl) _ _ _ (by kernel_rfl) (by kernel_rfl) hrun4 ?_
        clear hrun4 ho4 hg4 hat4
        go_simp
        have HS4 : At (fun w' : World => w'.cell? ⟨rb, 0, none⟩ = some (.slice lA m c) ∧ w'.cell? ⟨rb, 1, none⟩ = some (.int .i64 next)) W4 := ⟨(HB4.out.cell (p := ⟨rb, 0, none⟩) hrb0).trans HS0.1, (HB4.out.cell (p := ⟨rb, 1, none⟩) hrb0).trans HS0.2⟩
        refine hK _ _ (fun _ => HS4) ?_
        clear hK K
        refine any_one 14 rfl (by kernel_rfl) (by kernel_rfl) (fun K hK => ?_); go_simp; refine hK _ _ (fun _ => HS4) ?_; clear hK K
        refine any_one 15 rfl (by kernel_rfl) (by kernel_rfl) (fun K hK => ?_); go_simp; refine hK _ _ (fun _ => HS4) ?_; clear hK K
        obtain ⟨A9, c9, rfl, hgx⟩ := HD.out.turned HB4.out (S' := S ++ [⟨next, 1, [], []⟩]) (ss' := ss ++ [((none, 0, 0), (none, 0, 0))]) (k := m + 1) (by rw [gvs_append (by have := HD.out.len; have := HD.out.slen; omega)]; simpa [gvs] using HR4.out) (by simp; exact HL.out) (by simp; exact HD.out.slen) (made_rows HD.out HB4.out)
        have f0 := ((HD.out.hd).keep HB4.out).free 0
        have g0 := hgx.h0
        have g1 := hgx.h1
        have g2 := hgx.hd.free 1
        have HX := Lib.hid hgx
        have HF5 : Hid (Fr F w (W4.setCell ⟨rb, 0, none⟩ (.slice A9 (m + 1) c9))) := (HFD.out.trans (fr_of_below HB4.out F)).setCell (.inl HD.out.fh) _
        have HW5 : Hid (w.heap.size ≤ (W4.setCell ⟨rb, 0, none⟩ (.slice A9 (m + 1) c9)).heap.size) := HF5.out.size
        clear hgx
        obtain ⟨k0, k1⟩ := HS4
        refine any_last 16 rfl (by kernel_rfl) (by kernel_rfl) (by kernel_rfl) (fun K hK => ?_)
        go_simp
        refine hK _ _ ?_
        clear hK K k0 k1 f0 HS0 HS1 HS2 HS3
        refine any_end (by kernel_rfl) ?_
        generalize W4.setCell ⟨rb, 0, none⟩ (.slice A9 (m + 1) c9) = W5 at *
        go_wp2
        go_ret2
        exact ⟨rfl, _, ⟨_, _, _, _, HX.out.nexted (next + 1)⟩, HF5.out.setCell (.inl HD.out.fh) _, fun b hb => hb.imp id fun h => by rw [← HZ.out]; exact h.1⟩
    · go_simp
      have HB1 : Hid (Below w0.heap.size w0 (w0.alloc (.cells #[.int .i64 next, .int .u8 1, .slice none 0 0, .slice none 0 0] 76))) := HB0.out.alloc HB0.out.size _
      have HY1 : Hid (Rd (w0.alloc (.cells #[.int .i64 next, .int .u8 1, .slice none 0 0, .slice none 0 0] 76)) (some ⟨w0.heap.size, 0, none⟩) 1 1 (gv ⟨next, 1, [], []⟩ ((none, 0, 0), (none, 0, 0)))) := rd_block (blk11 w0 _) 1 1 _ 0 (Nat.le_refl _) (by omega) (fun j hj => by simp only [gv, List.length_cons, List.length_nil] at hj; rw [Nat.zero_add]; rcases (show j = 0 ∨ j = 1 ∨ j = 2 ∨ j = 3 by omega) with rfl | rfl | rfl | rfl <;> rfl)
      have hlt1 : w0.heap.size < (w0.alloc (.cells #[.int .i64 next, .int .u8 1, .slice none 0 0, .slice none 0 0] 76)).heap.size := by simp
      generalize w0.alloc (.cells #[.int .i64 next, .int .u8 1, .slice none 0 0, .slice none 0 0] 76) = W1 at *
      have HS1 : At (fun w' : World => w'.cell? ⟨rb, 0, none⟩ = some (.slice lA m c) ∧ w'.cell? ⟨rb, 1, none⟩ = some (.int .i64 next)) W1 := ⟨(HB1.out.cell (p := ⟨rb, 0, none⟩) hrb0).trans HS0.1, (HB1.out.cell (p := ⟨rb, 1, none⟩) hrb0).trans HS0.2⟩
      refine hK _ _ (fun _ => HS1) ?_
      clear hK K
      refine any_one 1 rfl (by kernel_rfl) (by kernel_rfl) (fun K hK => ?_)
      go_simp
      have HB2 : Hid (Below w0.heap.size w0 (W1.alloc (.cells #[] 76))) := HB1.out.alloc HB1.out.size _
      have HE2 : Hid ((W1.alloc (.cells #[] 76)).ownsRow w0.heap.size 76 4 (.slice (some ⟨W1.heap.size, 0, none⟩) 0 0) 0 []) := own_emptyN W1 76 _ _ HB1.out.size
      have HY2 := Lib.hid (HY1.out.alloc (.cells #[] 76))
      have hlt2 : W1.heap.size < (W1.alloc (.cells #[] 76)).heap.size := by simp
      generalize W1.alloc (.cells #[] 76) = W2 at *
      have HS2 : At (fun w' : World => w'.cell? ⟨rb, 0, none⟩ = some (.slice lA m c) ∧ w'.cell? ⟨rb, 1, none⟩ = some (.int .i64 next)) W2 := ⟨(HB2.out.cell (p := ⟨rb, 0, none⟩) hrb0).trans HS0.1, (HB2.out.cell (p := ⟨rb, 1, none⟩) hrb0).trans HS0.2⟩
      refine hK _ _ (fun _ => HS2) ?_
      clear hK K
      refine any_one 6 rfl (by kernel_rfl) (by kernel_rfl) (fun K hK => ?_)
      obtain ⟨v1, W3, hrun3, ho3, hg3, hat3⟩ := run_extendN (P := Try.prog) (w := W2) w0.heap.size 72 72 76 (.agg #[.int .i64 0, .int .u8 0, .slice none 0 0, .slice none 0 0]) 4 64 Try.underlying72 infoG rfl (by omega) _ 0 [] HE2.out lA m c (gvs S ss) (HRD.out.below HB2.out) HGL.out (one_gvs _ _) (by simp only [maxLen]; omega) (by omega) HB2.out.size
      rw [Nat.zero_add, List.nil_append] at ho3
      have HB3 : Hid (Below w0.heap.size w0 W3) := below_grown HB2.out hg3 HB2.out.size (own_row HE2.out)
      have HY3 : Hid (Rd W3 (some ⟨w0.heap.size, 0, none⟩) 1 1 (gv ⟨next, 1, [], []⟩ ((none, 0, 0), (none, 0, 0)))) := rd_far HY2.out hg3 (by simp [Value.ownBlock]; omega)
      have HV3 := Lib.hid ho3
      refine oper_append (.tmp 15) (.tmp 19) 72 (by kernel_rfl) _ _ _ (by kernel_rfl) (by kernel_rfl) hrun3 ?_
      clear hrun3 ho3 hg3 hat3
      go_simp
      have HS3 : At (fun w' : World => w'.cell? ⟨rb, 0, none⟩ = some (.slice lA m c) ∧ w'.cell? ⟨rb, 1, none⟩ = some (.int .i64 next)) W3 := ⟨(HB3.out.cell (p := ⟨rb, 0, none⟩) hrb0).trans HS0.1, (HB3.out.cell (p := ⟨rb, 1, none⟩) hrb0).trans HS0.2⟩
      refine hK _ _ (fun _ => HS3) ?_
      clear hK K
      refine any_one 13 rfl (by kernel_rfl) (by kernel_rfl) (fun K hK => ?_)
      obtain ⟨v2, W4, hrun4, ho4, hg4, hat4⟩ := run_extendN (P := Try.prog) (w := W3) w0.heap.size 72 72 76 (.agg #[.int .i64 0, .int .u8 0, .slice none 0 0, .slice none 0 0]) 4 64 Try.underlying72 infoG rfl (by omega) _ m (gvs S ss) HV3.out _ 1 1 (gv ⟨next, 1, [], []⟩ ((none, 0, 0), (none, 0, 0))) HY3.out (by simp [gv]) (one_gv _ _) (by simp only [maxLen]; omega) (by omega) HB3.out.size
      have HB4 : Hid (Below w0.heap.size w0 W4) := below_grown HB3.out hg4 HB3.out.size (own_row HV3.out)
      have HR4 := Lib.hid ho4
      refine oper_append (.tmp 20) (.tmp 26) 72 (by kernel_rfl) _ _ _ (by kernel_rfl) (by kernel_rfl) hrun4 ?_
      clear hrun4 ho4 hg4 hat4
      go_simp
      have HS4 : At (fun w' : World => w'.cell? ⟨rb, 0, none⟩ = some (.slice lA m c) ∧ w'.cell? ⟨rb, 1, none⟩ = some (.int .i64 next)) W4 := ⟨(HB4.out.cell (p := ⟨rb, 0, none⟩) hrb0).trans HS0.1, (HB4.out.cell (p := ⟨rb, 1, none⟩) hrb0).trans HS0.2⟩
      refine hK _ _ (fun _ => HS4) ?_
      clear hK K
      refine any_one 14 rfl (by kernel_rfl) (by kernel_rfl) (fun K hK => ?_); go_simp; refine hK _ _ (fun _ => HS4) ?_; clear hK K
      refine any_one 15 rfl (by kernel_rfl) (by kernel_rfl) (fun K hK => ?_); go_simp; refine hK _ _ (fun _ => HS4) ?_; clear hK K
      obtain ⟨A9, c9, rfl, hgx⟩ := HD.out.turned HB4.out (S' := S ++ [⟨next, 1, [], []⟩]) (ss' := ss ++ [((none, 0, 0), (none, 0, 0))]) (k := m + 1) (by rw [gvs_append (by have := HD.out.len; have := HD.out.slen; omega)]; simpa [gvs] using HR4.out) (by simp; exact HL.out) (by simp; exact HD.out.slen) (made_rows HD.out HB4.out)
      have f0 := ((HD.out.hd).keep HB4.out).free 0
      have g0 := hgx.h0
      have g1 := hgx.h1
      have g2 := hgx.hd.free 1
      have HX := Lib.hid hgx
      have HF5 : Hid (Fr F w (W4.setCell ⟨rb, 0, none⟩ (.slice A9 (m + 1) c9))) := (HFD.out.trans (fr_of_below HB4.out F)).setCell (.inl HD.out.fh) _
      have HW5 : Hid (w.heap.size ≤ (W4.setCell ⟨rb, 0, none⟩ (.slice A9 (m + 1) c9)).heap.size) := HF5.out.size
      clear hgx
      obtain ⟨k0, k1⟩ := HS4
      refine any_last 16 rfl (by kernel_rfl) (by kernel_rfl) (by kernel_rfl) (fun K hK => ?_)
      go_simp
      refine hK _ _ ?_
      clear hK K k0 k1 f0 HS0 HS1 HS2 HS3
      refine any_end (by kernel_rfl) ?_
      generalize W4.setCell ⟨rb, 0, none⟩ (.slice A9 (m + 1) c9) = W5 at *
      go_wp2
      go_ret2
      exact ⟨rfl, _, ⟨_, _, _, _, HX.out.nexted (next + 1)⟩, HF5.out.setCell (.inl HD.out.fh) _, fun b hb => hb.imp id fun h => by rw [← HZ.out]; exact h.1⟩
end Go.Proofs.Ytbflmgpcjfoifaa
/- Walks of the reference's groups: turn, Engage, Disengage, Release. -/
set_option linter.unusedSimpArgs false
set_option linter.unusedVariables false
namespace Go.Proofs.Ytbflmgpcjfoifaa
open Go.RowKit Go.Sel Go.Sel.Gp

theorem GRn.same {F : Nat → Prop} {w : World} {rb : Nat} {S : List G} {next : Int} (h : GR F w rb S next) : GRn F w w rb S next := ⟨F, h, Fr.refl _ _, fun b hb => .inl hb⟩
theorem GRx.setSt {F : Nat → Prop} {w : World} {rb : Nat} {lA : Option Addr} {n c : Nat} {S : List G} {ss : List (Q3 × Q3)} {next : Int} (h : GRx F w rb lA n c S ss next) {i lb : Nat} (hi : i < n) (hA : lA = some ⟨lb, 0, none⟩) (x : Int) :
    ∃ ss', GRx F (w.setCell ⟨lb, i * 4 + 1, none⟩ (.int .u8 x)) rb lA n c (S.set i { nthG S i with st := x }) ss' next := by
  obtain ⟨lb', p, q, e, _, _, _, hs, _, _, _, _, _, h1, h2⟩ := h.get hi
  exact ⟨_, h.set hi (by omega) hA { nthG S i with st := x } (p, q) (.int .u8 x) (by simp [gv, List.getD_eq_getElem?_getD, hs]) h1 h2⟩

set_option maxRecDepth 100000 in
set_option maxHeartbeats 8000000 in
theorem rTurn_any (F : Nat → Prop) (w : World) (rb : Nat) (S : List G) (next : Int) (h : GR F w rb S next) (n a b x : Int) :
    Calls Try.prog 58 #[.pointer (some ⟨rb, 0, none⟩), .int .i64 n, .int .u8 a, .int .u8 b, .int .u8 x] w fun e w' => e = .returned (.int .i64 (turnS S n a b x).1) ∧ GRn F w w' rb (turnS S n a b x).2 next := by
  have HG := Lib.hid h
  obtain ⟨lA, m, c, ss, h⟩ := h
  have H := Lib.hid h
  have HC := Lib.hid (at_any F w rb lA m c S ss next h n)
  have h0 := h.h0
  have l1 := h.le
  have l2 := h.cap
  cases hp : posG S n with
  | none =>
    have HV : Hid (posV S n = -1) := by show _ = _; rw [posV, hp]
    have HE : Hid (turnS S n a b x = (5, S)) := by show _ = _; rw [turnS, hp]
    rw [HV.out] at HC
    clear h hp
    generalize turnS S n a b x = r at *
    have he := HE.out
    subst he
    go_enter Try.func58, Try.ntmps58
    go_wp2_with (go_at_call 57; (with_reducible refine HC.out.mono ?_); rintro e w' ⟨rfl, rfl⟩)
    go_ret
    exact ⟨rfl, GRn.same HG.out⟩
  | some i =>
    have hi := posG_lt hp
    have him : i < m := by rw [← h.len]; exact hi.1
    have HV : Hid (posV S n = (i : Int)) := by show _ = _; rw [posV, hp]
    have HE : Hid (turnS S n a b x = if (nthG S i).st ≠ a ∧ (nthG S i).st ≠ b then (13, S) else (0, S.set i { nthG S i with st := x })) := by show _ = _; rw [turnS, hp]
    rw [HV.out] at HC
    obtain ⟨lb, p, q, rfl, hlF, hlb, _, _, _, c1, _, _, hfz, _⟩ := h.get him
    have f1 := hfz (i * 4 + 1)
    obtain ⟨ss', hset⟩ := h.setSt him rfl x
    have HSET := Lib.hid hset
    have HLF := Lib.hid hlF
    clear h hp hi hfz hset hlF
    generalize hg : nthG S i = g at *
    obtain ⟨gn, gs, gp, ga⟩ := g
    clear hg
    simp only at *
    generalize turnS S n a b x = r at *
    by_cases ha : gs = a
    · have e1 : (gs != a) = false := by simpa using ha
      have he := HE.out
      rw [if_neg (fun h => h.1 ha)] at he
      subst he
      clear ha HE
      go_enter Try.func58, Try.ntmps58
      go_wp2_with (go_at_call 57; (with_reducible refine HC.out.mono ?_); rintro e w' ⟨rfl, rfl⟩)
      go_ret
      exact ⟨rfl, F, ⟨_, _, _, _, HSET.out⟩, (Fr.refl F _).setCell (.inl HLF.out) _, fun b hb => .inl hb⟩
    · have e1 : (gs != a) = true := by simpa using ha
      by_cases hb : gs = b
      · have e2 : (gs != b) = false := by simpa using hb
        have he := HE.out
        rw [if_neg (fun h => h.2 hb)] at he
        subst he
        clear ha hb HE
        go_enter Try.func58, Try.ntmps58
        go_wp2_with (go_at_call 57; (with_reducible refine HC.out.mono ?_); rintro e w' ⟨rfl, rfl⟩)
        go_ret
        exact ⟨rfl, F, ⟨_, _, _, _, HSET.out⟩, (Fr.refl F _).setCell (.inl HLF.out) _, fun b hb => .inl hb⟩
      · have e2 : (gs != b) = true := by simpa using hb
        have he := HE.out
        rw [if_pos ⟨ha, hb⟩] at he
        subst he
        clear ha hb HE
        go_enter Try.func58, Try.ntmps58
        go_wp2_with (go_at_call 57; (with_reducible refine HC.out.mono ?_); rintro e w' ⟨rfl, rfl⟩)
        go_ret
        exact ⟨rfl, GRn.same HG.out⟩

set_option maxHeartbeats 1000000 in
theorem rEngage_any (F : Nat → Prop) (w : World) (rb : Nat) (S : List G) (next : Int) (h : GR F w rb S next) (n : Int) :
    Calls Try.prog 39 #[.pointer (some ⟨rb, 0, none⟩), .int .i64 n] w fun e w' => e = .returned (.int .i64 (turnS S n 1 3 2).1) ∧ GRn F w w' rb (turnS S n 1 3 2).2 next := by
  have HC := Lib.hid (rTurn_any F w rb S next h n 1 3 2)
  clear h
  generalize turnS S n 1 3 2 = r at *
  go_enter Try.func39, Try.ntmps39
  go_wp2_with (go_at_call 58; (with_reducible refine HC.out.mono ?_); rintro e w' ⟨rfl, hg⟩; have HG := Lib.hid hg; clear hg)
  go_ret
  exact ⟨rfl, HG.out⟩
set_option maxHeartbeats 1000000 in
theorem rDisengage_any (F : Nat → Prop) (w : World) (rb : Nat) (S : List G) (next : Int) (h : GR F w rb S next) (n : Int) :
    Calls Try.prog 40 #[.pointer (some ⟨rb, 0, none⟩), .int .i64 n] w fun e w' => e = .returned (.int .i64 (turnS S n 2 2 3).1) ∧ GRn F w w' rb (turnS S n 2 2 3).2 next := by
  have HC := Lib.hid (rTurn_any F w rb S next h n 2 2 3)
  clear h
  generalize turnS S n 2 2 3 = r at *
  go_enter Try.func40, Try.ntmps40
  go_wp2_with (go_at_call 58; (with_reducible refine HC.out.mono ?_); rintro e w' ⟨rfl, hg⟩; have HG := Lib.hid hg; clear hg)
  go_ret
  exact ⟨rfl, HG.out⟩
set_option maxHeartbeats 1000000 in
theorem rRelease_any (F : Nat → Prop) (w : World) (rb : Nat) (S : List G) (next : Int) (h : GR F w rb S next) (n : Int) :
    Calls Try.prog 41 #[.pointer (some ⟨rb, 0, none⟩), .int .i64 n] w fun e w' => e = .returned (.int .i64 (turnS S n 1 3 4).1) ∧ GRn F w w' rb (turnS S n 1 3 4).2 next := by
  have HC := Lib.hid (rTurn_any F w rb S next h n 1 3 4)
  clear h
  generalize turnS S n 1 3 4 = r at *
  go_enter Try.func41, Try.ntmps41
  go_wp2_with (go_at_call 58; (with_reducible refine HC.out.mono ?_); rintro e w' ⟨rfl, hg⟩; have HG := Lib.hid hg; clear hg)
  go_ret
  exact ⟨rfl, HG.out⟩
end Go.Proofs.Ytbflmgpcjfoifaa
/- Walks of the reference's groups: Took. -/
set_option linter.unusedSimpArgs false
set_option linter.unusedVariables false
namespace Go.Proofs.Ytbflmgpcjfoifaa
open Go.RowKit Go.Sel Go.Sel.Gp

theorem GRx.setPs {F : Nat → Prop} {w : World} {rb : Nat} {lA : Option Addr} {n c : Nat} {S : List G} {ss : List (Q3 × Q3)} {next : Int} (h : GRx F w rb lA n c S ss next) {i lb : Nat} (hi : i < n) (hA : lA = some ⟨lb, 0, none⟩) (q' : Q3) (ps : List Int) (hq : RowI F w q' ps) :
    ∃ ss', GRx F (w.setCell ⟨lb, i * 4 + 2, none⟩ (sv q')) rb lA n c (S.set i { nthG S i with ps := ps }) ss' next := by
  obtain ⟨lb', p, q, e, _, _, _, hs, _, _, _, _, _, h1, h2⟩ := h.get hi
  exact ⟨_, h.set hi (by omega) hA { nthG S i with ps := ps } (q', q) (sv q') (by simp [gv, List.getD_eq_getElem?_getD, hs]) hq h2⟩
theorem GRx.setAh {F : Nat → Prop} {w : World} {rb : Nat} {lA : Option Addr} {n c : Nat} {S : List G} {ss : List (Q3 × Q3)} {next : Int} (h : GRx F w rb lA n c S ss next) {i lb : Nat} (hi : i < n) (hA : lA = some ⟨lb, 0, none⟩) (q' : Q3) (ah : List Int) (hq : RowI F w q' ah) :
    ∃ ss', GRx F (w.setCell ⟨lb, i * 4 + 3, none⟩ (sv q')) rb lA n c (S.set i { nthG S i with ah := ah }) ss' next := by
  obtain ⟨lb', p, q, e, _, _, _, hs, _, _, _, _, _, h1, h2⟩ := h.get hi
  exact ⟨_, h.set hi (by omega) hA { nthG S i with ah := ah } (p, q') (sv q') (by simp [gv, List.getD_eq_getElem?_getD, hs]) h1 hq⟩
/-- Its blocks and those made since. -/
def Plus (F : Nat → Prop) (w w' : World) (b : Nat) : Prop := F b ∨ (w.heap.size ≤ b ∧ b < w'.heap.size)
theorem GRx.plus {F : Nat → Prop} {w w' : World} {rb : Nat} {lA : Option Addr} {n c : Nat} {S : List G} {ss : List (Q3 × Q3)} {next : Int} (h : GRx F w rb lA n c S ss next) (hB : Below w.heap.size w w') : GRx (Plus F w w') w' rb lA n c S ss next :=
  (h.below hB).mono (fun b hb => .inl hb) fun b hb => by
    rcases hb with hb | hb
    · exact Nat.lt_of_lt_of_le (h.flt b hb) hB.size
    · exact hb.2
theorem RowI.made {F : Nat → Prop} {w w' : World} {base n : Nat} {v : Value} {xs : List Int} (h : w'.ownsRow base 3 1 v n (iv .i64 xs)) (hb : w.heap.size ≤ base) : ∃ A c, v = .slice A n c ∧ RowI (Plus F w w') w' (A, n, c) xs := by
  obtain ⟨A, c, rfl, hl, hr⟩ := rd_own h
  refine ⟨A, c, rfl, by simpa using hl, hr.le, hr.cap, ?_⟩
  rcases h.2 with ⟨e, h0⟩ | ⟨g, cap, cur, e, hg, hh, hn, hc, hs, ht⟩
  · left; subst h0; exact List.eq_nil_of_length_eq_zero (by simpa using hl)
  · right
    injection e with e1 e2 e3
    subst e1 e3
    refine ⟨g, 0, cur, (0, 0), rfl, .inr ⟨by omega, (Array.getElem?_eq_some_iff.1 hh).1⟩, hh, fun j hj => ?_⟩
    have h1 : (cur.toList.take (n * 1))[j]? = (iv .i64 xs)[j]? := by rw [ht]
    have hl' : xs.length = n := by simpa using hl
    rw [List.getElem?_take_of_lt (by omega), Array.getElem?_toList, List.getElem?_eq_getElem (by simpa using hj), iv_at] at h1
    rw [Nat.zero_add]; exact h1

def tookK (S : List G) (p : Int) (k : Nat) : List G := (S.take k).map (took1 p) ++ S.drop k
@[simp] theorem tookK_length (S : List G) (p : Int) (k : Nat) : (tookK S p k).length = S.length := by simp [tookK]; omega
theorem tookK_zero (S : List G) (p : Int) : tookK S p 0 = S := by simp [tookK]
theorem tookK_end (S : List G) (p : Int) : tookK S p S.length = S.map (took1 p) := by simp [tookK]
theorem tookK_at {S : List G} {p : Int} {k : Nat} (h : k < S.length) : nthG (tookK S p k) k = nthG S k := by
  rw [nthG_get (by simpa using h), nthG_get h]
  simp only [tookK]
  rw [List.getElem_append_right (by simp; omega)]
  simp [show min k S.length = k by omega]
theorem tookK_succ {S : List G} {p : Int} {k : Nat} (h : k < S.length) : tookK S p (k + 1) = (tookK S p k).set k (took1 p (nthG S k)) := by
  rw [nthG_get h]
  simp only [tookK]
  rw [List.take_succ_eq_append_getElem h, List.map_append, List.set_append_right _ _ (by simp; omega)]
  simp only [List.map_cons, List.map_nil, List.length_map, List.length_take, show min k S.length = k by omega, Nat.sub_self, List.append_assoc]
  congr 1
  rw [List.drop_eq_getElem_cons h]
  rfl

/-- An operation under way. -/
def GRw (F : Nat → Prop) (w w' : World) (rb : Nat) (lA : Option Addr) (m c : Nat) (S : List G) (next : Int) : Prop := ∃ F' ss, GRx F' w' rb lA m c S ss next ∧ Fr F w w' ∧ ∀ b, F' b → F b ∨ w.heap.size ≤ b
theorem GRw.step {F : Nat → Prop} {w w1 w2 : World} {rb : Nat} {lA : Option Addr} {m c : Nat} {S : List G} {next : Int} {F1 : Nat → Prop} {ss : List (Q3 × Q3)} (h : GRx F1 w1 rb lA m c S ss next) (hf : Fr F w w1) (hF : ∀ b, F1 b → F b ∨ w.heap.size ≤ b) (hB : Below w1.heap.size w1 w2)
    {i lb : Nat} (hi : i < m) (hA : lA = some ⟨lb, 0, none⟩) {q : Q3} {ps : List Int} (hq : RowI (Plus F1 w1 w2) w2 q ps) :
    GRw F w (w2.setCell ⟨lb, i * 4 + 2, none⟩ (sv q)) rb lA m c (S.set i { nthG S i with ps := ps }) next := by
  obtain ⟨ss', hs⟩ := (h.plus hB).setPs hi hA q ps hq
  obtain ⟨lb', _, _, e, hlb, _⟩ := h.get hi
  rw [hA] at e
  injection e with e; injection e with e; subst e
  refine ⟨_, ss', hs, (hf.trans (fr_of_below hB F)).setCell (hF _ hlb) _, fun b hb => ?_⟩
  rcases hb with hb | hb
  · exact hF b hb
  · have := hf.size; exact .inr (by omega)
theorem GRw.stepAh {F : Nat → Prop} {w w1 w2 : World} {rb : Nat} {lA : Option Addr} {m c : Nat} {S : List G} {next : Int} {F1 : Nat → Prop} {ss : List (Q3 × Q3)} (h : GRx F1 w1 rb lA m c S ss next) (hf : Fr F w w1) (hF : ∀ b, F1 b → F b ∨ w.heap.size ≤ b) (hB : Below w1.heap.size w1 w2)
    {i lb : Nat} (hi : i < m) (hA : lA = some ⟨lb, 0, none⟩) {q : Q3} {ps : List Int} (hq : RowI (Plus F1 w1 w2) w2 q ps) :
    GRw F w (w2.setCell ⟨lb, i * 4 + 3, none⟩ (sv q)) rb lA m c (S.set i { nthG S i with ah := ps }) next := by
  obtain ⟨ss', hs⟩ := (h.plus hB).setAh hi hA q ps hq
  obtain ⟨lb', _, _, e, hlb, _⟩ := h.get hi
  rw [hA] at e
  injection e with e; injection e with e; subst e
  refine ⟨_, ss', hs, (hf.trans (fr_of_below hB F)).setCell (hF _ hlb) _, fun b hb => ?_⟩
  rcases hb with hb | hb
  · exact hF b hb
  · have := hf.size; exact .inr (by omega)

set_option maxRecDepth 100000 in
set_option maxHeartbeats 8000000 in
theorem rTook_any (F : Nat → Prop) (w : World) (rb : Nat) (S : List G) (next : Int) (h : GR F w rb S next) (p : Int) (hb : ∀ j, j < S.length → (nthG S j).ps.length ≤ 1000000) :
    Calls Try.prog 43 #[.pointer (some ⟨rb, 0, none⟩), .int .i64 p] w fun e w' => e = .returned (.int .i64 (tookS S p).1) ∧ GRn F w w' rb (tookS S p).2 next := by
  have HG := Lib.hid h
  obtain ⟨lA, m, c, ss, h⟩ := h
  have H := Lib.hid h
  have HL := Lib.hid h.len
  have HB := Lib.hid hb
  have l1 := h.le
  have l2 := h.cap
  clear hb
  by_cases hp : p < 0
  · have HE : Hid (tookS S p = (2, S)) := by show _ = _; rw [tookS, if_pos hp]
    clear h
    generalize tookS S p = r at *
    have he := HE.out
    subst he
    have d1 : decide (p < 0) = true := decide_eq_true hp
    clear hp
    go_enter Try.func43, Try.ntmps43
    go_wp2
    go_ret
    exact ⟨rfl, GRn.same HG.out⟩
  · have HE : Hid (tookS S p = (0, S.map (took1 p))) := by show _ = _; rw [tookS, if_neg hp]
    clear h
    generalize tookS S p = r at *
    have he := HE.out
    subst he
    have d1 : decide (p < 0) = false := decide_eq_false hp
    clear hp
    go_enter Try.func43, Try.ntmps43
    go_wp2
    go_loopw [5] (fun v wr => ∃ k : Nat, k ≤ m ∧ v = .int .i64 k ∧ Hid (GRw F w wr rb lA m c (tookK S p k) next)) (fun v _ => m - (intOf v).toNat)
    case atStart => exact ⟨0, by omega, rfl, F, ss, by rw [tookK_zero]; exact H.out, Fr.refl _ _, fun b hb => .inl hb⟩
    case round =>
      obtain ⟨k, hk, rfl, HO⟩ := hrel
      obtain ⟨F1, s1, hx, hf, hF⟩ := HO
      have HX := Lib.hid hx
      have HF := Lib.hid hf
      have HFF := Lib.hid hF
      clear hf hF
      have h0 := hx.h0
      by_cases hlt : k < m
      · have hkS : k < S.length := by rw [HL.out]; exact hlt
        obtain ⟨lb, pq, qq, rfl, _, hlb, hne, _, c0, c1, c2, _, hfz, hrow, _⟩ := hx.get hlt
        have ea : nthG (tookK S p k) k = nthG S k := tookK_at hkS
        rw [ea] at c1 hrow
        have HS := Lib.hid (tookK_succ (p := p) hkS)
        have hbk := HB.out k hkS
        have HEA := Lib.hid ea
        have f2 := hfz (k * 4 + 2)
        clear hx c0 hfz ea
        by_cases hst : (nthG S k).st = 2
        · have e1 : ((nthG S k).st == 2) = true := by simpa using hst
          have HN : Hid (tookK S p (k + 1) = (tookK S p k).set k { nthG (tookK S p k) k with ps := withL (nthG S k).ps p }) := by show _ = _; rw [HS.out, HEA.out, took1, if_pos hst]
          clear hst HS
          generalize hxs : (nthG S k).ps = xs at *
          generalize (nthG S k).st = y at *
          clear hxs
          obtain ⟨pa, pn, pc⟩ := pq
          have hpl := hrow.1
          have hrd := hrow.rd
          simp only at hpl hrd
          subst hpl
          simp only [sv] at c2
          have HRD := Lib.hid hrd
          clear hrow hrd
          go_upto_region 9 with (fail)
          have HS0 : At (fun w' : World => w'.cell? ⟨rb, 0, none⟩ = some (.slice (some ⟨lb, 0, none⟩) m c) ∧ w'.cell? ⟨lb, k * 4 + 2, none⟩ = some (.slice pa xs.length pc)) wr.drew := ⟨h0, c2⟩
          have HX0 : Hid (GRx F1 wr.drew rb (some ⟨lb, 0, none⟩) m c (tookK S p k) s1 next) := HX.out.below (Sel.below_drewN wr 1)
          have HF0 : Hid (Fr F w wr.drew) := HF.out.drewN 1
          have HR0 : Hid (Rd wr.drew pa xs.length pc (iv .i64 xs)) := rd_drewN 1 HRD.out
          have hlb0 : lb < wr.drew.heap.size := hlb
          have hrb0 : rb < wr.drew.heap.size := HX.out.lt
          have f0 : wr.drew.frozen? ⟨lb, k * 4 + 2, none⟩ = false := f2
          clear h0 c1 c2 HX HF HRD hlb f2
          refine wp_region_lexD HS0 [0, 1, 2, 3, 4, 5, 6, 7, 8, 9, 10, 11, 12, 13] (by kernel_rfl) (by kernel_rfl) (fun _ _ d _ _ h => by cases d <;> exact h) ?_
          change wpLexD _ _ _ _ _ _ _ _ _ wr.drew
          generalize wr.drew = w0 at *
          repeat (refine lexD_take (by decide) (by kernel_rfl) HS0 (fun w9 h9 => by obtain ⟨s0, s1⟩ := h9; go_simp; first | done | rfl) (fun K hK => ?_); go_simp; refine hK _ ?_; clear hK K)
          refine lexD_do (by kernel_rfl) (by kernel_rfl) (fun K hK => ?_)
          go_simp
          refine (with_any pa xs.length pc xs p w0 HR0.out rfl hbk).mono ?_
          rintro e w5 ⟨⟨v, rfl, hown⟩, hB⟩
          have hB5 := Lib.hid hB
          obtain ⟨A5, c5, rfl, hq⟩ := RowI.made (F := F1) (w := w0) hown (Nat.le_refl _)
          have HST := GRw.step HX0.out HF0.out HFF.out hB hlt rfl hq
          rw [← HN.out] at HST
          have HST2 := Lib.hid HST
          have HS5 : At (fun w' : World => w'.cell? ⟨rb, 0, none⟩ = some (.slice (some ⟨lb, 0, none⟩) m c) ∧ w'.cell? ⟨lb, k * 4 + 2, none⟩ = some (.slice pa xs.length pc)) w5 := ⟨(hB.cell (p := ⟨rb, 0, none⟩) hrb0).trans HS0.1, (hB.cell (p := ⟨lb, k * 4 + 2, none⟩) hlb0).trans HS0.2⟩
          have f5 : w5.frozen? ⟨lb, k * 4 + 2, none⟩ = false := (hB.frozen (p := ⟨lb, k * 4 + 2, none⟩) hlb0).trans f0
          clear hown hq HST hB HS0
          refine hK _ _ (fun _ => HS5) ?_
          clear hK K
          refine lexD_do (by kernel_rfl) (by kernel_rfl) (fun K hK => ?_); go_simp; refine hK _ _ (fun _ => HS5) ?_; clear hK K
          refine lexD_do (by kernel_rfl) (by kernel_rfl) (fun K hK => ?_); go_simp; refine hK _ _ (fun _ => HS5) ?_; clear hK K
          have k2 := HS5.2
          refine lexD_late (by kernel_rfl) (by kernel_rfl) (fun K hK => ?_)
          go_simp
          refine hK _ _ ?_
          clear hK K k2 f5 HS5
          refine lexD_nil ?_
          simp only [sv] at HST2
          generalize w5.setCell ⟨lb, k * 4 + 2, none⟩ (.slice A5 (withL xs p).length c5) = W6 at *
          go_wp2
          go_roundw
          case rel => exact ⟨k + 1, by omega, by go_num, HST2⟩
          case measure => simp [intOf] <;> omega
        · have e1 : ((nthG S k).st == 2) = false := by simpa using hst
          have HN : Hid (tookK S p (k + 1) = tookK S p k) := by
            show _ = _
            rw [HS.out, took1, if_neg hst, ← HEA.out, nthG_get (by simpa using hkS), List.set_getElem_self]
          clear hst HS
          generalize (nthG S k).ps = xs at *
          generalize (nthG S k).st = y at *
          clear hrow c2 f2
          go_wp2
          go_roundw
          case rel => exact ⟨k + 1, by omega, by go_num, F1, s1, by rw [HN.out]; exact HX.out, HF.out, HFF.out⟩
          case measure => simp [intOf] <;> omega
      · obtain rfl : k = m := by omega
        clear hx
        go_wp2
        go_ret
        have e : tookK S p k = S.map (took1 p) := by rw [← HL.out, tookK_end]
        have hx := HX.out
        rw [e] at hx
        exact ⟨rfl, F1, ⟨_, _, _, _, hx⟩, HF.out, HFF.out⟩
end Go.Proofs.Ytbflmgpcjfoifaa
