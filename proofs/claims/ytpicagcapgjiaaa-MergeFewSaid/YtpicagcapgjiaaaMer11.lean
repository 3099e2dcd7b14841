/- Walks of merge's laws: MergeFew. -/
import Derived.Test.YtpicagcapgjiaaaMer9
import Derived.Test.YtpicagcapgjiaaaMerL
set_option linter.unusedSimpArgs false
set_option linter.unusedVariables false
namespace Go.Proofs.Ytpicagcapgjiaaa
open Go.RowKit Go.Sel Go.Sel.Gra Go.Sel.Mer Go.Shelf

/-- The row of patches that come behind one another, in memory. -/
structure ChR (B : Nat) (b : Int) (v : Value) (m : Nat) (R : List It) (ss : List (Option Addr × Nat × Nat)) (w : World) : Prop where
  own : w.ownsRow B 44 4 v m (itvs R ss)
  len : R.length = m
  slen : ss.length = m
  dep : ∀ j (h : j < ss.length), (j = 0 → ss[j] = (none, 0, 0)) ∧ (0 < j → ∃ q, ss[j] = (some ⟨q, 0, none⟩, 1, 1) ∧ Bk w q 3 [.int .i64 ((j - 1 : Nat) : Int)])
  ok : ∀ i, i < m → prightB (nthI R i) = true ∧ (nthI R i).b = b ∧ (nthI R i).ds = if i = 0 then [] else [((i - 1 : Nat) : Int)]
theorem ChR.below {B : Nat} {b : Int} {v : Value} {m : Nat} {R : List It} {ss : List (Option Addr × Nat × Nat)} {w w' : World} (h : ChR B b v m R ss w) (hB : Below w.heap.size w w') : ChR B b v m R ss w' :=
  ⟨own_below h.own hB (Nat.le_refl _), h.len, h.slen, fun j hj => ⟨(h.dep j hj).1, fun hp => by obtain ⟨q, h1, h2⟩ := (h.dep j hj).2 hp; exact ⟨q, h1, h2.keep hB⟩⟩, h.ok⟩
theorem ChR.more {B : Nat} {b : Int} {v v' : Value} {m : Nat} {R : List It} {ss : List (Option Addr × Nat × Nat)} {w w' : World} (h : ChR B b v m R ss w) (hg : w.grownBy w' v.ownBlock) (x : It) (s : Option Addr × Nat × Nat)
    (hown : w'.ownsRow B 44 4 v' (m + 1) (itvs R ss ++ itv x s)) (hx : prightB x = true) (hb : x.b = b) (hds : x.ds = if m = 0 then [] else [((m - 1 : Nat) : Int)])
    (hs0 : m = 0 → s = (none, 0, 0)) (hs1 : 0 < m → ∃ q, s = (some ⟨q, 0, none⟩, 1, 1) ∧ Bk w q 3 [.int .i64 ((m - 1 : Nat) : Int)]) : ChR B b v' (m + 1) (R ++ [x]) (ss ++ [s]) w' := by
  have hl := h.len
  have hsl := h.slen
  have hk : ∀ q vs, Bk w q 3 vs → Bk w' q 3 vs := fun q vs hq => bk_grown hq hg fun he => absurd (IsC.one (own_typed h.own q he).2 (Bk.isC hq)) (by decide)
  refine ⟨by rw [itvs_snoc (by omega)]; exact hown, by simp [hl], by simp [hsl], fun j hj => ?_, fun i hi => ?_⟩
  · by_cases hjm : j < ss.length
    · rw [List.getElem_append_left hjm]
      refine ⟨(h.dep j hjm).1, fun hp => ?_⟩
      obtain ⟨q, h1, h2⟩ := (h.dep j hjm).2 hp
      exact ⟨q, h1, hk q _ h2⟩
    · obtain rfl : j = m := by simp at hj; omega
      rw [List.getElem_append_right (by omega)]
      simp only [hsl, Nat.sub_self, List.getElem_cons_zero]
      refine ⟨hs0, fun hp => ?_⟩
      obtain ⟨q, h1, h2⟩ := hs1 hp
      exact ⟨q, h1, hk q _ h2⟩
  · by_cases hjm : i < m
    · have e : nthI (R ++ [x]) i = nthI R i := by
        rw [nthI_get (by simp; omega), nthI_get (by omega), List.getElem_append_left (by omega)]
      rw [e]; exact h.ok i hjm
    · obtain rfl : i = m := by omega
      have e : nthI (R ++ [x]) i = x := by
        rw [nthI_get (by simp; omega), List.getElem_append_right (by omega)]; simp
      rw [e]; exact ⟨hx, hb, hds⟩
theorem ChR.set {B : Nat} {b : Int} {v u : Value} {m X j : Nat} {R : List It} {ss : List (Option Addr × Nat × Nat)} {w : World} {vs : List Value} (h : ChR B b v m R ss w) (hX : Bk w X 44 vs) (hne : v.ownBlock ≠ some X) : ChR B b v m R ss (w.setCell ⟨X, j, none⟩ u) := by
  have hd : ∀ q vs', Bk w q 3 vs' → Bk (w.setCell ⟨X, j, none⟩ u) q 3 vs' := fun q vs' hq => hq.far (p := ⟨X, j, none⟩) (fun e => by
    have e' : X = q := e
    subst e'
    exact absurd (IsC.one (Bk.isC hq) (Bk.isC hX)) (by decide)) u
  exact ⟨ownsRow_setCell_other h.own (a := ⟨X, j, none⟩) hne u, h.len, h.slen, fun i hi => ⟨(h.dep i hi).1, fun hp => by obtain ⟨q, h1, h2⟩ := (h.dep i hi).2 hp; exact ⟨q, h1, hd q _ h2⟩⟩, h.ok⟩
theorem ChR.ip {B : Nat} {b : Int} {v : Value} {m : Nat} {R : List It} {ss : List (Option Addr × Nat × Nat)} {w : World} (h : ChR B b v m R ss w) : ∃ A c, v = .slice A m c ∧ Ip w A m c R := by
  obtain ⟨A, c, rfl, _, hr⟩ := rd_ownN (by omega) h.own
  refine ⟨A, c, rfl, ss, h.len, h.slen, hr, fun j hj => ?_⟩
  have h1 := h.ok j (by have := h.slen; omega)
  have h2 := h.dep j hj
  rw [h1.2.2]
  by_cases h0 : j = 0
  · rw [if_pos h0, h2.1 h0]; exact ⟨rfl, Rd.nil (c := 0) (by omega)⟩
  · rw [if_neg h0]
    obtain ⟨q, h3, h4⟩ := h2.2 (by omega)
    rw [h3]
    exact ⟨rfl, h4.rd 1 1 (by omega) (by omega)⟩

set_option maxRecDepth 100000 in
set_option maxHeartbeats 8000000 in
theorem law_MergeFew (A : Option Addr) (n c : Nat) (L : List It) (a1 : Int) (W : World) (hL : Ip W A n c L) (hb0 : 0 ≤ a1) (hb1 : a1 ≤ 255) :
    Calls Try.prog 7 #[.slice A n c, .int .u8 a1] W fun e W' => e = .returned (.bool true) ∧ Below W.heap.size W W' := by
  have HL := Lib.hid hL
  have HEL : Hid ((fewI L).length = min n 24) := by show _ = _; rw [fewI_length, hL.len, Nat.min_comm]
  have l1 := hL.le
  have l2 := hL.cap
  clear hL
  go_enter Try.func7, Try.ntmps7
  go_upto_region 2 with (go_at_call 22; (with_reducible refine (mfew_any _ _ _ L _ HL.out).mono ?_); rintro e w1 ⟨⟨A3, c3, rfl, hd⟩, hB⟩; have HE := Lib.hid hd; have HB1 := Lib.hid hB; clear hd hB)
  have hN24 : min n 24 ≤ 24 := by omega
  generalize fewI L = E at *
  generalize min n 24 = N at *
  have n1 := HE.out.le
  have n2 := HE.out.cap
  go_wp2
  go_loopw [5, 6, 7] (fun v i _ wr => ∃ (k m : Nat) (R : List It) (ss : List (Option Addr × Nat × Nat)), k ≤ N ∧ m ≤ k ∧ i = .int .i64 k ∧ Hid (ChR w1.heap.size (a1 % 96) v m R ss wr) ∧ Hid (Below w1.heap.size w1 wr)) (fun _ i _ _ => N - (intOf i).toNat)
  case atStart => exact ⟨0, 0, [], [], by omega, by omega, rfl, ⟨World.ownsRow_nil _ _ _ _, rfl, rfl, fun j h => by simp at h, fun i h => by omega⟩, Below.refl _ _⟩
  case round =>
    obtain ⟨k, m, R, ss, hk, hmk, rfl, HR, HW⟩ := hrel
    by_cases hlt : k < N
    · obtain ⟨tb, off, q1, q2, q3, rfl, hb, d0, d1, d2, d3, _⟩ := (HE.out.below HW.out).at_ hlt
      generalize hx : nthI E k = x at *
      obtain ⟨xb, xo, xs, xds⟩ := x
      simp only at d0 d1 d2
      clear hx
      go_upto_region 9 with (fail)
      have HX0 : Hid (Bk (wr.alloc (.cells #[.int .i64 (a1 % 96), .int .i64 xo, .string xs, .slice none 0 0] 44)) wr.heap.size 44 [.int .i64 (a1 % 96), .int .i64 xo, .string xs, .slice none 0 0]) := Bk.new _ _ _
      have HB2 : Hid (Below w1.heap.size w1 (wr.alloc (.cells #[.int .i64 (a1 % 96), .int .i64 xo, .string xs, .slice none 0 0] 44))) := below_then HW.out (below_al _ _)
      have HR2 : Hid (ChR w1.heap.size (a1 % 96) u5 m R ss (wr.alloc (.cells #[.int .i64 (a1 % 96), .int .i64 xo, .string xs, .slice none 0 0] 44))) := HR.out.below (below_al _ _)
      clear d0 d1 d2 d3 hb
      have hX1 : w1.heap.size ≤ wr.heap.size := HW.out.size
      have HNE : Hid (u5.ownBlock ≠ some wr.heap.size) := fun e => by have := (HR.out.own.lt _ e).2; omega
      generalize hbb : a1 % 96 = b at *
      have HBB := Lib.hid hbb
      clear hbb
      generalize wr.alloc _ = wa at *
      generalize wr.heap.size = X at *
      have c0 := HX0.out.cell 0 (by simp)
      have c1 := HX0.out.cell 1 (by simp)
      have c2 := HX0.out.cell 2 (by simp)
      simp only [List.getElem_cons_zero, List.getElem_cons_succ] at c0 c1 c2
      cases hp : prightB ⟨b, xo, xs, []⟩ with
      | false =>
        have HP := Lib.hid hp
        clear hp
        go_wp2_with (go_at_call 35; (with_reducible refine (pRight_any ⟨b, xo, xs, []⟩ _).mono ?_); rw [HP.out]; rintro e w2 ⟨rfl, hB⟩; have HB3 := Lib.hid (below_then HB2.out hB); have HR3 := Lib.hid (HR2.out.below hB); clear hB)
        go_roundw
        case rel => exact ⟨k + 1, m, R, ss, by omega, by omega, by go_num, by rw [HBB.out]; exact HR3, HB3⟩
        case measure => simp [intOf] <;> omega
      | true =>
        have HP := Lib.hid hp
        clear hp
        go_upto_region 10 with (go_at_call 35; (with_reducible refine (pRight_any ⟨b, xo, xs, []⟩ _).mono ?_); rw [HP.out]; rintro e w2 ⟨rfl, hB⟩; have HB3 := Lib.hid (below_then HB2.out hB); have HR3 := Lib.hid (HR2.out.below hB); have HX3 := Lib.hid (HX0.out.keep hB); clear hB)
        clear c0 c1 c2
        obtain ⟨Ar, cr, hv, hI⟩ := HR3.out.ip
        subst hv
        have r1 := hI.le
        have r2 := hI.cap
        clear hI
        rcases (show m = 0 ∨ 0 < m by omega) with rfl | hm0
        · have c0 := HX3.out.cell 0 (by simp)
          have c1 := HX3.out.cell 1 (by simp)
          have c2 := HX3.out.cell 2 (by simp)
          have c3 := HX3.out.cell 3 (by simp)
          simp only [List.getElem_cons_zero, List.getElem_cons_succ] at c0 c1 c2 c3
          go_wp2_with (at_builtin; refine wpList_pushH w2 rfl (.tmp 39) (.tmp 41) 33 44 rfl w1.heap.size (.agg #[.int .i64 0, .int .i64 0, .string ⟨#[]⟩, .slice none 0 0]) 4 56 Try.underlying33 infoItem rfl (by omega) (by omega) _ 0 _ [.int .i64 b, .int .i64 xo, .string xs, .slice none 0 0] rfl w2.heap.size rfl rfl rfl (by simp [Value.oneCell']) HR3.out.own HB3.out.size (by omega) rfl ?_; intro g cap w4 ho hg hat hlt1; have HO1 := Lib.hid ho; have HG1 := Lib.hid hg; have HW1 := Lib.hid (below_grown HB3.out hg HB3.out.size (own_row HR3.out.own)); clear ho hg hat)
          go_roundw
          case rel => exact ⟨k + 1, 0 + 1, _, _, by omega, by omega, by go_num, by rw [HBB.out]; exact ChR.more HR3.out HG1.out ⟨b, xo, xs, []⟩ (none, 0, 0) HO1.out HP.out rfl rfl (fun _ => rfl) (fun h => by omega), HW1⟩
          case measure => simp [intOf] <;> omega
        · have HM2 : Hid (((m : Int) - 1) = ((m - 1 : Nat) : Int)) := by show _ = _; omega
          have HX4 : Hid (Bk (w2.alloc (.cells #[.int .i64 ((m : Int) - 1)] 3)) X 44 [.int .i64 b, .int .i64 xo, .string xs, .slice none 0 0]) := HX3.out.keep (below_al _ _)
          have f3 := HX4.out.free 3
          have g3 := HX4.out.cell 3 (by simp)
          simp only [List.getElem_cons_zero, List.getElem_cons_succ] at g3
          go_upto_region 12 with (fail)
          clear f3 g3
          have HXL := HX3.out.lt
          have HQ5 : Hid (Bk ((w2.alloc (.cells #[.int .i64 ((m : Int) - 1)] 3)).setCell ⟨X, 3, none⟩ (.slice (some ⟨w2.heap.size, 0, none⟩) 1 1)) w2.heap.size 3 [.int .i64 ((m : Int) - 1)]) := (Bk.new w2 3 [.int .i64 ((m : Int) - 1)]).far (p := ⟨X, 3, none⟩) (by show X ≠ _; omega) _
          have HX5 : Hid (Bk ((w2.alloc (.cells #[.int .i64 ((m : Int) - 1)] 3)).setCell ⟨X, 3, none⟩ (.slice (some ⟨w2.heap.size, 0, none⟩) 1 1)) X 44 [.int .i64 b, .int .i64 xo, .string xs, .slice (some ⟨w2.heap.size, 0, none⟩) 1 1]) := HX4.out.set 3 _
          have HB5 : Hid (Below w1.heap.size w1 ((w2.alloc (.cells #[.int .i64 ((m : Int) - 1)] 3)).setCell ⟨X, 3, none⟩ (.slice (some ⟨w2.heap.size, 0, none⟩) 1 1))) := (below_then HB3.out (below_al _ _)).setCell hX1 _
          have HR5 : Hid (ChR w1.heap.size b (.slice Ar m cr) m R ss ((w2.alloc (.cells #[.int .i64 ((m : Int) - 1)] 3)).setCell ⟨X, 3, none⟩ (.slice (some ⟨w2.heap.size, 0, none⟩) 1 1))) := (HR3.out.below (below_al _ _)).set HX4.out HNE.out
          generalize ((w2.alloc (.cells #[.int .i64 ((m : Int) - 1)] 3)).setCell ⟨X, 3, none⟩ (.slice (some ⟨w2.heap.size, 0, none⟩) 1 1)) = w5 at *
          generalize w2.heap.size = q at *
          have c0 := HX5.out.cell 0 (by simp)
          have c1 := HX5.out.cell 1 (by simp)
          have c2 := HX5.out.cell 2 (by simp)
          have c3 := HX5.out.cell 3 (by simp)
          simp only [List.getElem_cons_zero, List.getElem_cons_succ] at c0 c1 c2 c3
          go_wp2_with (at_builtin; refine wpList_pushH w5 rfl (.tmp 39) (.tmp 41) 33 44 rfl w1.heap.size (.agg #[.int .i64 0, .int .i64 0, .string ⟨#[]⟩, .slice none 0 0]) 4 56 Try.underlying33 infoItem rfl (by omega) (by omega) _ m _ [.int .i64 b, .int .i64 xo, .string xs, .slice (some ⟨q, 0, none⟩) 1 1] rfl w5.heap.size rfl rfl rfl (by simp [Value.oneCell']) HR5.out.own HB5.out.size (by omega) rfl ?_; intro g cap w6 ho hg hat hlt1; have HO1 := Lib.hid ho; have HG1 := Lib.hid hg; have HW1 := Lib.hid (below_grown HB5.out hg HB5.out.size (own_row HR5.out.own)); clear ho hg hat)
          go_roundw
          case rel => exact ⟨k + 1, m + 1, _, _, by omega, by omega, by go_num, by rw [HBB.out]; exact ChR.more HR5.out HG1.out ⟨b, xo, xs, [(m : Int) - 1]⟩ (some ⟨q, 0, none⟩, 1, 1) HO1.out HP.out rfl (by rw [if_neg (by omega), HM2.out]) (fun h => by omega) (fun _ => ⟨q, rfl, by rw [← HM2.out]; exact HQ5.out⟩), HW1⟩
          case measure => simp [intOf] <;> omega
    · obtain rfl : k = N := by omega
      obtain ⟨Ar, cr, hv, hI⟩ := HR.out.ip
      subst hv
      have hm24 : m ≤ 24 := by omega
      have r1 := hI.le
      have r2 := hI.cap
      have HI := Lib.hid hI
      have HLE : Hid ((groupsL E).length ≤ k) := by show _ ≤ _; rw [← HEL.out]; exact groupsL_le E
      have HEW := Lib.hid (HE.out.below HW.out)
      have hq1 : decide (((groupsL E).length : Int) ≤ (k : Int)) = true := by have := HLE.out; simp; omega
      have hgl : (groupsL E).length ≤ 24 := by have := HLE.out; omega
      have hRl : R.length = m := HR.out.len
      have hCh : Chain (a1 % 96) R := ⟨by omega, fun i hi => HR.out.ok i (by omega)⟩
      clear hI
      generalize hge : groupsL E = GE at *
      have HGE := Lib.hid hge
      clear hge
      rcases (show m = 0 ∨ 0 < m by omega) with rfl | hm0
      · have hRn : R = [] := List.eq_nil_of_length_eq_zero hRl
        have HG0 : Hid (groupsL R = []) := by show _ = _; rw [hRn]; rfl
        clear hRn hRl hCh
        go_wp2_with (first
          | (go_at_call 27; (with_reducible refine (mGroups_any Ar 0 cr R _ HI.out).mono ?_); rw [HG0.out]; rintro e w4 ⟨⟨Ag, cg, rfl, hg⟩, hB⟩; have HB4 := Lib.hid (below_then HW.out hB); have HE4 := Lib.hid (HEW.out.below hB); clear hg hB)
          | (go_at_call 23; (with_reducible refine (mlive_any _).mono ?_); rintro e w5 ⟨rfl, hB⟩; have HB5 := Lib.hid (below_then HB4.out hB); have HE5 := Lib.hid (HE4.out.below hB); clear hB)
          | (go_at_call 27; (with_reducible refine (mGroups_any _ _ _ E _ HE5.out).mono ?_); rw [HGE.out]; rintro e w6 ⟨⟨A6, c6, rfl, hd6⟩, hB⟩; have HB6 := Lib.hid (below_then HB5.out hB); clear hB hd6))
        go_ret
        exact ⟨rfl, below_then HB1.out HB6.out⟩
      · have HG1 : Hid ((groupsL R).length = 1) := (hCh.groups (by omega)).1
        have HG2 : Hid ((nth (groupsL R) 0).length = m) := by show _ = _; rw [(hCh.groups (by omega)).2, hRl]
        clear hRl hCh
        generalize hgr : groupsL R = GR at *
        have HGR := Lib.hid hgr
        clear hgr
        go_upto_region 14 with (go_at_call 27; (with_reducible refine (mGroups_any Ar m cr R _ HI.out).mono ?_); rw [HGR.out, HG1.out]; rintro e w4 ⟨⟨Ag, cg, rfl, hg⟩, hB⟩; have HB4 := Lib.hid (below_then HW.out hB); have HE4 := Lib.hid (HEW.out.below hB); have HD4 := Lib.hid hg; clear hg hB)
        obtain ⟨gb, go, Ag0, ng0, cg0, rfl, hgc, hgl0, _⟩ := HD4.out.at_ (show 0 < 1 by omega)
        obtain rfl : ng0 = m := by rw [← hgl0]; exact HG2.out
        clear hgl0
        have g1 := HD4.out.le
        have g2 := HD4.out.cap
        rw [Nat.add_zero] at hgc
        go_wp2_with (first
          | (go_at_call 23; (with_reducible refine (mlive_any _).mono ?_); rintro e w5 ⟨rfl, hB⟩; have HB5 := Lib.hid (below_then HB4.out hB); have HE5 := Lib.hid (HE4.out.below hB); have hgc := keep_cell hgc hB; clear hB)
          | (go_at_call 27; (with_reducible refine (mGroups_any _ _ _ E _ HE5.out).mono ?_); rw [HGE.out]; rintro e w6 ⟨⟨A6, c6, rfl, hd6⟩, hB⟩; have HB6 := Lib.hid (below_then HB5.out hB); have hgc := keep_cell hgc hB; clear hB hd6))
        go_ret
        exact ⟨rfl, below_then HB1.out HB6.out⟩
end Go.Proofs.Ytpicagcapgjiaaa
