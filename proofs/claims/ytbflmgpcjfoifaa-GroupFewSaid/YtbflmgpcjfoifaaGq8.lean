/- Walks of the program's groups: Fork. Written by gen_gq8.py. -/
import Derived.Test.YtbflmgpcjfoifaaGq2
import Derived.Test.YtbflmgpcjfoifaaGp3
import Derived.Test.YtbflmgpcjfoifaaSelC
set_option linter.unusedSimpArgs false
set_option linter.unusedVariables false
namespace Go.Sel
open Go.RowKit
section
variable {P : Program} {Q : Exit → Act → World → Prop}
/-- A store into a map, as one of a drawn region's operations. -/
theorem oper_mapstore {o : Oper} {a : Act} {K : Act → World → Prop} {w : World} (m x v : Operand) (t : TypeId) (hop : o.op = Op.mapUpdate t m x v) {kt e : TypeId} {q : IntKind}
    (ht : P.underlying t = some (.map kt e)) (hk : P.underlying kt = some (.int q)) {b : Nat} {l : List (Int × Value)} {k : Int} {val : Value}
    (hm : a.eval m = .map (some b)) (hx : a.eval x = .int .i64 k) (hv : a.eval v = val) (h : IMap w b l)
    (hK : ∀ w', IMap w' b (put l k val) → ButBlock b w w' → K (a.put o.dst undef) w') : o.wp P a w K Q := by
  obtain ⟨w', hrun, r1, r2⟩ := h.store ht hk k val
  unfold Oper.wp
  simp [execOp, hop, hm, hx, hv, hrun, Result.andThen]
  exact hK w' r1 r2
end
end Go.Sel
namespace Go.Proofs.Ytbflmgpcjfoifaa
open Go.RowKit Go.Sel Go.Sel.Gp

theorem imap_drew1 {w : World} {b : Nat} {l : List (Int × Value)} (h : IMap w b l) : IMap w.drew b l := ⟨h.nodup, h.is⟩
def pairB (S : List G) (bs : Nat → B3) (i : Nat) : Int × Value := ((nthG S i).n, .pointer (some ⟨(bs i).1, 0, none⟩))
/-- A fork under way. -/
structure FkP (w wr : World) (fb fm base : Nat) (S : List G) (bs fbs : Nat → B3) (next : Int) (left : List (Int × Value)) (dn : List Nat) : Prop where
  hB : Below w.heap.size w wr
  hd : Bk wr fb 66 [.map (some fm), .int .i64 next]
  map : IMap wr fm (dn.map (pairB S fbs))
  lo : w.heap.size ≤ fb ∧ w.heap.size ≤ fm ∧ fm < base ∧ fb < base ∧ base ≤ wr.heap.size
  one : ∀ i, i ∈ dn → i < S.length ∧ One wr (fbs i) (nthG S i) ∧ (base ≤ (fbs i).1 ∧ (fbs i).1 < wr.heap.size) ∧ (base ≤ (fbs i).2.1 ∧ (fbs i).2.1 < wr.heap.size) ∧ (base ≤ (fbs i).2.2 ∧ (fbs i).2.2 < wr.heap.size)
  nd : dn.Nodup
  lnd : left.Nodup
  all : ∀ i, i < S.length → i ∈ dn ∨ pairB S bs i ∈ left
  no : ∀ i, i ∈ dn → pairB S bs i ∉ left
  sep : ∀ i j, i ∈ dn → j ∈ dn → i ≠ j → (fbs i).1 ≠ (fbs j).1 ∧ (fbs i).2.1 ≠ (fbs j).2.1 ∧ (fbs i).2.2 ≠ (fbs j).2.2
  sepa : ∀ i j, i ∈ dn → j ∈ dn → (fbs i).2.1 ≠ (fbs j).2.2
section
variable {w wr : World} {fb fm base : Nat} {S : List G} {bs fbs : Nat → B3} {next : Int} {left : List (Int × Value)} {dn : List Nat}
theorem FkP.below (h : FkP w wr fb fm base S bs fbs next left dn) {w' : World} (hb : Below wr.heap.size wr w') : FkP w w' fb fm base S bs fbs next left dn := by
  have hs := hb.size
  have hl := h.lo
  refine ⟨below_then h.hB hb, h.hd.keep hb, h.map.below hb (by omega), ⟨hl.1, hl.2.1, hl.2.2.1, hl.2.2.2.1, by omega⟩, fun i hi => ?_, h.nd, h.lnd, h.all, h.no, h.sep, h.sepa⟩
  obtain ⟨a1, a2, a3, a4, a5⟩ := h.one i hi
  exact ⟨a1, a2.same (hb.block _ a3.2) (hb.block _ a4.2) (hb.block _ a5.2), ⟨a3.1, by omega⟩, ⟨a4.1, by omega⟩, ⟨a5.1, by omega⟩⟩
theorem FkP.done (h : FkP w wr fb fm base S bs fbs next [] dn) (hn : (S.map (·.n)).Nodup) : GPx (Plus (fun _ => False) w wr) wr fb fm S fbs next := by
  have hl := h.lo
  have hin : ∀ i, i < S.length → i ∈ dn := fun i hi => (h.all i hi).elim id fun h => by cases h
  refine ⟨h.hd, ⟨_, h.map, ?_⟩, fun i hi => (h.one i (hin i hi)).2.1, hn, .inr ⟨hl.1, by omega⟩, .inr ⟨hl.2.1, by omega⟩, fun i hi => ?_, fun b hb => hb.elim False.elim (·.2), fun i j hi hj hij => h.sep i j (hin i hi) (hin j hj) hij, fun i j hi hj => h.sepa i j (hin i hi) (hin j hj), fun i hi => ?_⟩
  · show (dn.map (pairB S fbs)).Perm ((List.range S.length).map (pairB S fbs))
    refine List.Perm.map _ ?_
    rw [List.perm_ext_iff_of_nodup h.nd List.nodup_range]
    intro i
    rw [List.mem_range]
    exact ⟨fun hi => (h.one i hi).1, hin i⟩
  · obtain ⟨_, _, a3, a4, a5⟩ := h.one i (hin i hi)
    exact ⟨.inr ⟨by omega, a3.2⟩, .inr ⟨by omega, a4.2⟩, .inr ⟨by omega, a5.2⟩⟩
  · obtain ⟨_, _, a3, a4, a5⟩ := h.one i (hin i hi)
    omega
theorem FkP.rebase (h : FkP w wr fb fm base S bs fbs next left []) {base' : Nat} (h1 : base ≤ base') (h2 : base' ≤ wr.heap.size) : FkP w wr fb fm base' S bs fbs next left [] := by
  have hl := h.lo
  exact ⟨h.hB, h.hd, h.map, ⟨hl.1, hl.2.1, by omega, by omega, h2⟩, fun i hi => by simp at hi, h.nd, h.lnd, h.all, h.no, h.sep, h.sepa⟩
theorem FkP.fr (h : FkP w wr fb fm base S bs fbs next left dn) {w' : World} {r : Nat} (hf : Fr (· = r) wr w') (hs : w'.heap.size = wr.heap.size) (hr : w.heap.size ≤ r ∧ r < base ∧ r ≠ fb ∧ r ≠ fm) : FkP w w' fb fm base S bs fbs next left dn := by
  have hl := h.lo
  refine ⟨h.hB.trans (hf.below h.hB.size (fun k hk => by rw [hk]; exact hr.1)), (hf.block fb h.hd.lt (by omega)).trans h.hd, ⟨h.map.nodup, by rw [hf.block fm h.map.lt (by omega)]; exact h.map.is⟩, ⟨hl.1, hl.2.1, hl.2.2.1, hl.2.2.2.1, by omega⟩, fun i hi => ?_, h.nd, h.lnd, h.all, h.no, h.sep, h.sepa⟩
  obtain ⟨a1, a2, a3, a4, a5⟩ := h.one i hi
  exact ⟨a1, a2.same (hf.block _ a3.2 (by omega)) (hf.block _ a4.2 (by omega)) (hf.block _ a5.2 (by omega)), ⟨a3.1, by omega⟩, ⟨a4.1, by omega⟩, ⟨a5.1, by omega⟩⟩
/-- One more is forked. -/
theorem FkP.step (h : FkP w wr fb fm base S bs fbs next left dn) (hn : (S.map (·.n)).Nodup) {l1 l2 : List (Int × Value)} {j : Nat} (hj : j < S.length) (he : left = l1 ++ pairB S bs j :: l2) {w3 w4 : World} (hb : Below wr.heap.size wr w3) {o p a : Nat} (ho : wr.heap.size ≤ o ∧ o < w3.heap.size) (hp : wr.heap.size ≤ p ∧ p < w3.heap.size) (ha : wr.heap.size ≤ a ∧ a < w3.heap.size) (hpa : p ≠ a)
    (hone : One w3 (o, p, a) (nthG S j)) (hbut : ButBlock fm w3 w4) (hput : IMap w4 fm (put (dn.map (pairB S fbs)) (nthG S j).n (.pointer (some ⟨o, 0, none⟩)))) :
    FkP w w4 fb fm base S bs (fun i => if i = j then (o, p, a) else fbs i) next (l1 ++ l2) (dn ++ [j]) := by
  have h3 := h.below hb
  have hl := h3.lo
  have hl0 := h.lo
  have hjn : j ∉ dn := fun hc => h.no j hc (by rw [he]; simp)
  have hlnd := h.lnd
  rw [he] at hlnd
  have hlnd2 : (l1 ++ l2).Nodup := hlnd.sublist (List.Sublist.append (List.Sublist.refl _) (List.sublist_cons_self _ _))
  have hpn : pairB S bs j ∉ l1 ++ l2 := by
    rw [List.nodup_append, List.nodup_cons] at hlnd
    obtain ⟨_, ⟨n1, _⟩, n3⟩ := hlnd
    intro hc
    rcases List.mem_append.1 hc with hc | hc
    · exact n3 _ hc _ (by simp) rfl
    · exact n1 hc
  have hne : ∀ i, i ∈ dn → i ≠ j := fun i hi e => hjn (e ▸ hi)
  have hfb : fb ≠ fm := bk_imap h.hd h.map
  have hmap : dn.map (pairB S (fun i => if i = j then (o, p, a) else fbs i)) = dn.map (pairB S fbs) := List.map_congr_left fun i hi => by simp [pairB, hne i hi]
  have hkey : ∀ q ∈ dn.map (pairB S fbs), q.1 ≠ (nthG S j).n := fun q hq => by
    obtain ⟨i, hi, rfl⟩ := List.mem_map.1 hq
    exact fun e => hne i hi (num_inj hn (h.one i hi).1 hj e)
  rw [put_new hkey] at hput
  have hsz := hbut.size
  have hltm : ∀ i, i ∈ dn → (fbs i).1 < wr.heap.size ∧ (fbs i).2.1 < wr.heap.size ∧ (fbs i).2.2 < wr.heap.size := fun i hi => ⟨(h.one i hi).2.2.1.2, (h.one i hi).2.2.2.1.2, (h.one i hi).2.2.2.2.2⟩
  refine ⟨hbut.below h3.hB hl.2.1, (hbut.far _ hfb).trans h3.hd, ?_, ⟨hl.1, hl.2.1, hl.2.2.1, hl.2.2.2.1, by omega⟩, fun i hi => ?_, ?_, hlnd2, fun i hi => ?_, fun i hi => ?_, fun i k hi hk hik => ?_, fun i k hi hk => ?_⟩
  · rw [List.map_append, hmap, List.map_cons, List.map_nil]
    simpa [pairB] using hput
  · rcases List.mem_append.1 hi with hi | hi
    · obtain ⟨a1, a2, a3, a4, a5⟩ := h3.one i hi
      rw [if_neg (hne i hi)]
      exact ⟨a1, a2.same (hbut.far _ (by omega)) (hbut.far _ (by omega)) (hbut.far _ (by omega)), ⟨a3.1, by omega⟩, ⟨a4.1, by omega⟩, ⟨a5.1, by omega⟩⟩
    · have : i = j := by simpa using hi
      subst this
      rw [if_pos rfl]
      exact ⟨hj, hone.same (hbut.far _ (by simp only; omega)) (hbut.far _ (by simp only; omega)) (hbut.far _ (by simp only; omega)), ⟨by simp only; omega, by simp only; omega⟩, ⟨by simp only; omega, by simp only; omega⟩, ⟨by simp only; omega, by simp only; omega⟩⟩
  · rw [List.nodup_append]
    refine ⟨h.nd, by simp, fun x hx y hy => ?_⟩
    have : y = j := by simpa using hy
    rw [this]
    exact hne x hx
  · by_cases e : i = j
    · subst e; exact .inl (by simp)
    · rcases h.all i hi with h1 | h1
      · exact .inl (by simp [h1])
      · right
        rw [he] at h1
        rcases List.mem_append.1 h1 with h2 | h2
        · exact List.mem_append.2 (.inl h2)
        · rcases List.mem_cons.1 h2 with h4 | h4
          · exfalso
            exact e (num_inj hn hi hj (congrArg Prod.fst h4))
          · exact List.mem_append.2 (.inr h4)
  · rcases List.mem_append.1 hi with hi | hi
    · intro hc
      refine h.no i hi ?_
      rw [he]
      rcases List.mem_append.1 hc with hc | hc
      · exact List.mem_append.2 (.inl hc)
      · exact List.mem_append.2 (.inr (List.mem_cons_of_mem _ hc))
    · have : i = j := by simpa using hi
      subst this
      exact hpn
  · rcases List.mem_append.1 hi with hi' | hi'
    · rw [if_neg (hne i hi')]
      rcases List.mem_append.1 hk with hk' | hk'
      · rw [if_neg (hne k hk')]
        exact h.sep i k hi' hk' hik
      · have : k = j := by simpa using hk'
        subst this
        rw [if_pos rfl]
        have := hltm i hi'
        simp only
        omega
    · have : i = j := by simpa using hi'
      subst this
      rw [if_pos rfl]
      rcases List.mem_append.1 hk with hk' | hk'
      · rw [if_neg (hne k hk')]
        have := hltm k hk'
        simp only
        omega
      · have : k = i := by simpa using hk'
        exact absurd this.symm hik
  · rcases List.mem_append.1 hi with hi' | hi'
    · rw [if_neg (hne i hi')]
      have := hltm i hi'
      rcases List.mem_append.1 hk with hk' | hk'
      · rw [if_neg (hne k hk')]
        exact h.sepa i k hi' hk'
      · have : k = j := by simpa using hk'
        subst this
        rw [if_pos rfl]
        simp only
        omega
    · have : i = j := by simpa using hi'
      subst this
      rw [if_pos rfl]
      rcases List.mem_append.1 hk with hk' | hk'
      · rw [if_neg (hne k hk')]
        have := hltm k hk'
        simp only
        omega
      · have : k = i := by simpa using hk'
        subst this
        rw [if_pos rfl]
        exact hpa
end

set_option maxRecDepth 100000 in
set_option maxHeartbeats 8000000 in
theorem pFork_any (F : Nat → Prop) (w : World) (gb : Nat) (S : List G) (next : Int) (h : GP F w gb S next) :
    Calls Try.prog 26 #[.pointer (some ⟨gb, 0, none⟩)] w fun e w' => ∃ fb, e = .returned (.pointer (some ⟨fb, 0, none⟩)) ∧ GP (Plus (fun _ => False) w w') w' fb S next ∧ Below w.heap.size w w' := by
  obtain ⟨mb, bs, h⟩ := h
  obtain ⟨l, hm, hpm⟩ := h.all
  have HIM := Lib.hid hm
  have HPM := Lib.hid hpm
  have H := Lib.hid h
  have h0 := h.h0
  have h1 := h.h1
  have hgl := h.lt
  have hml := hm.lt
  have hmm := @run_makeMap Try.prog
  have hB1 := below_al w (.map #[] 0)
  have hB2 := below_then hB1 (below_al (w.alloc (.map #[] 0)) (.cells #[.map (some w.heap.size), .int .i64 next] 66))
  have HFK : Hid (FkP w ((w.alloc (.map #[] 0)).alloc (.cells #[.map (some w.heap.size), .int .i64 next] 66)) (w.heap.size + 1) w.heap.size (w.heap.size + 2) S bs (fun _ => (0, 0, 0)) next l []) := by
    refine ⟨hB2, ?_, ?_, ⟨by omega, by omega, by omega, by omega, by simp⟩, fun i hi => by simp at hi, by simp, ?_, fun i hi => .inr (hpm.mem_iff.2 (List.mem_map.2 ⟨i, by simpa using hi, rfl⟩)), fun i hi => by simp at hi, fun i j hi => by simp at hi, fun i j hi => by simp at hi⟩
    · have := blk11 (w.alloc (.map #[] 0)) (.cells #[.map (some w.heap.size), .int .i64 next] 66)
      rw [World.size_alloc] at this
      exact this
    · exact (IMap.new w (t := 0) (kt := 0) (e := 0)).below (below_al (w.alloc (.map #[] 0)) _) (by simp)
    · have hn := hm.nodup
      unfold List.Nodup at hn ⊢
      rw [List.pairwise_map] at hn
      exact hn.imp fun h e => h (by rw [e])
  have HMB : Hid (IMap ((w.alloc (.map #[] 0)).alloc (.cells #[.map (some w.heap.size), .int .i64 next] 66)) mb l) := hm.below hB2 hml
  have g0 : ((w.alloc (.map #[] 0)).alloc (.cells #[.map (some w.heap.size), .int .i64 next] 66)).cell? ⟨gb, 0, none⟩ = some (.map (some mb)) := (hB2.cell (p := ⟨gb, 0, none⟩) hgl).trans h0
  have HBX : Hid (Below w.heap.size w ((w.alloc (.map #[] 0)).alloc (.cells #[.map (some w.heap.size), .int .i64 next] 66))) := hB2
  clear hm hpm h hB1 hB2
  go_enter Try.func26, Try.ntmps26
  go_wp2_with (at_range; refine wpList_range_i rfl _ _ rfl Try.underlying64 rfl HMB.out ?_; intro w0 hrg hB0 hlt0; simp only [World.size_alloc] at hrg hlt0; have HRG := Lib.hid hrg; have HFK0 := Lib.hid ((HFK.out.below hB0).rebase (base' := w.heap.size + 3) (by omega) (by omega)); clear hrg hB0)
  go_frame
  clear HFK HMB g0 HBX
  simp only [World.size_alloc]
  go_loopw [4] (fun v wr => ∃ left fbs dn, Hid (IRng wr mb (w.heap.size + 2) l left) ∧ Hid (FkP w wr (w.heap.size + 1) w.heap.size (w.heap.size + 3) S bs fbs next left dn)) (fun _ wr => wr.rangeLeft mb (w.heap.size + 2))
  case atStart => exact ⟨l, fun _ => (0, 0, 0), [], HRG, HFK0⟩
  case round =>
    obtain ⟨left, fbs, dn, HR, HF⟩ := hrel
    have HMEAS : Hid (wr.rangeLeft mb (w.heap.size + 2) = left.length) := HR.out.left_eq
    clear HFK0 HRG
    go_wp2_with (at_next; refine wpList_next_i rfl _ rfl rfl HR.out ?_ ?_)
    · intro hnil
      have HNIL := Lib.hid hnil
      clear hnil
      go_wp2
      go_ret
      have hfk := HF.out
      rw [HNIL.out] at hfk
      exact ⟨_, rfl, ⟨_, _, hfk.done H.out.num⟩, hfk.hB⟩
    · intro l1 pk pv l2 w3 e hr hf hs3 hen
      have hp : (pk, pv) ∈ l := HR.out.sub (pk, pv) (by rw [e]; simp)
      obtain ⟨j, hj, ej⟩ := mem_pairs (HPM.out.mem_iff.1 hp)
      simp only [Prod.mk.injEq] at ej
      obtain ⟨rfl, rfl⟩ := ej
      have HFK3 := Lib.hid (HF.out.fr hf hs3 ⟨by omega, by omega, by omega, by omega⟩)
      have HX3 := Lib.hid (H.out.below HFK3.out.hB)
      have HR3 := Lib.hid hr
      have HLE := Lib.hid e
      have HJ := Lib.hid hj
      have c0 := (HX3.out.each j hj).cells.cell 0 (by simp)
      have c1 := (HX3.out.each j hj).cells.cell 1 (by simp)
      have c2 := (HX3.out.each j hj).cells.cell 2 (by simp)
      have k0 := HFK3.out.hd.cell 0 (by simp)
      simp only [List.getElem_cons_zero, List.getElem_cons_succ] at c0 c1 c2 k0
      obtain ⟨ks, him, hks⟩ := (HX3.out.each j hj).ps
      obtain ⟨az, ham, has⟩ := (HX3.out.each j hj).ah
      have HPS := Lib.hid him
      have HAS := Lib.hid ham
      have HKP := Lib.hid hks
      have HKA := Lib.hid has
      have hol : (bs j).1 < w3.heap.size := (HX3.out.each j hj).cells.lt
      have hfl : w.heap.size + 1 < w3.heap.size := HFK3.out.hd.lt
      have HST : Hid ((nthG S j).st = (nthG S j).st) := rfl
      clear hr hf hp e him ham hks has h0 h1 hj HST
      generalize hgn : (nthG S j).n = gn at *
      have HGN := Lib.hid hgn
      generalize hgs : (nthG S j).st = gs at *
      have HGS := Lib.hid hgs
      generalize hob : (bs j).1 = ob at *
      have HOB := Lib.hid hob
      generalize (bs j).2.1 = pb at *
      generalize (bs j).2.2 = ab at *
      clear hgn hgs hob
      go_upto_region 7 with (fail)
      have HS0 : At (fun w' : World => w'.cell? ⟨w.heap.size + 1, 0, none⟩ = some (.map (some w.heap.size)) ∧ w'.cell? ⟨ob, 0, none⟩ = some (.int .u8 gs) ∧ w'.cell? ⟨ob, 1, none⟩ = some (.map (some pb)) ∧ w'.cell? ⟨ob, 2, none⟩ = some (.map (some ab))) w3.drew := ⟨k0, c0, c1, c2⟩
      have HK5 : Hid (FkP w w3.drew (w.heap.size + 1) w.heap.size (w.heap.size + 3) S bs fbs next left dn) := HFK3.out.below (Sel.below_drewN w3 1)
      have HR5 : Hid (IRng w3.drew mb (w.heap.size + 2) l (l1 ++ l2)) := HR3.out.same rfl rfl
      have HP5 : Hid (IMap w3.drew pb (seenL ks)) := imap_drew1 HPS.out
      have HA5 : Hid (IMap w3.drew ab (seenL az)) := imap_drew1 HAS.out
      have hol0 : ob < w3.drew.heap.size := hol
      have hfl0 : w.heap.size + 1 < w3.drew.heap.size := hfl
      clear k0 c0 c1 c2 HPS HAS hol hfl
      refine any_start HS0 [0, 1, 2, 3, 4, 5, 6, 7, 8, 9, 10, 11, 12, 14, 15, 16, 17] (by kernel_rfl) ?_
      change wpAnyD _ _ _ _ _ _ 22 (Array.replicate 22 false) _ w3.drew
      generalize w3.drew = w5 at *
      refine any_take 0 rfl (by kernel_rfl) (fun _ _ d _ _ h => by cases d <;> exact h) (by kernel_rfl) HS0 (fun w9 h9 => by obtain ⟨s0, s1, s2, s3⟩ := h9; go_simp; first | done | rfl) (fun K hK => ?_); go_simp; refine hK _ ?_; clear hK K
      refine any_take 1 rfl (by kernel_rfl) (fun _ _ d _ _ h => by cases d <;> exact h) (by kernel_rfl) HS0 (fun w9 h9 => by obtain ⟨s0, s1, s2, s3⟩ := h9; go_simp; first | done | rfl) (fun K hK => ?_); go_simp; refine hK _ ?_; clear hK K
      refine any_take 2 rfl (by kernel_rfl) (fun _ _ d _ _ h => by cases d <;> exact h) (by kernel_rfl) HS0 (fun w9 h9 => by obtain ⟨s0, s1, s2, s3⟩ := h9; go_simp; first | done | rfl) (fun K hK => ?_); go_simp; refine hK _ ?_; clear hK K
      refine any_take 3 rfl (by kernel_rfl) (fun _ _ d _ _ h => by cases d <;> exact h) (by kernel_rfl) HS0 (fun w9 h9 => by obtain ⟨s0, s1, s2, s3⟩ := h9; go_simp; first | done | rfl) (fun K hK => ?_); go_simp; refine hK _ ?_; clear hK K
      refine any_take 4 rfl (by kernel_rfl) (fun _ _ d _ _ h => by cases d <;> exact h) (by kernel_rfl) HS0 (fun w9 h9 => by obtain ⟨s0, s1, s2, s3⟩ := h9; go_simp; first | done | rfl) (fun K hK => ?_); go_simp; refine hK _ ?_; clear hK K
      refine any_take 5 rfl (by kernel_rfl) (fun _ _ d _ _ h => by cases d <;> exact h) (by kernel_rfl) HS0 (fun w9 h9 => by obtain ⟨s0, s1, s2, s3⟩ := h9; go_simp; first | done | rfl) (fun K hK => ?_); go_simp; refine hK _ ?_; clear hK K
      refine any_take 6 rfl (by kernel_rfl) (fun _ _ d _ _ h => by cases d <;> exact h) (by kernel_rfl) HS0 (fun w9 h9 => by obtain ⟨s0, s1, s2, s3⟩ := h9; go_simp; first | done | rfl) (fun K hK => ?_); go_simp; refine hK _ ?_; clear hK K
      refine any_take 7 rfl (by kernel_rfl) (fun _ _ d _ _ h => by cases d <;> exact h) (by kernel_rfl) HS0 (fun w9 h9 => by obtain ⟨s0, s1, s2, s3⟩ := h9; go_simp; first | done | rfl) (fun K hK => ?_); go_simp; refine hK _ ?_; clear hK K
      refine any_take 8 rfl (by kernel_rfl) (fun _ _ d _ _ h => by cases d <;> exact h) (by kernel_rfl) HS0 (fun w9 h9 => by obtain ⟨s0, s1, s2, s3⟩ := h9; go_simp; first | done | rfl) (fun K hK => ?_); go_simp; refine hK _ ?_; clear hK K
      refine any_take 9 rfl (by kernel_rfl) (fun _ _ d _ _ h => by cases d <;> exact h) (by kernel_rfl) HS0 (fun w9 h9 => by obtain ⟨s0, s1, s2, s3⟩ := h9; go_simp; first | done | rfl) (fun K hK => ?_); go_simp; refine hK _ ?_; clear hK K
      refine any_take 10 rfl (by kernel_rfl) (fun _ _ d _ _ h => by cases d <;> exact h) (by kernel_rfl) HS0 (fun w9 h9 => by obtain ⟨s0, s1, s2, s3⟩ := h9; go_simp; first | done | rfl) (fun K hK => ?_); go_simp; refine hK _ ?_; clear hK K
      refine any_take 11 rfl (by kernel_rfl) (fun _ _ d _ _ h => by cases d <;> exact h) (by kernel_rfl) HS0 (fun w9 h9 => by obtain ⟨s0, s1, s2, s3⟩ := h9; go_simp; first | done | rfl) (fun K hK => ?_); go_simp; refine hK _ ?_; clear hK K
      refine any_take 12 rfl (by kernel_rfl) (fun _ _ d _ _ h => by cases d <;> exact h) (by kernel_rfl) HS0 (fun w9 h9 => by obtain ⟨s0, s1, s2, s3⟩ := h9; go_simp; first | done | rfl) (fun K hK => ?_); go_simp; refine hK _ ?_; clear hK K
      refine any_take 14 rfl (by kernel_rfl) (fun _ _ d _ _ h => by cases d <;> exact h) (by kernel_rfl) HS0 (fun w9 h9 => by obtain ⟨s0, s1, s2, s3⟩ := h9; go_simp; first | done | rfl) (fun K hK => ?_); go_simp; refine hK _ ?_; clear hK K
      refine any_take 15 rfl (by kernel_rfl) (fun _ _ d _ _ h => by cases d <;> exact h) (by kernel_rfl) HS0 (fun w9 h9 => by obtain ⟨s0, s1, s2, s3⟩ := h9; go_simp; first | done | rfl) (fun K hK => ?_); go_simp; refine hK _ ?_; clear hK K
      refine any_take 16 rfl (by kernel_rfl) (fun _ _ d _ _ h => by cases d <;> exact h) (by kernel_rfl) HS0 (fun w9 h9 => by obtain ⟨s0, s1, s2, s3⟩ := h9; go_simp; first | done | rfl) (fun K hK => ?_); go_simp; refine hK _ ?_; clear hK K
      refine any_take 17 rfl (by kernel_rfl) (fun _ _ d _ _ h => by cases d <;> exact h) (by kernel_rfl) HS0 (fun w9 h9 => by obtain ⟨s0, s1, s2, s3⟩ := h9; go_simp; first | done | rfl) (fun K hK => ?_); go_simp; refine hK _ ?_; clear hK K
      refine any_one 13 rfl (by kernel_rfl) (by kernel_rfl) (fun K hK => ?_)
      go_simp
      refine (cloneA_any w5 pb (seenL ks) HP5.out).mono ?_
      rintro e w6 ⟨rfl, hm6, hB6⟩
      have HM6 := Lib.hid hm6
      have HB6 := Lib.hid hB6
      have HS6 : At (fun w' : World => w'.cell? ⟨w.heap.size + 1, 0, none⟩ = some (.map (some w.heap.size)) ∧ w'.cell? ⟨ob, 0, none⟩ = some (.int .u8 gs) ∧ w'.cell? ⟨ob, 1, none⟩ = some (.map (some pb)) ∧ w'.cell? ⟨ob, 2, none⟩ = some (.map (some ab))) w6 := by
        obtain ⟨s0, s1, s2, s3⟩ := HS0
        exact ⟨keep_cell s0 hB6, keep_cell s1 hB6, keep_cell s2 hB6, keep_cell s3 hB6⟩
      have HA6 := Lib.hid (HA5.out.below hB6 HA5.out.lt)
      refine hK _ _ (fun _ => HS6) ?_
      clear hK K hm6 hB6 HS0
      refine any_one 18 rfl (by kernel_rfl) (by kernel_rfl) (fun K hK => ?_)
      go_simp
      refine (cloneA_any w6 ab (seenL az) HA6.out).mono ?_
      rintro e w7 ⟨rfl, hm7, hB7⟩
      have HM7 := Lib.hid hm7
      have HB7 := Lib.hid hB7
      have HS7 : At (fun w' : World => w'.cell? ⟨w.heap.size + 1, 0, none⟩ = some (.map (some w.heap.size)) ∧ w'.cell? ⟨ob, 0, none⟩ = some (.int .u8 gs) ∧ w'.cell? ⟨ob, 1, none⟩ = some (.map (some pb)) ∧ w'.cell? ⟨ob, 2, none⟩ = some (.map (some ab))) w7 := by
        obtain ⟨s0, s1, s2, s3⟩ := HS6
        exact ⟨keep_cell s0 hB7, keep_cell s1 hB7, keep_cell s2 hB7, keep_cell s3 hB7⟩
      refine hK _ _ (fun _ => HS7) ?_
      clear hK K hm7 hB7 HS6
      refine any_one 19 rfl (by kernel_rfl) (by kernel_rfl) (fun K hK => ?_); go_simp; refine hK _ _ (fun _ => HS7) ?_; clear hK K
      refine any_one 20 rfl (by kernel_rfl) (by kernel_rfl) (fun K hK => ?_)
      go_simp
      have hB8 := below_al w7 (.cells #[.int .u8 gs, .map (some w5.heap.size), .map (some w6.heap.size)] 62)
      have HB8 : Hid (Below w5.heap.size w5 (w7.alloc (.cells #[.int .u8 gs, .map (some w5.heap.size), .map (some w6.heap.size)] 62))) := below_then (below_then HB6.out HB7.out) hB8
      have HSZ8 : Hid (w5.heap.size < w6.heap.size ∧ w6.heap.size < w7.heap.size ∧ w7.heap.size < (w7.alloc (.cells #[.int .u8 gs, .map (some w5.heap.size), .map (some w6.heap.size)] 62)).heap.size) := ⟨HM6.out.lt, HM7.out.lt, by simp⟩
      have HO8 : Hid (One (w7.alloc (.cells #[.int .u8 gs, .map (some w5.heap.size), .map (some w6.heap.size)] 62)) (w7.heap.size, w5.heap.size, w6.heap.size) (nthG S j)) := by
        refine ⟨?_, ⟨ks, (HM6.out.below HB7.out HM6.out.lt).below hB8 (by have := HB7.out.size; have := HM6.out.lt; omega), HKP.out⟩, ⟨az, HM7.out.below hB8 HM7.out.lt, HKA.out⟩⟩
        rw [HGS.out]
        exact blk11 w7 _
      have HS8 : At (fun w' : World => w'.cell? ⟨w.heap.size + 1, 0, none⟩ = some (.map (some w.heap.size)) ∧ w'.cell? ⟨ob, 0, none⟩ = some (.int .u8 gs) ∧ w'.cell? ⟨ob, 1, none⟩ = some (.map (some pb)) ∧ w'.cell? ⟨ob, 2, none⟩ = some (.map (some ab))) (w7.alloc (.cells #[.int .u8 gs, .map (some w5.heap.size), .map (some w6.heap.size)] 62)) := by
        obtain ⟨s0, s1, s2, s3⟩ := HS7
        exact ⟨keep_cell s0 hB8, keep_cell s1 hB8, keep_cell s2 hB8, keep_cell s3 hB8⟩
      have HM8 : Hid (IMap (w7.alloc (.cells #[.int .u8 gs, .map (some w5.heap.size), .map (some w6.heap.size)] 62)) w.heap.size (dn.map (pairB S fbs))) := HK5.out.map.below HB8.out HK5.out.map.lt
      clear hB8
      generalize w7.alloc (.cells #[.int .u8 gs, .map (some w5.heap.size), .map (some w6.heap.size)] 62) = w8 at *
      refine hK _ _ (fun _ => HS8) ?_
      clear hK K HS7
      refine any_last 21 rfl (by kernel_rfl) (by kernel_rfl) (by kernel_rfl) (fun K hK => ?_)
      refine oper_mapstore (k := gn) (val := .pointer (some ⟨w7.heap.size, 0, none⟩)) _ _ _ _ rfl Try.underlying64 Try.underlying3 (by kernel_rfl) (by kernel_rfl) (by kernel_rfl) HM8.out ?_
      intro w9 q1 q2
      have HSTEP := Lib.hid (HK5.out.step H.out.num HJ.out (by rw [HLE.out, pairB, HGN.out, HOB.out]) HB8.out (o := w7.heap.size) (p := w5.heap.size) (a := w6.heap.size) (by have := HSZ8.out; omega) (by have := HSZ8.out; omega) (by have := HSZ8.out; omega) (by have := HSZ8.out; omega) HO8.out q2 (by rw [HGN.out]; exact q1))
      have HR9 : Hid (IRng w9 mb (w.heap.size + 2) l (l1 ++ l2)) := by
        have hb5 : mb < w5.heap.size := HR5.out.map.lt
        have hr5 : w.heap.size + 2 < w5.heap.size := HR5.out.lt
        exact HR5.out.same ((q2.far _ (by omega)).trans (HB8.out.block _ hb5)) ((q2.far _ (by omega)).trans (HB8.out.block _ hr5))
      have HMEAS9 : Hid (w9.rangeLeft mb (w.heap.size + 2) = (l1 ++ l2).length) := HR9.out.left_eq
      refine hK _ _ ?_
      clear hK K HS8 q1 q2
      go_simp
      refine any_end (by kernel_rfl) ?_
      go_wp2
      go_roundw
      case rel => exact ⟨l1 ++ l2, _, _, HR9, HSTEP⟩
      case measure => rw [HMEAS9.out, HMEAS.out, HLE.out]; simp
end Go.Proofs.Ytbflmgpcjfoifaa
