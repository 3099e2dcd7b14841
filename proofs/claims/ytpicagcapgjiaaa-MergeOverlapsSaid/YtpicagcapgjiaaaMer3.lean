/- Walks of merge: Groups. -/
import Derived.Test.YtpicagcapgjiaaaMer2
import Derived.Test.YtpicagcapgjiaaaMerV
import Derived.Test.YtpicagcapgjiaaaSel8
set_option linter.unusedSimpArgs false
set_option linter.unusedVariables false
namespace Go.Proofs.Ytpicagcapgjiaaa
open Go.RowKit Go.Sel Go.Sel.Gra Go.Sel.Mer Go.Shelf

theorem infoInts' : (Try.prog.info? 23).map (fun i => (i.zero, i.size, i.bytes)) = some (some (.slice none 0 0), 1, 24) := by kernel_rfl
theorem infoMap' : ∃ z b, (Try.prog.info? 98).map (fun i => (i.zero, i.size, i.bytes)) = some (some z, 1, b) ∧ z.cells.size = 1 ∧ 0 < b ∧ b ≤ 100 := ⟨.map none, 8, by kernel_rfl, rfl, by omega, by omega⟩
theorem cell_last {w : World} {cs : Array Value} {e : TypeId} {q : Nat} {v : Value} (hq : w.heap.size = q) (h : cs[0]? = some v) : (w.alloc (.cells cs e)).cell? ⟨q, 0, none⟩ = some v := by
  subst hq; exact new_cell w cs e 0 v h
theorem obj_last {w : World} {o : Obj} {q : Nat} (hq : w.heap.size = q) : (w.alloc o).heap[q]? = some o := by
  subst hq; exact heap_alloc_new w o
theorem obj_keep {w : World} {o p : Obj} {q : Nat} (h : w.heap[q]? = some o) : (w.alloc p).heap[q]? = some o := by
  rw [(below_al w p).block q (Array.getElem?_eq_some_iff.1 h).1]; exact h
theorem obj_drew {w : World} {o : Obj} {q : Nat} (h : w.heap[q]? = some o) : w.drew.heap[q]? = some o := h
section
variable {P : Program} {ops : Array Oper} {o : Oper} {a : Act} {Q : Exit → Act → World → Prop}
theorem step_push1 {Wg : World} {K : Act → World → Prop} {E : Prop} (hgd : o.guard = none) (s x : Operand) (t e : TypeId)
    (ho : o.op = .call { callee := .builtin .append, args := #[s, x], argTypes := #[t, t] }) (base : Nat) (z : Value) (bytes : Nat)
    (ht : P.underlying t = some (.slice e)) (hinfo : (P.info? e).map (fun i => (i.zero, i.size, i.bytes)) = some (some z, 1, bytes)) (hz : z.cells.size = 1) (hb0 : 0 < bytes)
    (v : Value) (n : Nat) (xs : List Value) (y : Value) (hs : a.eval s = v) (q : Nat) (hx : a.eval x = .slice (some ⟨q, 0, none⟩) 1 1) (hq : Wg.cell? ⟨q, 0, none⟩ = some y) (h1 : y.oneCell' = true)
    (HO : Wg.ownsRow base e 1 v n xs) (hbase : base ≤ Wg.heap.size) (hl : (n + 1) * bytes ≤ 140737488355328)
    (h : ∀ g cap w1, w1.ownsRow base e 1 (.slice (some ⟨g, 0, none⟩) (n + 1) cap) (n + 1) (xs ++ [y]) → Wg.grownBy w1 v.ownBlock → (v.ownBlock = some g ∨ g = Wg.heap.size) → g < w1.heap.size → K (a.put o.dst (.slice (some ⟨g, 0, none⟩) (n + 1) cap)) w1) :
    if Region.wanted o (yielded ops a.tmps) = true then Oper.wp P o a Wg K Q else E := by
  obtain ⟨i0, hi, hzz⟩ := Option.map_eq_some_iff.1 hinfo
  simp only [Prod.mk.injEq] at hzz
  obtain ⟨hz0, hz1, hz2⟩ := hzz
  have hlen : n + 1 ≤ 140737488355328 := Nat.le_trans (Nat.le_mul_of_pos_right _ hb0) hl
  exact step_append_lies Wg hgd s x t ho base e i0 z 1 bytes ht hi hz0 hz1 hz2 hz (by decide) v n xs hs HO ⟨q, 0, none⟩ 1 1 [y] hx rfl
    (fun j u hu => by
      have hj := (List.getElem?_eq_some_iff.1 hu).1
      have : j = 0 := by simp at hj; omega
      subst this
      rw [Addr.add_lit]
      simp at hu; subst hu; exact hq) (fun u hu => by rw [List.mem_singleton.1 hu]; exact h1) (by omega) (by simp only [maxLen]; omega) hl hbase _ rfl h
theorem step_push1m {Wg : World} {K : Act → World → Prop} {E : Prop} (hgd : o.guard = none) (s x : Operand) (t e : TypeId)
    (ho : o.op = .call { callee := .builtin .append, args := #[s, x], argTypes := #[t, t] }) (base : Nat) (z : Value) (bytes : Nat)
    (ht : P.underlying t = some (.slice e)) (hinfo : (P.info? e).map (fun i => (i.zero, i.size, i.bytes)) = some (some z, 1, bytes)) (hz : z.cells.size = 1) (hb0 : 0 < bytes)
    (v : Value) (n : Nat) (xs : List Value) (y : Value) (hs : a.eval s = v) (q : Nat) (hx : a.eval x = .slice (some ⟨q, 0, none⟩) 1 1) (x2 : Operand) (hy : a.eval x2 = y) (hq : Wg.cell? ⟨q, 0, none⟩ = some y) (h1 : y.oneCell' = true)
    (HO : Wg.ownsRow base e 1 v n xs) (hbase : base ≤ Wg.heap.size) (hl : (n + 1) * bytes ≤ 140737488355328)
    (h : ∀ g cap w1, w1.ownsRow base e 1 (.slice (some ⟨g, 0, none⟩) (n + 1) cap) (n + 1) (xs ++ [y]) → Wg.grownBy w1 v.ownBlock → (v.ownBlock = some g ∨ g = Wg.heap.size) → g < w1.heap.size → K (a.put o.dst (.slice (some ⟨g, 0, none⟩) (n + 1) cap)) w1) :
    if Region.wanted o (yielded ops a.tmps) = true then Oper.wp P o a Wg K Q else E :=
  step_push1 hgd s x t e ho base z bytes ht hinfo hz hb0 v n xs y hs q hx hq h1 HO hbase hl h
end

set_option maxHeartbeats 1000000 in
theorem Groups1_tells (nb gb : Nat) (A : Option Addr) (G c g : Nat) (ns : List Value) (m : Nat) (lm : List (Int × Value)) (near : Int → Bool) (w : World) (h1 : w.cell? ⟨nb, 0, none⟩ = some (.slice A G c)) (h2 : w.cell? ⟨gb, 0, none⟩ = some (.int .i64 (g : Int)))
    (hr : Rd w A G c ns) (hl : ns.length = G) (hg : g < G) (hm : ns[g]? = some (.map (some m))) (hI : IMap w m lm) (hlook : ∀ d : Int, Sel.look lm d = if near d then some (.bool true) else none) (xs : List Int) :
    Tells 69 #[.pointer (some ⟨nb, 0, none⟩), .pointer (some ⟨gb, 0, none⟩)] (fun d => !near d) xs w := by
  intro x _ q
  have k1 : (w.drewN q).cell? ⟨nb, 0, none⟩ = some (.slice A G c) := by simpa using h1
  have k2 : (w.drewN q).cell? ⟨gb, 0, none⟩ = some (.int .i64 (g : Int)) := by simpa using h2
  have hr' := rd_drewN q hr
  have hI' := imap_drewN hI q
  have l1 := hr.le
  have l2 := hr.cap
  generalize w.drewN q = w0 at *
  clear h1 h2 hr hI
  obtain ⟨b, off, rfl, hb, hc⟩ := hr'.form (by omega)
  have hck := hc g (by omega)
  have hgm : ns[g] = .map (some m) := by rw [List.getElem?_eq_getElem (by omega)] at hm; exact Option.some.inj hm
  rw [hgm] at hck
  have hrun := IMap.lookup hI' Try.underlying98 Try.underlying3 (zeroB w0) x
  have hv : ((Sel.look lm x).getD (.bool false)) = .bool (near x) := by
    rw [hlook]; cases near x <;> rfl
  rw [hv] at hrun
  clear hc hgm hm hr' hI' hlook hv hl
  go_enter Try.func69, Try.ntmps69
  go_wp2
  go_ret
  exact ⟨rfl, 0, rfl⟩

def zints (n : Nat) : List Value := List.replicate n (.int .i64 0)
theorem mkInts (n : Nat) (hn : n ≤ 1000) (w : World) : (Instr.makeSlice 23 (.int .i64 (n : Int)) (.int .i64 (n : Int))).run Try.prog w = .ok (.slice (some ⟨w.heap.size, 0, none⟩) n n) (w.alloc (.cells (zints n).toArray 3)) :=
  run_makeN 23 3 (.int .i64 0) 8 Try.underlying23 (by kernel_rfl) rfl n (by omega) (by omega) w

set_option maxRecDepth 100000 in
set_option maxHeartbeats 4000000 in
theorem mGroups_own (A : Option Addr) (n c : Nat) (L : List It) (w : World) (hL : Ip w A n c L) :
    Calls Try.prog 27 #[.slice A n c] w fun e w' => (∃ A' c' ss, e = .returned (.slice A' (groupsL L).length c') ∧ ∀ W, Agree w.heap.size w' W → DpS W A' (groupsL L).length c' (groupsL L) ss) ∧ Below w.heap.size w w' := by
  have HL := Lib.hid hL
  have HN := Lib.hid hL.len
  have l1 := hL.le
  have l2 := hL.cap
  clear hL
  cases hr : mrightB L with
  | false =>
    have HR := Lib.hid hr
    have HE : Hid (groupsL L = []) := by show _ = _; simp [groupsL, hr]
    rw [HE.out]
    clear hr
    go_enter Try.func27, Try.ntmps27
    go_wp2_with (go_at_call 24; (with_reducible refine (mRight_any A n c L _ HL.out).mono ?_); rw [HR.out]; rintro e w1 ⟨rfl, hB⟩; have HB1 := Lib.hid hB; clear hB)
    go_ret
    exact ⟨⟨none, 0, [], rfl, fun W _ => ⟨rfl, rfl, Rd.nil (by omega), fun j hj => by simp at hj⟩⟩, HB1.out⟩
  | true =>
    have HR := Lib.hid hr
    have hn64 : n ≤ 64 := by have := (mright_iff.1 hr).1; have := HN.out; omega
    have HRD : Hid (rightD (depsL L) = true) := (mright_iff.1 hr).2.2
    have HE : Hid (groupsL L = groupsK L n) := by show _ = _; rw [groupsL, if_pos hr, HN.out]
    rw [HE.out]
    clear hr
    have hmk := mkInts n (by omega)
    have hmm := @run_makeMap Try.prog
    go_enter Try.func27, Try.ntmps27
    go_wp2_with (first
      | (go_at_call 24; (with_reducible refine (mRight_any A n c L _ HL.out).mono ?_); rw [HR.out]; rintro e w1 ⟨rfl, hB⟩; have HB1 := Lib.hid hB; clear hB)
      | (go_at_call 66; (with_reducible refine (mdeps_any A n c L _ (HL.out.below HB1.out) (by omega)).mono ?_); rintro e w2 ⟨⟨A2, rfl, hd⟩, hB⟩; have HD2 := Lib.hid hd; have HB2 := Lib.hid (below_then HB1.out hB); clear hd hB))
    clear hmk hmm
    have HW4 : Hid (GW (w2.heap.size + 1 + 1 + 1) (w2.heap.size + 1 + 1) (w2.heap.size + 1) w2.heap.size n (.slice none 0 0) (.slice none 0 0) 0 (rowOf (gls L 0)) (nearB (depsL L) (gls L 0)) (fun b => (lastK L 0 b).map fun p => ((gls L 0).getD p 0 : Int)) (((w2.alloc (.cells (zints n).toArray 3)).alloc (.map #[] 0)).alloc (.cells #[.slice none 0 0] 96))) := by
      refine ⟨by simp <;> omega, ?_, ⟨zints n, by simp [zints], ?_⟩, ⟨[], ?_, fun b => by simp [Sel.look, lastK]⟩, ⟨[], World.ownsRow_nil _ _ _ _, fun g hg => by omega, fun _ _ _ _ _ _ h => by simp at h⟩, ⟨[], World.ownsRow_nil _ _ _ _, fun g hg => by omega, fun _ _ _ _ h => by simp at h⟩⟩
      · have := Bk.new ((w2.alloc (.cells (zints n).toArray 3)).alloc (.map #[] 0)) 96 [.slice none 0 0]
        simpa using this
      · exact (((Bk.new w2 3 (zints n)).keep (below_al _ _)).keep (below_al _ _))
      · have := (IMap.new (w2.alloc (.cells (zints n).toArray 3)) (t := 0) (kt := 0) (e := 0)).below (below_al _ (.cells #[.slice none 0 0] 96)) (by simp)
        simpa using this
    have HB4 : Hid (Below w2.heap.size w2 (((w2.alloc (.cells (zints n).toArray 3)).alloc (.map #[] 0)).alloc (.cells #[.slice none 0 0] 96))) := below_then (below_al _ _) (below_then (below_al _ _) (below_al _ _))
    generalize ((w2.alloc (.cells (zints n).toArray 3)).alloc (.map #[] 0)).alloc (.cells #[.slice none 0 0] 96) = w4 at *
    generalize hg0 : w2.heap.size = g0 at *
    have HG0 := Lib.hid hg0
    clear hg0
    go_loopw [6, 8, 9, 10, 11, 12, 14, 26] (fun v6 _ _ _ _ _ _ v26 wr => ∃ (k : Nat) (vn : Value), k ≤ n ∧ v26 = .int .i64 k ∧ Hid (GW (g0 + 1 + 1 + 1) (g0 + 1 + 1) (g0 + 1) g0 n v6 vn (cnt L k) (rowOf (gls L k)) (nearB (depsL L) (gls L k)) (fun b => (lastK L k b).map fun p => ((gls L k).getD p 0 : Int)) wr) ∧ Hid (Below g0 w2 wr)) (fun _ _ _ _ _ _ _ v26 _ => n - (intOf v26).toNat)
    case atStart => exact ⟨0, _, by omega, rfl, HW4, HB4⟩
    case round =>
      obtain ⟨k, vn, hk, rfl, HW, HB⟩ := hrel
      by_cases hlt : k < n
      · have HBw : Hid (Below w2.heap.size w2 wr) := by show Below _ _ _; rw [HG0.out]; exact HB.out
        have HBww : Hid (Below w.heap.size w wr) := below_then HB2.out HBw.out
        obtain ⟨b, off, A', n', c', rfl, hb, c0, c1, c2, c3, hd, hrd⟩ := (HL.out.below HBww.out).at_ hlt
        have HDS := Lib.hid hrd
        have HDL := Lib.hid hd
        have m1 := hrd.le
        have m2 := hrd.cap
        clear hd hrd
        obtain ⟨lm, hI, hlk⟩ := HW.out.lst
        generalize hx : nthI L k = x at *
        have HX := Lib.hid hx
        clear hx
        have hlx := hlk x.b
        have hI1 := imap_same hI ((below_al wr (.cells #[.int .i64 x.b, .int .i64 x.o, .string x.s, .slice A' n' c'] 44)).block (g0 + 1) (IsM.lt (imap_obj hI)))
        have hrun := IMap.lookup_ok hI1 Try.underlying95 Try.underlying3 (zeroI _) x.b
        have hgv : ((Sel.look lm x.b).getD (.int .i64 0)) = .int .i64 (((lastK L k x.b).map fun p => ((gls L k).getD p 0 : Int)).getD 0) := by
          rw [hlx]; cases lastK L k x.b <;> rfl
        have hib : (Sel.look lm x.b).isSome = (lastK L k x.b).isSome := by
          rw [hlx]; cases lastK L k x.b <;> rfl
        rw [hgv, hib] at hrun
        clear hI hlk hlx hI1 hgv hib
        generalize hgv : ((lastK L k x.b).map fun p => ((gls L k).getD p 0 : Int)).getD 0 = gv at *
        generalize hib : (lastK L k x.b).isSome = isb at *
        have HGV := Lib.hid hgv
        have HIB := Lib.hid hib
        clear hgv hib
        go_upto_region 12 with (fail)
        have HXB : Hid (Bk ((wr.alloc (.cells #[.int .i64 x.b, .int .i64 x.o, .string x.s, .slice A' n' c'] 44)).alloc (.cells #[.int .i64 gv] 3)) wr.heap.size 44 [.int .i64 x.b, .int .i64 x.o, .string x.s, .slice A' n' c']) := (Bk.new wr 44 [.int .i64 x.b, .int .i64 x.o, .string x.s, .slice A' n' c']).keep (below_al _ _)
        have HGB : Hid (Bk ((wr.alloc (.cells #[.int .i64 x.b, .int .i64 x.o, .string x.s, .slice A' n' c'] 44)).alloc (.cells #[.int .i64 gv] 3)) (wr.heap.size + 1) 3 [.int .i64 gv]) := by
          show Bk _ _ _ _
          have := Bk.new (wr.alloc (.cells #[.int .i64 x.b, .int .i64 x.o, .string x.s, .slice A' n' c'] 44)) 3 [.int .i64 gv]
          simpa using this
        have HBb : Hid (Below wr.heap.size wr ((wr.alloc (.cells #[.int .i64 x.b, .int .i64 x.o, .string x.s, .slice A' n' c'] 44)).alloc (.cells #[.int .i64 gv] 3))) := below_then (below_al _ _) (below_al _ _)
        have HWb := Lib.hid (HW.out.below HBb.out)
        generalize ((wr.alloc (.cells #[.int .i64 x.b, .int .i64 x.o, .string x.s, .slice A' n' c'] 44)).alloc (.cells #[.int .i64 gv] 3)) = wb at *
        clear hrun c0 c1 c2 c3
        generalize hjn : joinG L k (gls L k) = jn at *
        have HJ := Lib.hid hjn
        clear hjn
        generalize hq0 : wr.heap.size = q0 at *
        have HQ0 := Lib.hid hq0
        clear hq0
        go_cut [12] (fun v12 wx => v12 = .bool jn.isSome ∧ Hid (Below wb.heap.size wb wx))
        case first =>
          cases isb with
          | false =>
            have hj : jn = none := by
              have h := HIB.out
              rw [← HJ.out, joinG, HX.out]
              cases hl : lastK L k x.b with
              | none => rfl
              | some p => rw [hl] at h; cases h
            subst hj
            go_wp2
            go_meet
            exact ⟨rfl, Below.refl _ _⟩
          | true =>
            have hp : ∃ p, lastK L k x.b = some p := by
              have h := HIB.out
              cases hl : lastK L k x.b with
              | none => rw [hl] at h; cases h
              | some p => exact ⟨p, rfl⟩
            obtain ⟨p, hp⟩ := hp
            have hgv : gv = ((gls L k).getD p 0 : Int) := by rw [← HGV.out, hp]; rfl
            have hgl : (gls L k).getD p 0 < cnt L k := gls_lt L k p (lastK_lt hp).1
            have hj : jn = if x.ds.any (fun d => !nearB (depsL L) (gls L k) ((gls L k).getD p 0) d) then none else some ((gls L k).getD p 0) := by
              rw [← HJ.out, joinG, HX.out, hp]
            generalize (gls L k).getD p 0 = g at *
            subst hgv
            obtain ⟨ns, hn⟩ := HWb.out.nr
            obtain ⟨An, cn, hvn, hnl, hnr⟩ := rd_own hn.own
            obtain ⟨m, lmg, hm, _, him, hlm⟩ := hn.map g hgl
            have hbox := HWb.out.box.cell 0 (by simp)
            have hgc := HGB.out.cell 0 (by simp)
            simp only [List.getElem_cons_zero] at hbox hgc
            have HC : Hid (Calls Try.prog 56 #[.slice A' n' c', .func (.func 69) #[] #[.pointer (some ⟨g0 + 1 + 1, 0, none⟩), .pointer (some ⟨q0 + 1, 0, none⟩)]] wb fun e w' => e = .returned (.bool (x.ds.any fun d => !nearB (depsL L) (gls L k) g d)) ∧ ∃ q', w' = wb.drewN q') :=
              ContainsFunc_any _ _ (enters_of Try.func69 (by kernel_rfl) rfl) _ A' n' c' x.ds wb (HDS.out.below (by rw [HQ0.out]; exact HBb.out)) HDL.out (Groups1_tells _ _ An (cnt L k) cn g ns m lmg _ wb (by rw [hbox, hvn]) hgc hnr hnl hgl hm him hlm _)
            have hxc := HXB.out.cell 3 (by simp)
            simp only [List.getElem_cons_succ, List.getElem_cons_zero] at hxc
            generalize hr : x.ds.any (fun d => !nearB (depsL L) (gls L k) g d) = r at *
            clear hn hvn hnl hnr hm him hlm hbox hgc hr hp hgl
            cases r with
            | true =>
              rw [if_pos rfl] at hj
              subst hj
              go_wp2_with (go_at_call 56; refine HC.out.mono ?_; rintro e w' ⟨rfl, q', rfl⟩)
              go_meet
              exact ⟨rfl, Lib.hid (Sel.below_drewN wb q')⟩
            | false =>
              rw [if_neg (by decide)] at hj
              subst hj
              go_wp2_with (go_at_call 56; refine HC.out.mono ?_; rintro e w' ⟨rfl, q', rfl⟩)
              go_meet
              exact ⟨rfl, Lib.hid (Sel.below_drewN wb q')⟩
        case rest =>
          obtain ⟨rfl, HBc⟩ := hcut
          have HWc := Lib.hid (HWb.out.below HBc.out)
          have HXc := Lib.hid (HXB.out.keep HBc.out)
          have HGc := Lib.hid (HGB.out.keep HBc.out)
          have HBr : Hid (Below q0 wr wc) := by
            show Below _ _ _
            have h1 := HBb.out
            have h2 := HBc.out
            have h3 := h1.size
            rw [HQ0.out] at h3
            exact h1.trans (h2.mono h3)
          have HGq : Hid (g0 + 1 + 1 + 1 ≤ q0) := by
            show _ ≤ _
            have := HW.out.lt
            have := HQ0.out
            omega
          have HBg : Hid (Below g0 w2 wc) := HB.out.trans (HBr.out.mono (by have := HGq.out; omega))
          clear HWb HXB HGB HBb HBc
          go_upto_if 48 with (fail)
          go_cut [6] (fun v6' wx => ∃ (g G : Nat) (vn' : Value) (rows : Nat → List Int) (near : Nat → Int → Bool), g < G ∧ G ≤ k + 1 ∧ Hid (Bk wx (q0 + 1) 3 [.int .i64 g]) ∧ Hid (Bk wx q0 44 [.int .i64 x.b, .int .i64 x.o, .string x.s, .slice A' n' c']) ∧
            Hid (GW (g0 + 1 + 1 + 1) (g0 + 1 + 1) (g0 + 1) g0 n v6' vn' G rows near (fun b => (lastK L k b).map fun p => ((gls L k).getD p 0 : Int)) wx) ∧ Hid (G = cnt L (k + 1)) ∧ Hid (gls L (k + 1) = gls L k ++ [g]) ∧
            Hid (∀ j, rowOf (gls L k) j = rows j) ∧ Hid (∀ j d, nearB (depsL L) (gls L k) j d = near j d) ∧ Hid (Below g0 w2 wx) ∧ ∃ os, Hid (OutR (g0 + 1 + 1 + 1) G rows v6' os wx) ∧ Hid (∀ v, os[g]? = some v → v.ownBlock ≠ some (q0 + 1)))
          case first =>
            cases jn with
            | some g =>
              obtain ⟨hg1, p, hp, hp2⟩ := join_lt (gls_lt L k) HJ.out
              have hgv : gv = (g : Int) := by
                have h := HGV.out
                rw [HX.out] at hp
                rw [hp] at h
                rw [← h, ← hp2]; rfl
              subst hgv
              have hst := gSt_join HJ.out
              have hck := cnt_le L k
              have H1 : Hid (cnt L k = cnt L (k + 1)) := by show _ = (gSt L (k + 1)).2; rw [hst]
              have H2 : Hid (gls L (k + 1) = gls L k ++ [g]) := by show (gSt L (k + 1)).1 = _; rw [hst]
              clear hst hp hp2
              obtain ⟨os0, ho0⟩ := HW.out.out
              have HO0 := Lib.hid (ho0.keep (fr_of_below (show Below wr.heap.size wr wc by rw [HQ0.out]; exact HBr.out) (fun _ => False)) (fun _ _ _ h => h) (fun _ _ _ h => h))
              have HV0 : Hid (∀ v, os0[g]? = some v → v.ownBlock ≠ some (q0 + 1)) := fun v hv e => by
                obtain ⟨v1, hv1, hown⟩ := ho0.row g hg1
                rw [hv] at hv1
                obtain rfl := Option.some.inj hv1
                have := IsC.lt (own_typed hown _ e).2
                have := HQ0.out
                omega
              clear ho0
              go_wp2
              go_meet
              exact ⟨g, cnt L k, vn, _, _, hg1, by omega, HGc, HXc, HWc, H1, H2, Lib.hid (fun _ => rfl), Lib.hid (fun _ _ => rfl), HBg, os0, HO0, HV0⟩
            | none =>
              have hst := gSt_new HJ.out
              have hck := cnt_le L k
              have H1 : Hid (cnt L k + 1 = cnt L (k + 1)) := by show _ = (gSt L (k + 1)).2; rw [hst]
              have H2 : Hid (gls L (k + 1) = gls L k ++ [cnt L k]) := by show (gSt L (k + 1)).1 = _; rw [hst]
              have H3 : Hid (∀ j, rowOf (gls L k) j = if j = cnt L k then [] else rowOf (gls L k) j) := fun j => by
                by_cases e : j = cnt L k
                · subst e; rw [if_pos rfl, rowOf_cnt]
                · rw [if_neg e]
              have H4 : Hid (∀ j d, nearB (depsL L) (gls L k) j d = (decide (j ≠ cnt L k) && nearB (depsL L) (gls L k) j d)) := fun j d => by
                by_cases e : j = cnt L k
                · subst e; simp [near_cnt]
                · simp [e]
              clear hst
              obtain ⟨os, ho⟩ := HWc.out.out
              obtain ⟨A6, c6, rfl, holen, ho6⟩ := rd_own ho.own
              have o1 := ho6.le
              have o2 := ho6.cap
              have hgc := HGc.out.cell 0 (by simp)
              have hgf := HGc.out.free 0
              simp only [List.getElem_cons_zero] at hgc
              clear holen ho ho6 os
              go_upto_region 15 with (fail)
              have HBs : Hid (Below q0 wr (wc.setCell ⟨q0 + 1, 0, none⟩ (.int .i64 (cnt L k)))) := HBr.out.setCell (by simp) _
              have HWs := Lib.hid (HW.out.below (by rw [HQ0.out]; exact HBs.out))
              have HGs := Lib.hid (HGc.out.set 0 (.int .i64 (cnt L k)))
              have HXs := Lib.hid (HXc.out.far (p := ⟨q0 + 1, 0, none⟩) (by simp) (.int .i64 (cnt L k)))
              simp only [List.set_cons_zero] at HGs
              clear hgc hgf HGc HXc HBr HWc
              generalize wc.setCell ⟨q0 + 1, 0, none⟩ (.int .i64 (cnt L k)) = ws at *
              obtain ⟨os, ho⟩ := HWs.out.out
              obtain ⟨ns, hn⟩ := HWs.out.nr
              have hbox := HWs.out.box.cell 0 (by simp)
              have hbf := HWs.out.box.free 0
              simp only [List.getElem_cons_zero] at hbox
              obtain ⟨zm, bm, him, hzm, hbm0, hbm1⟩ := infoMap'
              have HO := Lib.hid ho
              have HNR := Lib.hid hn
              have hsz := HWs.out.lt
              have hcl : cnt L k ≤ 64 := by omega
              have hmm := @run_makeMap Try.prog
              have HEW := Lib.hid (rfl : ws = ws)
              clear ho hn
              have HBgs : Hid (Below g0 w2 ws) := HB.out.trans (HBs.out.mono (by have := HGq.out; omega))
              have hob : (Value.slice A6 (cnt L k) c6).ownBlock ≠ some (g0 + 1 + 1) := fun e => by have := (own_typed HO.out.own _ e).1; omega
              have hnb : vn.ownBlock ≠ some (g0 + 1 + 1) := fun e => by have := (own_typed HNR.out.own _ e).1; omega
              have hfar : ∀ q, ws.heap.size ≤ q → some q ≠ (Value.slice A6 (cnt L k) c6).ownBlock := fun q hq e => by have := IsC.lt (own_typed HO.out.own q e.symm).2; omega
              have hty : vn.ownBlock = none ∨ vn.ownBlock ≠ (Value.slice A6 (cnt L k) c6).ownBlock := by
                cases e : vn.ownBlock with
                | none => exact .inl rfl
                | some q => exact .inr fun e2 => absurd (IsC.one (own_typed HNR.out.own q e).2 (own_typed HO.out.own q e2.symm).2) (by decide)
              have HFAR := Lib.hid hfar
              have HTY := Lib.hid hty
              have HOB := Lib.hid hob
              have HNB := Lib.hid hnb
              have HBOX := Lib.hid HWs.out.box
              have HFG : Hid (¬ ((Value.slice A6 (cnt L k) c6).ownBlock = some (q0 + 1) ∨ vn.ownBlock = some (q0 + 1) ∨ q0 + 1 = g0 + 1 + 1)) := by
                rintro (e | e | e)
                · exact absurd (IsC.one (own_typed HO.out.own _ e).2 (Bk.isC HGs.out)) (by decide)
                · exact absurd (IsC.one (own_typed HNR.out.own _ e).2 (Bk.isC HGs.out)) (by decide)
                · have := HGq.out; omega
              have HFX : Hid (¬ ((Value.slice A6 (cnt L k) c6).ownBlock = some q0 ∨ vn.ownBlock = some q0 ∨ q0 = g0 + 1 + 1)) := by
                rintro (e | e | e)
                · exact absurd (IsC.one (own_typed HO.out.own _ e).2 (Bk.isC HXs.out)) (by decide)
                · exact absurd (IsC.one (own_typed HNR.out.own _ e).2 (Bk.isC HXs.out)) (by decide)
                · have := HGq.out; omega
              have HFB : Hid (∀ q, ((Value.slice A6 (cnt L k) c6).ownBlock = some q ∨ vn.ownBlock = some q ∨ q = g0 + 1 + 1) → g0 ≤ q) := by
                rintro q (e | e | e)
                · have := (own_typed HO.out.own _ e).1; omega
                · have := (own_typed HNR.out.own _ e).1; omega
                · omega
              have HSG : Hid (g0 ≤ ws.heap.size) := by show _ ≤ _; omega
              clear hfar hty hob hnb
              have hboxa := fun o => keep_cell hbox (below_al ws o)
              have hboxb := fun o p => keep_cell (hboxa o) (below_al (ws.alloc o) p)
              have hboxc := fun o p q => keep_cell (hboxb o p) (below_al ((ws.alloc o).alloc p) q)
              go_region_law
                (first
                  | ((refine step_push1 (by rfl) (.tmp 51) (.tmp 52) 22 23 (by rfl) (g0 + 1 + 1 + 1) (.slice none 0 0) 24 Try.underlying22 infoInts' (by rfl) (by omega) (.slice A6 (cnt L k) c6) (cnt L k) os (.slice none 0 0) (by rfl) _ (by rfl) (by (try rw [World.cell?_drew]); (first | exact cell_last (by simp) rfl | exact keep_cell (cell_last (by simp) rfl) (below_al _ _) | exact keep_cell (keep_cell (cell_last (by simp) rfl) (below_al _ _)) (below_al _ _))) (by rfl) (own_below HO.out.own (by repeat (first | exact Below.refl _ _ | exact below_al _ _ | refine below_then ?_ (below_al _ _) | refine Below.drew ?_)) (Nat.le_refl _)) (by simp; omega) (by omega) ?_; intro g1 cap1 w1' hown1 hgr1 hat1 hlt1; have hbx1 := bk_grown (Bk.keep HBOX.out (by repeat (first | exact Below.refl _ _ | exact below_al _ _ | refine below_then ?_ (below_al _ _) | refine Below.drew ?_))) hgr1 HOB.out; have hc1 := Bk.cell hbx1 0 (by simp); simp only [List.getElem_cons_zero] at hc1; have hc1a := fun o => keep_cell hc1 (below_al w1' o); have hc1b := fun o p => keep_cell (hc1a o) (below_al (w1'.alloc o) p)))
                  | ((refine step_push1m (by rfl) (.tmp 54) (.tmp 56) 96 98 (by rfl) (g0 + 1 + 1 + 1) zm bm Try.underlying96 him hzm hbm0 vn (cnt L k) ns _ (by rfl) _ (by rfl) (.tmp 55) (by rfl) (by first | (first | exact cell_last (by simp) rfl | exact keep_cell (cell_last (by simp) rfl) (below_al _ _) | exact keep_cell (keep_cell (cell_last (by simp) rfl) (below_al _ _)) (below_al _ _)) | (rw [hgr1.cell_far _ (by simp) (HFAR.out _ (by simp <;> omega)), World.cell?_drew]; (first | exact cell_last (by simp) rfl | exact keep_cell (cell_last (by simp) rfl) (below_al _ _) | exact keep_cell (keep_cell (cell_last (by simp) rfl) (below_al _ _)) (below_al _ _)))) (by rfl) (own_below ((own_below HNR.out.own (by repeat (first | exact Below.refl _ _ | exact below_al _ _ | refine below_then ?_ (below_al _ _) | refine Below.drew ?_)) (Nat.le_refl _)).kept hgr1 HTY.out) (by repeat (first | exact Below.refl _ _ | exact below_al _ _ | refine below_then ?_ (below_al _ _) | refine Below.drew ?_)) (Nat.le_refl _)) (by have := hgr1.size; simp at this ⊢; omega) (Nat.le_trans (Nat.mul_le_mul (show cnt L k + 1 ≤ 100 by omega) hbm1) (by omega)) ?_; intro g2 cap2 w2' hown2 hgr2 hat2 hlt2; have hbx2 := (bk_grown (Bk.keep (bk_grown (Bk.keep HBOX.out (by repeat (first | exact Below.refl _ _ | exact below_al _ _ | refine below_then ?_ (below_al _ _) | refine Below.drew ?_))) hgr1 HOB.out) (by repeat (first | exact Below.refl _ _ | exact below_al _ _ | refine below_then ?_ (below_al _ _) | refine Below.drew ?_))) hgr2 HNB.out); have hc2 := Bk.cell hbx2 0 (by simp); have hf2 := Bk.free hbx2 0; simp only [List.getElem_cons_zero] at hc2)))
              all_goals
                have hz1 := hgr1.size
                have hz2 := hgr2.size
                simp only [World.size_alloc, World.size_drew] at hz1 hz2
                obtain ⟨hGW, hOT, hF⟩ := r15_end HWs.out HO.out HNR.out (by repeat (first | exact Below.refl _ _ | exact below_al _ _ | refine below_then ?_ (below_al _ _) | refine Below.drew ?_)) hgr1 hown1 (hat1.imp id fun e => ⟨g1, rfl, by rw [e]; simp <;> omega⟩) (by repeat (first | exact Below.refl _ _ | exact below_al _ _ | refine below_then ?_ (below_al _ _) | refine Below.drew ?_)) hgr2 hown2 (by first | omega | (simp; omega)) (by first | (left; first | exact obj_last (by simp) | exact obj_keep (obj_last (by simp)) | exact obj_keep (obj_keep (obj_last (by simp))) | exact obj_drew (obj_last (by simp)) | exact obj_drew (obj_keep (obj_last (by simp))) | exact obj_drew (obj_keep (obj_keep (obj_last (by simp))))) | (right; first | exact obj_last (by simp) | exact obj_keep (obj_last (by simp)) | exact obj_keep (obj_keep (obj_last (by simp))) | exact obj_drew (obj_last (by simp)) | exact obj_drew (obj_keep (obj_last (by simp))) | exact obj_drew (obj_keep (obj_keep (obj_last (by simp))))))
                have HGW := Lib.hid hGW
                have HF := Lib.hid hF
                have HOT := Lib.hid hOT
                clear hGW hF hOT hgr1 hown1 hat1 hgr2 hown2 hat2 hz1 hz2 hbx1 hbx2 hc1a hc1b hc1 hc2 hf2 hlt1 hlt2 hboxa hboxb hboxc
                go_wp2
                go_meet
                exact ⟨cnt L k, cnt L k + 1, _, _, _, by omega, by omega, HF.out.far HGs.out HFG.out, HF.out.far HXs.out HFX.out, HGW, H1, H2, H3, H4, HBgs.out.trans (HF.out.below HSG.out HFB.out), _, HOT, fun v hv => by have := HO.out.len; rw [List.getElem?_append_right (by omega)] at hv; have e : cnt L k - os.length = 0 := (by omega); rw [e] at hv; simp at hv; subst hv; simp [Value.ownBlock]⟩
          case rest =>
            obtain ⟨g, G, vn', rows, near, hgG, hGk, HG1, HX1, HW1, HCN, HGL, HRW, HNE, HBg1, os, HO1, HV1⟩ := hcut
            clear HWc HXc HGc HBr HBg HJ HGV HIB HW HB HBw HBww hb m1 m2 HDS HDL
            obtain ⟨go, cap, hvo, hgo⟩ := HO1.out.own.form (by omega)
            subst hvo
            obtain ⟨vg, hvg, hrow⟩ := HO1.out.row g hgG
            have hoc := HO1.out.own.cellAt g (by omega)
            rw [hvg] at hoc
            have hof := HO1.out.own.frozenAt g
            have hgc := HG1.out.cell 0 (by simp)
            simp only [List.getElem_cons_zero] at hgc
            have hl64 : (rows g).length ≤ 64 := by
              rw [← HRW.out g]
              have := rowOf_length (gls L k) g
              rw [gls_length] at this
              omega
            have hgo2 : G ≤ cap ∧ cap ≤ 9223372036854775807 := by
              obtain ⟨A9, c9, e9, _, h9⟩ := rd_own HO1.out.own
              injection e9 with _ _ e9
              subst e9
              exact ⟨h9.le, h9.cap⟩
            obtain ⟨hgo3, hgo4⟩ := hgo2
            have HROW := Lib.hid hrow
            have HVG := Lib.hid hvg
            have hvq : vg.ownBlock ≠ some (q0 + 1) := HV1.out vg hvg
            have hvgo : vg.ownBlock ≠ some go := fun e => absurd (IsC.one (own_typed hrow _ e).2 (own_typed HO1.out.own go rfl).2) (by decide)
            have HVQ := Lib.hid hvq
            have HVGO := Lib.hid hvgo
            clear hvq hvgo hrow hvg
            have hgca := fun o => keep_cell hgc (below_al wc o)
            have hoca := fun o => keep_cell hoc (below_al wc o)
            have hofa := fun o => ((below_al wc o).frozen (p := ⟨go, g, none⟩) hgo.2).trans hof
            have hF1 : ¬ (vg.ownBlock = some (q0 + 1) ∨ (Value.slice (some ⟨go, 0, none⟩) G cap).ownBlock = some (q0 + 1)) := by
              rintro (e | e)
              · exact HVQ.out e
              · exact absurd (IsC.one (own_typed HO1.out.own _ e).2 (Bk.isC HG1.out)) (by decide)
            have hF2 : ¬ (vg.ownBlock = some q0 ∨ (Value.slice (some ⟨go, 0, none⟩) G cap).ownBlock = some q0) := by
              rintro (e | e)
              · exact absurd (IsC.one (own_typed HROW.out _ e).2 (Bk.isC HX1.out)) (by decide)
              · exact absurd (IsC.one (own_typed HO1.out.own _ e).2 (Bk.isC HX1.out)) (by decide)
            have hF3 : ∀ q, (vg.ownBlock = some q ∨ (Value.slice (some ⟨go, 0, none⟩) G cap).ownBlock = some q) → g0 ≤ q := by
              rintro q (e | e)
              · have := (own_typed HROW.out _ e).1; omega
              · have := (own_typed HO1.out.own _ e).1; omega
            have HF1 := Lib.hid hF1
            have HF2 := Lib.hid hF2
            have HF3 := Lib.hid hF3
            have HSC : Hid (g0 ≤ wc.heap.size) := by show _ ≤ _; have := HW1.out.lt; omega
            clear hF1 hF2 hF3
            go_upto_region 16 with (fail)
            go_cut [6] (fun v6' wx => v6' = .slice (some ⟨go, 0, none⟩) G cap ∧ Hid (GW (g0 + 1 + 1 + 1) (g0 + 1 + 1) (g0 + 1) g0 n (.slice (some ⟨go, 0, none⟩) G cap) vn' G (fun j => if j = g then rows g ++ [(k : Int)] else rows j) near (fun b => (lastK L k b).map fun p => ((gls L k).getD p 0 : Int)) wx) ∧
              Hid (Bk wx (q0 + 1) 3 [.int .i64 g]) ∧ Hid (Bk wx q0 44 [.int .i64 x.b, .int .i64 x.o, .string x.s, .slice A' n' c']) ∧ Hid (Below g0 w2 wx))
            case first =>
              go_region_law
                ((refine step_push1 (by rfl) (.tmp 63) (.tmp 65) 23 3 (by rfl) (g0 + 1 + 1 + 1) (.int .i64 0) 8 Try.underlying23 infoInt (by rfl) (by omega) vg (rows g).length (iv .i64 (rows g)) (.int .i64 (k : Int)) (by rfl) _ (by rfl) (by (try rw [World.cell?_drew]); first | exact cell_last (by simp) rfl) (by rfl) (own_below HROW.out (by repeat (first | exact Below.refl _ _ | exact below_al _ _ | refine below_then ?_ (below_al _ _) | refine Below.drew ?_)) (Nat.le_refl _)) (by simp; omega) (by omega) ?_; intro g1 cap1 w1' hown1 hgr1 hat1 hlt1; have hc1 : w1'.cell? ⟨q0 + 1, 0, none⟩ = some (.int .i64 (g : Int)) := (hgr1.cell_far _ (World.block_lt_of_cell? _ _ (hgca _)) (Ne.symm HVQ.out)).trans (hgca _); have hc2 : w1'.cell? ⟨go, g, none⟩ = some vg := (hgr1.cell_far _ (World.block_lt_of_cell? _ _ (hoca _)) (Ne.symm HVGO.out)).trans (hoca _); have hc3 : w1'.frozen? ⟨go, g, none⟩ = false := (hgr1.frozen_far _ (World.block_lt_of_cell? _ _ (hoca _)) (Ne.symm HVGO.out)).trans (hofa _)))
              all_goals
                obtain ⟨hGW, hF⟩ := r16_end HW1.out HO1.out hgG HVG.out HROW.out (by repeat (first | exact Below.refl _ _ | exact below_al _ _ | refine below_then ?_ (below_al _ _) | refine Below.drew ?_)) hgr1 hown1 (hat1.imp id fun e => ⟨g1, rfl, by rw [e]; simp⟩)
                have HGW := Lib.hid hGW
                have HF := Lib.hid hF
                clear hGW hF hgr1 hown1 hat1 hlt1 hc1 hc2 hc3 hgca hoca hofa hgc hoc hof
                go_wp2
                go_meet
                exact ⟨rfl, HGW, HF.out.far HG1.out HF1.out, HF.out.far HX1.out HF2.out, HBg1.out.trans (HF.out.below HSC.out HF3.out)⟩
            case rest =>
              clear hgca hoca hofa hgc hoc hof HG1 HX1 HW1 HO1 HV1 HVG HROW HVQ HVGO HF1 HF2 HF3 HSC HBg1 hgo
              obtain ⟨rfl, HW2, HG2, HX2, HBg2⟩ := hcut
              go_upto_region 17 with (fail)
              have HD3 : Hid (Dp wc A2 n n (depsL L)) := HD2.out.below (by rw [HG0.out]; exact HBg2.out)
              have HK1 : Hid (Rd (wc.alloc (.cells #[.int .i64 (k : Int)] 3)) (some ⟨wc.heap.size, 0, none⟩) 1 1 (iv .i64 [(k : Int)])) := (Bk.new wc 3 [.int .i64 (k : Int)]).rd 1 1 (by omega) (by omega)
              go_wp2_with (go_at_call 20; (with_reducible refine (Close_any A2 n n (depsL L) _ 1 1 [(k : Int)] _ (HD3.out.below (below_al _ _)) HK1.out rfl).mono ?_); rintro e w5 ⟨⟨A5, c5, rfl, hr5⟩, hB5⟩; have HR5 := Lib.hid hr5; have HW5 := Lib.hid (HW2.out.below (below_then (below_al _ _) hB5)); have HG5 := Lib.hid (HG2.out.keep (below_then (below_al _ _) hB5)); have HX5 := Lib.hid (HX2.out.keep (below_then (below_al _ _) hB5)); have HBg5 := Lib.hid (HBg2.out.trans ((below_then (below_al _ _) hB5).mono (by have := HW2.out.lt; omega))); clear hr5 hB5)
              have r1 := HR5.out.le
              have r2 := HR5.out.cap
              clear HD3 HK1 HW2 HG2 HX2 HBg2
              generalize hC : closeL (depsL L) [(k : Int)] = C at *
              have HC := Lib.hid hC
              clear hC
              go_loopw [14, 73] (fun _ v73 wx => ∃ t : Nat, t ≤ C.length ∧ v73 = .int .i64 t ∧ Hid (GW (g0 + 1 + 1 + 1) (g0 + 1 + 1) (g0 + 1) g0 n (.slice (some ⟨go, 0, none⟩) G cap) vn' G (fun j => if j = g then rows g ++ [(k : Int)] else rows j) (fun j d => near j d || (decide (j = g) && decide (d ∈ C.take t))) (fun b => (lastK L k b).map fun p => ((gls L k).getD p 0 : Int)) wx) ∧
                Hid (Bk wx (q0 + 1) 3 [.int .i64 g]) ∧ Hid (Bk wx q0 44 [.int .i64 x.b, .int .i64 x.o, .string x.s, .slice A' n' c']) ∧ Hid (Below g0 w2 wx) ∧ Hid (Rd wx A5 C.length c5 (iv .i64 C))) (fun _ v73 _ => C.length - (intOf v73).toNat)
              case atStart => exact ⟨0, by omega, rfl, by simpa using HW5, HG5, HX5, HBg5, HR5⟩
              case round =>
                obtain ⟨t, ht, rfl, HWt, HGt, HXt, HBt, HRt⟩ := hrel
                by_cases htl : t < C.length
                · obtain ⟨b5, off5, rfl, _, hc5⟩ := HRt.out.form (by simp; omega)
                  have hck := hc5 t (by simpa using htl)
                  rw [iv_at] at hck
                  clear hc5
                  have HTK : Hid (C.take (t + 1) = C.take t ++ [C[t]]) := List.take_succ_eq_append_getElem htl
                  generalize hd : C[t] = d at *
                  obtain ⟨ns, hn⟩ := HWt.out.nr
                  obtain ⟨bn, cn, hvn, hbn⟩ := hn.own.form (by omega)
                  subst hvn
                  obtain ⟨m, lmg, hm, hmB, him, hlm⟩ := hn.map g hgG
                  have hbox := HWt.out.box.cell 0 (by simp)
                  have hgc := HGt.out.cell 0 (by simp)
                  simp only [List.getElem_cons_zero] at hbox hgc
                  have hnc := hn.own.cellAt g (by omega)
                  rw [hm] at hnc
                  have hcn : G ≤ cn ∧ cn ≤ 9223372036854775807 := by
                    obtain ⟨A9, c9, e9, _, h9⟩ := rd_own hn.own
                    injection e9 with _ _ e9
                    subst e9
                    exact ⟨h9.le, h9.cap⟩
                  obtain ⟨hcn1, hcn2⟩ := hcn
                  have HN := Lib.hid hn
                  have HM := Lib.hid hm
                  have HIM := Lib.hid him
                  have HLM := Lib.hid hlm
                  have HD := Lib.hid hd
                  clear hn hm him hlm hd
                  go_wp2_with (at_mapUpdate; refine wpList_store rfl _ _ _ _ rfl Try.underlying98 Try.underlying3 rfl rfl rfl HIM.out ?_; intro wy hiy hby; have HIY := Lib.hid hiy; have HBY := Lib.hid hby; clear hiy hby)
                  have HWy := Lib.hid (GW.mark HWt.out HN.out hgG HM.out HIM.out HLM.out HBY.out HIY.out)
                  have hMM := Lib.hid (imap_obj HIM.out)
                  go_roundw
                  case rel =>
                    refine ⟨t + 1, by omega, by go_num, ?_, bk_bb HGt.out HBY.out hMM.out, bk_bb HXt.out HBY.out hMM.out, HBY.out.below HBt.out (by omega), rd_bb HRt.out HBY.out hMM.out⟩
                    have e : (fun j d' => near j d' || (decide (j = g) && decide (d' ∈ C.take (t + 1)))) = (fun j x => (near j x || (decide (j = g) && decide (x ∈ C.take t))) || (decide (j = g) && decide (x = d))) := by
                      funext j d'
                      rw [HTK.out]
                      by_cases e1 : j = g <;> by_cases e2 : d' = d <;> simp [e1, e2]
                    rw [e]
                    exact HWy
                  case measure => simp [intOf]; omega
                · have htC : t = C.length := by omega
                  have hCT : C.take t = C := by rw [htC, List.take_length]
                  rw [hCT] at HWt
                  clear hCT htC
                  obtain ⟨ofs, hofl, hofb⟩ := HWt.out.ofb
                  obtain ⟨lm2, hI2, hlk2⟩ := HWt.out.lst
                  have hgc := HGt.out.cell 0 (by simp)
                  have hxc := HXt.out.cell 0 (by simp)
                  simp only [List.getElem_cons_zero] at hgc hxc
                  obtain ⟨zo, hoc⟩ : ∃ z, wr.cell? ⟨g0, k, none⟩ = some z := ⟨_, hofb.cell k (by omega)⟩
                  have hof := hofb.free k
                  have hlt5 := HWt.out.lt
                  have hI3 : IMap ((wr.setCell ⟨g0, k, none⟩ (.int .i64 (g : Int))).drew) (g0 + 1) lm2 := imap_same hI2 (Below.heap_setCell _ _ _ _ (show g0 + 1 ≠ g0 by omega))
                  obtain ⟨wm, hrunm, hIm, hBm⟩ := hI3.store (P := Try.prog) Try.underlying95 Try.underlying3 x.b (.int .i64 (g : Int))
                  have hne1 : ¬ q0 = g0 := by have := HGq.out; omega
                  have hne2 : ¬ q0 + 1 = g0 := by have := HGq.out; omega
                  have hs1 := (HXt.out.far (p := ⟨g0, k, none⟩) (fun e => hne1 e.symm) (.int .i64 (g : Int))).cell 0 (by simp)
                  have hs2 := (HGt.out.far (p := ⟨g0, k, none⟩) (fun e => hne2 e.symm) (.int .i64 (g : Int))).cell 0 (by simp)
                  simp only [List.getElem_cons_zero] at hs1 hs2
                  have hm1 : wm.cell? ⟨q0, 0, none⟩ = some (.int .i64 x.b) := by
                    rw [hBm.cell (a := ⟨q0, 0, none⟩) (show q0 ≠ g0 + 1 by have := HGq.out; omega)]
                    exact (HXt.out.far (p := ⟨g0, k, none⟩) (fun e => hne1 e.symm) (.int .i64 (g : Int))).cell 0 (by simp)
                  have hm2 : wm.cell? ⟨q0 + 1, 0, none⟩ = some (.int .i64 (g : Int)) := by
                    rw [hBm.cell (a := ⟨q0 + 1, 0, none⟩) (show q0 + 1 ≠ g0 + 1 by have := HGq.out; omega)]
                    exact (HGt.out.far (p := ⟨g0, k, none⟩) (fun e => hne2 e.symm) (.int .i64 (g : Int))).cell 0 (by simp)
                  have HBM := Lib.hid hBm
                  have HIM := Lib.hid hIm
                  have HLK := Lib.hid hlk2
                  have HI2 := Lib.hid hI2
                  have HOFL := Lib.hid hofl
                  have HOFB := Lib.hid hofb
                  clear hBm hIm hlk2 hI2 hI3 hofl hofb
                  go_wp2_with (fail)
                  go_region_held3 (fun w' => w'.cell? ⟨q0, 0, none⟩ = some (.int .i64 x.b) ∧ w'.cell? ⟨q0 + 1, 0, none⟩ = some (.int .i64 (g : Int))) (go_keep) (fail)
                  have hF : Fr (fun q => q = g0 ∨ q = g0 + 1) wr wm := by
                    have F1 : Fr (fun q => q = g0 ∨ q = g0 + 1) wr (wr.setCell ⟨g0, k, none⟩ (.int .i64 (g : Int))) := (Fr.refl _ _).setCell (p := ⟨g0, k, none⟩) (.inl (.inl rfl)) _
                    have F2 : Fr (fun q => q = g0 ∨ q = g0 + 1) (wr.setCell ⟨g0, k, none⟩ (.int .i64 (g : Int))) wm := ⟨HBM.out.os, HBM.out.tape, HBM.out.output, Nat.le_of_eq HBM.out.size.symm, fun q _ hq => HBM.out.far q (fun e => hq (.inr e))⟩
                    exact F1.trans F2
                  have hO : Bk wm g0 3 (ofs.set k (.int .i64 (g : Int))) := (HBM.out.far g0 (by omega)).trans (HOFB.out.set k (.int .i64 (g : Int)))
                  have hN := GW.noted HWt.out hF (by rw [List.length_set]; exact HOFL.out) hO HI2.out HLK.out HIM.out
                  have e1 : (fun j => if j = g then rows g ++ [(k : Int)] else rows j) = rowOf (gls L (k + 1)) := by
                    funext j
                    rw [HGL.out, rowOf_snoc, gls_length, HRW.out]
                    by_cases e : j = g
                    · subst e; simp
                    · rw [if_neg e, if_neg (fun h => e h.symm)]
                  have e2 : (fun j d => near j d || (decide (j = g) && decide (d ∈ C))) = nearB (depsL L) (gls L (k + 1)) := by
                    funext j d
                    rw [HGL.out, near_snoc, gls_length, HNE.out, HC.out]
                    by_cases e : j = g
                    · subst e; simp
                    · have e' : ¬ g = j := fun h => e h.symm
                      simp [e, e']
                  have e3 : (fun b => if x.b = b then some (g : Int) else (lastK L k b).map fun p => ((gls L k).getD p 0 : Int)) = fun b => (lastK L (k + 1) b).map fun p => ((gls L (k + 1)).getD p 0 : Int) := by
                    funext b'
                    rw [HGL.out, lastK, HX.out]
                    by_cases e : x.b = b'
                    · rw [if_pos e, if_pos e, Option.map_some, getD_snoc, gls_length, if_neg (by omega), if_pos rfl]
                    · rw [if_neg e, if_neg e]
                      cases hl : lastK L k b' with
                      | none => rfl
                      | some p =>
                        rw [Option.map_some, Option.map_some, getD_snoc, gls_length, if_pos (lastK_lt hl).1]
                  rw [e1, e2, e3, HCN.out] at hN
                  have HNW := Lib.hid hN
                  have HBF : Hid (Below g0 w2 wm) := HBt.out.trans (hF.below (by omega) (fun q hq => by omega))
                  have hGc := HCN.out
                  clear hN hO hF e1 e2 e3 hs1 hs2 hm1 hm2 hrunm hoc hof hxc hgc
                  go_wp2
                  go_roundw
                  case rel => exact ⟨k + 1, vn', by omega, by go_num, by rw [← hGc] at HNW ⊢; exact HNW, HBF⟩
                  case measure => simp [intOf]; omega
      · have hkn : k = n := by omega
        obtain ⟨os, ho⟩ := HW.out.out
        obtain ⟨A9, c9, ss9, e9, hd9⟩ := out_dps ho
        have hBw : Below w2.heap.size w2 wr := by rw [HG0.out]; exact HB.out
        have HBw := Lib.hid hBw
        have hd9 : ∀ W, Agree w.heap.size wr W → DpS W A9 (cnt L k) c9 (groupsK L k) ss9 := fun W hA => hd9 w.heap.size W (by have := HB2.out.size; have := HG0.out; omega) hA
        subst e9
        have HD9 := Lib.hid hd9
        clear ho hd9 os hBw
        subst hkn
        go_wp2
        go_ret
        rw [groupsK_length]
        exact ⟨⟨A9, c9, ss9, rfl, HD9.out⟩, below_then HB2.out HBw.out⟩
theorem mGroups_any (A : Option Addr) (n c : Nat) (L : List It) (w : World) (hL : Ip w A n c L) :
    Calls Try.prog 27 #[.slice A n c] w fun e w' => (∃ A' c', e = .returned (.slice A' (groupsL L).length c') ∧ Dp w' A' (groupsL L).length c' (groupsL L)) ∧ Below w.heap.size w w' :=
  (mGroups_own A n c L w hL).mono fun e w' ⟨⟨A', c', ss, h1, h2⟩, h3⟩ => ⟨⟨A', c', h1, (h2 w' (Agree.refl _ _)).dp⟩, h3⟩
end Go.Proofs.Ytpicagcapgjiaaa
