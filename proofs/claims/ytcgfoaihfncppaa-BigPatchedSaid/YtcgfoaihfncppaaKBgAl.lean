/- Walks of big: All, Inner. -/
import Derived.Test.YtcgfoaihfncppaaKBgI
import Derived.Test.YtcgfoaihfncppaaKBhB
set_option linter.unusedSimpArgs false
set_option linter.unusedVariables false
namespace Go.Proofs.Ytcgfoaihfncppaa
open Go.RowKit Go.Sel Go.Sel.Gra Go.Sel.Bg Go.Sel.Mer Go.Shelf

theorem map_take_succ {α β : Type} (f : α → β) (z : α) : ∀ (l : List α) (j : Nat), j < l.length → (l.map f).take (j + 1) = (l.map f).take j ++ [f (l.getD j z)]
  | [], j, h => by simp at h
  | x :: l, 0, h => by simp
  | x :: l, j + 1, h => by
    have := map_take_succ f z l j (by simpa using h)
    simp only [List.map_cons, List.take_succ_cons, List.cons_append, List.getD_cons_succ] at this ⊢
    rw [this]
theorem map_get {α β : Type} (f : α → β) (z : α) : ∀ (l : List α) (j : Nat), j < l.length → (l.map f)[j]? = some (f (l.getD j z))
  | [], j, h => by simp at h
  | x :: l, 0, h => by simp
  | x :: l, j + 1, h => by
    have := map_get f z l j (by simpa using h)
    simpa using this
theorem getD_mem {α : Type} (z : α) : ∀ (l : List α) (j : Nat), j < l.length → l.getD j z ∈ l
  | [], j, h => by simp at h
  | x :: l, 0, h => by simp
  | x :: l, j + 1, h => by
    have := getD_mem z l j (by simpa using h)
    simp only [List.getD_cons_succ]
    exact List.mem_cons_of_mem _ this
theorem blL_len (D : List (List Int)) (t : List Int) : (blL D t).length = (plL D t).length := by rw [blL, plL, List.length_map, List.length_map]
theorem plN_len (D : List (List Int)) (t : List Int) : (plN D t).length = (plL D t).length := by rw [plL, List.length_map]

/-- 'append(s, y)' at an operation. -/
theorem oper_push {P : Program} {ops : Array Oper} {o : Oper} {a : Act} {Q : Exit → Act → World → Prop} {Wg : World} (W : World) {K : Act → World → Prop} (hgd : o.guard = none) (s x : Operand) (t e : TypeId)
    (ho : o.op = .call { callee := .builtin .append, args := #[s, x], argTypes := #[t, t] }) (base : Nat) (z : Value) (bytes : Nat)
    (ht : P.underlying t = some (.slice e)) (hinfo : (P.info? e).map (fun i => (i.zero, i.size, i.bytes)) = some (some z, 1, bytes)) (hz : z.cells.size = 1) (hb0 : 0 < bytes)
    (v : Value) (n : Nat) (xs : List Value) (y : Value) (hs : a.eval s = v) (hx : a.eval x = .slice (some ⟨W.heap.size, 0, none⟩) 1 1) (h1 : y.oneCell' = true)
    (HO : W.ownsRow base e 1 v n xs) (hbase : base ≤ W.heap.size) (hl : (n + 1) * bytes ≤ 140737488355328) (hW : Wg = W.alloc (.cells #[y] e))
    (h : ∀ g cap w1, w1.ownsRow base e 1 (.slice (some ⟨g, 0, none⟩) (n + 1) cap) (n + 1) (xs ++ [y]) → W.grownBy w1 v.ownBlock → (v.ownBlock = some g ∨ W.heap.size ≤ g) → g < w1.heap.size → K (a.put o.dst (.slice (some ⟨g, 0, none⟩) (n + 1) cap)) w1) :
    Oper.wp P o a Wg K Q := by
  have := step_push (P := P) (ops := ops) (Q := Q) (E := True) W hgd s x t e ho base z bytes ht hinfo hz hb0 v n xs y hs hx h1 HO hbase hl hW h
  rwa [if_pos (by simp [Region.wanted, hgd])] at this
set_option maxRecDepth 100000 in
set_option maxHeartbeats 4000000 in
theorem All1_ok (A : Option Addr) (n c : Nat) (D : List (List Int)) (t : List Int) (ht : t.length = 8) (w : World) (b0 b1 b2 b3 : Nat) (h0 : w.cell? ⟨b0, 0, none⟩ = some (.slice A n c)) (h1 : boxB w b1 t)
    (h2 : w.heap[b2]? = some (.cells #[.slice none 0 0] 23 (0, 0))) (h3 : w.heap[b3]? = some (.cells #[.slice none 0 0] 23 (0, 0))) (h23 : b2 ≠ b3) (hD : Bp w A n c D) (hR : Rt D t) :
    Calls Try.prog 42 #[.pointer (some ⟨b0, 0, none⟩), .pointer (some ⟨b1, 0, none⟩), .pointer (some ⟨b2, 0, none⟩), .pointer (some ⟨b3, 0, none⟩)] w fun e w' => e = .returned (.tuple #[]) ∧ Fr (fun x => x = b2 ∨ x = b3) w w' ∧
      ∃ A2 c2 A3 c3, w'.heap[b2]? = some (.cells #[.slice A2 (plL D t).length c2] 23 (0, 0)) ∧ w'.heap[b3]? = some (.cells #[.slice A3 (plL D t).length c3] 23 (0, 0)) ∧ w'.ownsRow w.heap.size 3 1 (.slice A2 (plL D t).length c2) (plL D t).length (iv .i64 (plL D t)) ∧ w'.ownsRow w.heap.size 3 1 (.slice A3 (plL D t).length c3) (plL D t).length (iv .i64 (blL D t)) := by
  have HL := Lib.hid (look_ok A n c D t ht w hD hR)
  have HR := Lib.hid hR
  have H2 := Lib.hid h2
  have H3 := Lib.hid h3
  have l2 := (Array.getElem?_eq_some_iff.1 h2).1
  have l3 := (Array.getElem?_eq_some_iff.1 h3).1
  have H96 := Lib.hid (plL_len hR)
  obtain ⟨a0, a1, a2, a3, a4, a5, a6, a7, rfl⟩ := len8 ht
  obtain ⟨d0, d1, d2, d3, d4, d5, d6, d7⟩ := big8 h1
  simp only [bigV, iv, List.map_cons, List.map_nil] at HL
  generalize hT : [a0, a1, a2, a3, a4, a5, a6, a7] = T at *
  clear hD hR h1 h2 h3
  go_enter Try.func42, Try.ntmps42
  go_upto_region 1 with (go_at_call 36; (with_reducible refine HL.out.mono ?_); rintro e w2 ⟨vb, mp, mt, vi, rfl, hV⟩; have HV := Lib.hid hV; have HB := Lib.hid hV.hB; clear hV)
  obtain ⟨c0, c9, c10, c11, ct, cz⟩ := HV.out.cell ht
  obtain ⟨l, hl, hp⟩ := HV.out.pl
  have HO := Lib.hid (order_any vb mp l D T w2 c9 hl hp HR.out)
  have hgv := HV.out.gv
  have hgp := HV.out.gp
  have HIM := Lib.hid hl
  have HPS := Lib.hid hp
  have hlm := hl.lt
  have hlv := World.block_lt_of_cell? w2 _ c9
  simp only at hlv
  have q2 := blk_below H2.out HB.out l2
  have q3 := blk_below H3.out HB.out l3
  have Q2 := Lib.hid q2
  have Q3 := Lib.hid q3
  have hsz2 := HB.out.size
  clear hl hp c0 c10 c11 ct cz d0 d1 d2 d3 d4 d5 d6 d7 h0 HL HV q2 q3
  go_upto_region 2 with (go_at_call 43; refine HO.out.mono ?_; rintro e w3 ⟨A2, c2, rfl, hown, hB⟩; have HOW := Lib.hid hown; have HB3 := Lib.hid hB; have r2 := blk_cell (blk_below Q2.out hB (Nat.lt_of_lt_of_le l2 hsz2)) 0; have z2 := blk_free (blk_below Q2.out hB (Nat.lt_of_lt_of_le l2 hsz2)) 0; simp only [List.getElem?_toArray, List.getElem?_cons_zero] at r2; have Q2b := Lib.hid (blk_below Q2.out hB (Nat.lt_of_lt_of_le l2 hsz2)); have Q3b := Lib.hid (blk_below Q3.out hB (Nat.lt_of_lt_of_le l3 hsz2)); have c9b := keep_cell c9 hB; have HIMb := Lib.hid (HIM.out.below hB hlm); clear hown hB)
  have hs3 := HB3.out.size
  have hfar : ∀ i, i ≠ b2 → (w3.setCell ⟨b2, 0, none⟩ (.slice A2 (plL D T).length c2)).heap[i]? = w3.heap[i]? := fun i hi => Below.heap_setCell _ _ _ _ hi
  have HP2 : Hid ((w3.setCell ⟨b2, 0, none⟩ (.slice A2 (plL D T).length c2)).heap[b2]? = some (.cells #[.slice A2 (plL D T).length c2] 23 (0, 0))) := Lib.hid (blk_set Q2b.out 0 _)
  have HP3 : Hid ((w3.setCell ⟨b2, 0, none⟩ (.slice A2 (plL D T).length c2)).heap[b3]? = _) := Lib.hid ((hfar b3 (Ne.symm h23)).trans Q3b.out)
  have HF4 : Hid (Fr (fun x => x = b2 ∨ x = b3) w (w3.setCell ⟨b2, 0, none⟩ (.slice A2 (plL D T).length c2))) := Lib.hid (Fr.setCell (S := fun x => x = b2 ∨ x = b3) (fr_of_below (HB.out.trans (HB3.out.mono hsz2)) _) (p := ⟨b2, 0, none⟩) (.inl (.inl rfl)) _)
  have HOW4 : Hid ((w3.setCell ⟨b2, 0, none⟩ (.slice A2 (plL D T).length c2)).ownsRow w2.heap.size 3 1 (.slice A2 (plL D T).length c2) (plL D T).length (iv .i64 (plL D T))) := Lib.hid (own_setCell HOW.out (by simp only; omega) _)
  have hvb2 : vb ≠ b2 := by omega
  have hvb3 : vb ≠ b3 := by omega
  have hmb2 : mp ≠ b2 := by omega
  have hmb3 : mp ≠ b3 := by omega
  have c9c : (w3.setCell ⟨b2, 0, none⟩ (.slice A2 (plL D T).length c2)).cell? ⟨vb, 9, none⟩ = some (.map (some mp)) := (World.cell?_of_block (a := ⟨vb, 9, none⟩) (hfar vb hvb2)).trans c9b
  have HIM4 : Hid (IMap (w3.setCell ⟨b2, 0, none⟩ (.slice A2 (plL D T).length c2)) mp l) := Lib.hid (imap_at HIMb.out (hfar mp hmb2))
  have hsz4 : (w3.setCell ⟨b2, 0, none⟩ (.slice A2 (plL D T).length c2)).heap.size = w3.heap.size := by simp
  clear c9 c9b r2 z2 hfar HIMb Q2b Q3b HIM Q2 Q3 HOW HO
  generalize w3.setCell ⟨b2, 0, none⟩ (.slice A2 (plL D T).length c2) = W4 at *
  have r2 := blk_cell HP2.out 0
  simp only [List.getElem?_toArray, List.getElem?_cons_zero] at r2
  go_wp2
  go_loopw [6, 14] (fun _ v wr => ∃ (j c3 : Nat) (A3 : Option Addr), j ≤ (plL D T).length ∧ v = .int .i64 j ∧ Hid (wr.heap[b3]? = some (.cells #[.slice A3 j c3] 23 (0, 0))) ∧ Hid (wr.ownsRow W4.heap.size 3 1 (.slice A3 j c3) j (iv .i64 ((blL D T).take j))) ∧ Hid (Fr (· = b3) W4 wr)) (fun _ v _ => (plL D T).length - (Go.RowKit.intOf v).toNat)
  case atStart => exact ⟨0, 0, none, by omega, rfl, HP3, World.ownsRow_nil _ _ _ _, Fr.refl _ _⟩
  case round =>
    obtain ⟨j, c3, A3, hj, rfl, H3r, HOr, HFr⟩ := hrel
    by_cases hlt : j < (plL D T).length
    · have hjn : j < (plN D T).length := by rw [plN_len]; exact hlt
      have HG : Hid ((plL D T)[j]? = some (((plN D T).getD j 0 : Nat) : Int)) := Lib.hid (map_get _ 0 _ j hjn)
      have HBS : Hid ((blL D T).take (j + 1) = (blL D T).take j ++ [atK D T ((plN D T).getD j 0)]) := Lib.hid (map_take_succ _ 0 _ j hjn)
      have HKM := Lib.hid (mem_plN.1 (getD_mem 0 _ j hjn))
      have hown := own_same HOW4.out (fun i hi => HFr.out.block i (HOW4.out.lt i hi).2 (fun e => by have := (HOW4.out.lt i hi).1; omega))
      obtain ⟨A', c', e, _, hrr⟩ := rd_own hown
      cases e
      obtain ⟨g2, o2, rfl, hg2, hc2⟩ := hrr.form (by rw [iv_length]; omega)
      have hcj := hc2 j (by rw [iv_length]; exact hlt)
      rw [iv_at, show (plL D T)[j]'hlt = (((plN D T).getD j 0 : Nat) : Int) from Option.some.inj ((List.getElem?_eq_getElem hlt).symm.trans HG.out)] at hcj
      have hl2 := hrr.le
      have hl3 := hrr.cap
      generalize (plN D T).getD j 0 = k at *
      have HAT : Hid ((Sel.look l (k : Int)).getD (.int .i64 0) = .int .i64 (atK D T k)) := Lib.hid (HPS.out.at_ HKM.out.1)
      have c9r : wr.cell? ⟨vb, 9, none⟩ = some (.map (some mp)) := (World.cell?_of_block (a := ⟨vb, 9, none⟩) (HFr.out.block vb (by omega) hvb3)).trans c9c
      have r3 := blk_cell H3r.out 0
      simp only [List.getElem?_toArray, List.getElem?_cons_zero] at r3
      have z3 := blk_free H3r.out 0
      generalize atK D T k = ak at *
      have hlkA : Hid (∀ W', IMap W' mp l → (Instr.lookup 80 (.map (some mp)) (.int .i64 (k : Int)) false).run Try.prog W' = .ok (.int .i64 ak) W') := Lib.hid fun W' h => by rw [h.lookup (P := Try.prog) Try.underlying80 Try.underlying3 (zeroI W') (k : Int), HAT.out]
      have h96 := H96.out
      clear hown hrr hc2
      go_upto_region 5 with (fail)
      have HS : At (fun w' : World => w'.cell? ⟨b3, 0, none⟩ = some (.slice A3 j c3) ∧ w'.cell? ⟨vb, 9, none⟩ = some (.map (some mp)) ∧ (Instr.lookup 80 (.map (some mp)) (.int .i64 (k : Int)) false).run Try.prog w' = .ok (.int .i64 ak) w') wr.drew := by
        exact ⟨r3, c9r, hlkA.out _ (imap_at (w' := wr.drew) HIM4.out (HFr.out.block mp HIM4.out.lt hmb3))⟩
      have HIMd : Hid (IMap wr.drew mp l) := Lib.hid (imap_at (w' := wr.drew) HIM4.out (HFr.out.block mp HIM4.out.lt hmb3))
      have HORd : Hid (wr.drew.ownsRow W4.heap.size 3 1 (.slice A3 j c3) j (iv .i64 ((blL D T).take j))) := Lib.hid (own_below HOr.out (Sel.below_drewN wr 1) (Nat.le_refl _))
      have H3d : Hid (wr.drew.heap[b3]? = some (.cells #[.slice A3 j c3] 23 (0, 0))) := H3r
      have HFd : Hid (Fr (· = b3) W4 wr.drew) := Lib.hid (HFr.out.drewN 1)
      clear r3 c9r H3r HOr HFr hcj
      refine wp_region_lexD HS [0, 1, 2, 3, 4, 5, 6] (by kernel_rfl) (by kernel_rfl) (fun _ _ d _ _ h => by cases d <;> exact h) ?_
      generalize wr.drew = Wd at *
      repeat (refine lexD_take (by decide) (by kernel_rfl) HS (fun w9 h9 => by obtain ⟨s0, s1, s2⟩ := h9; go_simp; first | done | rfl) (fun K hK => ?_); go_simp; refine hK _ ?_; clear hK K)
      have hsd := HFd.out.size
      refine lexD_do (by kernel_rfl) (by kernel_rfl) (fun K hK => ?_)
      go_simp
      refine hK _ _ (fun _ => ⟨keep_cell HS.1 (below_al _ _), keep_cell HS.2.1 (below_al _ _), hlkA.out _ (HIMd.out.below (below_al _ _) HIMd.out.lt)⟩) ?_
      have HS9 := HS
      clear hK K HS
      refine lexD_do (by kernel_rfl) (by kernel_rfl) (fun K hK => ?_)
      refine oper_push (ops := #[]) Wd rfl _ _ 23 3 rfl W4.heap.size (.int .i64 0) 8 Try.underlying23 infoInt8 rfl (by omega) (.slice A3 j c3) j _ (.int .i64 ak) rfl rfl rfl HORd.out hsd (by omega) rfl ?_
      intro g cap W5 ho hg hat hlt5
      have hlow := own_row HORd.out
      have hb3d := (Array.getElem?_eq_some_iff.1 H3d.out).1
      have hk3 : W5.heap[b3]? = _ := (hg.block b3 hb3d (fun e => by have := hlow b3 e.symm; omega)).trans H3d.out
      have r3 := blk_cell hk3 0
      simp only [List.getElem?_toArray, List.getElem?_cons_zero] at r3
      have z5 := blk_free hk3 0
      have hvb5 : W5.heap[vb]? = Wd.heap[vb]? := hg.block vb (World.block_lt_of_cell? Wd _ HS9.2.1) (fun e => by have := hlow vb e.symm; omega)
      have hmp5 : W5.heap[mp]? = Wd.heap[mp]? := hg.block mp HIMd.out.lt (fun e => by have := hlow mp e.symm; have := HIM4.out.lt; omega)
      refine hK _ _ (fun _ => ⟨r3, (World.cell?_of_block (a := ⟨vb, 9, none⟩) hvb5).trans HS9.2.1, hlkA.out _ (imap_at HIMd.out hmp5)⟩) ?_
      clear hK K HS9 hvb5 hmp5
      have HK3 := Lib.hid hk3
      have HO5 := Lib.hid ho
      have HF5 : Hid (Fr (· = b3) W4 W5) := Lib.hid ⟨hg.os.trans HFd.out.os, hg.tape.trans HFd.out.tape, hg.output.trans HFd.out.output, Nat.le_trans hsd hg.size, fun k hk hs => (hg.block k (by omega) (fun e => by have := hlow k e.symm; omega)).trans (HFd.out.block k hk hs)⟩
      clear ho hk3
      refine lexD_late (by kernel_rfl) (by kernel_rfl) (fun K hK => ?_)
      go_simp
      refine hK _ _ ?_
      clear hK K
      refine lexD_nil ?_
      have HP5 : Hid ((W5.setCell ⟨b3, 0, none⟩ (.slice (some ⟨g, 0, none⟩) (j + 1) cap)).heap[b3]? = some (.cells #[.slice (some ⟨g, 0, none⟩) (j + 1) cap] 23 (0, 0))) := Lib.hid (blk_set HK3.out 0 _)
      have HO6 : Hid ((W5.setCell ⟨b3, 0, none⟩ (.slice (some ⟨g, 0, none⟩) (j + 1) cap)).ownsRow W4.heap.size 3 1 (.slice (some ⟨g, 0, none⟩) (j + 1) cap) (j + 1) (iv .i64 ((blL D T).take (j + 1)))) := Lib.hid (by
        rw [HBS.out]
        have := own_setCell HO5.out (p := ⟨b3, 0, none⟩) (by simp only; omega) (.slice (some ⟨g, 0, none⟩) (j + 1) cap)
        simpa [iv] using this)
      have HF6 : Hid (Fr (· = b3) W4 (W5.setCell ⟨b3, 0, none⟩ (.slice (some ⟨g, 0, none⟩) (j + 1) cap))) := Lib.hid (Fr.setCell (S := (· = b3)) HF5.out (p := ⟨b3, 0, none⟩) (.inl rfl) _)
      generalize W5.setCell ⟨b3, 0, none⟩ (.slice (some ⟨g, 0, none⟩) (j + 1) cap) = W6 at *
      go_wp2
      go_roundw
      case rel => exact ⟨j + 1, cap, some ⟨g, 0, none⟩, by omega, by go_num, HP5, HO6, HF6⟩
      case measure => simp [Go.RowKit.intOf] <;> omega
    · obtain rfl : j = (plL D T).length := by omega
      have hl2b := (Array.getElem?_eq_some_iff.1 HP2.out).1
      go_wp2
      go_end0
      refine ⟨rfl, HF4.out.trans (HFr.out.mono (fun k _ h => .inr h)), A2, c2, A3, c3, (HFr.out.block b2 hl2b h23).trans HP2.out, H3r.out, ?_, ?_⟩
      · have h1 := own_same HOW4.out (fun i hi => HFr.out.block i (HOW4.out.lt i hi).2 (fun e => by have := (HOW4.out.lt i hi).1; omega))
        exact ⟨h1.1, h1.2.imp id fun ⟨g, cap, cur, e, hb, r⟩ => ⟨g, cap, cur, e, by omega, r⟩⟩
      · have h1 := HOr.out
        rw [List.take_of_length_le (by rw [blL_len]; exact Nat.le_refl _)] at h1
        exact ⟨h1.1, h1.2.imp id fun ⟨g, cap, cur, e, hb, r⟩ => ⟨g, cap, cur, e, by omega, r⟩⟩
end Go.Proofs.Ytcgfoaihfncppaa
/- Walks of big: All and Inner, whole. -/
set_option linter.unusedSimpArgs false
set_option linter.unusedVariables false
namespace Go.Proofs.Ytcgfoaihfncppaa
open Go.RowKit Go.Sel Go.Sel.Gra Go.Sel.Bg Go.Sel.Mer Go.Shelf

def allBoxes (A : Option Addr) (n c : Nat) (t : List Int) : List Obj := [.cells #[.slice A n c] 33, .cells (iv .i64 t).toArray 36, .cells #[.slice none 0 0] 23, .cells #[.slice none 0 0] 23]
def allCap (s : Nat) : Array Value := #[.pointer (some ⟨s, 0, none⟩), .pointer (some ⟨s + 1, 0, none⟩), .pointer (some ⟨s + 1 + 1, 0, none⟩), .pointer (some ⟨s + 1 + 1 + 1, 0, none⟩)]
theorem All_att (A : Option Addr) (n c : Nat) (D : List (List Int)) (t : List Int) (ht : t.length = 8) (w : World) (hD : Bp w A n c D) (hR : Rt D t) (W : World) (hW0 : W = allocs w (allBoxes A n c t)) :
    Calls Try.prog 29 #[.func (.func 42) #[] (allCap w.heap.size)] W fun e w' => e = .returned (.int .i64 0) ∧ Below w.heap.size w w' ∧
      ∃ A2 c2 A3 c3, w'.heap[w.heap.size + 1 + 1]? = some (.cells #[.slice A2 (plL D t).length c2] 23 (0, 0)) ∧ w'.heap[w.heap.size + 1 + 1 + 1]? = some (.cells #[.slice A3 (plL D t).length c3] 23 (0, 0)) ∧ Rd w' A2 (plL D t).length c2 (iv .i64 (plL D t)) ∧ Rd w' A3 (plL D t).length c3 (iv .i64 (blL D t)) := by
  have hsz : W.heap.size = w.heap.size + 4 := by rw [hW0, allocs_size]; rfl
  have hBW : Below w.heap.size w W := hW0 ▸ allocs_below _ w
  have hat : ∀ i (h : i < (allBoxes A n c t).length), (W.alloc (.cells #[.int .i64 0] 24)).heap[w.heap.size + i]? = some (allBoxes A n c t)[i] := fun i h => by
    have h1 := allocs_at (allBoxes A n c t) w i h
    rw [← hW0] at h1
    exact blk_below h1 (below_al W _) (by rw [hsz]; simp [allBoxes] at h; omega)
  have hBV : Below w.heap.size w (W.alloc (.cells #[.int .i64 0] 24)) := hBW.alloc (by omega) _
  have g0 : (W.alloc (.cells #[.int .i64 0] 24)).heap[w.heap.size]? = _ := hat 0 (by simp [allBoxes])
  have g1 := hat 1 (by simp [allBoxes])
  have g2 := hat 2 (by simp [allBoxes])
  have g3 := hat 3 (by simp [allBoxes])
  have h5 := All1_ok A n c D t ht (W.alloc (.cells #[.int .i64 0] 24)) w.heap.size (w.heap.size + 1) (w.heap.size + 2) (w.heap.size + 3) (by rw [blk_cell g0]; rfl) g1 g2 g3 (by omega) (hD.below hBV) hR
  refine (attempt_ok 42 (allCap w.heap.size) (fun _ _ => by simp [go_sem]) W (fun x => x = w.heap.size + 2 ∨ x = w.heap.size + 3) (fun w' => ∃ A2 c2 A3 c3, w'.heap[w.heap.size + 2]? = some (.cells #[.slice A2 (plL D t).length c2] 23 (0, 0)) ∧ w'.heap[w.heap.size + 3]? = some (.cells #[.slice A3 (plL D t).length c3] 23 (0, 0)) ∧ Rd w' A2 (plL D t).length c2 (iv .i64 (plL D t)) ∧ Rd w' A3 (plL D t).length c3 (iv .i64 (blL D t))) (fun _ h => by omega) (h5.mono ?_)).mono ?_
  · rintro e w' ⟨rfl, hF, A2, c2, A3, c3, k2, k3, o2, o3⟩
    obtain ⟨A', c', e, _, r2⟩ := rd_own o2
    cases e
    obtain ⟨A', c', e, _, r3⟩ := rd_own o3
    cases e
    exact ⟨rfl, hF, _, _, _, _, k2, k3, r2, r3⟩
  · rintro e w' ⟨rfl, hF, hb⟩
    exact ⟨rfl, hBW.trans (hF.below (B := w.heap.size) hBW.size (fun _ h => by omega)), hb⟩
set_option maxRecDepth 100000 in
set_option maxHeartbeats 2000000 in
theorem All_ok (A : Option Addr) (n c : Nat) (D : List (List Int)) (t : List Int) (ht : t.length = 8) (w : World) (hD : Bp w A n c D) (hR : Rt D t) :
    Calls Try.prog 22 #[.slice A n c, bigV t] w fun e w' => (∃ A2 c2 A3 c3, e = .returned (.tuple #[.slice A2 (plL D t).length c2, .slice A3 (plL D t).length c3, .int .i64 0]) ∧ Rd w' A2 (plL D t).length c2 (iv .i64 (plL D t)) ∧ Rd w' A3 (plL D t).length c3 (iv .i64 (blL D t))) ∧ Below w.heap.size w w' := by
  have HX := Lib.hid (All_att A n c D t ht w hD hR)
  have hmf : ∀ (fn : Fn) (first cap : Array Value) (w : World), (Instr.makeFunc fn first cap).run Try.prog w = .ok (.func fn first cap) w := fun _ _ _ _ => rfl
  clear hD hR
  generalize plL D t = pl at *
  generalize blL D t = bl at *
  obtain ⟨a0, a1, a2, a3, a4, a5, a6, a7, rfl⟩ := len8 ht
  simp only [bigV, allCap, allBoxes, allocs, iv, List.map_cons, List.map_nil] at HX ⊢
  clear ht
  go_enter Try.func22, Try.ntmps22
  go_upto_region 2 with (go_at_call 29; refine (HX.out _ rfl).mono ?_; rintro e w2 ⟨rfl, hB, A2, c2, A3, c3, k2, k3, r2, r3⟩; have HB := Lib.hid hB; have K2 := Lib.hid k2; have K3 := Lib.hid k3; have R2 := Lib.hid r2; have R3 := Lib.hid r3; clear hB k2 k3 r2 r3)
  clear HX
  have HB2 : Hid (Below w.heap.size w w2.drew) := Lib.hid HB.out.drew
  have R2' : Hid (Rd w2.drew A2 pl.length c2 _) := Lib.hid (R2.out.below (Sel.below_drewN w2 1))
  have R3' : Hid (Rd w2.drew A3 pl.length c3 _) := Lib.hid (R3.out.below (Sel.below_drewN w2 1))
  have K2' : Hid (w2.drew.heap[w.heap.size + 1 + 1]? = some (.cells #[.slice A2 pl.length c2] 23 (0, 0))) := K2
  have K3' : Hid (w2.drew.heap[w.heap.size + 1 + 1 + 1]? = some (.cells #[.slice A3 pl.length c3] 23 (0, 0))) := K3
  have s0 := blk_cell K2'.out 0
  have s1 := blk_cell K3'.out 0
  simp only [List.getElem?_toArray, List.getElem?_cons_zero] at s0 s1
  have f2 := blk_free K2'.out 0
  have f3 := blk_free K3'.out 0
  have HS : At (fun w' : World => w'.cell? ⟨w.heap.size + 1 + 1, 0, none⟩ = some (.slice A2 pl.length c2) ∧ w'.cell? ⟨w.heap.size + 1 + 1 + 1, 0, none⟩ = some (.slice A3 pl.length c3)) w2.drew := ⟨s0, s1⟩
  have E2 := Lib.hid (setCell_same K2'.out)
  have E3 := Lib.hid (setCell_same K3'.out)
  clear HB R2 R3 K2 K3
  refine wp_region_lexD HS [0, 1, 2, 5] (by kernel_rfl) (by kernel_rfl) (fun _ _ d _ _ h => by cases d <;> exact h) ?_
  generalize w2.drew = W3 at *
  refine lexD_take (by kernel_rfl) (by kernel_rfl) HS (fun w9 h9 => by obtain ⟨s0, s1⟩ := h9; go_simp; first | done | rfl) (fun K hK => ?_); go_simp; refine hK _ ?_; clear hK K
  refine lexD_take (by kernel_rfl) (by kernel_rfl) HS (fun w9 h9 => by obtain ⟨s0, s1⟩ := h9; go_simp; first | done | rfl) (fun K hK => ?_); go_simp; refine hK _ ?_; clear hK K
  refine lexD_take (by kernel_rfl) (by kernel_rfl) HS (fun w9 h9 => by obtain ⟨s0, s1⟩ := h9; go_simp; first | done | rfl) (fun K hK => ?_); go_simp; refine hK _ ?_; clear hK K
  refine lexD_do (by kernel_rfl) (by kernel_rfl) (fun K hK => ?_)
  go_simp
  rw [E2.out]
  refine hK _ _ (fun _ => HS) ?_
  clear hK K
  refine lexD_do (by kernel_rfl) (by kernel_rfl) (fun K hK => ?_)
  go_simp
  rw [E3.out]
  refine hK _ _ (fun _ => HS) ?_
  clear hK K
  refine lexD_take (by kernel_rfl) (by kernel_rfl) HS (fun w9 h9 => by obtain ⟨s0, s1⟩ := h9; go_simp; first | done | rfl) (fun K hK => ?_); go_simp; refine hK _ ?_; clear hK K
  refine lexD_nil ?_
  go_wp2
  refine bodyPost_ret (v := .tuple #[.slice A2 pl.length c2, .slice A3 pl.length c3, .int .i64 0]) ?_ rfl ?_
  · simp [results, Try.results22, go_sem, s0, s1]
  · exact ⟨⟨A2, c2, A3, c3, rfl, R2'.out, R3'.out⟩, HB2.out⟩
end Go.Proofs.Ytcgfoaihfncppaa
/- Walks of big: Inner. -/
set_option linter.unusedSimpArgs false
set_option linter.unusedVariables false
namespace Go.Proofs.Ytcgfoaihfncppaa
open Go.RowKit Go.Sel Go.Sel.Gra Go.Sel.Bg Go.Sel.Mer Go.Shelf

/-- The blocks of pointers. -/
def inL (D : List (List Int)) (t : List Int) : List Int := (innD D t).map (·.1)
theorem innC_at : ∀ (l : List (Int × Int)) (j : Nat), j < l.length → (innC l)[j * 2]? = some (.int .i64 (l.getD j (0, 0)).1) ∧ (innC l)[j * 2 + 1]? = some (.int .i64 (l.getD j (0, 0)).2)
  | [], j, h => by simp at h
  | x :: l, 0, h => by simp [innC]
  | x :: l, j + 1, h => by
    have := innC_at l j (by simpa using h)
    have e1 : (j + 1) * 2 = j * 2 + 2 := by omega
    rw [e1]
    simpa [innC] using this
theorem innD_len (D : List (List Int)) (t : List Int) : (innD D t).length ≤ 34 := by
  have h1 : (innI t).length ≤ 1 := by unfold innI; split <;> simp
  have h2 := innE_len (D := D) (t := t) 32
  unfold innD
  rw [List.length_append]
  split
  · simp; omega
  · simp; omega

theorem own_base {w : World} {base base' size n : Nat} {e : TypeId} {v : Value} {xs : List Value} (h : w.ownsRow base e size v n xs) (hb : base' ≤ base) : w.ownsRow base' e size v n xs :=
  ⟨h.1, h.2.imp id fun ⟨g, cap, cur, e, h1, r⟩ => ⟨g, cap, cur, e, Nat.le_trans hb h1, r⟩⟩
set_option maxRecDepth 100000 in
set_option maxHeartbeats 4000000 in
theorem Inner1_ok (A : Option Addr) (n c : Nat) (D : List (List Int)) (t : List Int) (ht : t.length = 8) (w : World) (b0 b1 b2 : Nat) (h0 : w.cell? ⟨b0, 0, none⟩ = some (.slice A n c)) (h1 : boxB w b1 t)
    (h2 : w.heap[b2]? = some (.cells #[.slice none 0 0] 23 (0, 0))) (hD : Bp w A n c D) (hR : Rt D t) :
    Calls Try.prog 48 #[.pointer (some ⟨b0, 0, none⟩), .pointer (some ⟨b1, 0, none⟩), .pointer (some ⟨b2, 0, none⟩)] w fun e w' => e = .returned (.tuple #[]) ∧ Fr (· = b2) w w' ∧
      ∃ A2 c2, w'.heap[b2]? = some (.cells #[.slice A2 (inL D t).length c2] 23 (0, 0)) ∧ w'.ownsRow w.heap.size 3 1 (.slice A2 (inL D t).length c2) (inL D t).length (iv .i64 (inL D t)) := by
  have HL := Lib.hid (look_ok A n c D t ht w hD hR)
  have H2 := Lib.hid h2
  have l2 := (Array.getElem?_eq_some_iff.1 h2).1
  have HLN := Lib.hid (innD_len D t)
  obtain ⟨a0, a1, a2, a3, a4, a5, a6, a7, rfl⟩ := len8 ht
  obtain ⟨d0, d1, d2, d3, d4, d5, d6, d7⟩ := big8 h1
  simp only [bigV, iv, List.map_cons, List.map_nil] at HL
  generalize hT : [a0, a1, a2, a3, a4, a5, a6, a7] = T at *
  clear hD hR h1 h2
  unfold inL
  go_enter Try.func48, Try.ntmps48
  go_wp2_with (go_at_call 36; (with_reducible refine HL.out.mono ?_); rintro e w2 ⟨vb, mp, mt, vi, rfl, hV⟩; have HV := Lib.hid hV; have HB := Lib.hid hV.hB; obtain ⟨c0, c9, c10, c11, ct, cz⟩ := hV.cell ht; obtain ⟨Ai, ci, rfl, hil, hir⟩ := rd_ownN (by omega) hV.own; have HIR := Lib.hid hir; have hi1 := hir.le; have hi2 := hir.cap; clear hV c0 c9 c11 ct cz hir hil)
  have Q2 := Lib.hid (blk_below H2.out HB.out l2)
  have hgv := HV.out.gv
  have hsz2 := HB.out.size
  clear c10
  generalize hinn : innD D T = inn at *
  go_loopw [4, 12] (fun _ v wr => ∃ (j c3 : Nat) (A3 : Option Addr), j ≤ inn.length ∧ v = .int .i64 j ∧ Hid (wr.heap[b2]? = some (.cells #[.slice A3 j c3] 23 (0, 0))) ∧ Hid (wr.ownsRow w2.heap.size 3 1 (.slice A3 j c3) j (iv .i64 ((inn.map (·.1)).take j))) ∧ Hid (Fr (· = b2) w2 wr)) (fun _ v _ => inn.length - (Go.RowKit.intOf v).toNat)
  case atStart => exact ⟨0, 0, none, by omega, rfl, Q2, World.ownsRow_nil _ _ _ _, Fr.refl _ _⟩
  case round =>
    obtain ⟨j, c3, A3, hj, rfl, H3r, HOr, HFr⟩ := hrel
    by_cases hlt : j < inn.length
    · have hown := own_same HV.out.own (fun i hi => HFr.out.block i (HV.out.own.lt i hi).2 (fun e => by have := (HV.out.own.lt i hi).1; omega))
      obtain ⟨A', c', e, hil, hrr⟩ := rd_ownN (by omega) hown
      cases e
      obtain ⟨g2, o2, rfl, hg2, hc2⟩ := hrr.form (by rw [hil]; omega)
      obtain ⟨k1, k2⟩ := innC_at inn j hlt
      have m0 := hc2 (j * 2) (by rw [hil]; omega)
      have m1 := hc2 (j * 2 + 1) (by rw [hil]; omega)
      rw [List.getElem?_eq_getElem (by rw [hil]; omega)] at k1 k2
      rw [Option.some.inj k1] at m0
      rw [Option.some.inj k2] at m1
      have HBS : Hid ((inn.map (·.1)).take (j + 1) = (inn.map (·.1)).take j ++ [(inn.getD j (0, 0)).1]) := Lib.hid (map_take_succ _ _ _ j hlt)
      generalize inn.getD j (0, 0) = x at *
      obtain ⟨xb, xd⟩ := x
      simp only at m0 m1 HBS
      have e1 : o2 + (j * 2 + 1) = o2 + j * 2 + 1 := by omega
      rw [e1] at m1
      have r3 := blk_cell H3r.out 0
      simp only [List.getElem?_toArray, List.getElem?_cons_zero] at r3
      have z3 := blk_free H3r.out 0
      have hb2 := (Array.getElem?_eq_some_iff.1 H3r.out).1
      have hln := HLN.out
      clear hown hrr hc2 k1 k2 e1
      have hsr := HFr.out.size
      have hlow := own_row HOr.out
      have r3a := keep_cell r3 (below_al wr (.cells #[.int .i64 xb, .int .i64 xd] 92))
      go_wp2_with (at_builtin; refine wpList_push (wr.alloc (.cells #[.int .i64 xb, .int .i64 xd] 92)) rfl _ _ 23 3 rfl w2.heap.size (.int .i64 0) 8 Try.underlying23 infoInt8 rfl (by omega) (.slice A3 j c3) j _ (.int .i64 xb) rfl (by simp [Act.eval]) rfl (HOr.out.alloc _) (by simp; omega) (by omega) rfl ?_; intro g cap w1 ho hg hat hlt1; have hk3 : w1.heap[b2]? = _ := (hg.block b2 (by simp; omega) (fun e => by have := hlow b2 e.symm; omega)).trans (blk_below H3r.out (below_al wr _) hb2); have r5 := blk_cell hk3 0; simp only [List.getElem?_toArray, List.getElem?_cons_zero] at r5; have z5 := blk_free hk3 0; have HK3 := Lib.hid hk3; have HO5 := Lib.hid ho; have HG := Lib.hid hg; clear hk3 ho hg)
      have hHO : (w1.setCell ⟨b2, 0, none⟩ (.slice (some ⟨g, 0, none⟩) (j + 1) cap)).ownsRow w2.heap.size 3 1 (.slice (some ⟨g, 0, none⟩) (j + 1) cap) (j + 1) (iv .i64 ((inn.map (·.1)).take (j + 1))) := by
        rw [HBS.out]
        have := own_setCell HO5.out (p := ⟨b2, 0, none⟩) (by simp only; omega) (.slice (some ⟨g, 0, none⟩) (j + 1) cap)
        simpa [iv] using this
      have hHF : Fr (· = b2) w2 w1 := ⟨HG.out.os.trans HFr.out.os, HG.out.tape.trans HFr.out.tape, HG.out.output.trans HFr.out.output, Nat.le_trans (by simp; omega) HG.out.size, fun k hk hs => ((HG.out.block k (by simp; omega) (fun e => by have := hlow k e.symm; omega)).trans ((below_al wr _).block k (by omega))).trans (HFr.out.block k hk hs)⟩
      refine ⟨⟨j + 1, cap, some ⟨g, 0, none⟩, by omega, by go_num, (blk_set HK3.out 0 _).trans (by simp), hHO, Fr.setCell (S := (· = b2)) hHF (p := ⟨b2, 0, none⟩) (.inl rfl) _⟩, by simp [Go.RowKit.intOf]; omega⟩
    · obtain rfl : j = inn.length := by omega
      go_wp2
      go_end0
      have e1 : (inn.map (·.1)).length = inn.length := List.length_map _
      have h1 := HOr.out
      rw [List.take_of_length_le (by rw [e1]; exact Nat.le_refl _)] at h1
      rw [hinn, e1]
      exact ⟨rfl, (fr_of_below HB.out _).trans HFr.out, A3, c3, H3r.out, own_base h1 hsz2⟩

def innBoxes (A : Option Addr) (n c : Nat) (t : List Int) : List Obj := [.cells #[.slice A n c] 33, .cells (iv .i64 t).toArray 36, .cells #[.slice none 0 0] 23]
def innCap (s : Nat) : Array Value := #[.pointer (some ⟨s, 0, none⟩), .pointer (some ⟨s + 1, 0, none⟩), .pointer (some ⟨s + 1 + 1, 0, none⟩)]
theorem Inn_att (A : Option Addr) (n c : Nat) (D : List (List Int)) (t : List Int) (ht : t.length = 8) (w : World) (hD : Bp w A n c D) (hR : Rt D t) (W : World) (hW0 : W = allocs w (innBoxes A n c t)) :
    Calls Try.prog 29 #[.func (.func 48) #[] (innCap w.heap.size)] W fun e w' => e = .returned (.int .i64 0) ∧ Below w.heap.size w w' ∧
      ∃ A2 c2, w'.heap[w.heap.size + 1 + 1]? = some (.cells #[.slice A2 (inL D t).length c2] 23 (0, 0)) ∧ Rd w' A2 (inL D t).length c2 (iv .i64 (inL D t)) := by
  have hsz : W.heap.size = w.heap.size + 3 := by rw [hW0, allocs_size]; rfl
  have hBW : Below w.heap.size w W := hW0 ▸ allocs_below _ w
  have hat : ∀ i (h : i < (innBoxes A n c t).length), (W.alloc (.cells #[.int .i64 0] 24)).heap[w.heap.size + i]? = some (innBoxes A n c t)[i] := fun i h => by
    have h1 := allocs_at (innBoxes A n c t) w i h
    rw [← hW0] at h1
    exact blk_below h1 (below_al W _) (by rw [hsz]; simp [innBoxes] at h; omega)
  have hBV : Below w.heap.size w (W.alloc (.cells #[.int .i64 0] 24)) := hBW.alloc (by omega) _
  have g0 : (W.alloc (.cells #[.int .i64 0] 24)).heap[w.heap.size]? = _ := hat 0 (by simp [innBoxes])
  have g1 := hat 1 (by simp [innBoxes])
  have g2 := hat 2 (by simp [innBoxes])
  have h5 := Inner1_ok A n c D t ht (W.alloc (.cells #[.int .i64 0] 24)) w.heap.size (w.heap.size + 1) (w.heap.size + 2) (by rw [blk_cell g0]; rfl) g1 g2 (hD.below hBV) hR
  refine (attempt_ok 48 (innCap w.heap.size) (fun _ _ => by simp [go_sem]) W (· = w.heap.size + 2) (fun w' => ∃ A2 c2, w'.heap[w.heap.size + 2]? = some (.cells #[.slice A2 (inL D t).length c2] 23 (0, 0)) ∧ Rd w' A2 (inL D t).length c2 (iv .i64 (inL D t))) (fun _ h => by omega) (h5.mono ?_)).mono ?_
  · rintro e w' ⟨rfl, hF, A2, c2, k2, o2⟩
    obtain ⟨A', c', e, _, r2⟩ := rd_own o2
    cases e
    exact ⟨rfl, hF, _, _, k2, r2⟩
  · rintro e w' ⟨rfl, hF, hb⟩
    exact ⟨rfl, hBW.trans (hF.below (B := w.heap.size) hBW.size (fun _ h => by omega)), hb⟩
set_option maxRecDepth 100000 in
set_option maxHeartbeats 2000000 in
theorem Inner_ok (A : Option Addr) (n c : Nat) (D : List (List Int)) (t : List Int) (ht : t.length = 8) (w : World) (hD : Bp w A n c D) (hR : Rt D t) :
    Calls Try.prog 25 #[.slice A n c, bigV t] w fun e w' => (∃ A2 c2, e = .returned (.tuple #[.slice A2 (inL D t).length c2, .int .i64 0]) ∧ Rd w' A2 (inL D t).length c2 (iv .i64 (inL D t))) ∧ Below w.heap.size w w' := by
  have HX := Lib.hid (Inn_att A n c D t ht w hD hR)
  have hmf : ∀ (fn : Fn) (first cap : Array Value) (w : World), (Instr.makeFunc fn first cap).run Try.prog w = .ok (.func fn first cap) w := fun _ _ _ _ => rfl
  clear hD hR
  generalize inL D t = il at *
  obtain ⟨a0, a1, a2, a3, a4, a5, a6, a7, rfl⟩ := len8 ht
  simp only [bigV, innCap, innBoxes, allocs, iv, List.map_cons, List.map_nil] at HX ⊢
  clear ht
  go_enter Try.func25, Try.ntmps25
  go_wp2_with (go_at_call 29; refine (HX.out _ rfl).mono ?_; rintro e w2 ⟨rfl, hB, Ai, ci, hb5, hpi⟩; have HB := Lib.hid hB; have H5 := Lib.hid hb5; have HPI := Lib.hid hpi; have e5 := blk_cell hb5 0; have z5 := blk_free hb5 0; simp only [List.getElem?_toArray, List.getElem?_cons_zero] at e5; clear hB hb5 hpi)
  rw [setCell_same H5.out]
  refine bodyPost_ret (v := .tuple #[.slice Ai il.length ci, .int .i64 0]) ?_ rfl ?_
  · simp [results, Try.results25, go_sem, e5]
  · exact ⟨⟨Ai, ci, rfl, HPI.out⟩, HB.out⟩
end Go.Proofs.Ytcgfoaihfncppaa
/- Walks of big's reference: All. -/
set_option linter.unusedSimpArgs false
set_option linter.unusedVariables false
namespace Go.Sel.Bg
open Go.RowKit Go.Sel Go.Sel.Gra
/-- The places below k that have a block. -/
def plK (D : List (List Int)) (t : List Int) (k : Nat) : List Nat := (List.range k).filter fun j => decide (atK D t j ≠ 0)
theorem plK_all (D : List (List Int)) (t : List Int) : plK D t 1062 = plN D t := rfl
theorem plK_zero {D : List (List Int)} {t : List Int} {k : Nat} (h : atK D t k = 0) : plK D t (k + 1) = plK D t k := by
  simp [plK, List.range_succ, h]
theorem plK_one {D : List (List Int)} {t : List Int} {k : Nat} (h : atK D t k ≠ 0) : plK D t (k + 1) = plK D t k ++ [k] := by
  simp [plK, List.range_succ, h]
theorem plK_le (D : List (List Int)) (t : List Int) (k : Nat) : (plK D t k).length ≤ k := by
  have := List.length_filter_le (fun j => decide (atK D t j ≠ 0)) (List.range k)
  simpa [plK] using this
/-- Two rows of the call's own lie apart. -/
def ApartV (v v' : Value) : Prop := ∀ g, v.ownBlock = some g → v'.ownBlock ≠ some g
theorem ApartV.swap {v v' : Value} (h : ApartV v v') : ApartV v' v := fun g h1 h2 => h g h2 h1
theorem ApartV.kept {v v' : Value} (h : ApartV v v') : v'.ownBlock = none ∨ v'.ownBlock ≠ v.ownBlock := by
  cases e : v'.ownBlock with
  | none => exact .inl rfl
  | some g => exact .inr fun e2 => h g e2.symm e
theorem ApartV.push {W : World} {base : Nat} {T : TypeId} {size n g m cap : Nat} {v v' : Value} {xs : List Value} (h : ApartV v v') (hv : W.ownsRow base T size v' n xs) (hat : v.ownBlock = some g ∨ W.heap.size ≤ g) : ApartV (.slice (some ⟨g, 0, none⟩) m cap) v' := fun g' h1 h2 => by
  have e : g = g' := by simpa [Value.ownBlock] using h1
  subst e
  rcases hat with h3 | h3
  · exact h g h3 h2
  · have := (hv.lt g h2).2
    omega
end Go.Sel.Bg
namespace Go.Proofs.Ytcgfoaihfncppaa
open Go.RowKit Go.Sel Go.Sel.Gra Go.Sel.Bg Go.Sel.Mer Go.Shelf

set_option maxRecDepth 100000 in
set_option maxHeartbeats 4000000 in
theorem rAll_ok (A : Option Addr) (n c : Nat) (D : List (List Int)) (t : List Int) (ht : t.length = 8) (w : World) (hD : Bp w A n c D) (hR : Rt D t) :
    Calls Try.prog 71 #[.slice A n c, bigV t] w fun e w' => (∃ A2 c2 A3 c3, e = .returned (.tuple #[.slice A2 (plL D t).length c2, .slice A3 (plL D t).length c3, .int .i64 0]) ∧ Rd w' A2 (plL D t).length c2 (iv .i64 (plL D t)) ∧ Rd w' A3 (plL D t).length c3 (iv .i64 (blL D t))) ∧ Below w.heap.size w w' := by
  have HD := Lib.hid hD
  have hl1 := hD.le
  have hl2 := hD.cap
  have HRT := Lib.hid (fun W (h : Bp W A n c D) => rRight_ok A n c D t ht W h hR)
  have HAT := Lib.hid (fun k (hk : k < 1062) W (h : Bp W A n c D) => rat_ok A n c D t k hk ht W h hR)
  have hpl : plL D t = (plK D t 1062).map fun k : Nat => (k : Int) := rfl
  have hbl : blL D t = (plK D t 1062).map (atK D t) := rfl
  have hpn : (plL D t).length = (plK D t 1062).length := by rw [hpl, List.length_map]
  rw [hpn, hpl, hbl]
  obtain ⟨a0, a1, a2, a3, a4, a5, a6, a7, rfl⟩ := len8 ht
  generalize ht8 : [a0, a1, a2, a3, a4, a5, a6, a7] = t at *
  have hbv : bigV t = .agg #[.int .i64 a0, .int .i64 a1, .int .i64 a2, .int .i64 a3, .int .i64 a4, .int .i64 a5, .int .i64 a6, .int .i64 a7] := by rw [← ht8]; rfl
  rw [hbv] at HRT HAT ⊢
  clear hD hR ht ht8 hbv hpl hbl hpn
  have HX0 := Lib.hid (blk11 w (.cells #[.int .i64 a0, .int .i64 a1, .int .i64 a2, .int .i64 a3, .int .i64 a4, .int .i64 a5, .int .i64 a6, .int .i64 a7] 36))
  have HB0 := Lib.hid (below_al w (.cells #[.int .i64 a0, .int .i64 a1, .int .i64 a2, .int .i64 a3, .int .i64 a4, .int .i64 a5, .int .i64 a6, .int .i64 a7] 36))
  have hgl := (Array.getElem?_eq_some_iff.1 HX0.out).1
  go_enter Try.func71, Try.ntmps71
  go_upto_region 1 with (fail)
  obtain ⟨d0, d1, d2, d3, d4, d5, d6, d7⟩ := big8 HX0.out
  generalize w.alloc (.cells #[.int .i64 a0, .int .i64 a1, .int .i64 a2, .int .i64 a3, .int .i64 a4, .int .i64 a5, .int .i64 a6, .int .i64 a7] 36) = W1 at *
  obtain ⟨gb, HGB⟩ : ∃ gb, Hid (w.heap.size = gb) := ⟨_, rfl⟩
  rw [HGB.out] at HX0 hgl d0 d1 d2 d3 d4 d5 d6 d7 ⊢
  go_upto_region 3 with (go_at_call 70; refine (HRT.out _ (HD.out.below HB0.out)).mono ?_; rintro e w2 ⟨rfl, hB⟩; have HX2 := Lib.hid (blk_below HX0.out hB hgl); have HB2 := Lib.hid (below_then HB0.out hB); clear hB)
  clear d0 d1 d2 d3 d4 d5 d6 d7 HX0 HB0 hgl HRT
  have hgl2 := (Array.getElem?_eq_some_iff.1 HX2.out).1
  obtain ⟨W2, hW2⟩ : ∃ W2, W2 = w2 := ⟨_, rfl⟩
  subst hW2
  go_wp2
  go_loopw [7, 8, 9, 10] (fun v7 v8 v9 _ wr => ∃ (k m c7 c8 : Nat) (A7 A8 : Option Addr), k ≤ 1062 ∧ v9 = .int .i64 k ∧ v7 = .slice A7 m c7 ∧ v8 = .slice A8 m c8 ∧ Hid (m = (plK D t k).length) ∧ Hid (wr.ownsRow (gb + 1) 3 1 (.slice A7 m c7) m (iv .i64 ((plK D t k).map fun j : Nat => (j : Int)))) ∧ Hid (wr.ownsRow (gb + 1) 3 1 (.slice A8 m c8) m (iv .i64 ((plK D t k).map (atK D t)))) ∧ Hid (ApartV (.slice A7 m c7) (.slice A8 m c8)) ∧ Hid (boxB wr gb [a0, a1, a2, a3, a4, a5, a6, a7]) ∧ Hid (Below w.heap.size w wr)) (fun _ _ v _ _ => 1062 - (Go.RowKit.intOf v).toNat)
  case atStart => exact ⟨0, 0, 0, 0, none, none, by omega, rfl, rfl, rfl, rfl, World.ownsRow_nil _ _ _ _, World.ownsRow_nil _ _ _ _, fun g h => by simp [Value.ownBlock] at h, HX2, HB2⟩
  case round =>
    clear HX2 HB2
    obtain ⟨k, m, c7, c8, A7, A8, hk, rfl, rfl, rfl, HM, HO7, HO8, HNE, HX, HB⟩ := hrel
    have hglr := (Array.getElem?_eq_some_iff.1 HX.out).1
    obtain ⟨d0, d1, d2, d3, d4, d5, d6, d7⟩ := big8 HX.out
    by_cases hlt : k < 1062
    · have HC := Lib.hid (fun W h => HAT.out k hlt W h)
      have HP0 : Hid (atK D t k = 0 → plK D t (k + 1) = plK D t k) := Lib.hid plK_zero
      have HP1 : Hid (atK D t k ≠ 0 → plK D t (k + 1) = plK D t k ++ [k] ∧ (plK D t (k + 1)).map (atK D t) = (plK D t k).map (atK D t) ++ [atK D t k]) := Lib.hid fun h => ⟨plK_one h, by rw [plK_one h, List.map_append]; rfl⟩
      have hm1 : m ≤ 1062 := by have := plK_le D t k; have := HM.out; omega
      generalize atK D t k = x at *
      go_upto_region 8 with (go_at_call 74; refine (HC.out _ (HD.out.below HB.out)).mono ?_; rintro e w3 ⟨rfl, hB⟩; have HX3 := Lib.hid (blk_below HX.out hB hglr); have HB3 := Lib.hid (below_then HB.out hB); have HO73 := Lib.hid (own_below HO7.out hB (Nat.le_refl _)); have HO83 := Lib.hid (own_below HO8.out hB (Nat.le_refl _)); clear hB)
      clear d0 d1 d2 d3 d4 d5 d6 d7 HX HB HO7 HO8 HC
      by_cases hx : x = 0
      · subst hx
        have HMn : Hid (m = (plK D t (k + 1)).length) := Lib.hid (by rw [HP0.out rfl]; exact HM.out)
        rw [← HP0.out rfl] at HO73 HO83
        go_wp2
        exact ⟨⟨k + 1, m, c7, c8, A7, A8, by omega, by go_num, rfl, rfl, HMn, HO73, HO83, HNE, HX3, HB3⟩, by simp [Go.RowKit.intOf] <;> omega⟩
      · have hbx : (x != 0) = true := by simpa using hx
        have hs3 := HB3.out.size
        have hgw : gb < w3.heap.size := (Array.getElem?_eq_some_iff.1 HX3.out).1
        obtain ⟨hp1, hp2⟩ := HP1.out hx
        have HMn : Hid (m + 1 = (plK D t (k + 1)).length) := Lib.hid (by rw [hp1, List.length_append, ← HM.out]; rfl)
        have HL1 : Hid (iv .i64 ((plK D t (k + 1)).map fun j : Nat => (j : Int)) = iv .i64 ((plK D t k).map fun j : Nat => (j : Int)) ++ [.int .i64 (k : Int)]) := Lib.hid (by rw [hp1]; simp [iv])
        have HL2 : Hid (iv .i64 ((plK D t (k + 1)).map (atK D t)) = iv .i64 ((plK D t k).map (atK D t)) ++ [.int .i64 x]) := Lib.hid (by rw [hp2]; simp [iv])
        clear hp1 hp2 HP0 HP1
        go_upto_region 10 with (at_builtin; refine wpList_push w3 rfl _ _ 23 3 rfl (gb + 1) (.int .i64 0) 8 Try.underlying23 infoInt8 rfl (by omega) (.slice A7 m c7) m _ (.int .i64 (k : Int)) rfl rfl rfl HO73.out (by omega) (by omega) rfl ?_; intro g cap w4 ho hg hat hlt1; have HO74 := Lib.hid ho; have HG := Lib.hid hg; have HAT4 := Lib.hid hat; clear ho hg hat)
        have HA4 := Lib.hid (HNE.out.push (m := m + 1) (cap := cap) HO83.out HAT4.out)
        have HO84 := Lib.hid (HO83.out.kept HG.out HNE.out.kept)
        have HX4 : Hid (w4.heap[gb]? = _) := Lib.hid ((HG.out.block gb hgw (fun e => by have := own_row HO73.out gb e.symm; omega)).trans HX3.out)
        have HB4 := Lib.hid (below_grown HB3.out HG.out hs3 (fun j hj => by have := own_row HO73.out j hj; have := HGB.out; omega))
        have hs4 := HB4.out.size
        have hgw4 : gb < w4.heap.size := (Array.getElem?_eq_some_iff.1 HX4.out).1
        clear HG HAT4 HO73 HO83 HNE HX3 HB3 hs3 hgw
        go_wp2_with (at_builtin; refine wpList_push w4 rfl _ _ 23 3 rfl (gb + 1) (.int .i64 0) 8 Try.underlying23 infoInt8 rfl (by omega) (.slice A8 m c8) m _ (.int .i64 x) rfl rfl rfl HO84.out (by omega) (by omega) rfl ?_; intro g5 cap5 w5 ho hg hat hlt1; have HO85 := Lib.hid ho; have HG := Lib.hid hg; have HAT5 := Lib.hid hat; clear ho hg hat)
        have HA5 := Lib.hid (HA4.out.swap.push (m := m + 1) (cap := cap5) HO74.out HAT5.out).swap
        have HO75 := Lib.hid (HO74.out.kept HG.out HA4.out.swap.kept)
        have HX5 : Hid (w5.heap[gb]? = _) := Lib.hid ((HG.out.block gb hgw4 (fun e => by have := own_row HO84.out gb e.symm; omega)).trans HX4.out)
        have HB5 := Lib.hid (below_grown HB4.out HG.out hs4 (fun j hj => by have := own_row HO84.out j hj; have := HGB.out; omega))
        rw [← HL1.out] at HO75
        rw [← HL2.out] at HO85
        exact ⟨⟨k + 1, m + 1, cap, cap5, some ⟨g, 0, none⟩, some ⟨g5, 0, none⟩, by omega, by go_num, rfl, rfl, HMn, HO75, HO85, HA5, HX5, HB5⟩, by simp [Go.RowKit.intOf] <;> omega⟩
    · have hk2 : k = 1062 := by omega
      rw [hk2] at HO7 HO8 HM
      clear d0 d1 d2 d3 d4 d5 d6 d7
      go_wp2
      refine bodyPost_ret (v := .tuple #[.slice A7 m c7, .slice A8 m c8, .int .i64 0]) (by simp [results, Try.results71, go_sem]) rfl ?_
      obtain ⟨A2, c2, e2, _, hr2⟩ := rd_ownN (by omega) HO7.out
      obtain ⟨A3, c3, e3, _, hr3⟩ := rd_ownN (by omega) HO8.out
      cases e2
      cases e3
      have hm := HM.out
      subst hm
      exact ⟨⟨_, _, _, _, rfl, hr2, hr3⟩, HB.out⟩
end Go.Proofs.Ytcgfoaihfncppaa
