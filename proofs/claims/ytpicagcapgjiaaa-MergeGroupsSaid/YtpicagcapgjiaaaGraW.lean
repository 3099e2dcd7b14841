/- Walks of graph's reference: Ups. -/
import Derived.Test.YtpicagcapgjiaaaGraU
set_option linter.unusedSimpArgs false
set_option linter.unusedVariables false
namespace Go.Proofs.Ytpicagcapgjiaaa
open Go.RowKit Go.Sel Go.Sel.Gra Go.Shelf

attribute [local go_sem] Oper.semAt_some

theorem own_typ {w : World} {base n : Nat} {e : TypeId} {v : Value} {xs : List Value} (h : w.ownsRow base e 1 v n xs) : ∀ r, v.ownBlock = some r → ∃ cur, w.heap[r]? = some (.cells cur e (0, 0)) := fun r hr => by
  rcases h.2 with ⟨hv, _⟩ | ⟨g, cap, cur, hv, _, hgb, _⟩
  · rw [hv] at hr; cases hr
  · rw [hv] at hr
    have : g = r := by simpa [Value.ownBlock] using hr
    subst this
    exact ⟨cur, hgb⟩
theorem infoBools : (Try.prog.info? 87).map (fun i => (i.zero, i.size, i.bytes)) = some (some (.slice none 0 0), 1, 24) := by kernel_rfl

theorem bool_not_int {w : World} {g : Nat} {ms : List Bool} (h : Bk w g 4 (bv ms)) (o : Nat) (k : IntKind) (x : Int) : w.cell? ⟨g, o, none⟩ ≠ some (.int k x) := fun e => by
  rw [blk_cell h o] at e
  simp only [List.getElem?_toArray, bv, List.getElem?_map] at e
  cases ho : ms[o]? with
  | none => rw [ho] at e; cases e
  | some b => rw [ho] at e; cases e
/-- A row of numbers stays where marks are turned. -/
theorem rd_marked {w : World} {A : Option Addr} {n c g : Nat} {xs : List Int} {ms : List Bool} (h : Rd w A n c (iv .i64 xs)) (hb : Bk w g 4 (bv ms)) (j : Nat) (v : Value) : Rd (w.setCell ⟨g, j, none⟩ v) A n c (iv .i64 xs) := by
  refine ⟨h.le, h.cap, ?_⟩
  rcases h.at_ with h0 | ⟨b, off, e, hc⟩
  · exact .inl h0
  · by_cases hx : xs = []
    · subst hx; exact .inl rfl
    · refine .inr ⟨b, off, e, fun i hi => ?_⟩
      have hci := hc i hi
      have hne : g ≠ b := fun e => by
        subst e
        rw [iv_at] at hci
        exact bool_not_int hb _ _ _ hci
      rw [World.cell?_setCell_other _ _ _ _ (by simp [hne])]
      exact hci
/-- The marks of a list but for k. -/
def upF (l : List Int) (k n t : Nat) : List Bool := marksL ((l.take t).filter fun d => d != (k : Int)) n
theorem upF_succ {l : List Int} {k n t : Nat} (h : t < l.length) (h0 : 0 ≤ l[t]) (h1 : l[t] < (n : Int)) : upF l k n (t + 1) = (upF l k n t).set l[t].toNat (l[t] != (k : Int)) := by
  refine bits_ext (by simp [upF]) (fun j hj => ?_)
  have hl : (upF l k n t).length = n := by simp [upF]
  have hjn : j < n := by simpa [upF] using hj
  rw [bit_set (by omega)]
  obtain ⟨d, hd⟩ := Int.eq_ofNat_of_zero_le h0
  rw [Bool.eq_iff_iff, upF, bit_marksL, List.take_succ_eq_append_getElem h, List.filter_append, List.mem_append]
  by_cases e : l[t].toNat = j
  · rw [if_pos e]
    have : l[t] = (j : Int) := by omega
    constructor
    · rintro ⟨_, h | h⟩
      · rw [this]; exact (List.mem_filter.1 h).2
      · rw [this]; exact (List.mem_filter.1 h).2
    · intro hk
      exact ⟨hjn, .inr (List.mem_filter.2 ⟨by rw [this]; simp, by rw [← this]; exact hk⟩)⟩
  · rw [if_neg e, upF, bit_marksL]
    constructor
    · rintro ⟨_, h | h⟩
      · exact ⟨hjn, h⟩
      · have := List.mem_singleton.1 (List.mem_filter.1 h).1
        omega
    · rintro ⟨_, h⟩
      exact ⟨hjn, .inl h⟩
theorem upF_zero (l : List Int) (k n : Nat) : upF l k n 0 = falses n := by simp [upF, marksL_nil, falses]
theorem upF_end {D : List (List Int)} (hr : rightD D = true) {k t : Nat} (hk : k < D.length) (ht : (closeL D [(k : Int)]).length ≤ t) : upF (closeL D [(k : Int)]) k D.length t = aheadL D k := by
  refine bits_ext (by simp [upF, aheadL]) (fun j hj => ?_)
  rw [Bool.eq_iff_iff, upF, bit_marksL, List.take_of_length_le ht, bit_aheadL hr, List.mem_filter, mem_closeL hr]
  constructor
  · rintro ⟨hjn, (⟨_, h⟩ | ⟨i, hi, h, hA⟩), hne⟩
    · have : (j : Int) = k := List.mem_singleton.1 h
      simp [this] at hne
    · have : (i : Int) = k := List.mem_singleton.1 h
      have : i = k := by omega
      subst this; exact hA
  · intro hA
    have := hA.lt hr
    exact ⟨by omega, .inr ⟨k, hk, by simp, hA⟩, by simp; omega⟩

set_option maxRecDepth 100000 in
set_option maxHeartbeats 8000000 in
theorem rUps_any (A : Option Addr) (n c : Nat) (D : List (List Int)) (w : World) (hD : Dp w A n c D) (hr : rightD D = true) :
    Calls Try.prog 102 #[.slice A n c] w fun e w' => (∃ A' c' vs, e = .returned (.slice A' n c') ∧ List.length vs = n ∧ Rd w' A' n c' vs ∧ ∀ j, j < n → ∃ u, vs[j]? = some (.slice (some ⟨u, 0, none⟩) n n) ∧ Bk w' u 4 (bv (aheadL D j))) ∧ Below w.heap.size w w' := by
  have hl := hD.len
  have l1 := hD.le
  have l2 := hD.cap
  have h256 := (right_iff.1 hr).1
  have hn : n ≤ 1000 := by omega
  have HD := Lib.hid hD
  have HL := Lib.hid hl
  have HR := Lib.hid hr
  have hmk := mkB n hn
  clear hD hl hr h256
  go_enter Try.func102, Try.ntmps102
  go_wp2
  go_loopw [3, 4, 5, 6, 7] (fun v i _ _ _ wr => ∃ k : Nat, k ≤ n ∧ i = .int .i64 k ∧ Hid (∃ vs, wr.ownsRow w.heap.size 87 1 v k vs ∧ ∀ j, j < k → ∃ u, vs[j]? = some (.slice (some ⟨u, 0, none⟩) n n) ∧ Bk wr u 4 (bv (aheadL D j))) ∧ Hid (Below w.heap.size w wr)) (fun _ i _ _ _ _ => n - (intOf i).toNat)
  case atStart => exact ⟨0, by omega, by go_num, ⟨[], World.ownsRow_nil _ _ _ _, fun j h => by omega⟩, Below.refl _ _⟩
  case round =>
    rename World => w1
    obtain ⟨k, hk, rfl, HO, HW⟩ := hrel
    by_cases hlt : k < n
    · obtain ⟨vs, ho, hrows⟩ := HO.out
      have HOW := Lib.hid ho
      have HRW := Lib.hid hrows
      clear HO ho hrows
      have HG : Hid (Bk (w1.alloc (.cells (bv (falses n)).toArray 4)) w1.heap.size 4 (bv (upF (closeL D [(k : Int)]) k n 0))) := by
        show Bk _ _ _ _
        rw [upF_zero]; exact Bk.new _ _ _
      have HA1 : Hid (Below w1.heap.size w1 (w1.alloc (.cells (bv (falses n)).toArray 4))) := below_al _ _
      have hs2 : (w1.alloc (.cells (bv (falses n)).toArray 4)).heap.size = w1.heap.size + 1 := by simp
      go_upto_region 6 with (fail)
      generalize w1.alloc (.cells (bv (falses n)).toArray 4) = w2 at *
      have hR2 : Rd (w2.alloc (.cells #[.int .i64 (k : Int)] 3)) (some ⟨w2.heap.size, 0, none⟩) 1 1 (iv .i64 [(k : Int)]) := (Bk.new w2 3 [.int .i64 (k : Int)]).rd 1 1 (by omega) (by omega)
      rw [hs2] at hR2
      have HR2 := Lib.hid hR2
      have HD2 := Lib.hid (((HD.out.below HW.out).below HA1.out).below (below_al w2 (.cells #[.int .i64 (k : Int)] 3)))
      have HG2 := Lib.hid (HG.out.keep (below_al w2 (.cells #[.int .i64 (k : Int)] 3)))
      clear hR2
      go_upto_block 2 with (go_at_call 119; (with_reducible refine (rClose_any _ _ _ D _ _ _ [(k : Int)] _ HD2.out HR2.out rfl).mono ?_); rintro e w5 ⟨⟨A5, c5, rfl, hr⟩, hB⟩; have HR5 := Lib.hid hr; have HB5 := Lib.hid (below_then HA1.out (below_then (below_al w2 _) hB)); have HG5 := Lib.hid (HG2.out.keep hB); clear hB hr)
      clear HG HG2 HA1 HD2 HR2
      have hcl := HR5.out.le
      have hcc := HR5.out.cap
      have HMEM : Hid (∀ x ∈ closeL D [(k : Int)], 0 ≤ x ∧ x < (n : Int)) := fun x hx => by
        obtain ⟨_, j, rfl, hj⟩ := closeL_mem hx
        have := HL.out; omega
      have HEND : Hid (upF (closeL D [(k : Int)]) k n (closeL D [(k : Int)]).length = aheadL D k) := by
        have h := upF_end HR.out (k := k) (t := (closeL D [(k : Int)]).length) (by have := HL.out; omega) (Nat.le_refl _)
        rw [HL.out] at h; exact h
      generalize closeL D [(k : Int)] = l at *
      have HLL : Hid (l.length = l.length) := rfl
      go_wp2_with (fail)
      go_loopw [7] (fun i wr => ∃ j : Nat, j ≤ l.length ∧ i = .int .i64 j ∧ Hid (Bk wr w1.heap.size 4 (bv (upF l k n j))) ∧ Hid (Below w1.heap.size w1 wr) ∧ Hid (Rd wr A5 l.length c5 (iv .i64 l))) (fun i _ => l.length - (intOf i).toNat)
      case atStart => exact ⟨0, by omega, by go_num, HG5, HB5, HR5⟩
      clear HG5 HB5 HR5
      case round =>
        obtain ⟨j, hj, rfl, HG5, HB5, HR5⟩ := hrel
        by_cases hjl : j < l.length
        · obtain ⟨b, off, rfl, hblt, hc⟩ := HR5.out.form (by simp; omega)
          have hck := hc j (by simpa using hjl)
          rw [iv_at] at hck
          clear hc
          have hx := HMEM.out _ (List.getElem_mem hjl)
          have HST := Lib.hid (upF_succ (k := k) (n := n) hjl hx.1 hx.2)
          generalize l[j] = x at *
          obtain ⟨x0, x1⟩ := hx
          obtain ⟨xn, rfl⟩ := Int.eq_ofNat_of_zero_le x0
          have hxn : xn < n := by omega
          have hcx := HG5.out.cell xn (by simp [upF]; exact hxn)
          have hfx := HG5.out.free xn
          have HG6 : Hid (Bk (wr.setCell ⟨w1.heap.size, xn, none⟩ (.bool ((xn : Int) != (k : Int)))).drew w1.heap.size 4 (bv (upF l k n (j + 1)))) := by
            show Bk _ _ _ _
            have h := HG5.out.set xn (.bool ((xn : Int) != (k : Int)))
            rw [bv_set] at h
            rw [HST.out, Int.toNat_natCast]; exact h
          have HB6 : Hid (Below w1.heap.size w1 (wr.setCell ⟨w1.heap.size, xn, none⟩ (.bool ((xn : Int) != (k : Int)))).drew) := (HB5.out.setCell (Nat.le_refl _) _).trans ⟨rfl, rfl, rfl, Nat.le_refl _, fun _ _ => rfl⟩
          have hne : ¬ b = w1.heap.size := fun e => by
            subst e
            exact bool_not_int HG5.out _ _ _ hck
          have HR6 : Hid (Rd (wr.setCell ⟨w1.heap.size, xn, none⟩ (.bool ((xn : Int) != (k : Int)))).drew (some ⟨b, off, none⟩) l.length c5 (iv .i64 l)) := (rd_marked HR5.out HG5.out xn _).below ⟨rfl, rfl, rfl, Nat.le_refl _, fun _ _ => rfl⟩
          go_wp2_with (fail)
          go_region
          go_wp2_with (fail)
          go_roundw
          case rel => exact ⟨j + 1, by omega, by go_num, HG6, HB6, HR6⟩
          case measure => simp [intOf]; omega
        · obtain rfl : j = l.length := by omega
          have HGE : Hid (Bk wr w1.heap.size 4 (bv (aheadL D k))) := by
            show Bk _ _ _ _
            rw [← HEND.out]; exact HG5.out
          have hwr := HB5.out.size
          have HO5 : Hid (wr.ownsRow w.heap.size 87 1 u3 k vs) := own_same HOW.out (fun r hr => HB5.out.block r (HOW.out.lt r hr).2)
          have HR7 : Hid (∀ j, j < k → ∃ u, vs[j]? = some (.slice (some ⟨u, 0, none⟩) n n) ∧ Bk wr u 4 (bv (aheadL D j))) := fun j hj => by
            obtain ⟨u, h1, h2⟩ := HRW.out j hj
            exact ⟨u, h1, h2.keep HB5.out⟩
          have HW7 : Hid (Below w.heap.size w wr) := HW.out.trans (HB5.out.mono HW.out.size)
          have hvl : vs.length = k := by simpa using HOW.out.1
          have HVL := Lib.hid hvl
          clear hvl
          go_wp2_with (at_builtin; refine wpList_push wr rfl (.tmp 39) (.tmp 41) 124 87 rfl w.heap.size (.slice none 0 0) 24 Try.underlying124 infoBools rfl (by omega) _ k _ (.slice (some ⟨w1.heap.size, 0, none⟩) n n) rfl rfl rfl HO5.out HW7.out.size (by omega) rfl ?_; intro g cap w6 ho hg hat hlt1; have HO6 := Lib.hid ho; have HG6 := Lib.hid hg; have HW6 := Lib.hid (below_grown HW7.out hg HW7.out.size (own_row HO5.out)); clear ho hg hat)
          have far : ∀ (u : Nat) (ms : List Bool), Bk wr u 4 (bv ms) → Bk w6 u 4 (bv ms) := fun u ms h => by
            refine (HG6.out.block u h.lt (fun e => ?_)).trans h
            obtain ⟨cur, hcur⟩ := own_typ HO5.out u e.symm
            have h' : wr.heap[u]? = some (.cells (bv ms).toArray 4 (0, 0)) := h
            rw [h'] at hcur; cases hcur
          go_roundw
          case rel =>
            refine ⟨k + 1, by omega, by go_num, ⟨_, HO6.out, fun j hj => ?_⟩, HW6⟩
            by_cases e : j = k
            · subst e
              exact ⟨w1.heap.size, by rw [List.getElem?_append_right (by have := HVL.out; omega)]; simp [HVL.out], far _ _ HGE.out⟩
            · obtain ⟨u, h1, h2⟩ := HR7.out j (by omega)
              exact ⟨u, by rw [List.getElem?_append_left (by have := HVL.out; omega)]; exact h1, far _ _ h2⟩
          case measure => simp [intOf]; omega
    · obtain rfl : k = n := by omega
      obtain ⟨vs, ho, hrows⟩ := HO.out
      have HOW := Lib.hid ho
      have HRW := Lib.hid hrows
      clear HO ho hrows
      go_wp2_with (fail)
      go_ret
      obtain ⟨A6, c6, rfl, hl6, hr6⟩ := rd_own HOW.out
      exact ⟨⟨A6, c6, vs, rfl, hl6, hr6, HRW.out⟩, HW.out⟩
end Go.Proofs.Ytpicagcapgjiaaa
