/- Walks of merge: Overlaps. -/
import Derived.Test.YtpicagcapgjiaaaMo3
set_option linter.unusedSimpArgs false
set_option linter.unusedVariables false
namespace Go.Proofs.Ytpicagcapgjiaaa
open Go.RowKit Go.Sel Go.Sel.Gra Go.Sel.Mer Go.Shelf

def itemsOf (n : Nat) : Array Value := madeCells (Value.cells (.agg #[.int .i64 0, .int .i64 0, .string ⟨#[]⟩, .slice none 0 0])) (n * 4)
theorem run_make0 (n : Nat) (hn : n ≤ 64) (w : World) : (Instr.makeSlice 33 (.int .i64 0) (.int .i64 (n : Int))).run Try.prog w = .ok (.slice (some ⟨w.heap.size, 0, none⟩) 0 n) (w.alloc (.cells (itemsOf n) 44)) := by
  obtain ⟨i, hi, h1, h2, h3⟩ := info_parts infoItem
  rw [run_make (P := Try.prog) w 33 44 i _ Try.underlying33 hi h1 .i64 .i64 0 n (by omega) (by omega) (by rw [h3]; omega) (by omega)]
  simp [itemsOf, h2]
theorem own_make0 (n : Nat) (hn : n ≤ 64) (w : World) (B : Nat) (hB : B ≤ w.heap.size) : (w.alloc (.cells (itemsOf n) 44)).ownsRow B 44 4 (.slice (some ⟨w.heap.size, 0, none⟩) 0 n) 0 [] :=
  ⟨by simp, .inr ⟨w.heap.size, n, itemsOf n, rfl, hB, blk11 w _, Nat.zero_le _, by simp only [maxLen]; omega, by simp [itemsOf, madeCells], by simp⟩⟩

theorem own_far {w : World} {base size n : Nat} {e : TypeId} {v : Value} {xs : List Value} (h : w.ownsRow base e size v n xs) {p : Addr} (hp : v.ownBlock ≠ some p.block) (u : Value) : (w.setCell p u).ownsRow base e size v n xs :=
  own_same h fun k hk => blk_far rfl (fun e => hp (by rw [e]; exact hk)) u
theorem own_not {w : World} {base size n g : Nat} {e T : TypeId} {v : Value} {xs vs : List Value} (h : w.ownsRow base e size v n xs) (hb : Bk w g T vs) (hne : e ≠ T) : v.ownBlock ≠ some g := fun hk => hne (IsC.one (own_typed h g hk).2 (Bk.isC hb))

set_option maxRecDepth 100000 in
set_option maxHeartbeats 8000000 in
theorem mOverlaps_any (A : Option Addr) (n c : Nat) (L : List It) (w : World) (hL : Pp w A n c L) :
    Calls Try.prog 39 #[.slice A n c] w fun e w' => (∃ A' c', e = .returned (.slice A' (ovL L).length c') ∧ Ip w' A' (ovL L).length c' (ovL L)) ∧ Below w.heap.size w w' := by
  have HL := Lib.hid hL
  have HN := Lib.hid hL.len
  have l1 := hL.le
  have l2 := hL.cap
  clear hL
  by_cases hl : n ≤ 64
  · have d0 : decide ((64 : Int) < (n : Int)) = false := decide_eq_false (by omega)
    cases hp : L.all prightB with
    | false =>
      have HE : Hid (ovL L = []) := by show _ = _; simp [ovL, hp]
      have HC := Lib.hid (fun wx hx => ContainsFuncP_any A n c L wx hx)
      rw [hp] at HC
      clear hp
      generalize ovL L = Z at *
      have hz := HE.out
      subst hz
      go_enter Try.func39, Try.ntmps39
      go_wp2_with (go_at_call 77; (with_reducible refine (HC.out _ HL.out).mono ?_); rintro e w1 ⟨rfl, hB⟩; have HB := Lib.hid hB; clear hB)
      go_ret
      exact ⟨⟨none, 0, rfl, Ip.nil (by omega)⟩, HB.out⟩
    | true =>
      have HE : Hid (ovL L = (List.range n).map (ovI L)) := by show _ = _; rw [ovL, if_pos ⟨by rw [HN.out]; exact hl, hp⟩, HN.out]
      have HC := Lib.hid (fun wx hx => ContainsFuncP_any A n c L wx hx)
      rw [hp] at HC
      clear hp
      have hmk := fun w => run_make0 n hl w
      go_enter Try.func39, Try.ntmps39
      go_wp2_with (go_at_call 77; (with_reducible refine (HC.out _ HL.out).mono ?_); rintro e w1 ⟨rfl, hB⟩; have HB := Lib.hid hB; clear hB)
      have HO0 : Hid (OvS w.heap.size (w1.alloc (.cells (itemsOf n) 44)) (.slice (some ⟨w1.heap.size, 0, none⟩) 0 n) 0 L []) := ⟨by simpa [itvs] using own_make0 n hl w1 w.heap.size HB.out.size, rfl, fun j hj => by simp at hj⟩
      have HB0 : Hid (Below w.heap.size w (w1.alloc (.cells (itemsOf n) 44))) := HB.out.alloc HB.out.size _
      clear HC HB
      go_loopw [3, 21] (fun v i wr => ∃ k : Nat, k ≤ n ∧ i = .int .i64 k ∧ Hid (∃ ss, OvS w.heap.size wr v k L ss) ∧ Hid (Below w.heap.size w wr)) (fun _ i _ => n - (intOf i).toNat)
      case atStart => exact ⟨0, by omega, rfl, ⟨[], HO0.out⟩, HB0⟩
      case round =>
        clear HO0 HB0
        obtain ⟨k, hk, rfl, HO, HB⟩ := hrel
        by_cases hlt : k < n
        · obtain ⟨b, off, rfl, hb, c0, c1, c2⟩ := (HL.out.below HB.out).at_ hlt
          have hst : (n : Int) ≤ 64 := by omega
          obtain ⟨ss, hov⟩ := HO.out
          have hsl := hov.slen
          have HOV := Lib.hid hov
          clear hov HO
          have HIT : Hid (∀ q, itv (ovI L k) q = [.int .i64 (nthI L k).b, .int .i64 (nthI L k).o, .string (nthI L k).s, sv q]) := fun q => rfl
          have HKS : Hid (∀ q, ovK L k (q + 1) = if ovB (nthI L k) (nthI L q) = true then ovK L k q ++ [(q : Int)] else ovK L k q) := fun q => ovK_succ L k q
          have HKL : Hid (∀ q, (ovK L k q).length ≤ q) := fun q => ovK_length L k q
          have HK0 : Hid (ovK L k 0 = []) := rfl
          have HOA : Hid (∀ y wx, Calls Try.prog 79 #[.agg #[.int .i64 (nthI L k).b, .int .i64 (nthI L k).o, .string (nthI L k).s], .agg #[.int .i64 y.b, .int .i64 y.o, .string y.s]] wx fun e w' => e = .returned (.bool (ovB (nthI L k) y)) ∧ Below wx.heap.size wx w') := fun y wx => Overlap_any (nthI L k) y wx
          generalize nthI L k = x at *
          go_upto_block 2 with (fail)
          have HP0 : Hid (Bk ((wr.alloc (.cells #[.int .i64 x.b, .int .i64 x.o, .string x.s] 42)).alloc (.cells #[.int .i64 x.b, .int .i64 x.o, .string x.s, .slice none 0 0] 44)) wr.heap.size 42 [.int .i64 x.b, .int .i64 x.o, .string x.s]) := blk21 wr _ _
          have HX0 : Hid (Bk ((wr.alloc (.cells #[.int .i64 x.b, .int .i64 x.o, .string x.s] 42)).alloc (.cells #[.int .i64 x.b, .int .i64 x.o, .string x.s, .slice none 0 0] 44)) (wr.heap.size + 1) 44 [.int .i64 x.b, .int .i64 x.o, .string x.s, .slice none 0 0]) := blk22 wr _ _
          have HW0 : Hid (Below wr.heap.size wr ((wr.alloc (.cells #[.int .i64 x.b, .int .i64 x.o, .string x.s] 42)).alloc (.cells #[.int .i64 x.b, .int .i64 x.o, .string x.s, .slice none 0 0] 44))) := ((Below.refl _ _).alloc (Nat.le_refl _) _).alloc (by simp) _
          clear c0 c1 c2
          generalize (wr.alloc (.cells #[.int .i64 x.b, .int .i64 x.o, .string x.s] 42)).alloc (.cells #[.int .i64 x.b, .int .i64 x.o, .string x.s, .slice none 0 0] 44) = wb at *
          go_wp2
          go_loopw [32] (fun v wx => ∃ q : Nat, q ≤ k ∧ v = .int .i64 q ∧ Hid (∃ dv, Bk wx (wr.heap.size + 1) 44 [.int .i64 x.b, .int .i64 x.o, .string x.s, dv] ∧ wx.ownsRow wr.heap.size 3 1 dv (ovK L k q).length (iv .i64 (ovK L k q))) ∧ Hid (Bk wx wr.heap.size 42 [.int .i64 x.b, .int .i64 x.o, .string x.s]) ∧ Hid (Below wr.heap.size wr wx)) (fun v _ => k - (intOf v).toNat)
          case atStart => exact ⟨0, by omega, rfl, ⟨.slice none 0 0, HX0.out, by rw [HK0.out]; exact World.ownsRow_nil _ _ _ _⟩, HP0, HW0⟩
          case round =>
            rename World => wx
            clear HP0 HX0 HW0
            obtain ⟨q, hq, rfl, HD, HP, HW⟩ := hrel
            have HBX := Lib.hid (below_then HB.out HW.out)
            by_cases hqk : q < k
            · obtain ⟨b', off', e, hb', c0, c1, c2⟩ := (HL.out.below HBX.out).at_ (show q < n by omega)
              injection e with e; injection e with e1 e2; subst e1 e2
              have HKQ := Lib.hid (HKS.out q)
              have hkl := HKL.out q
              have HOQ := Lib.hid (fun wx => HOA.out (nthI L q) wx)
              generalize nthI L q = y at *
              obtain ⟨dv, hdx, hdo⟩ := HD.out
              have p0 := HP.out.cell 0 (by simp)
              have p1 := HP.out.cell 1 (by simp)
              have p2 := HP.out.cell 2 (by simp)
              have x3 := hdx.cell 3 (by simp)
              simp only [List.getElem_cons_zero, List.getElem_cons_succ] at p0 p1 p2 x3
              have HDX := Lib.hid hdx
              have HDO := Lib.hid hdo
              have hz1 := HP.out.lt
              have hz2 := hdx.lt
              clear hdx hdo HD
              cases ho : ovB x y with
              | false =>
                have HKN : Hid (ovK L k (q + 1) = ovK L k q) := by show _ = _; rw [HKQ.out, ho]; simp
                rw [ho] at HOQ
                clear ho HKQ
                go_wp2_with (go_at_call 79; (with_reducible refine (HOQ.out _).mono ?_); rintro e w2 ⟨rfl, hB⟩; have HB2 := Lib.hid ((below_al wx (.cells #[.int .i64 y.b, .int .i64 y.o, .string y.s] 42)).trans (hB.mono (by simp))); clear hB)
                go_roundw
                case rel => exact ⟨q + 1, by omega, by go_num, ⟨dv, HDX.out.keep HB2.out, by rw [HKN.out]; exact own_below HDO.out HB2.out (Nat.le_refl _)⟩, HP.out.keep HB2.out, below_then HW.out HB2.out⟩
                case measure => simp [intOf] <;> omega
              | true =>
                have HKN : Hid (ovK L k (q + 1) = ovK L k q ++ [(q : Int)]) := by show _ = _; rw [HKQ.out, ho]; simp
                rw [ho] at HOQ
                clear ho HKQ
                go_wp2_with (first
                  | (go_at_call 79; (with_reducible refine (HOQ.out _).mono ?_); rintro e w2 ⟨rfl, hB⟩; have hB2 := (below_al wx (.cells #[.int .i64 y.b, .int .i64 y.o, .string y.s] 42)).trans (hB.mono (by simp)); have x3 := keep_cell x3 hB2; have HDX2 := Lib.hid (HDX.out.keep hB2); have HDO2 := Lib.hid (own_below HDO.out hB2 (Nat.le_refl _)); have HP2 := Lib.hid (HP.out.keep hB2); have HW2 := Lib.hid (below_then HW.out hB2); have HBX2 := Lib.hid (below_then HBX.out hB2); clear hB hB2)
                  | (at_builtin; refine wpList_push w2 rfl (.tmp 41) (.tmp 43) 23 3 rfl wr.heap.size (.int .i64 0) 8 Try.underlying23 infoInt rfl (by omega) _ _ _ (.int .i64 q) rfl rfl rfl HDO2.out HW2.out.size (by omega) rfl ?_; intro g cap w3 ho hg hat hlt1; have HDX3 := Lib.hid (bk_grown HDX2.out hg (own_not HDO2.out HDX2.out (by decide))); have HP3 := Lib.hid (bk_grown HP2.out hg (own_not HDO2.out HP2.out (by decide))); have x3 := HDX3.out.cell 3 (by simp); simp only [List.getElem_cons_zero, List.getElem_cons_succ] at x3; have f3 := HDX3.out.free 3; have HO3 := Lib.hid ho; have HG3 := Lib.hid hg; have HAT := Lib.hid hat; clear ho hg hat))
                have HDX4 : Hid (Bk (w3.setCell ⟨wr.heap.size + 1, 3, none⟩ (.slice (some ⟨g, 0, none⟩) ((ovK L k q).length + 1) cap)) (wr.heap.size + 1) 44 [.int .i64 x.b, .int .i64 x.o, .string x.s, .slice (some ⟨g, 0, none⟩) ((ovK L k q).length + 1) cap]) := HDX3.out.set 3 _
                have HP4 : Hid (Bk (w3.setCell ⟨wr.heap.size + 1, 3, none⟩ (.slice (some ⟨g, 0, none⟩) ((ovK L k q).length + 1) cap)) wr.heap.size 42 [.int .i64 x.b, .int .i64 x.o, .string x.s]) := HP3.out.far (by simp) _
                have HO4 : Hid ((w3.setCell ⟨wr.heap.size + 1, 3, none⟩ (.slice (some ⟨g, 0, none⟩) ((ovK L k q).length + 1) cap)).ownsRow wr.heap.size 3 1 (.slice (some ⟨g, 0, none⟩) ((ovK L k q).length + 1) cap) ((ovK L k q).length + 1) (iv .i64 (ovK L k q) ++ [.int .i64 q])) := own_far HO3.out (own_not HO3.out HDX3.out (by decide)) _
                have HW4 : Hid (Below wr.heap.size wr (w3.setCell ⟨wr.heap.size + 1, 3, none⟩ (.slice (some ⟨g, 0, none⟩) ((ovK L k q).length + 1) cap))) := (below_grown HW2.out HG3.out HW2.out.size (own_row HDO2.out)).setCell (by simp) _
                have HLN : Hid ((ovK L k (q + 1)).length = (ovK L k q).length + 1) := by show _ = _; rw [HKN.out]; simp
                clear HDX2 HDO2 HP2 HW2 HBX2 HDX3 HP3 HO3 HG3 HAT x3 f3 p0 p1 p2 c0 c1 c2
                generalize w3.setCell ⟨wr.heap.size + 1, 3, none⟩ (.slice (some ⟨g, 0, none⟩) ((ovK L k q).length + 1) cap) = wn at *
                go_wp2
                go_roundw
                case rel => exact ⟨q + 1, by omega, by go_num, ⟨_, HDX4.out, by rw [HLN.out, HKN.out]; simpa [iv] using HO4.out⟩, HP4, HW4⟩
                case measure => simp [intOf] <;> omega
            · obtain rfl : q = k := by omega
              obtain ⟨dv, hdx, hdo⟩ := HD.out
              obtain ⟨Ad, cd, rfl, _, hrd⟩ := rd_own hdo
              have x0 := hdx.cell 0 (by simp)
              have x1 := hdx.cell 1 (by simp)
              have x2 := hdx.cell 2 (by simp)
              have x3 := hdx.cell 3 (by simp)
              simp only [List.getElem_cons_zero, List.getElem_cons_succ] at x0 x1 x2 x3
              have hz2 := hdx.lt
              have HDO := Lib.hid (own_base hdo HB.out.size)
              have HOX := Lib.hid (HOV.out.below HW.out)
              clear hdx hdo hrd HD HP
              go_wp2_with (at_builtin; refine wpList_pushN wx rfl (.tmp 47) (.tmp 49) 33 44 rfl w.heap.size (.agg #[.int .i64 0, .int .i64 0, .string ⟨#[]⟩, .slice none 0 0]) 4 56 Try.underlying33 infoItem rfl (by omega) (by omega) _ q _ [.int .i64 x.b, .int .i64 x.o, .string x.s, .slice Ad (ovK L q q).length cd] rfl rfl rfl (by simp [Value.oneCell']) HOX.out.own HBX.out.size (by omega) rfl ?_; intro g cap w3 ho hg hat hlt1; have HO3 := Lib.hid (HOX.out.push (Ad, (ovK L q q).length, cd) HDO.out (by rw [HIT.out]; exact ho) hg); have HB3 := Lib.hid (below_grown HBX.out hg HBX.out.size (own_row HOX.out.own)); clear ho hg hat)
              go_roundw
              case rel => exact ⟨q + 1, by omega, by go_num, ⟨_, HO3.out⟩, HB3⟩
              case measure => simp [intOf] <;> omega
        · obtain rfl : k = n := by omega
          obtain ⟨ss, hov⟩ := HO.out
          have HOV := Lib.hid hov
          clear hov HO
          go_wp2
          go_ret
          obtain ⟨A', c', rfl, hip⟩ := HOV.out.ip
          rw [HE.out]
          exact ⟨⟨A', c', by simp, by simpa using hip⟩, HB.out⟩
  · have d0 : decide ((64 : Int) < (n : Int)) = true := decide_eq_true (by omega)
    have HE : Hid (ovL L = []) := by show _ = _; rw [ovL, if_neg (by rw [HN.out]; intro h; exact hl h.1)]
    generalize ovL L = Z at *
    have hz := HE.out
    subst hz
    go_enter Try.func39, Try.ntmps39
    go_wp2
    go_ret
    exact ⟨⟨none, 0, rfl, Ip.nil (by omega)⟩, Below.refl _ _⟩
end Go.Proofs.Ytpicagcapgjiaaa
