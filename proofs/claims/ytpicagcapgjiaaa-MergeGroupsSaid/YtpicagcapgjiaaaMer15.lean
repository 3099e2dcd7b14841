/- Walks of merge's reference: ref06.Groups. -/
import Derived.Test.YtpicagcapgjiaaaMer14
import Derived.Test.YtpicagcapgjiaaaMerN
import Derived.Test.YtpicagcapgjiaaaGra11
set_option linter.unusedSimpArgs false
set_option linter.unusedVariables false
namespace Go.Proofs.Ytpicagcapgjiaaa
open Go.RowKit Go.Sel Go.Sel.Gra Go.Sel.Mer Go.Shelf

/-- Rows that are built one behind another. -/
structure RowsR (B m : Nat) (R : List (List Int)) (vo : Value) (os : List Value) (w : World) : Prop where
  len : R.length = m
  own : w.ownsRow B 23 1 vo m os
  row : ∀ g, g < m → ∃ v, os[g]? = some v ∧ w.ownsRow B 3 1 v (nth R g).length (iv .i64 (nth R g))
theorem RowsR.olen {B m : Nat} {R : List (List Int)} {vo : Value} {os : List Value} {w : World} (h : RowsR B m R vo os w) : os.length = m := by simpa using h.own.1
theorem RowsR.nil (B : Nat) (w : World) : RowsR B 0 [] (.slice none 0 0) [] w := ⟨rfl, World.ownsRow_nil _ _ _ _, fun g h => by omega⟩
theorem RowsR.below {B m : Nat} {R : List (List Int)} {vo : Value} {os : List Value} {w w' : World} (h : RowsR B m R vo os w) (hB : Below w.heap.size w w') : RowsR B m R vo os w' :=
  ⟨h.len, own_below h.own hB (Nat.le_refl _), fun g hg => by obtain ⟨v, h1, h2⟩ := h.row g hg; exact ⟨v, h1, own_below h2 hB (Nat.le_refl _)⟩⟩
theorem RowsR.push {B m q : Nat} {R : List (List Int)} {vo vo' vx : Value} {os : List Value} {w w' : World} {xs : List Int} (h : RowsR B m R vo os w) (hg : w.grownBy w' vo.ownBlock) (hown : w'.ownsRow B 23 1 vo' (m + 1) (os ++ [vx]))
    (hx : w.ownsRow B 3 1 vx q (iv .i64 xs)) : RowsR B (m + 1) (R ++ [xs]) vo' (os ++ [vx]) w' := by
  have hk : ∀ (v : Value) (q : Nat) (ys : List Value), w.ownsRow B 3 1 v q ys → w'.ownsRow B 3 1 v q ys := fun v q ys hv => own_same hv fun k hk => by
    have h1 := own_typed hv k hk
    exact hg.block k (IsC.lt h1.2) (fun e => absurd (IsC.one (own_typed h.own k e.symm).2 h1.2) (by decide))
  have hol := h.olen
  have hl := h.len
  have hq : q = xs.length := by have := hx.1; simp [iv] at this; omega
  subst hq
  refine ⟨by simp [hl], hown, fun g hg' => ?_⟩
  by_cases hgm : g < m
  · obtain ⟨v, h1, h2⟩ := h.row g hgm
    have e : nth (R ++ [xs]) g = nth R g := by simp [nth, List.getD_eq_getElem?_getD, List.getElem?_append_left (show g < R.length by omega)]
    rw [e]
    exact ⟨v, by rw [List.getElem?_append_left (by omega)]; exact h1, hk _ _ _ h2⟩
  · obtain rfl : g = m := by omega
    have e : nth (R ++ [xs]) g = xs := by simp [nth, List.getD_eq_getElem?_getD, ← hl]
    rw [e]
    exact ⟨vx, by rw [List.getElem?_append_right (by omega), hol]; simp, hk _ _ _ hx⟩
theorem RowsR.dp {B m : Nat} {R : List (List Int)} {vo : Value} {os : List Value} {w : World} (h : RowsR B m R vo os w) : ∃ A c, vo = .slice A m c ∧ Dp w A m c R := by
  obtain ⟨A, c, rfl, hl, hr⟩ := rd_own h.own
  have hol := h.olen
  have hrow : ∀ j (hj : j < os.length), ∃ A' n' c', os[j] = .slice A' n' c' ∧ (nth R j).length = n' ∧ Rd w A' n' c' (iv .i64 (nth R j)) := fun j hj => by
    obtain ⟨v, hv, ho⟩ := h.row j (by omega)
    obtain ⟨A', c', rfl, hl', hr'⟩ := rd_own ho
    exact ⟨A', _, c', by rw [List.getElem?_eq_getElem hj] at hv; exact Option.some.inj hv, rfl, hr'⟩
  refine ⟨A, c, rfl, Dp.mk_ (os.map tri) h.len (by rw [List.length_map]; exact hol) ?_ fun j hj => ?_⟩
  · have e : (os.map tri).map sv = os := by
      rw [List.map_map]
      apply List.ext_getElem
      · simp
      · intro j h1 h2
        obtain ⟨A', n', c', e1, _⟩ := hrow j h2
        simp [e1, tri, sv]
    rw [e]; exact hr
  · have hj' : j < os.length := by simpa using hj
    obtain ⟨A', n', c', e1, e2, e3⟩ := hrow j hj'
    simp only [List.getElem_map, e1, tri]
    exact ⟨e2, e3⟩

set_option maxRecDepth 100000 in
set_option maxHeartbeats 8000000 in
theorem rGroups_any (A : Option Addr) (n c : Nat) (L : List It) (w : World) (hL : Ip w A n c L) :
    Calls Try.prog 28 #[.slice A n c] w fun e w' => (∃ A' c', e = .returned (.slice A' (groupsL L).length c') ∧ Dp w' A' (groupsL L).length c' (groupsL L)) ∧ Below w.heap.size w w' := by
  have HL := Lib.hid hL
  have HN := Lib.hid hL.len
  have l1 := hL.le
  have l2 := hL.cap
  clear hL
  cases hr : mrightB L with
  | false =>
    have HR := Lib.hid hr
    have HE : Hid (groupsL L = []) := by show _ = _; simp [groupsL, hr]
    rw [HE.out]
    clear hr
    go_enter Try.func28, Try.ntmps28
    go_wp2_with (go_at_call 25; (with_reducible refine (rmRight_any A n c L _ HL.out).mono ?_); rw [HR.out]; rintro e w1 ⟨rfl, hB⟩; have HB1 := Lib.hid hB; clear hB)
    go_ret
    exact ⟨⟨none, 0, rfl, Dp.nil (by omega)⟩, HB1.out⟩
  | true =>
    have HR := Lib.hid hr
    have hn64 : n ≤ 64 := by have := mright_len hr; have := HN.out; omega
    have HE : Hid (grpR (ofL L n) n = groupsL L) := by show _ = _; rw [← HN.out]; exact grp_eq hr
    have HOL : Hid ((ofL L n).length = n) := ofL_length L n
    rw [← HE.out]
    clear hr
    go_enter Try.func28, Try.ntmps28
    go_upto_region 5 with (first
      | (go_at_call 25; (with_reducible refine (rmRight_any A n c L _ HL.out).mono ?_); rw [HR.out]; rintro e w1 ⟨rfl, hB⟩; have HB1 := Lib.hid hB; have HL1 := Lib.hid (HL.out.below hB); clear hB)
      | (go_at_call 70; (with_reducible refine (of_any A n c L _ HL1.out HR.out).mono ?_); rintro e w2 ⟨⟨og, rfl, ho⟩, hB⟩; have HO := Lib.hid ho; have HB2 := Lib.hid (below_then HB1.out hB); clear ho hB))
    generalize hO : ofL L n = O at *
    have HOO := Lib.hid hO
    clear hO
    go_wp2
    go_loopw [3, 5, 6, 7] (fun v3 v5 _ _ wr => ∃ (i m : Nat) (os : List Value), i ≤ n ∧ m ≤ i ∧ v5 = .int .i64 i ∧ Hid (RowsR w2.heap.size m (grpR O i) v3 os wr) ∧ Hid (Below w2.heap.size w2 wr)) (fun _ v5 _ _ _ => n - (intOf v5).toNat)
    case atStart => exact ⟨0, 0, [], by omega, by omega, rfl, RowsR.nil _ _, Below.refl _ _⟩
    case round =>
      obtain ⟨i, m, os, hi, hmi, rfl, HS, HW⟩ := hrel
      by_cases hlt : i < n
      · have s1 := (HO.out.keep HW.out).cell (d := i) (by rw [HOL.out]; exact hlt)
        by_cases hoi : O.getD i 0 = (i : Int)
        · have HGI := Lib.hid (grpR_in hoi)
          rw [hoi] at s1
          have HST := Lib.hid (rowRk_start O i)
          clear hoi
          rw [HOL.out] at HGI
          obtain ⟨Ao, co, hvo, hdp⟩ := HS.out.dp
          subst hvo
          have o1 := hdp.le
          have o2 := hdp.cap
          clear hdp
          go_wp2
          go_loopw [6, 7] (fun v6 v7 wx => ∃ k : Nat, i ≤ k ∧ k ≤ n ∧ v7 = .int .i64 k ∧ Hid (wx.ownsRow wr.heap.size 3 1 v6 (rowRk O i k).length (iv .i64 (rowRk O i k))) ∧ Hid (Below wr.heap.size wr wx)) (fun _ v7 _ => n - (intOf v7).toNat)
          case atStart => exact ⟨i, by omega, by omega, rfl, by show World.ownsRow _ _ _ _ _ _ _; rw [HST.out]; exact World.ownsRow_nil _ _ _ _, Below.refl _ _⟩
          case round =>
            rename World => wx
            obtain ⟨k, hik, hkn, rfl, HX, HWx⟩ := hrel
            have hrl := rowRk_length O i k
            obtain ⟨Ax, cx, hvx, _, hrx⟩ := rd_own HX.out
            subst hvx
            have x1 := hrx.le
            have x2 := hrx.cap
            clear hrx
            by_cases hk : k < n
            · have s2 := (HO.out.keep (below_then HW.out HWx.out)).cell (d := k) (by rw [HOL.out]; exact hk)
              by_cases hok : O.getD k 0 = (i : Int)
              · have HRI := Lib.hid (rowRk_in hik hok)
                rw [hok] at s2
                clear hok
                go_wp2_with (at_builtin; refine wpList_push wx rfl (.tmp 38) (.tmp 40) 23 3 rfl wr.heap.size (.int .i64 0) 8 Try.underlying23 infoInt rfl (by omega) _ (rowRk O i k).length _ (.int .i64 (k : Int)) rfl rfl rfl HX.out HWx.out.size (by omega) rfl ?_; intro g cap w5 ho hg hat hlt1; have HO5 := Lib.hid ho; have HW5 := Lib.hid (below_grown HWx.out hg HWx.out.size (own_row HX.out)); clear ho hg hat)
                go_roundw
                case rel => exact ⟨k + 1, by omega, by omega, by go_num, by show World.ownsRow _ _ _ _ _ _ _; rw [HRI.out]; simpa [iv] using HO5.out, HW5⟩
                case measure => simp [intOf] <;> omega
              · have HRO := Lib.hid (rowRk_out hok)
                have hok2 : decide (O.getD k 0 = (i : Int)) = false := decide_eq_false hok
                generalize O.getD k 0 = ok at *
                go_wp2
                go_roundw
                case rel => exact ⟨k + 1, by omega, by omega, by go_num, by rw [HRO.out]; exact HX, HWx⟩
                case measure => simp [intOf] <;> omega
            · obtain rfl : k = n := by omega
              have HSx := Lib.hid (HS.out.below HWx.out)
              go_wp2_with (at_builtin; refine wpList_push wx rfl (.tmp 42) (.tmp 44) 22 23 rfl w2.heap.size (.slice none 0 0) 24 Try.underlying22 infoInts' rfl (by omega) _ m _ (.slice Ax (rowRk O i k).length cx) rfl rfl rfl HSx.out.own (below_then HW.out HWx.out).size (by omega) rfl ?_; intro g cap w5 ho hg hat hlt1; have HO5 := Lib.hid ho; have HG5 := Lib.hid hg; have HW5 := Lib.hid (below_grown (below_then HW.out HWx.out) hg (below_then HW.out HWx.out).size (own_row HSx.out.own)); clear ho hg hat)
              go_roundw
              case rel => exact ⟨i + 1, m + 1, _, by omega, by omega, by go_num, by rw [HGI.out]; exact HSx.out.push HG5.out HO5.out (own_base HX.out HW.out.size), HW5⟩
              case measure => simp [intOf] <;> omega
        · have HGO := Lib.hid (grpR_out hoi)
          have hoi2 : decide (O.getD i 0 = (i : Int)) = false := decide_eq_false hoi
          generalize O.getD i 0 = oi at *
          go_wp2
          go_roundw
          case rel => exact ⟨i + 1, m, os, by omega, by omega, by go_num, by rw [HGO.out]; exact HS, HW⟩
          case measure => simp [intOf] <;> omega
      · obtain rfl : i = n := by omega
        obtain ⟨Ao, co, hvo, hdp⟩ := HS.out.dp
        have HDP := Lib.hid hdp
        have HLN := Lib.hid HS.out.len
        subst hvo
        clear hdp
        go_wp2
        go_ret
        exact ⟨⟨Ao, co, by rw [HOO.out, HLN.out]; rfl, by rw [HOO.out, HLN.out]; exact HDP.out⟩, below_then HB2.out HW.out⟩
end Go.Proofs.Ytpicagcapgjiaaa
