/- Walks of the reference's groups: with, at, State, Patches, New. -/
import Derived.Test.YtbflmgpcjfoifaaGp1
import Derived.Test.YtbflmgpcjfoifaaMb1
set_option linter.unusedSimpArgs false
set_option linter.unusedVariables false
namespace Go.Proofs.Ytbflmgpcjfoifaa
open Go.RowKit Go.Sel Go.Sel.Gp

theorem infoI : (Try.prog.info? 3).map (fun i => (i.zero, i.size, i.bytes)) = some (some (.int .i64 0), 1, 8) := by kernel_rfl

/-! ### with -/
def wst (n : Int) (s : List Int × Bool) (x : Int) : List Int × Bool :=
  let s1 := if s.2 = false ∧ n ≤ x then (s.1 ++ [n], true) else s
  if x ≠ n then (s1.1 ++ [x], s1.2) else s1
def wk (n : Int) (xs : List Int) (k : Nat) : List Int × Bool := (xs.take k).foldl (wst n) ([], false)
theorem wk_succ {n : Int} {xs : List Int} {k : Nat} (h : k < xs.length) : wk n xs (k + 1) = wst n (wk n xs k) xs[k] := by
  rw [wk, List.take_succ_eq_append_getElem h, List.foldl_append]; rfl
theorem wfold_t (n : Int) : ∀ (xs out : List Int), xs.foldl (wst n) (out, true) = (out ++ xs.filter (fun y => y != n), true)
  | [], out => by simp
  | x :: l, out => by
    rw [List.foldl_cons]
    by_cases h : x = n
    · subst h
      have e : wst x (out, true) x = (out, true) := by simp [wst]
      rw [e, wfold_t x l]; simp
    · have e : wst n (out, true) x = (out ++ [x], true) := by simp [wst, h]
      rw [e, wfold_t n l]
      simp [h]
theorem wfold_f (n : Int) : ∀ (xs out : List Int), (let s := xs.foldl (wst n) (out, false); if s.2 = true then s.1 else s.1 ++ [n]) = out ++ withL xs n
  | [], out => by simp [withL]
  | x :: l, out => by
    rw [List.foldl_cons]
    unfold withL
    by_cases h : n ≤ x
    · rw [if_pos h]
      by_cases e : x = n
      · subst e
        have e2 : wst x (out, false) x = (out ++ [x], true) := by simp [wst]
        rw [e2, wfold_t]
        simp
      · have e2 : wst n (out, false) x = (out ++ [n] ++ [x], true) := by simp [wst, h, e]
        rw [e2, wfold_t]
        simp [e]
    · rw [if_neg h]
      have e2 : wst n (out, false) x = (out ++ [x], false) := by simp [wst, h]; omega
      rw [e2, wfold_f n l]
      simp
theorem wk_end (n : Int) (xs : List Int) : (if (wk n xs xs.length).2 = true then (wk n xs xs.length).1 else (wk n xs xs.length).1 ++ [n]) = withL xs n := by
  have := wfold_f n xs []
  rw [wk, List.take_length]
  simpa using this
theorem wk_length (n : Int) (xs : List Int) (k : Nat) (hk : k ≤ xs.length) : (wk n xs k).1.length ≤ 2 * k := by
  induction k with
  | zero => simp [wk]
  | succ k ih =>
    rw [wk_succ (by omega)]
    have := ih (by omega)
    unfold wst
    split <;> split <;> simp <;> omega

set_option maxRecDepth 100000 in
set_option maxHeartbeats 4000000 in
theorem with_any (A : Option Addr) (m c : Nat) (xs : List Int) (n : Int) (w : World) (hr : Rd w A m c (iv .i64 xs)) (hl : xs.length = m) (hm : m ≤ 1000000) :
    Calls Try.prog 60 #[.slice A m c, .int .i64 n] w fun e w' => (∃ v, e = .returned v ∧ w'.ownsRow w.heap.size 3 1 v (withL xs n).length (iv .i64 (withL xs n))) ∧ Below w.heap.size w w' := by
  have HR := Lib.hid hr
  have HL := Lib.hid hl
  have l1 := hr.le
  have l2 := hr.cap
  clear hr hl
  go_enter Try.func60, Try.ntmps60
  go_wp2
  go_loopw [5, 6, 7] (fun v p i wr => ∃ k : Nat, k ≤ m ∧ i = .int .i64 k ∧ p = .bool (wk n xs k).2 ∧ Hid (wr.ownsRow w.heap.size 3 1 v (wk n xs k).1.length (iv .i64 (wk n xs k).1)) ∧ Hid (Below w.heap.size w wr)) (fun _ _ i _ => m - (intOf i).toNat)
  case atStart => exact ⟨0, by omega, rfl, rfl, World.ownsRow_nil _ _ _ _, Below.refl _ _⟩
  case round =>
    obtain ⟨k, hk, rfl, rfl, HO, HB⟩ := hrel
    have hkl := wk_length n xs k (by have := HL.out; omega)
    by_cases hlt : k < m
    · have hxl : k < xs.length := by have := HL.out; omega
      obtain ⟨b, off, rfl, hb, hc⟩ := (HR.out.below HB.out).form (by simp; omega)
      have hck := hc k (by simpa using hxl)
      rw [iv_at] at hck
      clear hc
      have hbw : b < w.heap.size := by
        obtain ⟨b', off', e, hb', _⟩ := HR.out.form (by simp; omega)
        injection e with e; injection e with e; subst e; exact hb'
      have HS := Lib.hid (wk_succ (n := n) hxl)
      generalize xs[k] = x at *
      generalize hwk : wk n xs k = s at *
      have HWK := Lib.hid hwk
      clear hwk
      obtain ⟨out, pl⟩ := s
      simp only at *
      cases pl with
      | true =>
        by_cases hx : x = n
        · have e1 : (x != n) = false := by simpa using hx
          have HN : Hid (wk n xs (k + 1) = (out, true)) := by show _ = _; rw [HS.out]; simp [wst, hx]
          clear HS hx
          go_wp2
          go_roundw
          case rel => exact ⟨k + 1, by omega, by go_num, by rw [HN.out], by rw [HN.out]; exact HO, HB⟩
          case measure => simp [intOf] <;> omega
        · have e1 : (x != n) = true := by simpa using hx
          have HN : Hid (wk n xs (k + 1) = (out ++ [x], true)) := by show _ = _; rw [HS.out]; simp [wst, hx]
          clear HS hx
          go_wp2_with (at_builtin; refine wpList_push wr rfl (.tmp 34) (.tmp 39) 28 3 rfl w.heap.size (.int .i64 0) 8 Try.underlying28 infoI rfl (by omega) _ _ _ (.int .i64 x) rfl rfl rfl HO.out HB.out.size (by omega) rfl ?_; intro g cap w2 ho hg hat hlt1; have HO2 := Lib.hid ho; have HB2 := Lib.hid (below_grown HB.out hg HB.out.size (own_row HO.out)); clear ho hg hat)
          go_roundw
          case rel => exact ⟨k + 1, by omega, by go_num, by rw [HN.out], (by show World.ownsRow _ _ _ _ _ _ _; rw [HN.out]; simpa [iv] using HO2.out), HB2⟩
          case measure => simp [intOf] <;> omega
      | false =>
        by_cases hn : n ≤ x
        · have d1 : decide (n ≤ x) = true := decide_eq_true hn
          by_cases hx : x = n
          · have e1 : (x != n) = false := by simpa using hx
            have HN : Hid (wk n xs (k + 1) = (out ++ [n], true)) := by show _ = _; rw [HS.out]; simp [wst, hx]
            clear HS hx
            go_wp2_with (at_builtin; refine wpList_push wr rfl (.tmp 24) (.tmp 26) 28 3 rfl w.heap.size (.int .i64 0) 8 Try.underlying28 infoI rfl (by omega) _ _ _ (.int .i64 n) rfl rfl rfl HO.out HB.out.size (by omega) rfl ?_; intro g cap w2 ho hg hat hlt1; have HO2 := Lib.hid ho; have HB2 := Lib.hid (below_grown HB.out hg HB.out.size (own_row HO.out)); have hck := (HB2.out.cell (p := ⟨b, off + k, none⟩) hbw).trans ((HB.out.cell (p := ⟨b, off + k, none⟩) hbw).symm.trans hck); clear ho hg hat)
            go_roundw
            case rel => exact ⟨k + 1, by omega, by go_num, by rw [HN.out], (by show World.ownsRow _ _ _ _ _ _ _; rw [HN.out]; simpa [iv] using HO2.out), HB2⟩
            case measure => simp [intOf] <;> omega
          · have e1 : (x != n) = true := by simpa using hx
            have HN : Hid (wk n xs (k + 1) = (out ++ [n] ++ [x], true)) := by show _ = _; rw [HS.out]; simp [wst, hx, hn]
            clear HS hx
            go_wp2_with (first
              | (at_builtin; refine wpList_push wr rfl (.tmp 24) (.tmp 26) 28 3 rfl w.heap.size (.int .i64 0) 8 Try.underlying28 infoI rfl (by omega) _ _ _ (.int .i64 n) rfl rfl rfl HO.out HB.out.size (by omega) rfl ?_; intro g cap w2 ho hg hat hlt1; have HO2 := Lib.hid ho; have HB2 := Lib.hid (below_grown HB.out hg HB.out.size (own_row HO.out)); have hck := (HB2.out.cell (p := ⟨b, off + k, none⟩) hbw).trans ((HB.out.cell (p := ⟨b, off + k, none⟩) hbw).symm.trans hck); clear ho hg hat)
              | (at_builtin; refine wpList_push w2 rfl (.tmp 34) (.tmp 39) 28 3 rfl w.heap.size (.int .i64 0) 8 Try.underlying28 infoI rfl (by omega) _ _ _ (.int .i64 x) rfl rfl rfl HO2.out HB2.out.size (by omega) rfl ?_; intro g' cap' w3 ho hg hat hlt1; have HO3 := Lib.hid ho; have HB3 := Lib.hid (below_grown HB2.out hg HB2.out.size (own_row HO2.out)); clear ho hg hat))
            go_roundw
            case rel => exact ⟨k + 1, by omega, by go_num, by rw [HN.out], (by show World.ownsRow _ _ _ _ _ _ _; rw [HN.out]; simpa [iv] using HO3.out), HB3⟩
            case measure => simp [intOf] <;> omega
        · have d1 : decide (n ≤ x) = false := decide_eq_false hn
          have e1 : (x != n) = true := by simp; omega
          have HN : Hid (wk n xs (k + 1) = (out ++ [x], false)) := by show _ = _; rw [HS.out]; simp [wst, hn]; omega
          clear HS hn
          go_wp2_with (at_builtin; refine wpList_push wr rfl (.tmp 34) (.tmp 39) 28 3 rfl w.heap.size (.int .i64 0) 8 Try.underlying28 infoI rfl (by omega) _ _ _ (.int .i64 x) rfl rfl rfl HO.out HB.out.size (by omega) rfl ?_; intro g cap w2 ho hg hat hlt1; have HO2 := Lib.hid ho; have HB2 := Lib.hid (below_grown HB.out hg HB.out.size (own_row HO.out)); clear ho hg hat)
          go_roundw
          case rel => exact ⟨k + 1, by omega, by go_num, by rw [HN.out], (by show World.ownsRow _ _ _ _ _ _ _; rw [HN.out]; simpa [iv] using HO2.out), HB2⟩
          case measure => simp [intOf] <;> omega
    · obtain rfl : k = m := by omega
      have HE := Lib.hid (wk_end n xs)
      rw [HL.out] at HE
      generalize wk n xs k = s at *
      obtain ⟨out, pl⟩ := s
      simp only at *
      cases pl with
      | true =>
        go_wp2
        go_ret
        have he := HE.out
        simp only [if_true] at he
        rw [← he]
        exact ⟨⟨_, rfl, HO.out⟩, HB.out⟩
      | false =>
        go_wp2_with (at_builtin; refine wpList_push wr rfl (.tmp 43) (.tmp 45) 28 3 rfl w.heap.size (.int .i64 0) 8 Try.underlying28 infoI rfl (by omega) _ _ _ (.int .i64 n) rfl rfl rfl HO.out HB.out.size (by omega) rfl ?_; intro g cap w2 ho hg hat hlt1; have HO2 := Lib.hid ho; have HB2 := Lib.hid (below_grown HB.out hg HB.out.size (own_row HO.out)); clear ho hg hat)
        go_ret
        have he := HE.out
        simp only [Bool.false_eq_true, if_false] at he
        rw [← he]
        refine ⟨⟨_, rfl, ?_⟩, HB2.out⟩
        rw [List.length_append]
        simpa [iv] using HO2.out
end Go.Proofs.Ytbflmgpcjfoifaa
