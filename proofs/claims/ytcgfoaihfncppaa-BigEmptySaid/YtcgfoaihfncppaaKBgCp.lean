/- Walks of big: copies of an image that may be stored into. -/
import Derived.Test.YtcgfoaihfncppaaKBgWr
import Derived.Test.YtcgfoaihfncppaaKBgAl
set_option linter.unusedSimpArgs false
set_option linter.unusedVariables false
namespace Go.Proofs.Ytcgfoaihfncppaa
open Go.RowKit Go.Sel Go.Sel.Gra Go.Sel.Bg Go.Sel.Mer Go.Shelf

set_option maxRecDepth 100000 in
set_option maxHeartbeats 1000000 in
theorem CloneB_own (A : Option Addr) (c : Nat) (xs : List Int) (w : World) (hr : Rd w A 32 c (iv .u8 xs)) (hl : xs.length = 32) (hx : AllByte xs) :
    Calls Try.prog 85 #[.slice A 32 c] w fun e w' => (∃ g c', e = .returned (.slice (some ⟨g, 0, none⟩) 32 c') ∧ RowB w.heap.size w' (g, c') xs) ∧ Below w.heap.size w w' := by
  cases A with
  | none =>
    rcases hr.at_ with h | ⟨b, off, h, _⟩
    · have : xs = [] := by simpa [iv] using h
      subst this
      cases hl
    · cases h
  | some a =>
    obtain ⟨v', w1, hrun, hown, hg, hat⟩ := run_extend (P := Try.prog) (w := w.alloc (.cells #[] 5)) w.heap.size 45 45 5 (.int .u8 0) 1 Try.underlying45 infoU8 rfl _ 0 [] (own_empty w 5 w.heap.size (Nat.le_refl _)) (some a) 32 c (iv .u8 xs) (hr.alloc _) (by simpa using hl) (one_iv _ _) (by simp only [maxLen]; omega) (by omega) (by simp)
    have HO := Lib.hid hown
    have HX := Lib.hid hx
    have HB : Hid (Below w.heap.size w w1) := below_grown (below_al w _) hg (by simp) (fun k hk => by simp [Value.ownBlock] at hk; omega)
    have HR := Lib.hid hrun
    have he := fun (w : World) => run_eql_sl (P := Try.prog) w 45 5 (some a) 32 c Try.underlying45
    simp only [Option.isNone_some] at he
    clear hr hl hown hg hat hrun hx
    go_enter Try.func85, Try.ntmps85
    go_wp2_with (at_builtin; refine wpList_append_run rfl _ _ _ _ rfl _ _ _ rfl rfl HR.out ?_)
    go_ret
    obtain ⟨A', c', rfl, _, hr'⟩ := rd_own HO.out
    have ho := HO.out
    simp only [Nat.zero_add, List.nil_append] at ho
    obtain ⟨g, rfl, hrow⟩ := row_own ho HX.out
    exact ⟨⟨g, c', by simp, hrow⟩, HB.out⟩

set_option maxRecDepth 100000 in
set_option maxHeartbeats 2000000 in
theorem copied_wr (A : Option Addr) (n c : Nat) (D : List (List Int)) (w : World) (hD : Bp w A n c D) (hW : whole D) :
    Calls Try.prog 77 #[.slice A n c] w fun e w' => (∃ g c' gs, e = .returned (.slice (some ⟨g, 0, none⟩) n c') ∧ Wr w.heap.size w' g n c' D gs) ∧ Below w.heap.size w w' := by
  have HD := Lib.hid hD
  have HN := Lib.hid hD.len
  have hn : n ≤ 96 := by rw [← hD.len]; exact hW.1
  have HW := Lib.hid hW
  have l1 := hD.le
  have l2 := hD.cap
  have hmk := fun (w : World) => run_makeN (P := Try.prog) 33 45 (.slice none 0 0) 24 Try.underlying33 infoBytes rfl n (by omega) (by omega) w
  clear hD hW
  go_enter Try.func77, Try.ntmps77
  go_wp2
  go_loopw [4, 5, 11] (fun _ _ v wr => ∃ (k : Nat) (gs : List (Nat × Nat)), k ≤ n ∧ v = .int .i64 k ∧ Hid (Wr w.heap.size wr w.heap.size k n (D.take k) gs) ∧ Hid (∀ j, k ≤ j → j < n → wr.cell? ⟨w.heap.size, j, none⟩ = some (.slice none 0 0)) ∧ Hid (Below w.heap.size w wr)) (fun _ _ v _ => n - (Go.RowKit.intOf v).toNat)
  case atStart =>
    refine ⟨0, [], by omega, rfl, ⟨rfl, rfl, Nat.zero_le _, by omega, Nat.le_refl _, ⟨_, _, blk11 w _, by simp, fun j hj => by simp at hj⟩, fun j hj => by simp at hj, by simp, by simp⟩, fun j _ hj => ?_, below_al _ _⟩
    rw [blk_cell (blk11 w _)]
    simp [hj]
  case round =>
    obtain ⟨k, gs, hk, rfl, HWr, HC, HB⟩ := hrel
    by_cases hlt : k < n
    · obtain ⟨b, off, A', n', c', rfl, hb, hc, hl, hr, hx⟩ := (HD.out.below HB.out).at_ hlt
      have hkD : k < D.length := by rw [HN.out]; exact hlt
      have h32 : n' = 32 := by rw [← hl, nth_get hkD]; exact HW.out.2 _ (List.getElem_mem hkD)
      subst h32
      have HX := Lib.hid hx
      have HL := Lib.hid hl
      have HR := Lib.hid hr
      have hck := HC.out k (Nat.le_refl _) hlt
      have HTK : Hid (D.take (k + 1) = D.take k ++ [nth D k]) := Lib.hid (by rw [List.take_succ_eq_append_getElem hkD, nth_get hkD])
      clear hx hl hr
      go_wp2_with (go_at_call 85; (with_reducible refine (CloneB_own A' c' (nth D k) _ HR.out HL.out HX.out).mono ?_); rintro e w2 ⟨⟨g, c2, rfl, hrow⟩, hB⟩; have hck := keep_cell hck hB; have HW2 := Lib.hid (HWr.out.below hB); have hfk : w2.frozen? ⟨w.heap.size, k, none⟩ = false := (by obtain ⟨cur, T, h1, _⟩ := HW2.out.arr; exact blk_free h1 k); have HROW := Lib.hid hrow; have HB2 := Lib.hid hB; clear hrow hB)
      have hgl : wr.heap.size ≤ g := by obtain ⟨_, _, _, h2, _⟩ := HROW.out; exact h2
      have hwl := HWr.out.lt
      have hws := HB.out.size
      refine ⟨⟨k + 1, gs ++ [(g, c2)], by omega, by go_num, ?_, fun j h1 h2 => ?_, (below_then HB.out HB2.out).setCell (p := ⟨w.heap.size, k, none⟩) (Nat.le_refl _) _⟩, by simp [Go.RowKit.intOf]; omega⟩
      · show Wr _ _ _ _ _ _ _
        rw [HTK.out]
        exact HW2.out.push hlt (HROW.out.mono hws) (by simp only; omega) (fun hm => by have := (HWr.out.mem_lt hm).1; simp only at this; omega)
      · rw [World.cell?_setCell_other _ _ _ _ (fun e => by injection e with _ e; omega)]
        exact keep_cell (HC.out j (by omega) h2) HB2.out
    · obtain rfl : k = n := by omega
      go_wp2
      go_ret
      have h := HWr.out
      rw [List.take_of_length_le (by rw [HN.out]; exact Nat.le_refl _)] at h
      exact ⟨⟨_, _, gs, rfl, h⟩, HB.out⟩
set_option maxRecDepth 100000 in
set_option maxHeartbeats 2000000 in
theorem Blocks0_wr (A : Option Addr) (n c : Nat) (D : List (List Int)) (w : World) (hD : Bp w A n c D) (hW : whole D) :
    Calls Try.prog 58 #[.slice none 0 0, .slice none 0 0, .slice A n c] w fun e w' => (∃ g c' gs, e = .returned (.slice (some ⟨g, 0, none⟩) n c') ∧ Wr w.heap.size w' g n c' D gs) ∧ Below w.heap.size w w' := by
  have HC := Lib.hid (copied_wr A n c D w hD hW)
  have HR : Hid (∀ W, Calls Try.prog 78 #[.slice none 0 0] W fun e w' => e = .returned (.bool true) ∧ Below W.heap.size W w') := Lib.hid fun W => by
    have := mRight_any none 0 0 [] W (ip_nil W)
    rwa [show mrightB [] = true by decide] at this
  clear hD hW
  go_enter Try.func58, Try.ntmps58
  go_wp2_with (first
    | (go_at_call 77; (with_reducible refine HC.out.mono ?_); rintro e w1 ⟨⟨g, c', gs, rfl, hw⟩, hB⟩; have HW := Lib.hid hw; have HB := Lib.hid hB; clear hw hB)
    | (go_at_call 78; (with_reducible refine (HR.out _).mono ?_); rintro e w2 ⟨rfl, hB⟩; have HW2 := Lib.hid (HW.out.below hB); have HB2 := Lib.hid (below_then HB.out hB); clear hB))
  go_loopw [21] (fun v wr => v = .int .i64 0 ∧ wr = w2) (fun _ _ => 0)
  case atStart => exact ⟨rfl, rfl⟩
  case round =>
    obtain ⟨rfl, rfl⟩ := hrel
    go_wp2
    go_ret
    exact ⟨⟨_, _, _, rfl, HW2.out⟩, HB2.out⟩
theorem copied_big_wr (A : Option Addr) (n c : Nat) (D : List (List Int)) (w : World) (hD : Bp w A n c D) (hW : whole D) :
    Calls Try.prog 32 #[.slice A n c] w fun e w' => (∃ g c' gs, e = .returned (.slice (some ⟨g, 0, none⟩) n c') ∧ Wr w.heap.size w' g n c' D gs) ∧ Below w.heap.size w w' := by
  have HB := Lib.hid (Blocks0_wr A n c D w hD hW)
  clear hD hW
  go_enter Try.func32, Try.ntmps32
  go_wp2_with (go_at_call 58; (with_reducible refine HB.out.mono ?_); rintro e w2 ⟨⟨g, c', gs, rfl, hw⟩, hB⟩; have HW := Lib.hid hw; have HB2 := Lib.hid hB; clear hw hB)
  go_ret
  exact ⟨⟨_, _, _, rfl, HW.out⟩, HB2.out⟩
end Go.Proofs.Ytcgfoaihfncppaa
/- Walks of big: clear. -/
set_option linter.unusedSimpArgs false
set_option linter.unusedVariables false
namespace Go.Sel.Bg
open Go.RowKit Go.Sel Go.Sel.Gra
/-- The last pointer of a way is taken away. -/
def clrT (l : List Int) (k : Nat) : List Int := if k < 6 then l.set k 0 else l
def clrD (D : List (List Int)) (t : List Int) (out : List (List Int)) (k : Nat) : List (List Int) :=
  if k < 6 then out else out.set (val D t (par (posK k))).toNat ((nth out (val D t (par (posK k))).toNat).set (slot (posK k)) 0)
/-- The blocks of the rows. -/
def rowsOf (gs : List (Nat × Nat)) (x : Nat) : Prop := x ∈ gs.map (·.1)
end Go.Sel.Bg
namespace Go.Proofs.Ytcgfoaihfncppaa
open Go.RowKit Go.Sel Go.Sel.Gra Go.Sel.Bg Go.Sel.Mer Go.Shelf

set_option maxRecDepth 100000 in
set_option maxHeartbeats 4000000 in
theorem clear_1 (vb lb : Nat) (Ao : Option Addr) (n c : Nat) (l : List Int) (hl : l.length = 8) (k : Nat) (hk : k < 6) (Aw : Option Addr) (cw : Nat) (T : TypeId) (w : World) (hL : w.heap[lb]? = some (.cells (iv .i64 l).toArray T (0, 0))) (hw : Rd w Aw 1 cw (iv .i64 [(k : Int)])) :
    Calls Try.prog 50 #[.pointer (some ⟨vb, 0, none⟩), .slice Ao n c, .pointer (some ⟨lb, 0, none⟩), .slice Aw 1 cw] w fun e w' => e = .returned (.tuple #[]) ∧ w'.heap[lb]? = some (.cells (iv .i64 (l.set k 0)).toArray T (0, 0)) ∧ Fr (· = lb) w w' := by
  have HL := Lib.hid hL
  have hkl : k < l.length := by omega
  have hck := cells_at hL k
  rw [List.getElem?_eq_getElem (by simpa using hkl), iv_at] at hck
  have hfk := blk_free hL k
  obtain ⟨yb, yo, rfl, hyb, hyc⟩ := hw.form (by simp)
  have y0 := hyc 0 (by simp)
  simp only [iv, List.map_cons, List.map_nil, List.getElem_cons_zero, Nat.add_zero] at y0
  have w1 := hw.le
  have w2 := hw.cap
  have hk0 : (0 : Int) ≤ (k : Int) := by omega
  have hk8 : (k : Int) < 8 := by omega
  generalize l[k] = lk at *
  have HSET := Lib.hid (blk_set hL k (.int .i64 0))
  have HST : Hid (((iv .i64 l).toArray.setIfInBounds k (.int .i64 0)) = (iv .i64 (l.set k 0)).toArray) := Lib.hid (by simp [iv, List.map_set])
  clear hL hw hyc
  go_enter Try.func50, Try.ntmps50
  go_upto_region 1 with (fail)
  have HS : At (fun w' : World => w'.cell? ⟨yb, yo, none⟩ = some (.int .i64 (k : Int))) w.drew := y0
  have hckd : w.drew.cell? ⟨lb, k, none⟩ = some (.int .i64 lk) := hck
  have hfkd : w.drew.frozen? ⟨lb, k, none⟩ = false := hfk
  have HSETd : Hid ((w.drew.setCell ⟨lb, k, none⟩ (.int .i64 0)).heap[lb]? = _) := Lib.hid (blk_set (w := w.drew) HL.out k (.int .i64 0))
  have HFR : Hid (Fr (· = lb) w (w.drew.setCell ⟨lb, k, none⟩ (.int .i64 0))) := Lib.hid (Fr.setCell (S := (· = lb)) ((Fr.refl _ w).drewN 1) (p := ⟨lb, k, none⟩) (.inl rfl) _)
  clear y0 hck hfk HSET
  refine wp_region_lexD HS [0, 1, 2, 3, 5] (by kernel_rfl) (by kernel_rfl) (fun _ _ d _ _ h => by cases d <;> exact h) ?_
  generalize w.drew = Wd at *
  repeat (refine lexD_take (by decide) (by kernel_rfl) HS (fun w9 h9 => by have s0 : w9.cell? _ = _ := h9; go_simp; first | done | rfl) (fun K hK => ?_); go_simp; refine hK _ ?_; clear hK K)
  refine lexD_do (by kernel_rfl) (by kernel_rfl) (fun K hK => ?_); go_simp; refine hK _ _ (fun _ => HS) ?_; clear hK K
  refine lexD_take (by decide) (by kernel_rfl) HS (fun w9 h9 => by have s0 : w9.cell? _ = _ := h9; go_simp; first | done | rfl) (fun K hK => ?_); go_simp; refine hK _ ?_; clear hK K
  refine lexD_late (by kernel_rfl) (by kernel_rfl) (fun K hK => ?_)
  go_simp
  refine hK _ _ ?_
  clear hK K
  refine lexD_nil ?_
  go_wp2
  refine bodyPost_ret (v := .tuple #[]) (by simp [results, Try.results50, go_sem]) rfl ?_
  exact ⟨rfl, HSETd.out.trans (by rw [HST.out]), HFR.out⟩

set_option maxRecDepth 100000 in
set_option maxHeartbeats 4000000 in
theorem clear_2 (vb g n c0 : Nat) (pl : Value) (Dout : List (List Int)) (gs : List (Nat × Nat)) (B : Nat) (bn j1 : Nat) (hbn : bn < n) (hj : j1 < 32) (Aw : Option Addr) (cw : Nat) (w : World)
    (hv : w.cell? ⟨vb, 7, none⟩ = some (.int .i64 (bn : Int))) (hO : Wr B w g n c0 Dout gs) (hw : Rd w Aw 2 cw (iv .i64 [6, (j1 : Int)])) :
    Calls Try.prog 50 #[.pointer (some ⟨vb, 0, none⟩), .slice (some ⟨g, 0, none⟩) n c0, pl, .slice Aw 2 cw] w fun e w' => e = .returned (.tuple #[]) ∧ Wr B w' g n c0 (Dout.set bn ((nth Dout bn).set j1 0)) gs ∧ Fr (rowsOf gs) w w' := by
  obtain ⟨yb, yo, rfl, hyb, hyc⟩ := hw.form (by simp)
  have y0 := hyc 0 (by simp)
  have y1 := hyc 1 (by simp)
  simp only [iv, List.map_cons, List.map_nil, List.getElem_cons_zero, List.getElem_cons_succ, Nat.add_zero] at y0 y1
  have w1 := hw.le
  have w2 := hw.cap
  have hbg : bn < gs.length := by rw [hO.glen]; exact hbn
  have hle := hO.le
  have hcap := hO.cap
  have hb0 : (0 : Int) ≤ (bn : Int) := by omega
  have hb1 : (bn : Int) < (n : Int) := by omega
  have hj0 : (0 : Int) ≤ (j1 : Int) := by omega
  have hj1 : (j1 : Int) < 32 := by omega
  have HO := Lib.hid hO
  clear hO hw hyc
  have hlv := World.block_lt_of_cell? w _ hv
  simp only at hlv
  go_enter Try.func50, Try.ntmps50
  go_upto_region 2 with (fail)
  have HS : At (fun w' : World => w'.cell? ⟨yb, yo, none⟩ = some (.int .i64 6) ∧ w'.cell? ⟨vb, 7, none⟩ = some (.int .i64 (bn : Int)) ∧ w'.cell? ⟨yb, yo + 1, none⟩ = some (.int .i64 (j1 : Int))) w.drew := ⟨y0, hv, y1⟩
  refine wp_region_lexD HS [0, 1, 2, 3, 4, 5, 6, 7, 8] (by kernel_rfl) (by kernel_rfl) (fun _ _ d _ _ h => by cases d <;> exact h) ?_
  have HO1 : Hid (Wr B w.drew g n c0 Dout gs) := Lib.hid (HO.out.below (Sel.below_drewN w 1))
  have HB1 : Hid (Below w.heap.size w w.drew) := Lib.hid (Sel.below_drewN w 1)
  have hs1 : w.drew.heap.size = w.heap.size := rfl
  generalize w.drew = W1 at *
  repeat (refine lexD_take (by decide) (by kernel_rfl) HS (fun w9 h9 => by obtain ⟨s0, s1, s2⟩ := h9; go_simp; first | done | rfl) (fun K hK => ?_); go_simp; refine hK _ ?_; clear hK K)
  refine lexD_nil ?_
  obtain ⟨_, _, y1b⟩ := HS
  clear y0 y1 hv
  go_wp2
  go_loopw [8, 10, 34] (fun p8 _ v wr => p8 = .int .i64 (bn : Int) ∧ v = .int .i64 0 ∧ wr = W1) (fun _ _ _ _ => 0)
  case atStart => exact ⟨rfl, rfl, rfl⟩
  case round =>
    obtain ⟨rfl, rfl, hx⟩ := hrel
    have hx := hx.symm
    subst hx
    go_upto_region 8 with (fail)
    have hw1 : IntKind.i64.wrap 1 = 1 := by decide
    obtain ⟨hoc, hof⟩ := HO1.out.cell hbg
    have hrl := (HO1.out.row bn hbg).lt
    obtain ⟨hrc, hrf⟩ := (HO1.out.row bn hbg).cell hj
    have hcc : 32 ≤ gs[bn].2 ∧ gs[bn].2 ≤ 9223372036854775807 := by obtain ⟨_, _, _, _, h1, h2, _⟩ := HO1.out.row bn hbg; exact ⟨h1, h2⟩
    have HSTR := Lib.hid (HO1.out.store hbg hj (x := 0) (by omega))
    have HMEM := Lib.hid (show gs[bn].1 ∈ gs.map (·.1) from List.mem_map.2 ⟨_, List.getElem_mem hbg, rfl⟩)
    generalize gs[bn] = gc at *
    obtain ⟨rb, rc⟩ := gc
    simp only at hoc hrl hrc hrf hcc HSTR HMEM
    have HS : At (fun w' : World => w'.cell? ⟨g, bn, none⟩ = some (.slice (some ⟨rb, 0, none⟩) 32 rc) ∧ w'.cell? ⟨yb, yo + 1, none⟩ = some (.int .i64 (j1 : Int))) W1.drew := ⟨hoc, y1b⟩
    have hrcd : W1.drew.cell? ⟨rb, j1, none⟩ = some (.int .u8 ((nth Dout bn).getD j1 0)) := hrc
    have hrfd : W1.drew.frozen? ⟨rb, j1, none⟩ = false := hrf
    have HSTd : Hid (Wr B (W1.drew.setCell ⟨rb, j1, none⟩ (.int .u8 0)) g n c0 (Dout.set bn ((nth Dout bn).set j1 0)) gs) := Lib.hid (HSTR.out.same rfl (fun _ _ => rfl))
    have HFR : Hid (Fr (rowsOf gs) w (W1.drew.setCell ⟨rb, j1, none⟩ (.int .u8 0))) := Lib.hid (Fr.setCell (S := rowsOf gs) (fr_of_below HB1.out.drew _) (p := ⟨rb, j1, none⟩) (.inl HMEM.out) _)
    clear hoc hof hrc hrf HSTR y1b
    refine wp_region_lexD HS [0, 1, 2, 3, 4, 5, 6, 7, 8, 9, 10] (by kernel_rfl) (by kernel_rfl) (fun _ _ d _ _ h => by cases d <;> exact h) ?_
    generalize W1.drew = Wd at *
    repeat (refine lexD_take (by decide) (by kernel_rfl) HS (fun w9 h9 => by obtain ⟨s0, s1⟩ := h9; go_simp; first | done | rfl) (fun K hK => ?_); go_simp; refine hK _ ?_; clear hK K)
    refine lexD_late (by kernel_rfl) (by kernel_rfl) (fun K hK => ?_)
    go_simp
    refine hK _ _ ?_
    clear hK K
    refine lexD_nil ?_
    go_wp2
    go_end0
    exact ⟨rfl, HSTd.out, HFR.out⟩
set_option maxRecDepth 100000 in
set_option maxHeartbeats 4000000 in
theorem clear_3 (vb g n c0 : Nat) (pl : Value) (Dout : List (List Int)) (gs : List (Nat × Nat)) (B : Nat) (an bn j1 j2 : Nat) (A : Option Addr) (c : Nat) (D : List (List Int)) (han : an < n) (hbn : bn < n) (hj1' : j1 < 32) (hj : j2 < 32) (Aw : Option Addr) (cw : Nat) (w : World)
    (hv0 : w.cell? ⟨vb, 0, none⟩ = some (.slice A n c)) (hv : w.cell? ⟨vb, 8, none⟩ = some (.int .i64 (an : Int))) (hD : Bp w A n c D) (hr32 : (nth D an).length = 32) (hbv : (nth D an).getD j1 0 = (bn : Int)) (hO : Wr B w g n c0 Dout gs) (hw : Rd w Aw 3 cw (iv .i64 [7, (j1 : Int), (j2 : Int)])) :
    Calls Try.prog 50 #[.pointer (some ⟨vb, 0, none⟩), .slice (some ⟨g, 0, none⟩) n c0, pl, .slice Aw 3 cw] w fun e w' => e = .returned (.tuple #[]) ∧ Wr B w' g n c0 (Dout.set bn ((nth Dout bn).set j2 0)) gs ∧ Fr (rowsOf gs) w w' := by
  obtain ⟨yb, yo, rfl, hyb, hyc⟩ := hw.form (by simp)
  have y0 := hyc 0 (by simp)
  have y1 := hyc 1 (by simp)
  have y2 := hyc 2 (by simp)
  simp only [iv, List.map_cons, List.map_nil, List.getElem_cons_zero, List.getElem_cons_succ, Nat.add_zero] at y0 y1 y2
  have w1 := hw.le
  have w2 := hw.cap
  have hbg : bn < gs.length := by rw [hO.glen]; exact hbn
  have hle := hO.le
  have hcap := hO.cap
  have hb0 : (0 : Int) ≤ (bn : Int) := by omega
  have hb1 : (bn : Int) < (n : Int) := by omega
  have hj0 : (0 : Int) ≤ (j1 : Int) := by omega
  have hj1 : (j1 : Int) < 32 := by omega
  have hj20 : (0 : Int) ≤ (j2 : Int) := by omega
  have hj21 : (j2 : Int) < 32 := by omega
  have ha0 : (0 : Int) ≤ (an : Int) := by omega
  have ha1 : (an : Int) < (n : Int) := by omega
  obtain ⟨ab, ao, A', n', c', hAe, hab, hac, hrn, hrr, hrx⟩ := hD.at_ han
  subst hAe
  have hn32 : n' = 32 := by rw [← hrn]; exact hr32
  subst hn32
  obtain ⟨rb0, ro, rfl, hrb, hrc0⟩ := hrr.form (by rw [iv_length]; omega)
  have hbc := hrc0 j1 (by rw [iv_length]; omega)
  rw [iv_at] at hbc
  have hbx : (nth D an)[j1]'(by omega) = (bn : Int) := by rw [← hbv, List.getD_eq_getElem?_getD, List.getElem?_eq_getElem (by omega)]; rfl
  rw [hbx] at hbc
  have hbyt := hrx _ (List.getElem_mem (show j1 < (nth D an).length by omega))
  rw [hbx] at hbyt
  have hcl := hD.le
  have hcp := hD.cap
  have hrl0 := hrr.le
  have hrl1 := hrr.cap
  have hwx : IntKind.i64.wrap (bn : Int) = bn := IntWalk.i64_in _ (by omega)
  have HO := Lib.hid hO
  clear hO hw hyc hD hrn hrr hrx hrc0 hr32 hbv hbx
  have hlv := World.block_lt_of_cell? w _ hv
  simp only at hlv
  go_enter Try.func50, Try.ntmps50
  go_upto_region 2 with (fail)
  have HS : At (fun w' : World => w'.cell? ⟨yb, yo, none⟩ = some (.int .i64 7) ∧ w'.cell? ⟨vb, 8, none⟩ = some (.int .i64 (an : Int)) ∧ w'.cell? ⟨yb, yo + 1, none⟩ = some (.int .i64 (j1 : Int)) ∧ w'.cell? ⟨yb, yo + 2, none⟩ = some (.int .i64 (j2 : Int)) ∧ w'.cell? ⟨vb, 0, none⟩ = some (.slice (some ⟨ab, ao, none⟩) n c) ∧ w'.cell? ⟨ab, ao + an, none⟩ = some (.slice (some ⟨rb0, ro, none⟩) 32 c') ∧ w'.cell? ⟨rb0, ro + j1, none⟩ = some (.int .u8 (bn : Int))) w.drew := ⟨y0, hv, y1, y2, hv0, hac, hbc⟩
  refine wp_region_lexD HS [0, 1, 2, 3, 4, 5, 6, 7, 8] (by kernel_rfl) (by kernel_rfl) (fun _ _ d _ _ h => by cases d <;> exact h) ?_
  have HO1 : Hid (Wr B w.drew g n c0 Dout gs) := Lib.hid (HO.out.below (Sel.below_drewN w 1))
  have HB1 : Hid (Below w.heap.size w w.drew) := Lib.hid (Sel.below_drewN w 1)
  have hs1 : w.drew.heap.size = w.heap.size := rfl
  generalize w.drew = W1 at *
  repeat (refine lexD_take (by decide) (by kernel_rfl) HS (fun w9 h9 => by obtain ⟨s0, s1, s2, s3, s4, s5, s6⟩ := h9; go_simp; first | done | rfl) (fun K hK => ?_); go_simp; refine hK _ ?_; clear hK K)
  refine lexD_nil ?_
  obtain ⟨_, _, y1a, y1b, v0, v1, v2⟩ := HS
  clear y0 y1 y2 hv hv0 hac hbc
  go_wp2
  go_loopw [8, 10, 34] (fun p8 _ v wr => ((p8 = .int .i64 (an : Int) ∧ v = .int .i64 0) ∨ (p8 = .int .i64 (bn : Int) ∧ v = .int .i64 1)) ∧ wr = W1) (fun _ _ v _ => 1 - (Go.RowKit.intOf v).toNat)
  case atStart => exact ⟨.inl ⟨rfl, rfl⟩, rfl⟩
  case round =>
   obtain ⟨hor, hx⟩ := hrel
   have hx := hx.symm
   subst hx
   rcases hor with ⟨rfl, rfl⟩ | ⟨rfl, rfl⟩
   · go_wp2
     exact ⟨⟨.inr ⟨rfl, rfl⟩, trivial⟩, by simp [Go.RowKit.intOf]⟩
   · go_upto_region 8 with (fail)
     have hw1 : IntKind.i64.wrap 2 = 2 := by decide
     obtain ⟨hoc, hof⟩ := HO1.out.cell hbg
     have hrl := (HO1.out.row bn hbg).lt
     obtain ⟨hrc, hrf⟩ := (HO1.out.row bn hbg).cell hj
     have hcc : 32 ≤ gs[bn].2 ∧ gs[bn].2 ≤ 9223372036854775807 := by obtain ⟨_, _, _, _, h1, h2, _⟩ := HO1.out.row bn hbg; exact ⟨h1, h2⟩
     have HSTR := Lib.hid (HO1.out.store hbg hj (x := 0) (by omega))
     have HMEM := Lib.hid (show gs[bn].1 ∈ gs.map (·.1) from List.mem_map.2 ⟨_, List.getElem_mem hbg, rfl⟩)
     generalize gs[bn] = gc at *
     obtain ⟨rb, rc⟩ := gc
     simp only at hoc hrl hrc hrf hcc HSTR HMEM
     have HS : At (fun w' : World => w'.cell? ⟨g, bn, none⟩ = some (.slice (some ⟨rb, 0, none⟩) 32 rc) ∧ w'.cell? ⟨yb, yo + 2, none⟩ = some (.int .i64 (j2 : Int))) W1.drew := ⟨hoc, y1b⟩
     have hrcd : W1.drew.cell? ⟨rb, j2, none⟩ = some (.int .u8 ((nth Dout bn).getD j2 0)) := hrc
     have hrfd : W1.drew.frozen? ⟨rb, j2, none⟩ = false := hrf
     have HSTd : Hid (Wr B (W1.drew.setCell ⟨rb, j2, none⟩ (.int .u8 0)) g n c0 (Dout.set bn ((nth Dout bn).set j2 0)) gs) := Lib.hid (HSTR.out.same rfl (fun _ _ => rfl))
     have HFR : Hid (Fr (rowsOf gs) w (W1.drew.setCell ⟨rb, j2, none⟩ (.int .u8 0))) := Lib.hid (Fr.setCell (S := rowsOf gs) (fr_of_below HB1.out.drew _) (p := ⟨rb, j2, none⟩) (.inl HMEM.out) _)
     clear hoc hof hrc hrf HSTR y1b
     refine wp_region_lexD HS [0, 1, 2, 3, 4, 5, 6, 7, 8, 9, 10] (by kernel_rfl) (by kernel_rfl) (fun _ _ d _ _ h => by cases d <;> exact h) ?_
     generalize W1.drew = Wd at *
     repeat (refine lexD_take (by decide) (by kernel_rfl) HS (fun w9 h9 => by obtain ⟨s0, s1⟩ := h9; go_simp; first | done | rfl) (fun K hK => ?_); go_simp; refine hK _ ?_; clear hK K)
     refine lexD_late (by kernel_rfl) (by kernel_rfl) (fun K hK => ?_)
     go_simp
     refine hK _ _ ?_
     clear hK K
     refine lexD_nil ?_
     go_wp2
     go_end0
     exact ⟨rfl, HSTd.out, HFR.out⟩
end Go.Proofs.Ytcgfoaihfncppaa
/- Walks of big: blank (of the program), and what Cut does, plainly. -/
set_option linter.unusedSimpArgs false
set_option linter.unusedVariables false
namespace Go.Sel.Bg
open Go.RowKit Go.Sel Go.Sel.Gra
def blankB (row : List Int) : Bool := row.all fun x => decide (x = 0)
/-- The image, the eight numbers, what is free. -/
structure CutS where
  out : List (List Int)
  l : List Int
  free : List Int
def stepA (D : List (List Int)) (t : List Int) (k : Nat) (s : CutS) (p : Nat) : CutS := if p < k then s else ⟨clrD D t s.out p, clrT s.l p, s.free ++ [atK D t p]⟩
def cutA (D : List (List Int)) (t : List Int) (k j : Nat) : CutS := ((plN D t).take j).foldl (stepA D t k) ⟨D, t, []⟩
def stepB (D : List (List Int)) (n : Int) (s : CutS) (i : Nat) : CutS :=
  if (nth D n.toNat).getD i 0 ≠ 0 ∧ blankB (nth s.out ((nth D n.toNat).getD i 0).toNat) = true then ⟨s.out.set n.toNat ((nth s.out n.toNat).set i 0), s.l, s.free ++ [(nth D n.toNat).getD i 0]⟩ else s
def cutB (D : List (List Int)) (s : CutS) (j : Nat) : CutS := if tp s.l 7 = 0 then s else (List.range j).foldl (stepB D (tp s.l 7)) s
def stepC (s : CutS) (q : Nat) : CutS := if tp s.l q ≠ 0 ∧ blankB (nth s.out (tp s.l q).toNat) = true then ⟨s.out, s.l.set q 0, s.free ++ [tp s.l q]⟩ else s
def cutL (D : List (List Int)) (t : List Int) (k : Nat) : CutS := stepC (stepC (cutB D (cutA D t k (plN D t).length) 32) 6) 7
end Go.Sel.Bg
namespace Go.Proofs.Ytcgfoaihfncppaa
open Go.RowKit Go.Sel Go.Sel.Gra Go.Sel.Bg Go.Sel.Mer Go.Shelf

theorem blank1_any (x : Int) (w : World) : Calls Try.prog 69 #[.int .u8 x] w fun e w' => e = .returned (.bool (x != 0)) ∧ w' = w := by
  go_enter Try.func69, Try.ntmps69
  go_wp2
  go_ret
  exact ⟨rfl, rfl⟩
set_option maxHeartbeats 1000000 in
theorem IndexFuncBy_any (A : Option Addr) (n c : Nat) (xs : List Int) (w : World) (ha : Rd w A n c (iv .u8 xs)) (hn : xs.length = n) :
    Calls Try.prog 82 #[.slice A n c, .func (.func 69) #[] #[]] w fun e w' => (∃ i : Int, e = .returned (.int .i64 i) ∧ decide (0 ≤ i) = !blankB xs) ∧ w' = w := by
  have HA := Lib.hid ha
  have HN := Lib.hid hn
  have l1 := ha.le
  have l2 := ha.cap
  clear ha hn
  go_enter Try.func82, Try.ntmps82
  go_wp2
  go_loopw [5, 8] (fun _ v wr => ∃ k : Nat, k ≤ n ∧ v = .int .i64 k ∧ Hid (∀ j (h : j < xs.length), j < k → xs[j] = 0) ∧ wr = w) (fun _ v _ => n - (Go.RowKit.intOf v).toNat)
  case atStart => exact ⟨0, by omega, rfl, Lib.hid (fun j h hj => by omega), rfl⟩
  case round =>
    obtain ⟨k, hk, rfl, hz, rfl⟩ := hrel
    by_cases hlt : k < n
    · have hxl : k < xs.length := by have := HN.out; omega
      obtain ⟨b, off, rfl, _, hc⟩ := HA.out.form (by simp; omega)
      have hck := hc k (by simpa using hxl)
      rw [iv_at] at hck
      have HXM := Lib.hid (List.getElem_mem hxl)
      have HXK : Hid (∀ y, xs[k] = y → xs[k] = y) := Lib.hid fun y h => h
      clear hc
      generalize hx : xs[k] = x at *
      have HX := Lib.hid hx
      have HC := Lib.hid (blank1_any x wr)
      clear hx
      by_cases h0 : x = 0
      · subst h0
        have HC0 : Hid (Calls Try.prog 69 #[.int .u8 0] wr fun e w' => e = .returned (.bool false) ∧ w' = wr) := HC
        go_wp2_with (go_at_call 69; refine HC0.out.mono ?_; rintro e w' ⟨rfl, rfl⟩)
        refine ⟨⟨k + 1, by omega, by go_num, fun j h hj => ?_, by simp⟩, by simp [Go.RowKit.intOf]; omega⟩
        by_cases hjk : j = k
        · subst hjk; exact HX.out
        · exact hz.out j h (by omega)
      · have hne : (x != 0) = true := by simpa using h0
        have HC0 : Hid (Calls Try.prog 69 #[.int .u8 x] wr fun e w' => e = .returned (.bool true) ∧ w' = wr) := Lib.hid (by rw [← hne]; exact HC.out)
        have HB : Hid (blankB xs = false) := Lib.hid (by
          unfold blankB
          rw [List.all_eq_false]
          exact ⟨x, HXM.out, by simpa using h0⟩)
        clear h0 hne HC
        go_wp2_with (go_at_call 69; refine HC0.out.mono ?_; rintro e w' ⟨rfl, rfl⟩)
        go_ret
        exact ⟨⟨k, rfl, by rw [HB.out]; simp⟩, rfl⟩
    · have HB : Hid (blankB xs = true) := Lib.hid (by
        unfold blankB
        rw [List.all_eq_true]
        intro y hy
        obtain ⟨j, hj, rfl⟩ := List.mem_iff_getElem.1 hy
        simpa using hz.out j hj (by have := HN.out; omega))
      go_wp2
      go_ret
      exact ⟨⟨-1, rfl, by rw [HB.out]; simp⟩, rfl⟩
theorem blankP_any (A : Option Addr) (n c : Nat) (xs : List Int) (w : World) (ha : Rd w A n c (iv .u8 xs)) (hn : xs.length = n) : Calls Try.prog 51 #[.slice A n c] w fun e w' => e = .returned (.bool (blankB xs)) ∧ w' = w := by
  have HI := Lib.hid (IndexFuncBy_any A n c xs w ha hn)
  have HC : Hid (Calls Try.prog 68 #[.slice A n c, .func (.func 69) #[] #[]] w fun e w' => e = .returned (.bool (!blankB xs)) ∧ w' = w) := Lib.hid (by
    clear ha hn
    go_enter Try.func68, Try.ntmps68
    go_wp2_with (go_at_call 82; refine HI.out.mono ?_; rintro e w' ⟨⟨i, rfl, hi⟩, rfl⟩; have HH := Lib.hid hi; clear hi)
    go_ret
    exact ⟨ret_bool HH.out, rfl⟩)
  clear ha hn HI
  generalize blankB xs = b at *
  go_enter Try.func51, Try.ntmps51
  go_wp2_with (go_at_call 68; refine HC.out.mono ?_; rintro e w' ⟨rfl, rfl⟩)
  go_ret
  exact ⟨by simp, rfl⟩
end Go.Proofs.Ytcgfoaihfncppaa
/- Walks of big: clear, in all cases; what Cut's first part does, plainly. -/
set_option linter.unusedSimpArgs false
set_option linter.unusedVariables false
namespace Go.Sel.Bg
open Go.RowKit Go.Sel Go.Sel.Gra
theorem take_getD {α : Type} (z : α) : ∀ (l : List α) (j : Nat), j < l.length → l.take (j + 1) = l.take j ++ [l.getD j z]
  | [], j, h => by simp at h
  | x :: l, 0, h => by simp
  | x :: l, j + 1, h => by
    have := take_getD z l j (by simpa using h)
    simp only [List.take_succ_cons, List.cons_append, List.getD_cons_succ]
    rw [this]
theorem cutA_succ {D : List (List Int)} {t : List Int} {k j : Nat} (h : j < (plN D t).length) : cutA D t k (j + 1) = stepA D t k (cutA D t k j) ((plN D t).getD j 0) := by
  unfold cutA
  rw [take_getD 0 _ j h, List.foldl_append]
  rfl
theorem clrT_len (l : List Int) (p : Nat) : (clrT l p).length = l.length := by unfold clrT; split <;> simp
theorem clrD_len (D : List (List Int)) (t : List Int) (out : List (List Int)) (p : Nat) : (clrD D t out p).length = out.length := by unfold clrD; split <;> simp
theorem cutA_size {D : List (List Int)} {t : List Int} {k : Nat} : ∀ j, j ≤ (plN D t).length → (cutA D t k j).out.length = D.length ∧ (cutA D t k j).l.length = t.length ∧ (cutA D t k j).free.length ≤ j
  | 0, _ => ⟨rfl, rfl, Nat.le_refl _⟩
  | j + 1, h => by
    have ih := cutA_size (D := D) (t := t) (k := k) j (by omega)
    rw [cutA_succ (D := D) (t := t) (k := k) (j := j) (by omega)]
    unfold stepA
    split
    · exact ⟨ih.1, ih.2.1, by omega⟩
    · simp only [clrD_len, clrT_len, List.length_append, List.length_cons, List.length_nil]
      exact ⟨ih.1, ih.2.1, by omega⟩
/-- The block that a place's pointer stands in. -/
theorem par_pos {D : List (List Int)} {t : List Int} (hR : Rt D t) {p : Nat} (hp : p < 1062) (h6 : ¬ p < 6) (hat : atK D t p ≠ 0) : 0 < val D t (par (posK p)) ∧ val D t (par (posK p)) < D.length := by
  have hl := posK_lt hp
  have h8 : 8 ≤ posK p := by
    by_cases h38 : p < 38
    · have := (posK_mid h6 h38).1; omega
    · have := (posK_hi h38).1; unfold lf at this; omega
  have hpl := par_lt h8 hl
  have hb := hR.2.1 (par (posK p)) (by omega)
  unfold atK at hat
  rw [val_par _ _ h8 hl] at hat
  have hne : val D t (par (posK p)) ≠ 0 := fun e => hat (by rw [if_pos e])
  omega
end Go.Sel.Bg
namespace Go.Proofs.Ytcgfoaihfncppaa
open Go.RowKit Go.Sel Go.Sel.Gra Go.Sel.Bg Go.Sel.Mer Go.Shelf

theorem clear_any (vb lb g n c0 c : Nat) (A : Option Addr) (D : List (List Int)) (t l : List Int) (out : List (List Int)) (gs : List (Nat × Nat)) (B p : Nat) (Aw : Option Addr) (cw : Nat) (T : TypeId) (w : World) (hp : p < 1062) (hat : atK D t p ≠ 0) (hR : Rt D t) (ht : t.length = 8) (hl : l.length = 8)
    (hv0 : w.cell? ⟨vb, 0, none⟩ = some (.slice A n c)) (hvt : ∀ j, j < 8 → w.cell? ⟨vb, j + 1, none⟩ = some (.int .i64 (tp t j))) (hD : Bp w A n c D) (hL : w.heap[lb]? = some (.cells (iv .i64 l).toArray T (0, 0))) (hO : Wr B w g n c0 out gs) (hw : Rd w Aw (wayL p).length cw (iv .i64 (wayL p))) (hlg : lb ≠ g) (hlr : ¬ rowsOf gs lb) :
    Calls Try.prog 50 #[.pointer (some ⟨vb, 0, none⟩), .slice (some ⟨g, 0, none⟩) n c0, .pointer (some ⟨lb, 0, none⟩), .slice Aw (wayL p).length cw] w fun e w' => e = .returned (.tuple #[]) ∧ w'.heap[lb]? = some (.cells (iv .i64 (clrT l p)).toArray T (0, 0)) ∧ Wr B w' g n c0 (clrD D t out p) gs ∧ Fr (fun x => x = lb ∨ rowsOf gs x) w w' := by
  have hlb := (Array.getElem?_eq_some_iff.1 hL).1
  have hn := hD.len
  by_cases h6 : p < 6
  · have e1 : wayL (p : Int) = [(p : Int)] := by unfold wayL; rw [if_pos (by omega)]
    rw [e1] at hw ⊢
    refine (clear_1 vb lb (some ⟨g, 0, none⟩) n c0 l hl p h6 Aw cw T w hL hw).mono ?_
    rintro e w' ⟨rfl, h1, hF⟩
    refine ⟨rfl, by rw [clrT, if_pos h6]; exact h1, by rw [clrD, if_pos h6]; exact hO.same (hF.block g hO.lt (fun e => hlg e.symm)) (fun b hb => hF.block b (hO.mem_lt hb).1 (fun e => hlr (e ▸ hb))), hF.mono fun k _ h => .inl h⟩
  · obtain ⟨hp0, hp1⟩ := par_pos hR hp h6 hat
    by_cases h38 : p < 38
    · obtain ⟨e, ep, es⟩ := posK_mid h6 h38
      rw [ep, val_top _ _ (by omega)] at hp0 hp1
      obtain ⟨bn, hbn⟩ : ∃ bn : Nat, tp t 6 = (bn : Int) := ⟨(tp t 6).toNat, by omega⟩
      have e1 : wayL (p : Int) = [6, ((p - 6 : Nat) : Int)] := by unfold wayL; rw [if_neg (by omega), if_pos (by omega)]; congr 2; omega
      rw [e1] at hw ⊢
      have hv := hvt 6 (by omega)
      rw [hbn] at hv
      refine (clear_2 vb g n c0 (.pointer (some ⟨lb, 0, none⟩)) out gs B bn (p - 6) (by omega) (by omega) Aw cw w hv hO hw).mono ?_
      rintro e w' ⟨rfl, h1, hF⟩
      refine ⟨rfl, ?_, ?_, hF.mono fun k _ h => .inr h⟩
      · rw [clrT, if_neg h6]
        exact (hF.block lb hlb hlr).trans hL
      · rw [clrD, if_neg h6, ep, es, val_top _ _ (by omega), hbn]
        exact h1
    · obtain ⟨e, ep, es, hni⟩ := posK_hi h38
      have h7 : tp t 7 ≠ 0 := fun h7 => by
        obtain ⟨l8, ll, lp, ls, li⟩ := lf_at hp
        rw [ep, val_par _ _ l8 ll, lp, val_top _ _ (by omega), if_pos h7] at hp0
        omega
      obtain ⟨an, hae, ha0, haL, har, hav⟩ := leaf_val hR hp h7
      rw [ep] at hp0 hp1
      obtain ⟨bn, hbn⟩ : ∃ bn : Nat, val D t (lf p) = (bn : Int) := ⟨(val D t (lf p)).toNat, by omega⟩
      have e1 : wayL (p : Int) = [7, (((p - 38) / 32 : Nat) : Int), (((p - 38) % 32 : Nat) : Int)] := by
        unfold wayL
        rw [if_neg (by omega), if_neg (by omega)]
        congr 1
        congr 1
        · omega
        · congr 1
          omega
      rw [e1] at hw ⊢
      have hv := hvt 7 (by omega)
      rw [hae] at hv
      refine (clear_3 vb g n c0 (.pointer (some ⟨lb, 0, none⟩)) out gs B an bn ((p - 38) / 32) ((p - 38) % 32) A c D (by omega) (by omega) (by omega) (by omega) Aw cw w hv0 hv hD har (by rw [← hav, hbn]) hO hw).mono ?_
      rintro e w' ⟨rfl, h1, hF⟩
      refine ⟨rfl, ?_, ?_, hF.mono fun k _ h => .inr h⟩
      · rw [clrT, if_neg h6]
        exact (hF.block lb hlb hlr).trans hL
      · rw [clrD, if_neg h6, ep, es, hbn]
        exact h1
end Go.Proofs.Ytcgfoaihfncppaa
/- What Cut does behind clear, plainly: sizes and bounds. -/
set_option linter.unusedSimpArgs false
set_option linter.unusedVariables false
namespace Go.Sel.Bg
open Go.RowKit Go.Sel Go.Sel.Gra
theorem tp_set (l : List Int) (p q : Nat) (x : Int) : tp (l.set p x) q = if p = q ∧ p < l.length then x else tp l q := by
  unfold tp
  rw [List.getD_eq_getElem?_getD, List.getElem?_set]
  by_cases e : p = q
  · subst e
    by_cases h : p < l.length
    · simp [h]
    · simp [h, List.getD_eq_getElem?_getD, List.getElem?_eq_none (by omega : l.length ≤ p)]
  · simp [e, List.getD_eq_getElem?_getD]
theorem cutA_tp {D : List (List Int)} {t : List Int} {k : Nat} : ∀ j, j ≤ (plN D t).length → ∀ q, (6 ≤ q → tp (cutA D t k j).l q = tp t q) ∧ (tp (cutA D t k j).l q = tp t q ∨ tp (cutA D t k j).l q = 0)
  | 0, _, q => ⟨fun _ => rfl, .inl rfl⟩
  | j + 1, h, q => by
    have ih := cutA_tp (D := D) (t := t) (k := k) j (by omega) q
    rw [cutA_succ (D := D) (t := t) (k := k) (j := j) (by omega)]
    unfold stepA
    split
    · exact ih
    · simp only [clrT]
      split
      · rw [tp_set]
        split
        · exact ⟨fun _ => by omega, .inr rfl⟩
        · exact ih
      · exact ih
/-- Eight numbers of blocks of an image of n blocks. -/
def inB (n : Nat) (l : List Int) : Prop := ∀ q, 0 ≤ tp l q ∧ (tp l q).toNat < max 1 n
theorem rt_inB {D : List (List Int)} {t : List Int} (hR : Rt D t) (ht : t.length = 8) : inB D.length t := fun q => by
  by_cases h : q < 8
  · have := hR.2.1 q (by omega)
    rwa [val_top _ _ h] at this
  · have e : tp t q = 0 := by simp [tp, List.getD_eq_getElem?_getD, List.getElem?_eq_none (by omega : t.length ≤ q)]
    rw [e]
    exact ⟨by omega, by simp; omega⟩
theorem cutA_inB {D : List (List Int)} {t : List Int} {k : Nat} (hR : Rt D t) (ht : t.length = 8) (j : Nat) (hj : j ≤ (plN D t).length) : inB D.length (cutA D t k j).l := fun q => by
  rcases (cutA_tp (k := k) j hj q).2 with e | e
  · rw [e]; exact rt_inB hR ht q
  · rw [e]; exact ⟨by omega, by simp; omega⟩
theorem ent_in {D : List (List Int)} {t : List Int} (hR : Rt D t) (h7 : tp t 7 ≠ 0) {i : Nat} (hi : i < 32) : 0 ≤ (nth D (tp t 7).toNat).getD i 0 ∧ ((nth D (tp t 7).toNat).getD i 0).toNat < max 1 D.length := by
  have := hR.2.1 (40 + 33 * i) (by omega)
  rw [val, if_neg (by omega), if_neg (by omega), if_pos (by omega), show (40 + 33 * i - 40) / 33 = i by omega, vD, if_neg h7] at this
  exact this
def cutBj (D : List (List Int)) (x : Int) (s : CutS) (j : Nat) : CutS := (List.range j).foldl (stepB D x) s
theorem cutBj_succ (D : List (List Int)) (x : Int) (s : CutS) (j : Nat) : cutBj D x s (j + 1) = stepB D x (cutBj D x s j) j := by
  unfold cutBj
  rw [List.range_succ, List.foldl_append]
  rfl
theorem cutBj_size (D : List (List Int)) (x : Int) (s : CutS) : ∀ j, (cutBj D x s j).out.length = s.out.length ∧ (cutBj D x s j).l = s.l ∧ (cutBj D x s j).free.length ≤ s.free.length + j
  | 0 => ⟨rfl, rfl, Nat.le_refl _⟩
  | j + 1 => by
    have ih := cutBj_size D x s j
    rw [cutBj_succ]
    unfold stepB
    split
    · simp only [List.length_set, List.length_append, List.length_cons, List.length_nil]
      exact ⟨ih.1, ih.2.1, by omega⟩
    · exact ⟨ih.1, ih.2.1, by omega⟩
def cutCj (s : CutS) (j : Nat) : CutS := (([6, 7] : List Nat).take j).foldl stepC s
theorem cutCj_succ (s : CutS) {j : Nat} (hj : j < 2) : cutCj s (j + 1) = stepC (cutCj s j) (6 + j) := by
  rcases (by omega : j = 0 ∨ j = 1) with rfl | rfl <;> rfl
theorem stepC_size {n : Nat} {s : CutS} {q : Nat} (h : inB n s.l) : inB n (stepC s q).l ∧ (stepC s q).l.length = s.l.length ∧ (stepC s q).out = s.out ∧ (stepC s q).free.length ≤ s.free.length + 1 := by
  unfold stepC
  split
  · refine ⟨fun q' => ?_, by simp, rfl, by simp⟩
    simp only [tp_set]
    split
    · exact ⟨by omega, by simp; omega⟩
    · exact h q'
  · exact ⟨h, rfl, rfl, by omega⟩
theorem cutCj_size {n : Nat} {s : CutS} (h : inB n s.l) : ∀ j, j ≤ 2 → inB n (cutCj s j).l ∧ (cutCj s j).l.length = s.l.length ∧ (cutCj s j).out = s.out ∧ (cutCj s j).free.length ≤ s.free.length + j
  | 0, _ => ⟨h, rfl, rfl, Nat.le_refl _⟩
  | j + 1, hj => by
    have ih := cutCj_size h j (by omega)
    rw [cutCj_succ s (by omega)]
    have h1 := stepC_size (q := 6 + j) ih.1
    exact ⟨h1.1, h1.2.1.trans ih.2.1, h1.2.2.1.trans ih.2.2.1, by omega⟩
theorem cutCj_two (s : CutS) : cutCj s 2 = stepC (stepC s 6) 7 := rfl
theorem cutL_eq (D : List (List Int)) (t : List Int) (k : Nat) : cutL D t k = cutCj (if tp (cutA D t k (plN D t).length).l 7 = 0 then cutA D t k (plN D t).length else cutBj D (tp (cutA D t k (plN D t).length).l 7) (cutA D t k (plN D t).length) 32) 2 := by
  rw [cutCj_two]
  unfold cutL cutB cutBj
  rfl
end Go.Sel.Bg
