/- Walks of what big needs: slices, merge.copied, patch. Printed by gen_bg5.py. -/
import Derived.Test.YtcgfoaihfncppaaKBg4
import Derived.Lib.BufferWrite
import Derived.IntWalk
import Derived.Deep.RegionHeld
set_option linter.unusedSimpArgs false
set_option linter.unusedVariables false
namespace Go.Proofs.Ytcgfoaihfncppaa
open Go.RowKit Go.Sel Go.Sel.Gra Go.Sel.Mer Go.Shelf

theorem any_at (p : Int → Bool) (xs : List Int) (k : Nat) (h : k < xs.length) (hx : p xs[k] = true) : xs.any p = true := by
  rw [List.any_eq_true]; exact ⟨_, List.getElem_mem h, hx⟩
theorem any_none (p : Int → Bool) (xs : List Int) (h : ∀ j (h : j < xs.length), p xs[j] = false) : xs.any p = false := by
  rw [List.any_eq_false]
  intro x hx
  obtain ⟨j, hj, rfl⟩ := List.mem_iff_getElem.1 hx
  simp [h j hj]

/-- What a function value that tells is asked: from w on it only draws. -/
def Tells (g : Nat) (lb : Array Value) (p : Int → Bool) (xs : List Int) (w : World) : Prop :=
  ∀ x ∈ xs, ∀ q, Calls Try.prog g (#[.int .i64 x] ++ lb) (w.drewN q) fun e w' => e = .returned (.bool (p x)) ∧ ∃ q', w' = (w.drewN q).drewN q'

set_option maxHeartbeats 1000000 in
theorem IndexFunc_any (g : Nat) (lb : Array Value) (eg : ∀ args w, (callFunc g args).run Try.prog w = .ok (.enter g args) w) (p : Int → Bool) (A : Option Addr) (n c : Nat) (xs : List Int) (w : World) (ha : Rd w A n c (iv .i64 xs)) (hn : xs.length = n) (hp : Tells g lb p xs w) :
    Calls Try.prog 75 #[.slice A n c, .func (.func g) #[] lb] w fun e w' => (∃ i : Int, e = .returned (.int .i64 i) ∧ decide (0 ≤ i) = xs.any p) ∧ ∃ q, w' = w.drewN q := by
  have HA := Lib.hid ha
  have HN := Lib.hid hn
  have HP := Lib.hid hp
  have l1 : n ≤ 9223372036854775807 := by have := ha.le; have := ha.cap; omega
  clear ha hn hp
  go_enter Try.func75, Try.ntmps75
  go_wp2
  go_loopw [5, 8] (fun _ v wr => ∃ k : Nat, k ≤ n ∧ v = .int .i64 k ∧ Hid (∀ j (h : j < xs.length), j < k → p xs[j] = false) ∧ ∃ q, wr = w.drewN q) (fun _ v _ => n - (Go.RowKit.intOf v).toNat)
  case atStart => exact ⟨0, by omega, rfl, Lib.hid (fun j h hj => by omega), 0, rfl⟩
  case round =>
    obtain ⟨k, hk, rfl, hz, q, rfl⟩ := hrel
    by_cases hlt : k < n
    · have hxl : k < xs.length := by have := HN.out; omega
      obtain ⟨b, off, rfl, _, hc⟩ := HA.out.form (by simp; omega)
      have hck := hc k (by simpa using hxl)
      rw [iv_at] at hck
      clear hc
      have hcall := HP.out xs[k] (List.getElem_mem hxl) q
      have HK : Hid (p xs[k] = p xs[k]) := Lib.hid rfl
      cases hq : p xs[k] with
      | true =>
        rw [hq] at hcall
        have HQ := Lib.hid hq
        clear hq HK
        go_wp2_with (go_at_fn g; refine hcall.mono ?_; rintro e w' ⟨rfl, q', rfl⟩)
        go_ret
        exact ⟨⟨k, rfl, by rw [any_at p xs k hxl HQ.out]; simp⟩, ⟨_, rfl⟩⟩
      | false =>
        rw [hq] at hcall
        have HQ := Lib.hid hq
        clear hq HK
        go_wp2_with (go_at_fn g; refine hcall.mono ?_; rintro e w' ⟨rfl, q', rfl⟩)
        refine ⟨⟨k + 1, by omega, by go_num, fun j h hj => ?_, ⟨_, rfl⟩⟩, by simp [Go.RowKit.intOf]; omega⟩
        by_cases hjk : j = k
        · subst hjk; exact HQ.out
        · exact hz.out j h (by omega)
    · go_wp2
      go_ret
      exact ⟨⟨-1, rfl, by rw [any_none p xs (fun j h => hz.out j h (by have := HN.out; omega))]; simp⟩, q, rfl⟩
theorem ContainsFunc_any (g : Nat) (lb : Array Value) (eg : ∀ args w, (callFunc g args).run Try.prog w = .ok (.enter g args) w) (p : Int → Bool) (A : Option Addr) (n c : Nat) (xs : List Int) (w : World) (ha : Rd w A n c (iv .i64 xs)) (hn : xs.length = n) (hp : Tells g lb p xs w) :
    Calls Try.prog 55 #[.slice A n c, .func (.func g) #[] lb] w fun e w' => e = .returned (.bool (xs.any p)) ∧ ∃ q, w' = w.drewN q := by
  have HC : Hid (Calls Try.prog 75 #[.slice A n c, .func (.func g) #[] lb] w fun e w' => (∃ i : Int, e = .returned (.int .i64 i) ∧ decide (0 ≤ i) = xs.any p) ∧ ∃ q, w' = w.drewN q) := IndexFunc_any g lb eg p A n c xs w ha hn hp
  clear ha hn hp eg
  go_enter Try.func55, Try.ntmps55
  go_wp2_with (go_at_call 75; refine HC.out.mono ?_; rintro e w' ⟨⟨i, rfl, hi⟩, q, rfl⟩; have HI := Lib.hid hi; clear hi)
  go_ret
  exact ⟨ret_bool HI.out, q, rfl⟩

def IdxPost (xs : List Int) (x : Int) (w : World) (e : Ending) (w' : World) : Prop := ∃ i : Int, e = .returned (.int .i64 i) ∧ decide (0 ≤ i) = decide (x ∈ xs) ∧ w' = w
set_option maxHeartbeats 1000000 in
theorem Index_any (A : Option Addr) (n c : Nat) (xs : List Int) (x : Int) (w : World) (ha : Rd w A n c (iv .i64 xs)) (hn : xs.length = n) :
    Calls Try.prog 76 #[.slice A n c, .int .i64 x] w (IdxPost xs x w) := by
  have HA := Lib.hid ha
  have HN := Lib.hid hn
  have l1 := ha.le
  have l2 := ha.cap
  clear ha hn
  go_enter Try.func76, Try.ntmps76
  go_wp2
  go_loop [5, 8] (fun _ v => ∃ k : Nat, k ≤ n ∧ v = .int .i64 k ∧ Hid (∀ j (h : j < xs.length), j < k → xs[j] ≠ x)) (fun _ v => n - (Go.RowKit.intOf v).toNat)
  case atStart => exact ⟨0, by omega, rfl, Lib.hid (fun j h hj => by omega)⟩
  case round =>
    obtain ⟨k, hk, rfl, hz⟩ := hrel
    by_cases hlt : k < n
    · have hxl : k < xs.length := by have := HN.out; omega
      obtain ⟨b, off, rfl, _, hc⟩ := HA.out.form (by simp; omega)
      have hck := hc k (by simpa using hxl)
      rw [iv_at] at hck
      clear hc
      by_cases hx : xs[k] = x
      · have he : (x == xs[k]) = true := by simpa using hx.symm
        have HX := Lib.hid hx
        clear hx
        go_wp2
        go_ret
        exact ⟨k, rfl, by rw [Bool.eq_iff_iff, decide_eq_true_eq, decide_eq_true_eq, ← HX.out]; exact ⟨fun _ => List.getElem_mem hxl, fun _ => by omega⟩, rfl⟩
      · have he : (x == xs[k]) = false := by simpa using fun e => hx e.symm
        have HX := Lib.hid hx
        clear hx
        go_wp2
        refine ⟨⟨k + 1, by omega, by go_num, fun j h hj => ?_⟩, by simp [Go.RowKit.intOf] <;> omega⟩
        by_cases hjk : j = k
        · subst hjk; exact HX.out
        · exact hz.out j h (by omega)
    · go_wp2
      go_ret
      refine ⟨-1, rfl, ?_, rfl⟩
      symm
      rw [show decide ((0 : Int) ≤ -1) = false from rfl, decide_eq_false_iff_not]
      intro hx
      obtain ⟨j, hj, he⟩ := List.mem_iff_getElem.1 hx
      exact hz.out j hj (by have := HN.out; omega) he
theorem Contains_any (A : Option Addr) (n c : Nat) (xs : List Int) (x : Int) (w : World) (ha : Rd w A n c (iv .i64 xs)) (hn : xs.length = n) :
    Calls Try.prog 57 #[.slice A n c, .int .i64 x] w fun e w' => e = .returned (.bool (decide (x ∈ xs))) ∧ w' = w := by
  have HC : Hid (Calls Try.prog 76 #[.slice A n c, .int .i64 x] w (IdxPost xs x w)) := Index_any A n c xs x w ha hn
  clear ha hn
  go_enter Try.func57, Try.ntmps57
  go_wp2_with (go_at_call 76; refine HC.out.mono ?_; rintro e w' ⟨i, rfl, hi, hw⟩; have hw := hw.symm; subst hw; have HI := Lib.hid hi; clear hi)
  go_ret
  exact ⟨ret_bool HI.out, rfl⟩

theorem infoU8 : (Try.prog.info? 5).map (fun i => (i.zero, i.size, i.bytes)) = some (some (.int .u8 0), 1, 1) := by kernel_rfl
theorem infoBytes : (Try.prog.info? 45).map (fun i => (i.zero, i.size, i.bytes)) = some (some (.slice none 0 0), 1, 24) := by kernel_rfl

set_option maxRecDepth 100000 in
set_option maxHeartbeats 1000000 in
theorem CloneB_any (A : Option Addr) (n c : Nat) (xs : List Int) (w : World) (hr : Rd w A n c (iv .u8 xs)) (hl : xs.length = n) (hb : n ≤ 140737488355328) :
    Calls Try.prog 85 #[.slice A n c] w fun e w' => (∃ A' c', e = .returned (.slice A' n c') ∧ Rd w' A' n c' (iv .u8 xs)) ∧ Below w.heap.size w w' := by
  cases A with
  | none =>
    have hx : xs = [] := by
      rcases hr.at_ with h | ⟨b, off, h, _⟩
      · simpa [iv] using h
      · cases h
    subst hx
    simp only [List.length_nil] at hl
    subst hl
    clear hr
    have he := fun (w : World) => run_eql_sl (P := Try.prog) w 45 5 none 0 c Try.underlying45
    go_enter Try.func85, Try.ntmps85
    go_wp2
    go_ret
    exact ⟨⟨none, 0, rfl, Rd.nil (by omega)⟩, Below.refl _ _⟩
  | some a =>
    obtain ⟨v', w1, hrun, hown, hg, hat⟩ := run_extend (P := Try.prog) (w := w.alloc (.cells #[] 5)) w.heap.size 45 45 5 (.int .u8 0) 1 Try.underlying45 infoU8 rfl _ 0 [] (own_empty w 5 w.heap.size (Nat.le_refl _)) (some a) n c (iv .u8 xs) (hr.alloc _) (by simpa using hl) (one_iv _ _) (by simp only [maxLen]; omega) (by omega) (by simp)
    have HO := Lib.hid hown
    have HB : Hid (Below w.heap.size w w1) := below_grown (below_al w _) hg (by simp) (fun k hk => by simp [Value.ownBlock] at hk; omega)
    have HR := Lib.hid hrun
    have he := fun (w : World) => run_eql_sl (P := Try.prog) w 45 5 (some a) n c Try.underlying45
    simp only [Option.isNone_some] at he
    clear hr hl hown hg hat hrun hb
    go_enter Try.func85, Try.ntmps85
    go_wp2_with (at_builtin; refine wpList_append_run rfl _ _ _ _ rfl _ _ _ rfl rfl HR.out ?_)
    go_ret
    obtain ⟨A', c', rfl, _, hr'⟩ := rd_own HO.out
    simp only [Nat.zero_add, List.nil_append] at hr'
    exact ⟨⟨A', c', by simp, hr'⟩, HB.out⟩

/-- The first k rows, and empty ones. -/
def upB (D : List (List Int)) (n k : Nat) : List (List Int) := D.take k ++ List.replicate (n - k) []
theorem upB_length {D : List (List Int)} {n k : Nat} (h : D.length = n) (hk : k ≤ n) : (upB D n k).length = n := by simp [upB]; omega
theorem upB_all {D : List (List Int)} {n : Nat} (h : D.length = n) : upB D n n = D := by simp [upB, ← h]
theorem upB_set {D : List (List Int)} {n k : Nat} (h : D.length = n) (hk : k < n) : (upB D n k).set k (nth D k) = upB D n (k + 1) := by
  have e : nth D k = D[k] := by simp [nth, List.getD_eq_getElem?_getD, show k < D.length by omega]
  apply List.ext_getElem?
  intro j
  unfold upB
  rw [e, List.getElem?_set]
  have hl : (D.take k).length = k := by simp; omega
  have hl1 : (D.take (k + 1)).length = k + 1 := by simp; omega
  by_cases hj : k = j
  · subst hj
    rw [if_pos rfl, if_pos (by simp; omega), List.getElem?_append_left (by omega), List.getElem?_take_of_lt (by omega), List.getElem?_eq_getElem (by omega)]
  · rw [if_neg hj]
    by_cases h1 : j < k
    · rw [List.getElem?_append_left (by omega), List.getElem?_append_left (by omega), List.getElem?_take_of_lt h1, List.getElem?_take_of_lt (by omega)]
    · rw [List.getElem?_append_right (by omega), List.getElem?_append_right (by omega), hl, hl1, List.getElem?_replicate, List.getElem?_replicate]
      by_cases h2 : j < n
      · rw [if_pos (by omega), if_pos (by omega)]
      · rw [if_neg (by omega), if_neg (by omega)]

set_option maxRecDepth 100000 in
set_option maxHeartbeats 2000000 in
theorem copied_any (A : Option Addr) (n c : Nat) (D : List (List Int)) (w : World) (hD : Bp w A n c D) (hn : n ≤ 1000) (hs : ∀ i, i < n → (nth D i).length ≤ 140737488351232) :
    Calls Try.prog 77 #[.slice A n c] w fun e w' => (∃ A' c', e = .returned (.slice A' n c') ∧ Wb w.heap.size w' A' n c' D) ∧ Below w.heap.size w w' := by
  have HD := Lib.hid hD
  have HN := Lib.hid hD.len
  have HS := Lib.hid hs
  have l1 := hD.le
  have l2 := hD.cap
  have hmk := fun (w : World) => run_makeN (P := Try.prog) 33 45 (.slice none 0 0) 24 Try.underlying33 infoBytes rfl n (by omega) (by omega) w
  clear hD hs
  go_enter Try.func77, Try.ntmps77
  go_wp2
  go_loopw [11] (fun v wr => ∃ k : Nat, k ≤ n ∧ v = .int .i64 k ∧ Hid (Wb w.heap.size wr (some ⟨w.heap.size, 0, none⟩) n n (upB D n k)) ∧ Hid (Below w.heap.size w wr)) (fun v _ => n - (Go.RowKit.intOf v).toNat)
  case atStart =>
    refine ⟨0, by omega, rfl, ⟨List.replicate n (none, 0, 0), upB_length HN.out (by omega), by simp, Nat.le_refl _, by omega, .inr ⟨w.heap.size, _, _, rfl, Nat.le_refl _, blk11 w _, fun j hj => ?_⟩, fun j hj => ?_⟩, below_al _ _⟩
    · have : j < n := by simpa using hj
      simp [sv, this]
    · have : j < n := by simpa using hj
      simp [upB, nth, List.getD_eq_getElem?_getD, this, iv, Rd.nil, AllByte]
  case round =>
    obtain ⟨k, hk, rfl, HW, HB⟩ := hrel
    by_cases hlt : k < n
    · obtain ⟨b, off, A', n', c', rfl, hb, hc, hl, hr, hx⟩ := (HD.out.below HB.out).at_ hlt
      have hsz : n' ≤ 140737488351232 := by rw [← hl]; exact HS.out k hlt
      have HX := Lib.hid hx
      have HL := Lib.hid hl
      have HR := Lib.hid hr
      have HZ : Hid (n' ≤ 140737488355328) := by show _ ≤ _; omega
      clear hx hl hr hsz
      go_wp2_with (go_at_call 85; (with_reducible refine (CloneB_any A' n' c' (nth D k) _ HR.out HL.out HZ.out).mono ?_); rintro e w2 ⟨⟨A2, c2, rfl, hr2⟩, hB⟩; obtain ⟨g2, _, _, _, e2, hg2, hz2, hc2, hf2, _⟩ := (HW.out.below hB).at_ hlt; injection e2 with e2; injection e2 with e2; subst e2; have HR2 := Lib.hid hr2; have HW2 := Lib.hid (HW.out.below hB); have HB2 := Lib.hid (below_then HB.out hB); clear hB hr2)
      go_roundw
      case rel => exact ⟨k + 1, by omega, by go_num, by rw [← upB_set HN.out hlt]; exact HW2.out.set hlt HR2.out HL.out HX.out rfl, HW2.out.below_set hlt rfl HB2.out _⟩
      case measure => simp [Go.RowKit.intOf] <;> omega
    · obtain rfl : k = n := by omega
      go_wp2
      go_ret
      have h := HW.out
      rw [upB_all HN.out] at h
      exact ⟨⟨_, _, rfl, h⟩, HB.out⟩

set_option maxHeartbeats 1000000 in
theorem pRight_any (x : It) (w : World) :
    Calls Try.prog 59 #[.agg #[.int .i64 x.b, .int .i64 x.o, .string x.s]] w fun e w' => e = .returned (.bool (prightB x)) ∧ Below w.heap.size w w' := by
  have HE : Hid (∀ b : Bool, (prightB x = true ↔ b = true) → prightB x = b) := fun b h => Bool.eq_iff_iff.2 h
  have HI := Lib.hid (pright_iff (x := x))
  generalize prightB x = r at *
  obtain ⟨b, o, s, ds⟩ := x
  simp only at *
  have hsz : s.toList.isEmpty = decide (s.size = 0) := toList_empty s
  by_cases h1 : b < 0
  · have hr : r = false := HE.out _ (by rw [HI.out]; simp; omega)
    subst hr
    clear hsz
    go_enter Try.func59, Try.ntmps59
    go_wp2
    go_ret
    exact ⟨rfl, below_al _ _⟩
  by_cases h2 : 96 ≤ b
  · have hr : r = false := HE.out _ (by rw [HI.out]; simp; omega)
    subst hr
    clear hsz
    go_enter Try.func59, Try.ntmps59
    go_wp2
    go_ret
    exact ⟨rfl, below_al _ _⟩
  by_cases h3 : o < 0
  · have hr : r = false := HE.out _ (by rw [HI.out]; simp; omega)
    subst hr
    clear hsz
    go_enter Try.func59, Try.ntmps59
    go_wp2
    go_ret
    exact ⟨rfl, below_al _ _⟩
  by_cases h4 : 32 ≤ o
  · have hr : r = false := HE.out _ (by rw [HI.out]; simp; omega)
    subst hr
    clear hsz
    go_enter Try.func59, Try.ntmps59
    go_wp2
    go_ret
    exact ⟨rfl, below_al _ _⟩
  by_cases h5 : s.size = 0
  · have hr : r = false := HE.out _ (by rw [HI.out]; simp; omega)
    subst hr
    have hnil : s.toList = [] := (toList_nil s).2 h5
    have hemp : s.toList.isEmpty = true := by rw [hsz]; simpa using h5
    clear hsz h5
    go_enter Try.func59, Try.ntmps59
    go_wp2
    go_ret
    exact ⟨rfl, below_al _ _⟩
  · have hr : r = decide ((s.size : Int) ≤ 32 - o) := HE.out _ (by rw [HI.out]; simp; omega)
    subst hr
    have hemp : s.toList.isEmpty = false := by rw [hsz]; simpa using h5
    have hnil : (s.toList = []) = False := by simpa [toList_nil] using h5
    clear hsz h5
    go_enter Try.func59, Try.ntmps59
    go_wp2
    go_ret
    exact ⟨rfl, below_al _ _⟩

def z32 : Array Value := (List.replicate 32 (Value.int .u8 0)).toArray
theorem mk32 (w : World) : (Instr.makeSlice 45 (.int .i64 32) (.int .i64 32)).run Try.prog w = .ok (.slice (some ⟨w.heap.size, 0, none⟩) 32 32) (w.alloc (.cells z32 5)) := by kernel_rfl

theorem spl_cells {cs : List Int} (s : ByteArray) (o : Nat) : List.take o (iv .u8 cs) ++ Lib.byteCells s.data.toList ++ List.drop (o + s.size) (iv .u8 cs) = iv .u8 (spl cs o (nums s)) := by
  have e1 : Lib.byteCells s.data.toList = iv .u8 (nums s) := by simp [Lib.byteCells, iv, nums]
  rw [e1]
  simp [iv, spl]

/-- A block's bytes copied into a new one of as many. -/
theorem copy32 (w1 : World) (A : Option Addr) (c : Nat) (cs : List Int) (hr : Rd w1 A 32 c (iv .u8 cs)) (hl : cs.length = 32) :
    ∃ w2, (Builtin.copy_ #[45, 45] 3 #[.slice (some ⟨w1.heap.size, 0, none⟩) 32 32, .slice A 32 c]).run Try.prog (w1.alloc (.cells z32 5)) = .ok (.int .i64 32) w2 ∧
      w2.heap[w1.heap.size]? = some (.cells (iv .u8 cs).toArray 5 (0, 0)) ∧ Below w1.heap.size w1 w2 := by
  obtain ⟨sb, so, rfl, hsb, hcell⟩ := hr.form (by simp; omega)
  have h := run_copy_row (P := Try.prog) (w1.alloc (.cells z32 5)) 45 45 3 5 w1.heap.size 0 32 32 ⟨sb, so, none⟩ 32 c z32 5 (iv .u8 cs) Try.underlying45 (by kernel_rfl) (blk11 w1 _) (by simp [hl])
    (fun j v hj => by
      obtain ⟨hj', hv⟩ := List.getElem?_eq_some_iff.1 hj
      have ha : (⟨sb, so, none⟩ : Addr).add j = ⟨sb, so + j, none⟩ := by unfold Addr.add; split <;> simp_all
      rw [ha, ← hv]
      exact keep_cell (hcell j hj') (below_al _ _)) (by simp [hl, z32]) (one_iv _ _)
  have e : (List.take 0 z32.toList ++ iv .u8 cs ++ List.drop (0 + (iv .u8 cs).length) z32.toList).toArray = (iv .u8 cs).toArray := by simp [hl, z32]
  rw [e] at h
  refine ⟨(w1.alloc (.cells z32 5)).setRow w1.heap.size (iv .u8 cs).toArray, ?_, blk_row (blk11 w1 (.cells z32 5)), below_setRow (below_al w1 _) (Nat.le_refl _) _⟩
  rw [h]
  simp [hl, goInt]
theorem rd_list {w : World} {b : Nat} {l : List Value} {e : TypeId} {fr : Nat × Nat} {cs : List Value} (h : w.heap[b]? = some (.cells l.toArray e fr)) (hl : l = cs) (n : Nat) (hn : n ≤ 9223372036854775807) : Rd w (some ⟨b, 0, none⟩) n n cs := by
  subst hl
  exact rd_block h n n l 0 (Nat.le_refl _) hn fun j hj => by simp
theorem blk1 (w : World) (x : It) : (w.alloc (.cells #[.int .i64 x.b, .int .i64 x.o, .string x.s] 73)).heap[w.heap.size]? = some (.cells #[.int .i64 x.b, .int .i64 x.o, .string x.s] 73 (0, 0)) := blk11 w _

set_option maxRecDepth 100000 in
set_option maxHeartbeats 2000000 in
theorem Apply_no (x : It) (A : Option Addr) (n c : Nat) (w : World) (hn : n ≤ 9223372036854775807) (h : ¬ (n = 32 ∧ prightB x = true)) :
    Calls Try.prog 34 #[.slice A n c, .agg #[.int .i64 x.b, .int .i64 x.o, .string x.s]] w fun e w' => e = .returned (.tuple #[.slice none 0 0, .int .i64 3]) ∧ Below w.heap.size w w' := by
  have HP := Lib.hid (fun wx => pRight_any x wx)
  by_cases hn : n = 32
  · subst hn
    have hp : prightB x = false := by simpa using h
    have q0 : (((32 : Nat) : Int) != 32) = false := by decide
    have HF := Lib.hid hp
    clear h hp
    go_enter Try.func34, Try.ntmps34
    go_wp2_with (go_at_call 59; (with_reducible refine (HP.out _).mono ?_); rintro e w1 ⟨rfl, hB⟩; rw [HF.out]; have HB := Lib.hid ((below_al w (.cells #[.int .i64 x.b, .int .i64 x.o, .string x.s] 73)).trans (hB.mono (by simp))); clear hB)
    go_ret2
    exact ⟨rfl, HB.out⟩
  · have q0 : ((n : Int) != 32) = true := by simp; omega
    clear h
    go_enter Try.func34, Try.ntmps34
    go_wp2
    go_ret2
    exact ⟨rfl, below_al _ _⟩

set_option maxRecDepth 100000 in
set_option maxHeartbeats 4000000 in
theorem Apply_ok (x : It) (A : Option Addr) (c : Nat) (cs : List Int) (w : World) (hr : Rd w A 32 c (iv .u8 cs)) (hl : cs.length = 32) (hp : prightB x = true) :
    Calls Try.prog 34 #[.slice A 32 c, .agg #[.int .i64 x.b, .int .i64 x.o, .string x.s]] w fun e w' => (∃ A', e = .returned (.tuple #[.slice A' 32 32, .int .i64 0]) ∧ Rd w' A' 32 32 (iv .u8 (spl cs x.o.toNat (nums x.s)))) ∧ Below w.heap.size w w' := by
  have HP := Lib.hid (fun wx => pRight_any x wx)
  have hp' := pright_iff.1 hp
  have HT := Lib.hid hp
  obtain ⟨on, hon⟩ : ∃ on : Nat, x.o = (on : Int) := ⟨x.o.toNat, by omega⟩
  have ho : on < 32 := by omega
  have hs : x.s.size ≤ 32 - on := by omega
  have hcap := hr.cap
  obtain ⟨sb, so, rfl, hsb, hcell⟩ := hr.form (by simp; omega)
  have HR := Lib.hid hr
  have HL := Lib.hid hl
  have q0 : (((32 : Nat) : Int) != 32) = false := by decide
  have hmk := mk32
  have hslice := slice_lo (P := Try.prog) (t := 45) (by kernel_rfl) (fun W => by kernel_rfl)
  obtain ⟨xb, xo, xs, xd⟩ := x
  simp only at hon hs
  subst hon
  simp only [Int.toNat_natCast]
  clear hr hl hp hp' hcell
  go_enter Try.func34, Try.ntmps34
  go_wp2_with (first
    | (go_at_call 59; (with_reducible refine (HP.out _).mono ?_); rintro e w1 ⟨rfl, hB⟩; rw [HT.out]; have hbx := blk_below (blk1 w ⟨xb, on, xs, xd⟩) hB (by simp); have HB := Lib.hid ((below_al w (.cells #[.int .i64 xb, .int .i64 on, .string xs] 73)).trans (hB.mono (by simp))); obtain ⟨w2, hc2, hg2, hB2⟩ := copy32 w1 _ c cs (HR.out.below HB.out) HL.out; have hbx2 := blk_below hbx hB2 (Array.getElem?_eq_some_iff.1 hbx).1; have HC := Lib.hid hc2; have HG := Lib.hid hg2; have HX := Lib.hid hbx2; have HB2 := Lib.hid (below_then HB.out hB2); clear hB hbx hc2 hg2 hB2 hbx2)
    | (refine wpList_copy_run rfl _ _ _ _ rfl _ _ _ rfl rfl HC.out ?_))
  have c1 := blk_cell HX.out 1
  have c2 := blk_cell HX.out 2
  simp only [List.getElem?_toArray, List.getElem?_cons_zero, List.getElem?_cons_succ] at c1 c2
  have hsl := hslice w1.heap.size 0 32 32 on (by omega) (by omega)
  clear hslice
  rw [Nat.zero_add] at hsl
  go_still_tail 6, (by kernel_rfl)
  refine wpList_copy_run (w := w2.drew) rfl _ _ _ _ rfl _ _ _ rfl rfl (Lib.run_copy_row_string w2.drew 45 9 _ 5 w1.heap.size on (32 - on) (32 - on) xs _ 5 Try.underlying45 (by kernel_rfl) HG.out (by omega) (by simp [HL.out]; omega)) ?_
  go_wp2
  go_ret2
  exact ⟨⟨_, rfl, rd_list (blk_row (w := w2.drew) HG.out) (by rw [← List.append_assoc]; exact spl_cells xs on) 32 (by omega)⟩, below_setRow HB2.out.drew (by have := HB.out.size; omega) _⟩

end Go.Proofs.Ytcgfoaihfncppaa
