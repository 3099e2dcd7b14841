/- Walks of merge: Expand. -/
import Derived.Test.YtpicagcapgjiaaaMer6
set_option linter.unusedSimpArgs false
set_option linter.unusedVariables false
namespace Go.Proofs.Ytpicagcapgjiaaa
open Go.RowKit Go.Sel Go.Sel.Gra Go.Sel.Mer Go.Shelf

/-- The memory of Expand: what was taken so far. -/
def JE (B obx : Nat) (w1 : World) (xs : List Int) (W : World) : Prop := Fr (· = obx) w1 W ∧ ∃ vo, Bk W obx 23 [vo] ∧ W.ownsRow B 3 1 vo xs.length (iv .i64 xs)

set_option maxHeartbeats 2000000 in
theorem Expand1_any (sbx obx B : Nat) (As : Option Addr) (ns cs : Nat) (s xs : List Int) (g i : Int) (w1 W : World) (hJ : JE B obx w1 xs W) (hB : w1.heap.size = B) (hob : obx < B) (hsb : sbx ≠ obx) (hc : w1.cell? ⟨sbx, 0, none⟩ = some (.slice As ns cs)) (hs : Rd W As ns cs (iv .i64 s)) (hl : s.length = ns) (hx : xs.length ≤ 1000) :
    Calls Try.prog 76 #[.int .i64 g, .int .i64 i, .pointer (some ⟨sbx, 0, none⟩), .pointer (some ⟨obx, 0, none⟩)] W fun e W' => e = .returned (.tuple #[]) ∧ JE B obx w1 (if g ∈ s then xs ++ [i] else xs) W' := by
  obtain ⟨F, vo, hb, hown⟩ := hJ
  have c1 : W.cell? ⟨sbx, 0, none⟩ = some (.slice As ns cs) := (F.cell (p := ⟨sbx, 0, none⟩) hsb hc).trans hc
  have c2 := hb.cell 0 (by simp)
  have c3 := hb.free 0
  simp only [List.getElem_cons_zero] at c2
  have HS := Lib.hid hs
  have HL := Lib.hid hl
  have HO := Lib.hid hown
  have HF := Lib.hid F
  have HBk := Lib.hid hb
  have HB := Lib.hid hB
  have HBW : Hid (B ≤ W.heap.size) := by show _ ≤ _; have := F.size; omega
  have HOLT := Lib.hid hob
  clear hs hl hown F hb hB hc
  have HIN := Lib.hid (rfl : decide (g ∈ s) = decide (g ∈ s))
  cases hin : decide (g ∈ s) with
  | false =>
    have HN : Hid (decide (g ∈ s) = false) := hin
    have e : (if g ∈ s then xs ++ [i] else xs) = xs := if_neg (by simpa using hin)
    rw [e]
    clear hin e HIN
    go_enter Try.func76, Try.ntmps76
    go_wp2_with (go_at_call 74; (with_reducible refine (Contains_any As ns cs s g _ HS.out HL.out).mono ?_); rw [HN.out]; rintro e w2 ⟨rfl, hw⟩; have hw := hw.symm; subst hw)
    go_end0
    exact ⟨rfl, HF.out, vo, HBk.out, HO.out⟩
  | true =>
    have HN : Hid (decide (g ∈ s) = true) := hin
    have e : (if g ∈ s then xs ++ [i] else xs) = xs ++ [i] := if_pos (by simpa using hin)
    rw [e]
    clear hin e HIN
    go_enter Try.func76, Try.ntmps76
    go_wp2_with (first
      | (go_at_call 74; (with_reducible refine (Contains_any As ns cs s g _ HS.out HL.out).mono ?_); rw [HN.out]; rintro e w2 ⟨rfl, hw⟩; have hw := hw.symm; subst hw)
      | (at_builtin; refine wpList_push W rfl (.tmp 9) (.tmp 11) 23 3 rfl B (.int .i64 0) 8 Try.underlying23 infoInt rfl (by omega) vo xs.length (iv .i64 xs) (.int .i64 i) rfl rfl rfl HO.out HBW.out (by omega) rfl ?_; intro g9 cap9 w9 ho9 hg9 hat9 hlt9; have HO9 := Lib.hid ho9; have HG9 := Lib.hid hg9; have hbk9 := hg9.block obx HBk.out.lt (fun e => by have := (own_typed HO.out _ e.symm).1; have := HOLT.out; omega); have HB9 : Hid (Bk w9 obx 23 [vo]) := hbk9.trans HBk.out; have c2 := HB9.out.cell 0 (by simp); have c3 := HB9.out.free 0; simp only [List.getElem_cons_zero] at c2; clear ho9 hg9 hat9 hbk9))
    go_end0
    refine ⟨rfl, ?_, .slice (some ⟨g9, 0, none⟩) (xs.length + 1) cap9, ?_, ?_⟩
    · have F9 : Fr (· = obx) w1 w9 := by
        refine ⟨HG9.out.os.trans HF.out.os, HG9.out.tape.trans HF.out.tape, HG9.out.output.trans HF.out.output, Nat.le_trans HF.out.size HG9.out.size, fun k hk hs => ?_⟩
        have := HF.out.size
        rw [HG9.out.block k (by omega) (fun e => by have := (own_typed HO.out _ e.symm).1; have := HB.out; omega)]
        exact HF.out.block k hk hs
      exact F9.setCell (p := ⟨obx, 0, none⟩) (.inl rfl) _
    · have := HB9.out.set 0 (.slice (some ⟨g9, 0, none⟩) (xs.length + 1) cap9)
      simpa using this
    · have h1 := HO9.out
      have e1 : iv .i64 xs ++ [.int .i64 i] = iv .i64 (xs ++ [i]) := by simp [iv]
      rw [e1] at h1
      rw [List.length_append]
      exact own_setCell h1 (p := ⟨obx, 0, none⟩) HOLT.out _

theorem exp_step {L : List It} {s : List Int} {a t : Nat} {x : Int} (hx : (rowOf (gls L L.length) a)[t]? = some x) : expK (gls L L.length) s a (t + 1) = if (a : Int) ∈ s then expK (gls L L.length) s a t ++ [x] else expK (gls L L.length) s a t := by
  obtain ⟨ht, hx'⟩ := List.getElem?_eq_some_iff.1 hx
  unfold expK
  split
  · rw [List.take_succ_eq_append_getElem ht, hx', List.append_assoc]
  · rfl

theorem groups_facts (L : List It) : (groupsL L).length ≤ 1000 ∧ (mrightB L = false → (groupsL L).length = 0) ∧ (mrightB L = true → groupsL L = groupsK L L.length) := by
  by_cases hr : mrightB L = true
  · have e : groupsL L = groupsK L L.length := by rw [groupsL, if_pos hr]
    refine ⟨?_, (fun h => by rw [hr] at h; cases h), fun _ => e⟩
    rw [e, groupsK_length]
    have := cnt_le L L.length
    have := (mright_iff.1 hr).1
    omega
  · have e : groupsL L = [] := by rw [groupsL, if_neg hr]
    exact ⟨by rw [e]; simp, fun _ => by rw [e]; rfl, fun h => absurd h hr⟩
theorem exp_facts (L : List It) (s : List Int) : (expK (gls L L.length) s (groupsL L).length 0).length ≤ 1000 ∧ ((expK (gls L L.length) s (groupsL L).length 0).mergeSort fun x y => decide (x ≤ y)) = expandL L s := by
  by_cases hr : mrightB L = true
  · rw [(groups_facts L).2.2 hr, groupsK_length]
    refine ⟨?_, sort_exp hr s⟩
    have := exp_le (L := L) s (cnt L L.length)
    have := (mright_iff.1 hr).1
    omega
  · rw [(groups_facts L).2.1 (by simpa using hr)]
    rw [expandL, if_neg hr]
    simp [expK]
theorem exp_each (L : List It) (s : List Int) (As : Option Addr) (ns cs sbx obx : Nat) (Ag : Option Addr) (cg : Nat) (w1 : World) (ss : List (Option Addr × Nat × Nat)) (hg : DpS w1 Ag (groupsL L).length cg (groupsL L) ss) (hob : Bk w1 obx 23 [.slice none 0 0]) (hsb : w1.cell? ⟨sbx, 0, none⟩ = some (.slice As ns cs)) (hne : sbx ≠ obx)
    (hs : ∀ W, Fr (· = obx) w1 W → Rd W As ns cs (iv .i64 s)) (hd : ∀ W, Fr (· = obx) w1 W → DpS W Ag (groupsL L).length cg (groupsL L) ss) (hsl : s.length = ns) :
    Calls Try.prog 71 #[.slice Ag (groupsL L).length cg, .func (.func 76) #[] #[.pointer (some ⟨sbx, 0, none⟩), .pointer (some ⟨obx, 0, none⟩)]] w1 fun e w' => e = .returned (.tuple #[]) ∧ JE w1.heap.size obx w1 (expK (gls L L.length) s (groupsL L).length 0) w' := by
  refine each_any _ _ (enters_of Try.func76 (by kernel_rfl) rfl) Ag (groupsL L).length cg (groupsL L) w1 (fun a t W => JE w1.heap.size obx w1 (expK (gls L L.length) s a t) W) hg.dp.le hg.dp.cap ss ?_ ?_ ?_ ?_
  · rintro a t W ⟨F, _⟩
    exact hd W F
  · intro a t W x ha hx hJ
    have hr : mrightB L = true := by
      cases h : mrightB L with
      | true => rfl
      | false => have := (groups_facts L).2.1 h; omega
    have e := (groups_facts L).2.2 hr
    rw [e, groupsK_length] at ha
    rw [e, nth_groupsK ha] at hx
    have hle := exp_le2 (L := L) s a t
    have := (mright_iff.1 hr).1
    refine (Expand1_any sbx obx w1.heap.size As ns cs s _ a x w1 W hJ rfl hob.lt hne hsb (hs W hJ.1) hsl (by omega)).mono ?_
    rintro e W' ⟨rfl, h⟩
    refine ⟨rfl, ?_⟩
    rw [exp_step hx]; exact h
  · intro a W ha hJ
    have hr : mrightB L = true := by
      cases h : mrightB L with
      | true => rfl
      | false => have := (groups_facts L).2.1 h; omega
    have e := (groups_facts L).2.2 hr
    rw [e, groupsK_length] at ha
    rw [e, nth_groupsK ha] at hJ
    rw [expK_next]; exact hJ
  · refine ⟨Fr.refl _ _, .slice none 0 0, hob, ?_⟩
    have e : expK (gls L L.length) s 0 0 = [] := by simp [expK]
    rw [e]
    exact World.ownsRow_nil _ _ _ _

theorem rd_fr {w w' : World} {A : Option Addr} {n c g : Nat} {cs : List Value} (h : Rd w A n c cs) (F : Fr (· = g) w w') (hA : ∀ a, A = some a → a.block ≠ g) : Rd w' A n c cs :=
  ⟨h.le, h.cap, h.at_.imp id fun ⟨k, off, e, hc⟩ => ⟨k, off, e, fun j hj => (F.cell (p := ⟨k, off + j, none⟩) (show ¬ (k = g) from hA _ e) (hc j hj)).trans (hc j hj)⟩⟩
theorem rd_fr2 {w0 w w' : World} {A : Option Addr} {n c g : Nat} {cs : List Value} (h : Rd w0 A n c cs) (hb : Below w0.heap.size w0 w) (F : Fr (· = g) w w') (hg : w0.heap.size ≤ g) : Rd w' A n c cs :=
  ⟨h.le, h.cap, h.at_.imp id fun ⟨k, off, e, hc⟩ => ⟨k, off, e, fun j hj => by
    have h1 := hc j hj
    have h2 := keep_cell h1 hb
    have h3 : k < w0.heap.size := World.block_lt_of_cell? _ _ h1
    exact (F.cell (p := ⟨k, off + j, none⟩) (show ¬ (k = g) by omega) h2).trans h2⟩⟩

set_option maxRecDepth 100000 in
set_option maxHeartbeats 4000000 in
theorem mExpand_any (A : Option Addr) (n c : Nat) (L : List It) (As : Option Addr) (ns cs : Nat) (s : List Int) (w : World) (hL : Ip w A n c L) (hs : Rd w As ns cs (iv .i64 s)) (hsl : s.length = ns) :
    Calls Try.prog 32 #[.slice A n c, .slice As ns cs] w fun e w' => (∃ A' c', e = .returned (.slice A' (expandL L s).length c') ∧ Rd w' A' (expandL L s).length c' (iv .i64 (expandL L s))) ∧ Below w.heap.size w w' := by
  have HL := Lib.hid hL
  have HS := Lib.hid hs
  have HSL := Lib.hid hsl
  clear hL hs hsl
  have HXS := Lib.hid (exp_facts L s)
  go_enter Try.func32, Try.ntmps32
  go_upto_region 2 with (fail)
  have hsb := keep_cell (new_cell w #[.slice As ns cs] 23 0 _ rfl) (below_al _ (.cells #[.slice none 0 0] 23))
  have hob : Bk ((w.alloc (.cells #[.slice As ns cs] 23)).alloc (.cells #[.slice none 0 0] 23)) (w.heap.size + 1) 23 [.slice none 0 0] := by
    have := Bk.new (w.alloc (.cells #[.slice As ns cs] 23)) 23 [.slice none 0 0]
    rw [World.size_alloc] at this
    exact this
  have HB0 : Hid (Below w.heap.size w ((w.alloc (.cells #[.slice As ns cs] 23)).alloc (.cells #[.slice none 0 0] 23))) := below_then (below_al _ _) (below_al _ _)
  have HOB := Lib.hid hob
  clear hob
  generalize ((w.alloc (.cells #[.slice As ns cs] 23)).alloc (.cells #[.slice none 0 0] 23)) = w0 at *
  have HSB := Lib.hid hsb
  clear hsb
  have HZ : Hid (w0.heap.size = w.heap.size + 1 + 1 ∨ w.heap.size + 1 < w0.heap.size) := .inr HOB.out.lt
  go_cut [] (fun wx => ∃ (w1 : World), Hid (JE w1.heap.size (w.heap.size + 1) w1 (expK (gls L L.length) s (groupsL L).length 0) wx) ∧ Hid (Below w0.heap.size w0 w1))
  case first =>
    go_wp2_with (first
      | (go_at_call 27; (with_reducible refine (mGroups_own A n c L _ (HL.out.below HB0.out)).mono ?_); rintro e w1 ⟨⟨Ag, cg, ss, rfl, hg⟩, hB⟩; have HB1 := Lib.hid hB; have HEA := Lib.hid (exp_each L s As ns cs w.heap.size (w.heap.size + 1) Ag cg w1 ss (hg w1 (Agree.refl _ _)) (HOB.out.keep hB) (keep_cell HSB.out hB) (by omega) (fun W F => rd_fr2 HS.out (below_then HB0.out hB) F (by omega)) (fun W F => hg W (agree_fr F HOB.out.lt)) HSL.out); clear hg hB)
      | (go_at_call 71; (with_reducible refine HEA.out.mono ?_); rintro e w2 ⟨rfl, hJ⟩; have HJ := Lib.hid hJ; clear hJ))
    go_meet
    exact ⟨w1, HJ, HB1⟩
  case rest =>
    obtain ⟨w1, HJ, HB1⟩ := hcut
    obtain ⟨F, vo, hb, hown⟩ := HJ.out
    have hbc := hb.cell 0 (by simp)
    simp only [List.getElem_cons_zero] at hbc
    have HSO : Hid (Calls Try.prog 75 #[vo] wc fun e W' => e = .returned (.tuple #[]) ∧ W'.ownsRow w1.heap.size 3 1 vo (expK (gls L L.length) s (groupsL L).length 0).length (iv .i64 (expandL L s)) ∧ Fr (fun q => vo.ownBlock = some q) wc W') := by
      have := SortP_any _ HXS.out.1 vo w1.heap.size wc hown
      rw [HXS.out.2] at this
      exact this
    have HLN : Hid ((expandL L s).length = (expK (gls L L.length) s (groupsL L).length 0).length) := by
      show _ = _
      rw [← HXS.out.2, List.length_mergeSort]
    have HF := Lib.hid F
    have HBk := Lib.hid hb
    have HOW := Lib.hid hown
    have hlt1 : w.heap.size + 1 < w1.heap.size := by have := HB1.out.size; have := HOB.out.lt; omega
    have HLT1 := Lib.hid hlt1
    clear F hb hown hlt1
    go_wp2_with (go_at_call 75; (with_reducible refine HSO.out.mono ?_); rintro e w8 ⟨rfl, hr8, hf8⟩; have HR8 := Lib.hid hr8; have HF8 := Lib.hid hf8; have hbc8 := (hf8.far HBk.out (fun e => by have := (own_typed HOW.out _ e).1; have := HLT1.out; omega)).cell 0 (by simp); simp only [List.getElem_cons_zero] at hbc8; clear hr8 hf8)
    obtain ⟨A9, c9, e9, hl9, hr9⟩ := rd_own HR8.out
    rw [← HLN.out] at e9 hr9
    subst e9
    have HR9 := Lib.hid hr9
    clear hr9 hl9
    go_wp2
    go_ret
    refine ⟨⟨A9, c9, rfl, HR9.out⟩, ?_⟩
    have z0 := HB0.out.size
    have z1 := HB1.out.size
    have z2 := HF.out.size
    exact ((HB0.out.trans (HB1.out.mono z0)).trans (HF.out.below (by omega) (fun k e => by omega))).trans (HF8.out.below (by omega) (fun k e => by have := (own_typed HOW.out _ e).1; omega))
end Go.Proofs.Ytpicagcapgjiaaa
