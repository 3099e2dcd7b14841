/- Walks of merge's laws: MergeParts. -/
import Derived.Test.YtpicagcapgjiaaaMer9
import Derived.Test.YtpicagcapgjiaaaMerL
import Derived.Test.YtpicagcapgjiaaaSel9
set_option linter.unusedSimpArgs false
set_option linter.unusedVariables false
namespace Go.Proofs.Ytpicagcapgjiaaa
open Go.RowKit Go.Sel Go.Sel.Gra Go.Sel.Mer Go.Shelf

theorem drew1 (w : World) : Below w.heap.size w w.drew := ⟨rfl, rfl, rfl, Nat.le_refl _, fun _ _ => rfl⟩
theorem wrap_nat {p : Nat} (h : p ≤ 1000) : IntKind.i64.wrap (p : Int) = (p : Int) := by rw [IntKind.wrap_i64]; omega
theorem frame_at {K : Act → World → Prop} {a b : Act} {w : World} (h : a = b) (hk : K b w) : K a w := h ▸ hk
/-- What MergeParts asks of the groups. -/
structure PF (E : List It) (N G : Nat) (gl : List Nat) : Prop where
  mem : ∀ g t, t < (rowOf gl g).length → ∃ m : Nat, (rowOf gl g).getD t 0 = (m : Int) ∧ (rowOf gl g)[t]? = some (m : Int) ∧ m < N
  ne : ∀ g, g < G → 0 < (rowOf gl g).length
  up : ∀ g, g + 1 < G → (rowOf gl g).getD 0 0 < (rowOf gl (g + 1)).getD 0 0
  inc : ∀ g t, t + 1 < (rowOf gl g).length → (rowOf gl g).getD t 0 < (rowOf gl g).getD (t + 1) 0
  blk : ∀ g t, t < (rowOf gl g).length → ∀ m f : Nat, (rowOf gl g).getD t 0 = (m : Int) → (rowOf gl g).getD 0 0 = (f : Int) → (nthI E m).b = (nthI E f).b
  all : ∀ m, m < N → (flatK gl G 0).count (m : Int) = 1
theorem headD_getD (l : List Int) : l.headD 0 = l.getD 0 0 := by cases l <;> rfl
theorem parts_facts {E : List It} {N : Nat} (hN : E.length = N) : PF E N (cnt E N) (gls E N) := by
  subst hN
  have hr := rows_rise E E.length
  have hm : ∀ g t, t < (rowOf (gls E E.length) g).length → ∃ m : Nat, (rowOf (gls E E.length) g).getD t 0 = (m : Int) ∧ (rowOf (gls E E.length) g)[t]? = some (m : Int) ∧ m < E.length ∧ (gls E E.length).getD m 0 = g := fun g t ht => by
    have h1 : (rowOf (gls E E.length) g)[t] ∈ rowOf (gls E E.length) g := List.getElem_mem ht
    obtain ⟨m, h2, h3, h4⟩ := mem_rowOf.1 h1
    rw [gls_length] at h3
    refine ⟨m, ?_, ?_, h3, h4⟩
    · rw [List.getD_eq_getElem?_getD, List.getElem?_eq_getElem ht, h2]; rfl
    · rw [List.getElem?_eq_getElem ht, h2]
  refine ⟨fun g t ht => ?_, fun g hg => ?_, fun g hg => ?_, fun g t ht => ?_, fun g t ht m f h1 h2 => ?_, fun m hm' => seen_all hm'⟩
  · obtain ⟨m, h1, h2, h3, _⟩ := hm g t ht
    exact ⟨m, h1, h2, h3⟩
  · exact List.length_pos_iff.2 (hr.1 g hg)
  · rw [← headD_getD, ← headD_getD]; exact hr.2 g (g + 1) (by omega) hg
  · have h := List.pairwise_iff_getElem.1 (rowOf_sorted (gls E E.length) g) t (t + 1) (by omega) ht (by omega)
    rw [List.getD_eq_getElem?_getD, List.getD_eq_getElem?_getD, List.getElem?_eq_getElem ht, List.getElem?_eq_getElem (by omega)]
    exact h
  · obtain ⟨m', h3, _, h5, h6⟩ := hm g t ht
    obtain ⟨f', h7, _, h8, h9⟩ := hm g 0 (by omega)
    obtain rfl : m' = m := by omega
    obtain rfl : f' = f := by omega
    exact same_block E E.length _ _ h5 h8 (by rw [h6, h9])
/-- A row, and its numbers. -/
theorem dp_form {w : World} {A : Option Addr} {n c : Nat} {D : List (List Int)} (h : Dp w A n c D) (hn : 0 < n) : ∃ b off, A = some ⟨b, off, none⟩ := by
  obtain ⟨b, off, A', n', c', rfl, _⟩ := h.at_ hn
  exact ⟨b, off, rfl⟩
theorem dp_get {w : World} {b off n c : Nat} {D : List (List Int)} (h : Dp w (some ⟨b, off, none⟩) n c D) {g : Nat} (hg : g < n) {R : List Int} (hR : nth D g = R) (h0 : 0 < R.length) :
    ∃ q o' c', w.cell? ⟨b, off + g, none⟩ = some (.slice (some ⟨q, o', none⟩) R.length c') ∧ R.length ≤ c' ∧ c' ≤ 9223372036854775807 ∧
      ∀ j (x : Int), j < R.length → R.getD j 0 = x → w.cell? ⟨q, o' + j, none⟩ = some (.int .i64 x) := by
  obtain ⟨b', off', A', n', c', e, h1, h2, h3⟩ := h.at_ hg
  injection e with e; injection e with e1 e2; subst e1 e2
  rw [hR] at h2 h3
  subst h2
  obtain ⟨q, o', rfl, _, hc⟩ := h3.form (by simpa using h0)
  refine ⟨q, o', c', h1, h3.le, h3.cap, fun j x hj hx => ?_⟩
  rw [hc j (by simpa using hj), iv_at, ← hx, List.getD_eq_getElem?_getD, List.getElem?_eq_getElem hj]; rfl
theorem ip_form {w : World} {A : Option Addr} {n c : Nat} {L : List It} (h : Ip w A n c L) (hn : 0 < n) : ∃ b off, A = some ⟨b, off, none⟩ := by
  obtain ⟨b, off, _, _, _, rfl, _⟩ := h.at_ hn
  exact ⟨b, off, rfl⟩
theorem ip_get {w : World} {b off n c : Nat} {L : List It} (h : Ip w (some ⟨b, off, none⟩) n c L) {i : Nat} (hi : i < n) {x : Int} (hx : (nthI L i).b = x) : w.cell? ⟨b, off + i * 4, none⟩ = some (.int .i64 x) := by
  obtain ⟨b', off', _, _, _, e, _, h1, _⟩ := h.at_ hi
  injection e with e; injection e with e1 e2; subst e1 e2
  rw [h1, hx]
/-- How often each was seen, in memory. -/
def SeenB (w : World) (S N : Nat) (F : List Int) : Prop := Bk w S 3 (iv .i64 (seenL N F))
theorem SeenB.cell {w : World} {S N m : Nat} {F : List Int} (h : SeenB w S N F) (hm : m < N) : w.cell? ⟨S, m, none⟩ = some (.int .i64 (F.count (m : Int) : Int)) := by
  have h1 := Bk.cell h m (by simpa using hm)
  rw [h1, iv_at]
  have := seenL_get (F := F) hm
  rw [List.getElem?_eq_getElem (by simpa using hm)] at this
  rw [Option.some.inj this]
theorem SeenB.bump {w : World} {S N m : Nat} {F : List Int} (h : SeenB w S N F) (hm : m < N) : SeenB (w.setCell ⟨S, m, none⟩ (.int .i64 ((F.count (m : Int) : Int) + 1))) S N (F ++ [(m : Int)]) := by
  have h1 := Bk.set h m (.int .i64 ((F.count (m : Int) : Int) + 1))
  unfold SeenB
  rw [seenL_snoc ⟨by omega, by omega⟩, Int.toNat_natCast]
  simpa [iv, List.map_set] using h1

set_option maxRecDepth 100000 in
set_option maxHeartbeats 8000000 in
theorem law_MergeParts (A : Option Addr) (n c : Nat) (L : List It) (W : World) (hL : Ip W A n c L) :
    Calls Try.prog 6 #[.slice A n c] W fun e W' => e = .returned (.bool true) ∧ Below W.heap.size W W' := by
  have HL := Lib.hid hL
  have HEL : Hid ((fewI L).length = min n 24) := by show _ = _; rw [fewI_length, hL.len, Nat.min_comm]
  have l1 := hL.le
  have l2 := hL.cap
  clear hL
  have hmk := mkInts (min n 24) (by omega)
  go_enter Try.func6, Try.ntmps6
  go_upto_region 2 with (go_at_call 22; (with_reducible refine (mfew_any _ _ _ L _ HL.out).mono ?_); rintro e w1 ⟨⟨A3, c3, rfl, hd⟩, hB⟩; have HE := Lib.hid hd; have HB1 := Lib.hid hB; clear hd hB)
  have hN24 : min n 24 ≤ 24 := by omega
  generalize fewI L = E at *
  generalize min n 24 = N at *
  have n1 := HE.out.le
  have n2 := HE.out.cap
  cases hr : mrightB E with
  | false =>
    have HR := Lib.hid hr
    have HG : Hid (groupsL E = []) := by show _ = _; simp [groupsL, hr]
    have HD : Hid (mdepsL E = []) := by show _ = _; simp [mdepsL, hr]
    clear hr hmk
    go_wp2_with (first
      | (go_at_call 27; (with_reducible refine (mGroups_any _ _ _ E _ HE.out).mono ?_); rw [HG.out]; rintro e w2 ⟨⟨Ag, cg, rfl, hg⟩, hB⟩; have HB2 := Lib.hid (below_then HB1.out hB); have HE2 := Lib.hid (HE.out.below hB); clear hg hB)
      | (go_at_call 29; (with_reducible refine (mDeps_any _ _ _ E _ HE2.out (by omega)).mono ?_); rw [HD.out]; rintro e w3 ⟨⟨A4, c4, rfl, hd4⟩, hB⟩; have HE3 := Lib.hid (HE2.out.below hB); have HB3 := Lib.hid (below_then HB2.out hB); clear hB hd4)
      | (go_at_call 24; (with_reducible refine (mRight_any _ _ _ E _ HE3.out).mono ?_); rw [HR.out]; rintro e w4 ⟨rfl, hB⟩; have HB4 := Lib.hid (below_then HB3.out hB); clear hB)
      | (go_at_call 23; (with_reducible refine (mlive_any _).mono ?_); rintro e w5 ⟨rfl, hB⟩; have HB5 := Lib.hid (below_then HB4.out hB); clear hB))
    go_ret
    exact ⟨rfl, HB5.out⟩
  | true =>
    have HR := Lib.hid hr
    have HPF : Hid (PF E N (cnt E N) (gls E N)) := parts_facts HEL.out
    have HGL : Hid ((groupsL E).length = cnt E N) := by show _ = _; rw [groupsL_length hr, HEL.out]
    have HGLN : Hid ((gls E N).length = N) := gls_length E N
    have HROW : Hid (∀ g, g < cnt E N → nth (groupsL E) g = rowOf (gls E N) g) := fun g hg => by
      rw [← HEL.out] at hg ⊢; exact nth_groupsL hr hg
    have HDL : Hid ((mdepsL E).length = cnt E N) := by show _ = _; rw [mdepsL_length hr, HEL.out]
    have HDR : Hid (rightD (mdepsL E) = true) := mdeps_right hr
    have hcn : cnt E N ≤ 24 := by have := cnt_le E N; omega
    clear hr
    generalize cnt E N = G at *
    generalize gls E N = gl at *
    generalize hge : groupsL E = GR at *
    have HGE := Lib.hid hge
    clear hge
    generalize hde : mdepsL E = DR at *
    have HDE := Lib.hid hde
    clear hde
    go_upto_region 6 with (first
      | (go_at_call 27; (with_reducible refine (mGroups_any _ _ _ E _ HE.out).mono ?_); rw [HGE.out, HGL.out]; rintro e w2 ⟨⟨Ag, cg, rfl, hg⟩, hB⟩; have HG2 := Lib.hid hg; have HB2 := Lib.hid (below_then HB1.out hB); have HE2 := Lib.hid (HE.out.below hB); clear hg hB)
      | (go_at_call 29; (with_reducible refine (mDeps_any _ _ _ E _ HE2.out (by omega)).mono ?_); rw [HDE.out, HDL.out]; rintro e w3 ⟨⟨A4, c4, rfl, hd4⟩, hB⟩; have HD3 := Lib.hid hd4; have HG3 := Lib.hid (HG2.out.below hB); have HE3 := Lib.hid (HE2.out.below hB); have HB3 := Lib.hid (below_then HB2.out hB); clear hB hd4)
      | (go_at_call 24; (with_reducible refine (mRight_any _ _ _ E _ HE3.out).mono ?_); rw [HR.out]; rintro e w4 ⟨rfl, hB⟩; have HD4 := Lib.hid (HD3.out.below hB); have HG4 := Lib.hid (HG3.out.below hB); have HE4 := Lib.hid (HE3.out.below hB); have HB4 := Lib.hid (below_then HB3.out hB); clear hB))
    have HS0 : Hid (SeenB (w4.alloc (.cells (zints N).toArray 3)) w4.heap.size N []) := by
      have h := Bk.new w4 3 (zints N)
      show SeenB _ _ _ _
      unfold SeenB
      rw [seenL_nil]
      simpa [iv, zints] using h
    have HW0 : Hid (Below w4.heap.size w4 (w4.alloc (.cells (zints N).toArray 3))) := below_al _ _
    clear hmk
    generalize w4.alloc (.cells (zints N).toArray 3) = w5 at *
    have hS0 : w4.heap.size = w4.heap.size := rfl
    have g1 := HG4.out.le
    have g2 := HG4.out.cap
    go_wp2
    go_loopw [6, 7, 8] (fun v _ _ wr => ∃ a : Nat, a ≤ G ∧ v = .int .i64 a ∧ Hid (SeenB wr w4.heap.size N (flatK gl a 0)) ∧ Hid (Below w4.heap.size w4 wr)) (fun v _ _ _ => G - (intOf v).toNat)
    case atStart => exact ⟨0, by omega, rfl, HS0, HW0⟩
    case round =>
      obtain ⟨a, ha, rfl, HS, HW⟩ := hrel
      by_cases hlt : a < G
      · have hne := HPF.out.ne a hlt
        have HRA : Hid (nth GR a = rowOf gl a) := HROW.out a hlt
        obtain ⟨f, hf, _, hfN⟩ := HPF.out.mem a 0 hne
        obtain ⟨b, off, rfl⟩ := dp_form HG4.out (show 0 < G by omega)
        obtain ⟨eb, eo, rfl⟩ := ip_form HE4.out (show 0 < N by omega)
        obtain ⟨q, o', c', k0, k1, k2, k3⟩ := dp_get (HG4.out.below HW.out) hlt HRA.out hne
        have k4 := k3 0 _ hne hf
        rw [Nat.add_zero] at k4
        have hz : decide (((rowOf gl a).length : Int) = 0) = false := by simp; intro e; rw [e] at hne; simp at hne
        clear k3
        have HM : Hid (∀ wi, Below w4.heap.size w4 wi → ∃ q o' c', wi.cell? ⟨b, off + a, none⟩ = some (.slice (some ⟨q, o', none⟩) (rowOf gl a).length c') ∧ (rowOf gl a).length ≤ c' ∧ c' ≤ 9223372036854775807 ∧ ∀ j (x : Int), j < (rowOf gl a).length → (rowOf gl a).getD j 0 = x → wi.cell? ⟨q, o' + j, none⟩ = some (.int .i64 x)) := fun wi h => dp_get (HG4.out.below h) hlt HRA.out hne
        have HF := Lib.hid hf
        have HINC : Hid (∀ t, t + 1 < (rowOf gl a).length → (rowOf gl a).getD t 0 < (rowOf gl a).getD (t + 1) 0) := HPF.out.inc a
        have HMEM : Hid (∀ t, t < (rowOf gl a).length → ∃ m : Nat, (rowOf gl a).getD t 0 = (m : Int) ∧ (rowOf gl a)[t]? = some (m : Int) ∧ m < N) := HPF.out.mem a
        have HBLK : Hid (∀ t, t < (rowOf gl a).length → ∀ m : Nat, (rowOf gl a).getD t 0 = (m : Int) → (nthI E m).b = (nthI E f).b) := fun t ht m hm => HPF.out.blk a t ht m f hm hf
        have HNEXT : Hid (flatK gl (a + 1) 0 = flatK gl a (rowOf gl a).length) := flatK_next gl a
        have HSNOC : Hid (∀ (t m : Nat), (rowOf gl a)[t]? = some (m : Int) → flatK gl a (t + 1) = flatK gl a t ++ [(m : Int)]) := fun t m h => flatK_snoc gl a t _ h
        have HCNT : Hid (∀ (t m : Nat), (flatK gl a t).count (m : Int) ≤ 1) := fun t m => count_le1
        have HFN := Lib.hid hfN
        have hml : (rowOf gl a).length ≤ 9223372036854775807 := by omega
        clear hf hfN
        go_upto_region 9 with (fail)
        go_cut [64] (fun v64 wx => v64 = .bool false ∧ Hid (SeenB wx w4.heap.size N (flatK gl a 0)) ∧ Hid (Below w4.heap.size w4 wx))
        case first =>
          rename_i J1 K1 hJ1 hK1
          have HSD : Hid (SeenB wr.drew w4.heap.size N (flatK gl a 0)) := Bk.keep HS.out (drew1 wr)
          have HWD : Hid (Below w4.heap.size w4 wr.drew) := below_then HW.out (drew1 wr)
          rcases Nat.eq_zero_or_pos a with rfl | hap
          · rw [Nat.add_zero] at k0
            clear HM HINC HMEM HBLK HNEXT HSNOC HCNT hz HS HW
            generalize (rowOf gl 0).length = m at *
            have hm0 : ¬ m = 0 := by omega
            have HS9 : (fun w' : World => w'.cell? ⟨b, off, none⟩ = some (.slice (some ⟨q, o', none⟩) m c')) wr.drew := keep_cell k0 (drew1 wr)
            clear k0 k4
            refine wp_region_D (fun w' => w'.cell? ⟨b, off, none⟩ = some (.slice (some ⟨q, o', none⟩) m c')) [0, 1, 2, 3, 4, 5, 6, 7, 8, 9, 10, 11, 12, 13, 14, 15, 16, 17, 18, 19, 20, 21, 22, 23, 24, 25] (by kernel_rfl) ?_
            change wpAnyD _ _ _ _ _ _ 26 _ _ wr.drew
            generalize wr.drew = w0 at *
            refine wpAnyD_take (i := 0) (v := (.slice (some ⟨b, off, none⟩) G cg)) (by decide) rfl (by kernel_rfl) (by kernel_rfl) (by kernel_rfl) (fun _ _ _ h => h) (.inl ⟨by kernel_rfl, fun w9 h9 => by have s0 := h9; (go_simp <;> first | omega | (exact wrap_nat (by omega)) | (intro h9; exfalso; omega) | (intro h8 h9; exfalso; omega))⟩) HS9 ?_
            refine wpAnyD_take (i := 1) (v := (.int .i64 (0 : Int))) (by decide) rfl (by kernel_rfl) (by kernel_rfl) (by kernel_rfl) (fun _ _ _ h => h) (.inl ⟨by kernel_rfl, fun w9 h9 => by have s0 := h9; (go_simp <;> first | omega | (exact wrap_nat (by omega)) | (intro h9; exfalso; omega) | (intro h8 h9; exfalso; omega))⟩) HS9 ?_
            refine wpAnyD_take (i := 2) (v := (.pointer (some ⟨b, off, none⟩))) (by decide) rfl (by kernel_rfl) (by kernel_rfl) (by kernel_rfl) (fun _ _ _ h => h) (.inl ⟨by kernel_rfl, fun w9 h9 => by have s0 := h9; (go_simp <;> first | omega | (exact wrap_nat (by omega)) | (intro h9; exfalso; omega) | (intro h8 h9; exfalso; omega))⟩) HS9 ?_
            refine wpAnyD_take (i := 3) (v := (.slice (some ⟨q, o', none⟩) m c')) (by decide) rfl (by kernel_rfl) (by kernel_rfl) (by kernel_rfl) (fun _ _ _ h => h) (.inl ⟨by kernel_rfl, fun w9 h9 => by have s0 := h9; (go_simp <;> first | omega | (exact wrap_nat (by omega)) | (intro h9; exfalso; omega) | (intro h8 h9; exfalso; omega))⟩) HS9 ?_
            refine wpAnyD_take (i := 4) (v := (.int .i64 (m : Int))) (by decide) rfl (by kernel_rfl) (by kernel_rfl) (by kernel_rfl) (fun _ _ _ h => h) (.inl ⟨by kernel_rfl, fun w9 h9 => by have s0 := h9; (go_simp <;> first | omega | (exact wrap_nat (by omega)) | (intro h9; exfalso; omega) | (intro h8 h9; exfalso; omega))⟩) HS9 ?_
            refine wpAnyD_take (i := 5) (v := (.bool false)) (by decide) rfl (by kernel_rfl) (by kernel_rfl) (by kernel_rfl) (fun _ _ _ h => h) (.inl ⟨by kernel_rfl, fun w9 h9 => by have s0 := h9; (go_simp <;> first | omega | (exact wrap_nat (by omega)) | (intro h9; exfalso; omega) | (intro h8 h9; exfalso; omega))⟩) HS9 ?_
            refine wpAnyD_take (i := 6) (v := (.bool false)) (by decide) rfl (by kernel_rfl) (by kernel_rfl) (by kernel_rfl) (fun _ _ _ h => h) (.inl ⟨by kernel_rfl, fun w9 h9 => by have s0 := h9; (go_simp <;> first | omega | (exact wrap_nat (by omega)) | (intro h9; exfalso; omega) | (intro h8 h9; exfalso; omega))⟩) HS9 ?_
            refine wpAnyD_take (i := 7) (v := (.int .i64 (0 : Int))) (by decide) rfl (by kernel_rfl) (by kernel_rfl) (by kernel_rfl) (fun _ _ _ h => h) (.inl ⟨by kernel_rfl, fun w9 h9 => by have s0 := h9; (go_simp <;> first | omega | (exact wrap_nat (by omega)) | (intro h9; exfalso; omega) | (intro h8 h9; exfalso; omega))⟩) HS9 ?_
            refine wpAnyD_take (i := 8) (v := (.bool false)) (by decide) rfl (by kernel_rfl) (by kernel_rfl) (by kernel_rfl) (fun _ _ _ h => h) (.inl ⟨by kernel_rfl, fun w9 h9 => by have s0 := h9; (go_simp <;> first | omega | (exact wrap_nat (by omega)) | (intro h9; exfalso; omega) | (intro h8 h9; exfalso; omega))⟩) HS9 ?_
            refine wpAnyD_take (i := 9) (v := (.bool false)) (by decide) rfl (by kernel_rfl) (by kernel_rfl) (by kernel_rfl) (fun _ _ _ h => h) (.inl ⟨by kernel_rfl, fun w9 h9 => by have s0 := h9; (go_simp <;> first | omega | (exact wrap_nat (by omega)) | (intro h9; exfalso; omega) | (intro h8 h9; exfalso; omega))⟩) HS9 ?_
            refine wpAnyD_take (i := 10) (v := undef) (by decide) rfl (by kernel_rfl) (by kernel_rfl) (by kernel_rfl) (fun _ _ _ h => h) (.inr ⟨by kernel_rfl, rfl⟩) HS9 ?_
            refine wpAnyD_take (i := 11) (v := undef) (by decide) rfl (by kernel_rfl) (by kernel_rfl) (by kernel_rfl) (fun _ _ _ h => h) (.inr ⟨by kernel_rfl, rfl⟩) HS9 ?_
            refine wpAnyD_take (i := 12) (v := undef) (by decide) rfl (by kernel_rfl) (by kernel_rfl) (by kernel_rfl) (fun _ _ _ h => h) (.inr ⟨by kernel_rfl, rfl⟩) HS9 ?_
            refine wpAnyD_take (i := 13) (v := undef) (by decide) rfl (by kernel_rfl) (by kernel_rfl) (by kernel_rfl) (fun _ _ _ h => h) (.inr ⟨by kernel_rfl, rfl⟩) HS9 ?_
            refine wpAnyD_take (i := 14) (v := undef) (by decide) rfl (by kernel_rfl) (by kernel_rfl) (by kernel_rfl) (fun _ _ _ h => h) (.inr ⟨by kernel_rfl, rfl⟩) HS9 ?_
            refine wpAnyD_take (i := 15) (v := undef) (by decide) rfl (by kernel_rfl) (by kernel_rfl) (by kernel_rfl) (fun _ _ _ h => h) (.inr ⟨by kernel_rfl, rfl⟩) HS9 ?_
            refine wpAnyD_take (i := 16) (v := undef) (by decide) rfl (by kernel_rfl) (by kernel_rfl) (by kernel_rfl) (fun _ _ _ h => h) (.inr ⟨by kernel_rfl, rfl⟩) HS9 ?_
            refine wpAnyD_take (i := 17) (v := undef) (by decide) rfl (by kernel_rfl) (by kernel_rfl) (by kernel_rfl) (fun _ _ _ h => h) (.inr ⟨by kernel_rfl, rfl⟩) HS9 ?_
            refine wpAnyD_take (i := 18) (v := undef) (by decide) rfl (by kernel_rfl) (by kernel_rfl) (by kernel_rfl) (fun _ _ _ h => h) (.inr ⟨by kernel_rfl, rfl⟩) HS9 ?_
            refine wpAnyD_take (i := 19) (v := undef) (by decide) rfl (by kernel_rfl) (by kernel_rfl) (by kernel_rfl) (fun _ _ _ h => h) (.inr ⟨by kernel_rfl, rfl⟩) HS9 ?_
            refine wpAnyD_take (i := 20) (v := undef) (by decide) rfl (by kernel_rfl) (by kernel_rfl) (by kernel_rfl) (fun _ _ _ h => h) (.inr ⟨by kernel_rfl, rfl⟩) HS9 ?_
            refine wpAnyD_take (i := 21) (v := undef) (by decide) rfl (by kernel_rfl) (by kernel_rfl) (by kernel_rfl) (fun _ _ _ h => h) (.inr ⟨by kernel_rfl, rfl⟩) HS9 ?_
            refine wpAnyD_take (i := 22) (v := undef) (by decide) rfl (by kernel_rfl) (by kernel_rfl) (by kernel_rfl) (fun _ _ _ h => h) (.inr ⟨by kernel_rfl, rfl⟩) HS9 ?_
            refine wpAnyD_take (i := 23) (v := undef) (by decide) rfl (by kernel_rfl) (by kernel_rfl) (by kernel_rfl) (fun _ _ _ h => h) (.inr ⟨by kernel_rfl, rfl⟩) HS9 ?_
            refine wpAnyD_take (i := 24) (v := (.bool false)) (by decide) rfl (by kernel_rfl) (by kernel_rfl) (by kernel_rfl) (fun _ _ _ h => h) (.inl ⟨by kernel_rfl, fun w9 h9 => by have s0 := h9; (go_simp <;> first | omega | (exact wrap_nat (by omega)) | (intro h9; exfalso; omega) | (intro h8 h9; exfalso; omega))⟩) HS9 ?_
            refine wpAnyD_take (i := 25) (v := (.bool false)) (by decide) rfl (by kernel_rfl) (by kernel_rfl) (by kernel_rfl) (fun _ _ _ h => h) (.inl ⟨by kernel_rfl, fun w9 h9 => by have s0 := h9; (go_simp <;> first | omega | (exact wrap_nat (by omega)) | (intro h9; exfalso; omega) | (intro h8 h9; exfalso; omega))⟩) HS9 ?_
            refine wpAnyD_done (by kernel_rfl) ?_ _
            refine hK1 _ _ (frame_at (K := Met J1) (b := ⟨#[Value.slice (some { block := eb, off := eo }) N c3, undef, u2, Value.slice (some { block := b, off := off }) G cg, Value.slice A4 G c4, Value.slice (some { block := w4.heap.size, off := 0 }) N N, Value.int IntKind.i64 (0 : Int), u7, u8, undef, Value.slice A n c, Value.slice (some { block := eb, off := eo }) N c3, Value.slice (some { block := eb, off := eo }) N c3, Value.slice (some { block := b, off := off }) G cg, Value.slice (some { block := eb, off := eo }) N c3, Value.slice A4 G c4, Value.slice (some { block := eb, off := eo }) N c3, Value.bool true, Value.bool false, undef, undef, undef, undef, undef, undef, undef, undef, undef, undef, undef, Value.slice (some { block := eb, off := eo }) N c3, Value.int IntKind.i64 (N : Int), Value.slice (some { block := w4.heap.size, off := 0 }) N N, Value.int IntKind.i64 (0 : Int), Value.slice (some { block := b, off := off }) G cg, Value.int IntKind.i64 (G : Int), Value.bool true, u37, u38, Value.slice (some ⟨b, off, none⟩) G cg, Value.int .i64 (0 : Int), Value.pointer (some ⟨b, off, none⟩), Value.slice (some ⟨q, o', none⟩) m c', Value.int .i64 (m : Int), Value.bool false, Value.bool false, Value.int .i64 (0 : Int), Value.bool false, Value.bool false, undef, undef, undef, undef, undef, undef, undef, undef, undef, undef, undef, undef, undef, undef, Value.bool false, Value.bool false, u65, u66, u67, u68, u69, u70, u71, u72, u73, u74, u75, u76, u77, u78, u79, u80, u81, u82, u83, u84, u85, u86, u87, u88, u89, u90, u91, u92, u93, u94, u95, u96, u97, u98, u99, u100, u101, u102, u103, u104, u105, u106, u107, u108, u109, u110, u111, u112, u113, u114, u115, u116, u117, u118, u119, u120, u121, u122, u123, u124, u125, u126, u127, u128, u129, u130, undef, undef, undef, undef, undef, undef, undef, undef, undef, undef, undef, undef, undef, undef, undef, undef, undef, undef, undef, undef, undef, undef, undef], []⟩) (by kernel_rfl) ?_)
            go_meet
            exact ⟨rfl, HSD, HWD⟩
          · obtain ⟨p, hp⟩ : ∃ p, a = p + 1 := ⟨a - 1, by omega⟩
            have hpG : p < G := by omega
            have hnp := HPF.out.ne p hpG
            obtain ⟨fp, hfp, _, _⟩ := HPF.out.mem p 0 hnp
            obtain ⟨qp, op, cp, j0, j1, j2, j3⟩ := dp_get (HG4.out.below HW.out) hpG (HROW.out p hpG) hnp
            have j4 := j3 0 _ hnp hfp
            rw [Nat.add_zero] at j4
            have hup := HPF.out.up p (by omega)
            rw [← hp, hfp, HF.out] at hup
            have hq2 : decide ((f : Int) ≤ (fp : Int)) = false := decide_eq_false (by omega)
            have hq5 : fp < f := by omega
            have hq3 : IntKind.i64.wrap ((a : Int) - 1) = (p : Int) := by rw [hp, show (((p + 1 : Nat) : Int) - 1) = (p : Int) by omega]; exact wrap_nat (by omega)
            have hq4 : decide ((0 : Int) < (a : Int)) = true := decide_eq_true (by omega)
            clear hfp hup j3 hp HM HINC HMEM HBLK HNEXT HSNOC HCNT hz HS HW
            generalize (rowOf gl p).length = mp at *
            have hmp0 : ¬ mp = 0 := by omega
            generalize (rowOf gl a).length = m at *
            have hm0 : ¬ m = 0 := by omega
            have HS9 : (fun w' : World => w'.cell? ⟨b, off + a, none⟩ = some (.slice (some ⟨q, o', none⟩) m c') ∧ w'.cell? ⟨b, off + p, none⟩ = some (.slice (some ⟨qp, op, none⟩) mp cp) ∧ w'.cell? ⟨q, o', none⟩ = some (.int .i64 (f : Int)) ∧ w'.cell? ⟨qp, op, none⟩ = some (.int .i64 (fp : Int))) wr.drew := ⟨keep_cell k0 (drew1 wr), keep_cell j0 (drew1 wr), keep_cell k4 (drew1 wr), keep_cell j4 (drew1 wr)⟩
            clear k0 k4 j0 j4
            refine wp_region_D (fun w' => w'.cell? ⟨b, off + a, none⟩ = some (.slice (some ⟨q, o', none⟩) m c') ∧ w'.cell? ⟨b, off + p, none⟩ = some (.slice (some ⟨qp, op, none⟩) mp cp) ∧ w'.cell? ⟨q, o', none⟩ = some (.int .i64 (f : Int)) ∧ w'.cell? ⟨qp, op, none⟩ = some (.int .i64 (fp : Int))) [0, 1, 2, 3, 4, 5, 6, 7, 8, 9, 10, 11, 12, 13, 14, 15, 16, 17, 18, 19, 20, 21, 22, 23, 24, 25] (by kernel_rfl) ?_
            change wpAnyD _ _ _ _ _ _ 26 _ _ wr.drew
            generalize wr.drew = w0 at *
            refine wpAnyD_take (i := 0) (v := (.slice (some ⟨b, off, none⟩) G cg)) (by decide) rfl (by kernel_rfl) (by kernel_rfl) (by kernel_rfl) (fun _ _ _ h => h) (.inl ⟨by kernel_rfl, fun w9 h9 => by obtain ⟨s0, s1, s2, s3⟩ := h9; (go_simp <;> first | omega | (exact wrap_nat (by omega)) | (intro h9; exfalso; omega) | (intro h8 h9; exfalso; omega))⟩) HS9 ?_
            refine wpAnyD_take (i := 1) (v := (.int .i64 (a : Int))) (by decide) rfl (by kernel_rfl) (by kernel_rfl) (by kernel_rfl) (fun _ _ _ h => h) (.inl ⟨by kernel_rfl, fun w9 h9 => by obtain ⟨s0, s1, s2, s3⟩ := h9; (go_simp <;> first | omega | (exact wrap_nat (by omega)) | (intro h9; exfalso; omega) | (intro h8 h9; exfalso; omega))⟩) HS9 ?_
            refine wpAnyD_take (i := 2) (v := (.pointer (some ⟨b, off + a, none⟩))) (by decide) rfl (by kernel_rfl) (by kernel_rfl) (by kernel_rfl) (fun _ _ _ h => h) (.inl ⟨by kernel_rfl, fun w9 h9 => by obtain ⟨s0, s1, s2, s3⟩ := h9; (go_simp <;> first | omega | (exact wrap_nat (by omega)) | (intro h9; exfalso; omega) | (intro h8 h9; exfalso; omega))⟩) HS9 ?_
            refine wpAnyD_take (i := 3) (v := (.slice (some ⟨q, o', none⟩) m c')) (by decide) rfl (by kernel_rfl) (by kernel_rfl) (by kernel_rfl) (fun _ _ _ h => h) (.inl ⟨by kernel_rfl, fun w9 h9 => by obtain ⟨s0, s1, s2, s3⟩ := h9; (go_simp <;> first | omega | (exact wrap_nat (by omega)) | (intro h9; exfalso; omega) | (intro h8 h9; exfalso; omega))⟩) HS9 ?_
            refine wpAnyD_take (i := 4) (v := (.int .i64 (m : Int))) (by decide) rfl (by kernel_rfl) (by kernel_rfl) (by kernel_rfl) (fun _ _ _ h => h) (.inl ⟨by kernel_rfl, fun w9 h9 => by obtain ⟨s0, s1, s2, s3⟩ := h9; (go_simp <;> first | omega | (exact wrap_nat (by omega)) | (intro h9; exfalso; omega) | (intro h8 h9; exfalso; omega))⟩) HS9 ?_
            refine wpAnyD_take (i := 5) (v := (.bool false)) (by decide) rfl (by kernel_rfl) (by kernel_rfl) (by kernel_rfl) (fun _ _ _ h => h) (.inl ⟨by kernel_rfl, fun w9 h9 => by obtain ⟨s0, s1, s2, s3⟩ := h9; (go_simp <;> first | omega | (exact wrap_nat (by omega)) | (intro h9; exfalso; omega) | (intro h8 h9; exfalso; omega))⟩) HS9 ?_
            refine wpAnyD_take (i := 6) (v := (.bool false)) (by decide) rfl (by kernel_rfl) (by kernel_rfl) (by kernel_rfl) (fun _ _ _ h => h) (.inl ⟨by kernel_rfl, fun w9 h9 => by obtain ⟨s0, s1, s2, s3⟩ := h9; (go_simp <;> first | omega | (exact wrap_nat (by omega)) | (intro h9; exfalso; omega) | (intro h8 h9; exfalso; omega))⟩) HS9 ?_
            refine wpAnyD_take (i := 7) (v := (.int .i64 (a : Int))) (by decide) rfl (by kernel_rfl) (by kernel_rfl) (by kernel_rfl) (fun _ _ _ h => h) (.inl ⟨by kernel_rfl, fun w9 h9 => by obtain ⟨s0, s1, s2, s3⟩ := h9; (go_simp <;> first | omega | (exact wrap_nat (by omega)) | (intro h9; exfalso; omega) | (intro h8 h9; exfalso; omega))⟩) HS9 ?_
            refine wpAnyD_take (i := 8) (v := (.bool true)) (by decide) rfl (by kernel_rfl) (by kernel_rfl) (by kernel_rfl) (fun _ _ _ h => h) (.inl ⟨by kernel_rfl, fun w9 h9 => by obtain ⟨s0, s1, s2, s3⟩ := h9; (go_simp <;> first | omega | (exact wrap_nat (by omega)) | (intro h9; exfalso; omega) | (intro h8 h9; exfalso; omega))⟩) HS9 ?_
            refine wpAnyD_take (i := 9) (v := (.bool true)) (by decide) rfl (by kernel_rfl) (by kernel_rfl) (by kernel_rfl) (fun _ _ _ h => h) (.inl ⟨by kernel_rfl, fun w9 h9 => by obtain ⟨s0, s1, s2, s3⟩ := h9; (go_simp <;> first | omega | (exact wrap_nat (by omega)) | (intro h9; exfalso; omega) | (intro h8 h9; exfalso; omega))⟩) HS9 ?_
            refine wpAnyD_take (i := 10) (v := (.slice (some ⟨b, off, none⟩) G cg)) (by decide) rfl (by kernel_rfl) (by kernel_rfl) (by kernel_rfl) (fun _ _ _ h => h) (.inl ⟨by kernel_rfl, fun w9 h9 => by obtain ⟨s0, s1, s2, s3⟩ := h9; (go_simp <;> first | omega | (exact wrap_nat (by omega)) | (intro h9; exfalso; omega) | (intro h8 h9; exfalso; omega))⟩) HS9 ?_
            refine wpAnyD_take (i := 11) (v := (.int .i64 (a : Int))) (by decide) rfl (by kernel_rfl) (by kernel_rfl) (by kernel_rfl) (fun _ _ _ h => h) (.inl ⟨by kernel_rfl, fun w9 h9 => by obtain ⟨s0, s1, s2, s3⟩ := h9; (go_simp <;> first | omega | (exact wrap_nat (by omega)) | (intro h9; exfalso; omega) | (intro h8 h9; exfalso; omega))⟩) HS9 ?_
            refine wpAnyD_take (i := 12) (v := (.pointer (some ⟨b, off + a, none⟩))) (by decide) rfl (by kernel_rfl) (by kernel_rfl) (by kernel_rfl) (fun _ _ _ h => h) (.inl ⟨by kernel_rfl, fun w9 h9 => by obtain ⟨s0, s1, s2, s3⟩ := h9; (go_simp <;> first | omega | (exact wrap_nat (by omega)) | (intro h9; exfalso; omega) | (intro h8 h9; exfalso; omega))⟩) HS9 ?_
            refine wpAnyD_take (i := 13) (v := (.slice (some ⟨q, o', none⟩) m c')) (by decide) rfl (by kernel_rfl) (by kernel_rfl) (by kernel_rfl) (fun _ _ _ h => h) (.inl ⟨by kernel_rfl, fun w9 h9 => by obtain ⟨s0, s1, s2, s3⟩ := h9; (go_simp <;> first | omega | (exact wrap_nat (by omega)) | (intro h9; exfalso; omega) | (intro h8 h9; exfalso; omega))⟩) HS9 ?_
            refine wpAnyD_take (i := 14) (v := (.pointer (some ⟨q, o', none⟩))) (by decide) rfl (by kernel_rfl) (by kernel_rfl) (by kernel_rfl) (fun _ _ _ h => h) (.inl ⟨by kernel_rfl, fun w9 h9 => by obtain ⟨s0, s1, s2, s3⟩ := h9; (go_simp <;> first | omega | (exact wrap_nat (by omega)) | (intro h9; exfalso; omega) | (intro h8 h9; exfalso; omega))⟩) HS9 ?_
            refine wpAnyD_take (i := 15) (v := (.int .i64 (f : Int))) (by decide) rfl (by kernel_rfl) (by kernel_rfl) (by kernel_rfl) (fun _ _ _ h => h) (.inl ⟨by kernel_rfl, fun w9 h9 => by obtain ⟨s0, s1, s2, s3⟩ := h9; (go_simp <;> first | omega | (exact wrap_nat (by omega)) | (intro h9; exfalso; omega) | (intro h8 h9; exfalso; omega))⟩) HS9 ?_
            refine wpAnyD_take (i := 16) (v := (.slice (some ⟨b, off, none⟩) G cg)) (by decide) rfl (by kernel_rfl) (by kernel_rfl) (by kernel_rfl) (fun _ _ _ h => h) (.inl ⟨by kernel_rfl, fun w9 h9 => by obtain ⟨s0, s1, s2, s3⟩ := h9; (go_simp <;> first | omega | (exact wrap_nat (by omega)) | (intro h9; exfalso; omega) | (intro h8 h9; exfalso; omega))⟩) HS9 ?_
            refine wpAnyD_take (i := 17) (v := (.int .i64 (a : Int))) (by decide) rfl (by kernel_rfl) (by kernel_rfl) (by kernel_rfl) (fun _ _ _ h => h) (.inl ⟨by kernel_rfl, fun w9 h9 => by obtain ⟨s0, s1, s2, s3⟩ := h9; (go_simp <;> first | omega | (exact wrap_nat (by omega)) | (intro h9; exfalso; omega) | (intro h8 h9; exfalso; omega))⟩) HS9 ?_
            refine wpAnyD_take (i := 18) (v := (.int .i64 (p : Int))) (by decide) rfl (by kernel_rfl) (by kernel_rfl) (by kernel_rfl) (fun _ _ _ h => h) (.inl ⟨by kernel_rfl, fun w9 h9 => by obtain ⟨s0, s1, s2, s3⟩ := h9; (go_simp <;> first | omega | (exact wrap_nat (by omega)) | (intro h9; exfalso; omega) | (intro h8 h9; exfalso; omega))⟩) HS9 ?_
            refine wpAnyD_take (i := 19) (v := (.pointer (some ⟨b, off + p, none⟩))) (by decide) rfl (by kernel_rfl) (by kernel_rfl) (by kernel_rfl) (fun _ _ _ h => h) (.inl ⟨by kernel_rfl, fun w9 h9 => by obtain ⟨s0, s1, s2, s3⟩ := h9; (go_simp <;> first | omega | (exact wrap_nat (by omega)) | (intro h9; exfalso; omega) | (intro h8 h9; exfalso; omega))⟩) HS9 ?_
            refine wpAnyD_take (i := 20) (v := (.slice (some ⟨qp, op, none⟩) mp cp)) (by decide) rfl (by kernel_rfl) (by kernel_rfl) (by kernel_rfl) (fun _ _ _ h => h) (.inl ⟨by kernel_rfl, fun w9 h9 => by obtain ⟨s0, s1, s2, s3⟩ := h9; (go_simp <;> first | omega | (exact wrap_nat (by omega)) | (intro h9; exfalso; omega) | (intro h8 h9; exfalso; omega))⟩) HS9 ?_
            refine wpAnyD_take (i := 21) (v := (.pointer (some ⟨qp, op, none⟩))) (by decide) rfl (by kernel_rfl) (by kernel_rfl) (by kernel_rfl) (fun _ _ _ h => h) (.inl ⟨by kernel_rfl, fun w9 h9 => by obtain ⟨s0, s1, s2, s3⟩ := h9; (go_simp <;> first | omega | (exact wrap_nat (by omega)) | (intro h9; exfalso; omega) | (intro h8 h9; exfalso; omega))⟩) HS9 ?_
            refine wpAnyD_take (i := 22) (v := (.int .i64 (fp : Int))) (by decide) rfl (by kernel_rfl) (by kernel_rfl) (by kernel_rfl) (fun _ _ _ h => h) (.inl ⟨by kernel_rfl, fun w9 h9 => by obtain ⟨s0, s1, s2, s3⟩ := h9; (go_simp <;> first | omega | (exact wrap_nat (by omega)) | (intro h9; exfalso; omega) | (intro h8 h9; exfalso; omega))⟩) HS9 ?_
            refine wpAnyD_take (i := 23) (v := (.bool false)) (by decide) rfl (by kernel_rfl) (by kernel_rfl) (by kernel_rfl) (fun _ _ _ h => h) (.inl ⟨by kernel_rfl, fun w9 h9 => by obtain ⟨s0, s1, s2, s3⟩ := h9; (go_simp <;> first | omega | (exact wrap_nat (by omega)) | (intro h9; exfalso; omega) | (intro h8 h9; exfalso; omega))⟩) HS9 ?_
            refine wpAnyD_take (i := 24) (v := (.bool false)) (by decide) rfl (by kernel_rfl) (by kernel_rfl) (by kernel_rfl) (fun _ _ _ h => h) (.inl ⟨by kernel_rfl, fun w9 h9 => by obtain ⟨s0, s1, s2, s3⟩ := h9; (go_simp <;> first | omega | (exact wrap_nat (by omega)) | (intro h9; exfalso; omega) | (intro h8 h9; exfalso; omega))⟩) HS9 ?_
            refine wpAnyD_take (i := 25) (v := (.bool false)) (by decide) rfl (by kernel_rfl) (by kernel_rfl) (by kernel_rfl) (fun _ _ _ h => h) (.inl ⟨by kernel_rfl, fun w9 h9 => by obtain ⟨s0, s1, s2, s3⟩ := h9; (go_simp <;> first | omega | (exact wrap_nat (by omega)) | (intro h9; exfalso; omega) | (intro h8 h9; exfalso; omega))⟩) HS9 ?_
            refine wpAnyD_done (by kernel_rfl) ?_ _
            refine hK1 _ _ (frame_at (K := Met J1) (b := ⟨#[Value.slice (some { block := eb, off := eo }) N c3, undef, u2, Value.slice (some { block := b, off := off }) G cg, Value.slice A4 G c4, Value.slice (some { block := w4.heap.size, off := 0 }) N N, Value.int IntKind.i64 (a : Int), u7, u8, undef, Value.slice A n c, Value.slice (some { block := eb, off := eo }) N c3, Value.slice (some { block := eb, off := eo }) N c3, Value.slice (some { block := b, off := off }) G cg, Value.slice (some { block := eb, off := eo }) N c3, Value.slice A4 G c4, Value.slice (some { block := eb, off := eo }) N c3, Value.bool true, Value.bool false, undef, undef, undef, undef, undef, undef, undef, undef, undef, undef, undef, Value.slice (some { block := eb, off := eo }) N c3, Value.int IntKind.i64 (N : Int), Value.slice (some { block := w4.heap.size, off := 0 }) N N, Value.int IntKind.i64 (a : Int), Value.slice (some { block := b, off := off }) G cg, Value.int IntKind.i64 (G : Int), Value.bool true, u37, u38, Value.slice (some ⟨b, off, none⟩) G cg, Value.int .i64 (a : Int), Value.pointer (some ⟨b, off + a, none⟩), Value.slice (some ⟨q, o', none⟩) m c', Value.int .i64 (m : Int), Value.bool false, Value.bool false, Value.int .i64 (a : Int), Value.bool true, Value.bool true, Value.slice (some ⟨b, off, none⟩) G cg, Value.int .i64 (a : Int), Value.pointer (some ⟨b, off + a, none⟩), Value.slice (some ⟨q, o', none⟩) m c', Value.pointer (some ⟨q, o', none⟩), Value.int .i64 (f : Int), Value.slice (some ⟨b, off, none⟩) G cg, Value.int .i64 (a : Int), Value.int .i64 (p : Int), Value.pointer (some ⟨b, off + p, none⟩), Value.slice (some ⟨qp, op, none⟩) mp cp, Value.pointer (some ⟨qp, op, none⟩), Value.int .i64 (fp : Int), Value.bool false, Value.bool false, Value.bool false, u65, u66, u67, u68, u69, u70, u71, u72, u73, u74, u75, u76, u77, u78, u79, u80, u81, u82, u83, u84, u85, u86, u87, u88, u89, u90, u91, u92, u93, u94, u95, u96, u97, u98, u99, u100, u101, u102, u103, u104, u105, u106, u107, u108, u109, u110, u111, u112, u113, u114, u115, u116, u117, u118, u119, u120, u121, u122, u123, u124, u125, u126, u127, u128, u129, u130, undef, undef, undef, undef, undef, undef, undef, undef, undef, undef, undef, undef, undef, undef, undef, undef, undef, undef, undef, undef, undef, undef, undef], []⟩) (by kernel_rfl) ?_)
            go_meet
            exact ⟨rfl, HSD, HWD⟩
        case rest =>
          clear HS HW k0 k1 k2 k4
          obtain ⟨rfl, HS, HW⟩ := hcut
          generalize hmm : (rowOf gl a).length = m at *
          have HMM := Lib.hid hmm
          clear hmm
          go_wp2
          go_loopw [7, 8] (fun v _ wi => ∃ t : Nat, t ≤ m ∧ v = .int .i64 t ∧ Hid (SeenB wi w4.heap.size N (flatK gl a t)) ∧ Hid (Below w4.heap.size w4 wi)) (fun v _ _ => m - (intOf v).toNat)
          case atStart => exact ⟨0, by omega, rfl, HS, HW⟩
          case round =>
            rename World => wi
            obtain ⟨t, ht, rfl, HSi, HWi⟩ := hrel
            obtain ⟨q, o', c', k0, k1, k2, k3⟩ := HM.out wi HWi.out
            by_cases htm : t < m
            · obtain ⟨x, hx, hx2, hxN⟩ := HMEM.out t htm
              have k4 := k3 t _ htm hx
              have k5 := k3 0 _ hne HF.out
              rw [Nat.add_zero] at k5
              have hfN := HFN.out
              have e1 := ip_get (HE4.out.below HWi.out) hxN (HBLK.out t htm x hx)
              have e2 := ip_get (HE4.out.below HWi.out) hfN rfl
              have HX2 := Lib.hid (HSNOC.out t x hx2)
              have HCX := Lib.hid (HCNT.out t x)
              have HX := Lib.hid hx
              clear hx hx2
              generalize (nthI E f).b = bb at *
              have hq3 : decide ((N : Int) ≤ (x : Int)) = false := decide_eq_false (by omega)
              have hq4 : decide ((x : Int) < 0) = false := decide_eq_false (by omega)
              have hq5 : ¬ (N ≤ x) := by omega
              have HK3 := Lib.hid k3
              clear k3
              go_upto_region 15 with (fail)
              go_cut [124] (fun v124 wx => v124 = .bool false ∧ Hid (SeenB wx w4.heap.size N (flatK gl a t)) ∧ Hid (Below w4.heap.size w4 wx))
              case first =>
                rename_i J1 K1 hJ1 hK1
                have HSD : Hid (SeenB wi.drew w4.heap.size N (flatK gl a t)) := Bk.keep HSi.out (drew1 wi)
                have HWD : Hid (Below w4.heap.size w4 wi.drew) := below_then HWi.out (drew1 wi)
                rcases Nat.eq_zero_or_pos t with rfl | hap
                · clear HK3 HM HINC HMEM HBLK HNEXT HSNOC HCNT hz HX HX2 HCX HSi HWi
                  have HS9 : (fun w' : World => w'.cell? ⟨b, off + a, none⟩ = some (.slice (some ⟨q, o', none⟩) m c') ∧ w'.cell? ⟨q, o', none⟩ = some (.int .i64 (f : Int)) ∧ w'.cell? ⟨eb, eo + x * 4, none⟩ = some (.int .i64 bb) ∧ w'.cell? ⟨eb, eo + f * 4, none⟩ = some (.int .i64 bb)) wi.drew := ⟨keep_cell k0 (drew1 wi), keep_cell k5 (drew1 wi), keep_cell e1 (drew1 wi), keep_cell e2 (drew1 wi)⟩
                  clear k0 k4 k5 e1 e2
                  refine wp_region_D (fun w' => w'.cell? ⟨b, off + a, none⟩ = some (.slice (some ⟨q, o', none⟩) m c') ∧ w'.cell? ⟨q, o', none⟩ = some (.int .i64 (f : Int)) ∧ w'.cell? ⟨eb, eo + x * 4, none⟩ = some (.int .i64 bb) ∧ w'.cell? ⟨eb, eo + f * 4, none⟩ = some (.int .i64 bb)) [0, 1, 2, 3, 4, 5, 6, 7, 8, 9, 10, 11, 12, 13, 14, 15, 16, 17, 18, 19, 20, 21, 22, 23, 24, 25, 26, 27, 28, 29, 30, 31, 32, 33, 34, 35, 36, 37, 38, 39, 40, 41, 42, 43] (by kernel_rfl) ?_
                  change wpAnyD _ _ _ _ _ _ 44 _ _ wi.drew
                  generalize wi.drew = w0 at *
                  refine wpAnyD_take (i := 0) (v := (.int .i64 (x : Int))) (by decide) rfl (by kernel_rfl) (by kernel_rfl) (by kernel_rfl) (fun _ _ _ h => h) (.inl ⟨by kernel_rfl, fun w9 h9 => by obtain ⟨s0, s1, s2, s3⟩ := h9; (go_simp <;> first | omega | (exact wrap_nat (by omega)) | (intro h9; exfalso; omega) | (intro h8 h9; exfalso; omega))⟩) HS9 ?_
                  refine wpAnyD_take (i := 1) (v := (.bool false)) (by decide) rfl (by kernel_rfl) (by kernel_rfl) (by kernel_rfl) (fun _ _ _ h => h) (.inl ⟨by kernel_rfl, fun w9 h9 => by obtain ⟨s0, s1, s2, s3⟩ := h9; (go_simp <;> first | omega | (exact wrap_nat (by omega)) | (intro h9; exfalso; omega) | (intro h8 h9; exfalso; omega))⟩) HS9 ?_
                  refine wpAnyD_take (i := 2) (v := (.bool false)) (by decide) rfl (by kernel_rfl) (by kernel_rfl) (by kernel_rfl) (fun _ _ _ h => h) (.inl ⟨by kernel_rfl, fun w9 h9 => by obtain ⟨s0, s1, s2, s3⟩ := h9; (go_simp <;> first | omega | (exact wrap_nat (by omega)) | (intro h9; exfalso; omega) | (intro h8 h9; exfalso; omega))⟩) HS9 ?_
                  refine wpAnyD_take (i := 3) (v := (.int .i64 (x : Int))) (by decide) rfl (by kernel_rfl) (by kernel_rfl) (by kernel_rfl) (fun _ _ _ h => h) (.inl ⟨by kernel_rfl, fun w9 h9 => by obtain ⟨s0, s1, s2, s3⟩ := h9; (go_simp <;> first | omega | (exact wrap_nat (by omega)) | (intro h9; exfalso; omega) | (intro h8 h9; exfalso; omega))⟩) HS9 ?_
                  refine wpAnyD_take (i := 4) (v := (.slice (some ⟨eb, eo, none⟩) N c3)) (by decide) rfl (by kernel_rfl) (by kernel_rfl) (by kernel_rfl) (fun _ _ _ h => h) (.inl ⟨by kernel_rfl, fun w9 h9 => by obtain ⟨s0, s1, s2, s3⟩ := h9; (go_simp <;> first | omega | (exact wrap_nat (by omega)) | (intro h9; exfalso; omega) | (intro h8 h9; exfalso; omega))⟩) HS9 ?_
                  refine wpAnyD_take (i := 5) (v := (.int .i64 (N : Int))) (by decide) rfl (by kernel_rfl) (by kernel_rfl) (by kernel_rfl) (fun _ _ _ h => h) (.inl ⟨by kernel_rfl, fun w9 h9 => by obtain ⟨s0, s1, s2, s3⟩ := h9; (go_simp <;> first | omega | (exact wrap_nat (by omega)) | (intro h9; exfalso; omega) | (intro h8 h9; exfalso; omega))⟩) HS9 ?_
                  refine wpAnyD_take (i := 6) (v := (.bool false)) (by decide) rfl (by kernel_rfl) (by kernel_rfl) (by kernel_rfl) (fun _ _ _ h => h) (.inl ⟨by kernel_rfl, fun w9 h9 => by obtain ⟨s0, s1, s2, s3⟩ := h9; (go_simp <;> first | omega | (exact wrap_nat (by omega)) | (intro h9; exfalso; omega) | (intro h8 h9; exfalso; omega))⟩) HS9 ?_
                  refine wpAnyD_take (i := 7) (v := (.bool false)) (by decide) rfl (by kernel_rfl) (by kernel_rfl) (by kernel_rfl) (fun _ _ _ h => h) (.inl ⟨by kernel_rfl, fun w9 h9 => by obtain ⟨s0, s1, s2, s3⟩ := h9; (go_simp <;> first | omega | (exact wrap_nat (by omega)) | (intro h9; exfalso; omega) | (intro h8 h9; exfalso; omega))⟩) HS9 ?_
                  refine wpAnyD_take (i := 8) (v := (.bool false)) (by decide) rfl (by kernel_rfl) (by kernel_rfl) (by kernel_rfl) (fun _ _ _ h => h) (.inl ⟨by kernel_rfl, fun w9 h9 => by obtain ⟨s0, s1, s2, s3⟩ := h9; (go_simp <;> first | omega | (exact wrap_nat (by omega)) | (intro h9; exfalso; omega) | (intro h8 h9; exfalso; omega))⟩) HS9 ?_
                  refine wpAnyD_take (i := 9) (v := (.int .i64 (0 : Int))) (by decide) rfl (by kernel_rfl) (by kernel_rfl) (by kernel_rfl) (fun _ _ _ h => h) (.inl ⟨by kernel_rfl, fun w9 h9 => by obtain ⟨s0, s1, s2, s3⟩ := h9; (go_simp <;> first | omega | (exact wrap_nat (by omega)) | (intro h9; exfalso; omega) | (intro h8 h9; exfalso; omega))⟩) HS9 ?_
                  refine wpAnyD_take (i := 10) (v := (.bool false)) (by decide) rfl (by kernel_rfl) (by kernel_rfl) (by kernel_rfl) (fun _ _ _ h => h) (.inl ⟨by kernel_rfl, fun w9 h9 => by obtain ⟨s0, s1, s2, s3⟩ := h9; (go_simp <;> first | omega | (exact wrap_nat (by omega)) | (intro h9; exfalso; omega) | (intro h8 h9; exfalso; omega))⟩) HS9 ?_
                  refine wpAnyD_take (i := 11) (v := (.bool false)) (by decide) rfl (by kernel_rfl) (by kernel_rfl) (by kernel_rfl) (fun _ _ _ h => h) (.inl ⟨by kernel_rfl, fun w9 h9 => by obtain ⟨s0, s1, s2, s3⟩ := h9; (go_simp <;> first | omega | (exact wrap_nat (by omega)) | (intro h9; exfalso; omega) | (intro h8 h9; exfalso; omega))⟩) HS9 ?_
                  refine wpAnyD_take (i := 12) (v := undef) (by decide) rfl (by kernel_rfl) (by kernel_rfl) (by kernel_rfl) (fun _ _ _ h => h) (.inr ⟨by kernel_rfl, rfl⟩) HS9 ?_
                  refine wpAnyD_take (i := 13) (v := undef) (by decide) rfl (by kernel_rfl) (by kernel_rfl) (by kernel_rfl) (fun _ _ _ h => h) (.inr ⟨by kernel_rfl, rfl⟩) HS9 ?_
                  refine wpAnyD_take (i := 14) (v := undef) (by decide) rfl (by kernel_rfl) (by kernel_rfl) (by kernel_rfl) (fun _ _ _ h => h) (.inr ⟨by kernel_rfl, rfl⟩) HS9 ?_
                  refine wpAnyD_take (i := 15) (v := undef) (by decide) rfl (by kernel_rfl) (by kernel_rfl) (by kernel_rfl) (fun _ _ _ h => h) (.inr ⟨by kernel_rfl, rfl⟩) HS9 ?_
                  refine wpAnyD_take (i := 16) (v := undef) (by decide) rfl (by kernel_rfl) (by kernel_rfl) (by kernel_rfl) (fun _ _ _ h => h) (.inr ⟨by kernel_rfl, rfl⟩) HS9 ?_
                  refine wpAnyD_take (i := 17) (v := undef) (by decide) rfl (by kernel_rfl) (by kernel_rfl) (by kernel_rfl) (fun _ _ _ h => h) (.inr ⟨by kernel_rfl, rfl⟩) HS9 ?_
                  refine wpAnyD_take (i := 18) (v := undef) (by decide) rfl (by kernel_rfl) (by kernel_rfl) (by kernel_rfl) (fun _ _ _ h => h) (.inr ⟨by kernel_rfl, rfl⟩) HS9 ?_
                  refine wpAnyD_take (i := 19) (v := undef) (by decide) rfl (by kernel_rfl) (by kernel_rfl) (by kernel_rfl) (fun _ _ _ h => h) (.inr ⟨by kernel_rfl, rfl⟩) HS9 ?_
                  refine wpAnyD_take (i := 20) (v := undef) (by decide) rfl (by kernel_rfl) (by kernel_rfl) (by kernel_rfl) (fun _ _ _ h => h) (.inr ⟨by kernel_rfl, rfl⟩) HS9 ?_
                  refine wpAnyD_take (i := 21) (v := undef) (by decide) rfl (by kernel_rfl) (by kernel_rfl) (by kernel_rfl) (fun _ _ _ h => h) (.inr ⟨by kernel_rfl, rfl⟩) HS9 ?_
                  refine wpAnyD_take (i := 22) (v := (.bool false)) (by decide) rfl (by kernel_rfl) (by kernel_rfl) (by kernel_rfl) (fun _ _ _ h => h) (.inl ⟨by kernel_rfl, fun w9 h9 => by obtain ⟨s0, s1, s2, s3⟩ := h9; (go_simp <;> first | omega | (exact wrap_nat (by omega)) | (intro h9; exfalso; omega) | (intro h8 h9; exfalso; omega))⟩) HS9 ?_
                  refine wpAnyD_take (i := 23) (v := (.bool false)) (by decide) rfl (by kernel_rfl) (by kernel_rfl) (by kernel_rfl) (fun _ _ _ h => h) (.inl ⟨by kernel_rfl, fun w9 h9 => by obtain ⟨s0, s1, s2, s3⟩ := h9; (go_simp <;> first | omega | (exact wrap_nat (by omega)) | (intro h9; exfalso; omega) | (intro h8 h9; exfalso; omega))⟩) HS9 ?_
                  refine wpAnyD_take (i := 24) (v := (.bool false)) (by decide) rfl (by kernel_rfl) (by kernel_rfl) (by kernel_rfl) (fun _ _ _ h => h) (.inl ⟨by kernel_rfl, fun w9 h9 => by obtain ⟨s0, s1, s2, s3⟩ := h9; (go_simp <;> first | omega | (exact wrap_nat (by omega)) | (intro h9; exfalso; omega) | (intro h8 h9; exfalso; omega))⟩) HS9 ?_
                  refine wpAnyD_take (i := 25) (v := (.slice (some ⟨eb, eo, none⟩) N c3)) (by decide) rfl (by kernel_rfl) (by kernel_rfl) (by kernel_rfl) (fun _ _ _ h => h) (.inl ⟨by kernel_rfl, fun w9 h9 => by obtain ⟨s0, s1, s2, s3⟩ := h9; (go_simp <;> first | omega | (exact wrap_nat (by omega)) | (intro h9; exfalso; omega) | (intro h8 h9; exfalso; omega))⟩) HS9 ?_
                  refine wpAnyD_take (i := 26) (v := (.int .i64 (x : Int))) (by decide) rfl (by kernel_rfl) (by kernel_rfl) (by kernel_rfl) (fun _ _ _ h => h) (.inl ⟨by kernel_rfl, fun w9 h9 => by obtain ⟨s0, s1, s2, s3⟩ := h9; (go_simp <;> first | omega | (exact wrap_nat (by omega)) | (intro h9; exfalso; omega) | (intro h8 h9; exfalso; omega))⟩) HS9 ?_
                  refine wpAnyD_take (i := 27) (v := (.pointer (some ⟨eb, eo + x * 4, none⟩))) (by decide) rfl (by kernel_rfl) (by kernel_rfl) (by kernel_rfl) (fun _ _ _ h => h) (.inl ⟨by kernel_rfl, fun w9 h9 => by obtain ⟨s0, s1, s2, s3⟩ := h9; (go_simp <;> first | omega | (exact wrap_nat (by omega)) | (intro h9; exfalso; omega) | (intro h8 h9; exfalso; omega))⟩) HS9 ?_
                  refine wpAnyD_take (i := 28) (v := (.pointer (some ⟨eb, eo + x * 4, none⟩))) (by decide) rfl (by kernel_rfl) (by kernel_rfl) (by kernel_rfl) (fun _ _ _ h => h) (.inl ⟨by kernel_rfl, fun w9 h9 => by obtain ⟨s0, s1, s2, s3⟩ := h9; (go_simp <;> first | omega | (exact wrap_nat (by omega)) | (intro h9; exfalso; omega) | (intro h8 h9; exfalso; omega))⟩) HS9 ?_
                  refine wpAnyD_take (i := 29) (v := (.pointer (some ⟨eb, eo + x * 4, none⟩))) (by decide) rfl (by kernel_rfl) (by kernel_rfl) (by kernel_rfl) (fun _ _ _ h => h) (.inl ⟨by kernel_rfl, fun w9 h9 => by obtain ⟨s0, s1, s2, s3⟩ := h9; (go_simp <;> first | omega | (exact wrap_nat (by omega)) | (intro h9; exfalso; omega) | (intro h8 h9; exfalso; omega))⟩) HS9 ?_
                  refine wpAnyD_take (i := 30) (v := (.int .i64 bb)) (by decide) rfl (by kernel_rfl) (by kernel_rfl) (by kernel_rfl) (fun _ _ _ h => h) (.inl ⟨by kernel_rfl, fun w9 h9 => by obtain ⟨s0, s1, s2, s3⟩ := h9; (go_simp <;> first | omega | (exact wrap_nat (by omega)) | (intro h9; exfalso; omega) | (intro h8 h9; exfalso; omega))⟩) HS9 ?_
                  refine wpAnyD_take (i := 31) (v := (.slice (some ⟨eb, eo, none⟩) N c3)) (by decide) rfl (by kernel_rfl) (by kernel_rfl) (by kernel_rfl) (fun _ _ _ h => h) (.inl ⟨by kernel_rfl, fun w9 h9 => by obtain ⟨s0, s1, s2, s3⟩ := h9; (go_simp <;> first | omega | (exact wrap_nat (by omega)) | (intro h9; exfalso; omega) | (intro h8 h9; exfalso; omega))⟩) HS9 ?_
                  refine wpAnyD_take (i := 32) (v := (.slice (some ⟨b, off, none⟩) G cg)) (by decide) rfl (by kernel_rfl) (by kernel_rfl) (by kernel_rfl) (fun _ _ _ h => h) (.inl ⟨by kernel_rfl, fun w9 h9 => by obtain ⟨s0, s1, s2, s3⟩ := h9; (go_simp <;> first | omega | (exact wrap_nat (by omega)) | (intro h9; exfalso; omega) | (intro h8 h9; exfalso; omega))⟩) HS9 ?_
                  refine wpAnyD_take (i := 33) (v := (.int .i64 (a : Int))) (by decide) rfl (by kernel_rfl) (by kernel_rfl) (by kernel_rfl) (fun _ _ _ h => h) (.inl ⟨by kernel_rfl, fun w9 h9 => by obtain ⟨s0, s1, s2, s3⟩ := h9; (go_simp <;> first | omega | (exact wrap_nat (by omega)) | (intro h9; exfalso; omega) | (intro h8 h9; exfalso; omega))⟩) HS9 ?_
                  refine wpAnyD_take (i := 34) (v := (.pointer (some ⟨b, off + a, none⟩))) (by decide) rfl (by kernel_rfl) (by kernel_rfl) (by kernel_rfl) (fun _ _ _ h => h) (.inl ⟨by kernel_rfl, fun w9 h9 => by obtain ⟨s0, s1, s2, s3⟩ := h9; (go_simp <;> first | omega | (exact wrap_nat (by omega)) | (intro h9; exfalso; omega) | (intro h8 h9; exfalso; omega))⟩) HS9 ?_
                  refine wpAnyD_take (i := 35) (v := (.slice (some ⟨q, o', none⟩) m c')) (by decide) rfl (by kernel_rfl) (by kernel_rfl) (by kernel_rfl) (fun _ _ _ h => h) (.inl ⟨by kernel_rfl, fun w9 h9 => by obtain ⟨s0, s1, s2, s3⟩ := h9; (go_simp <;> first | omega | (exact wrap_nat (by omega)) | (intro h9; exfalso; omega) | (intro h8 h9; exfalso; omega))⟩) HS9 ?_
                  refine wpAnyD_take (i := 36) (v := (.pointer (some ⟨q, o', none⟩))) (by decide) rfl (by kernel_rfl) (by kernel_rfl) (by kernel_rfl) (fun _ _ _ h => h) (.inl ⟨by kernel_rfl, fun w9 h9 => by obtain ⟨s0, s1, s2, s3⟩ := h9; (go_simp <;> first | omega | (exact wrap_nat (by omega)) | (intro h9; exfalso; omega) | (intro h8 h9; exfalso; omega))⟩) HS9 ?_
                  refine wpAnyD_take (i := 37) (v := (.int .i64 (f : Int))) (by decide) rfl (by kernel_rfl) (by kernel_rfl) (by kernel_rfl) (fun _ _ _ h => h) (.inl ⟨by kernel_rfl, fun w9 h9 => by obtain ⟨s0, s1, s2, s3⟩ := h9; (go_simp <;> first | omega | (exact wrap_nat (by omega)) | (intro h9; exfalso; omega) | (intro h8 h9; exfalso; omega))⟩) HS9 ?_
                  refine wpAnyD_take (i := 38) (v := (.pointer (some ⟨eb, eo + f * 4, none⟩))) (by decide) rfl (by kernel_rfl) (by kernel_rfl) (by kernel_rfl) (fun _ _ _ h => h) (.inl ⟨by kernel_rfl, fun w9 h9 => by obtain ⟨s0, s1, s2, s3⟩ := h9; (go_simp <;> first | omega | (exact wrap_nat (by omega)) | (intro h9; exfalso; omega) | (intro h8 h9; exfalso; omega))⟩) HS9 ?_
                  refine wpAnyD_take (i := 39) (v := (.pointer (some ⟨eb, eo + f * 4, none⟩))) (by decide) rfl (by kernel_rfl) (by kernel_rfl) (by kernel_rfl) (fun _ _ _ h => h) (.inl ⟨by kernel_rfl, fun w9 h9 => by obtain ⟨s0, s1, s2, s3⟩ := h9; (go_simp <;> first | omega | (exact wrap_nat (by omega)) | (intro h9; exfalso; omega) | (intro h8 h9; exfalso; omega))⟩) HS9 ?_
                  refine wpAnyD_take (i := 40) (v := (.pointer (some ⟨eb, eo + f * 4, none⟩))) (by decide) rfl (by kernel_rfl) (by kernel_rfl) (by kernel_rfl) (fun _ _ _ h => h) (.inl ⟨by kernel_rfl, fun w9 h9 => by obtain ⟨s0, s1, s2, s3⟩ := h9; (go_simp <;> first | omega | (exact wrap_nat (by omega)) | (intro h9; exfalso; omega) | (intro h8 h9; exfalso; omega))⟩) HS9 ?_
                  refine wpAnyD_take (i := 41) (v := (.int .i64 bb)) (by decide) rfl (by kernel_rfl) (by kernel_rfl) (by kernel_rfl) (fun _ _ _ h => h) (.inl ⟨by kernel_rfl, fun w9 h9 => by obtain ⟨s0, s1, s2, s3⟩ := h9; (go_simp <;> first | omega | (exact wrap_nat (by omega)) | (intro h9; exfalso; omega) | (intro h8 h9; exfalso; omega))⟩) HS9 ?_
                  refine wpAnyD_take (i := 42) (v := (.bool false)) (by decide) rfl (by kernel_rfl) (by kernel_rfl) (by kernel_rfl) (fun _ _ _ h => h) (.inl ⟨by kernel_rfl, fun w9 h9 => by obtain ⟨s0, s1, s2, s3⟩ := h9; (go_simp <;> first | omega | (exact wrap_nat (by omega)) | (intro h9; exfalso; omega) | (intro h8 h9; exfalso; omega))⟩) HS9 ?_
                  refine wpAnyD_take (i := 43) (v := (.bool false)) (by decide) rfl (by kernel_rfl) (by kernel_rfl) (by kernel_rfl) (fun _ _ _ h => h) (.inl ⟨by kernel_rfl, fun w9 h9 => by obtain ⟨s0, s1, s2, s3⟩ := h9; (go_simp <;> first | omega | (exact wrap_nat (by omega)) | (intro h9; exfalso; omega) | (intro h8 h9; exfalso; omega))⟩) HS9 ?_
                  refine wpAnyD_done (by kernel_rfl) ?_ _
                  refine hK1 _ _ (frame_at (K := Met J1) (b := ⟨#[Value.slice (some { block := eb, off := eo }) N c3, undef, u2, Value.slice (some { block := b, off := off }) G cg, Value.slice A4 G c4, Value.slice (some { block := w4.heap.size, off := 0 }) N N, Value.int IntKind.i64 (a : Int), Value.int IntKind.i64 (0 : Int), Value.int IntKind.i64 (x : Int), undef, Value.slice A n c, Value.slice (some { block := eb, off := eo }) N c3, Value.slice (some { block := eb, off := eo }) N c3, Value.slice (some { block := b, off := off }) G cg, Value.slice (some { block := eb, off := eo }) N c3, Value.slice A4 G c4, Value.slice (some { block := eb, off := eo }) N c3, Value.bool true, Value.bool false, undef, undef, undef, undef, undef, undef, undef, undef, undef, undef, undef, Value.slice (some { block := eb, off := eo }) N c3, Value.int IntKind.i64 (N : Int), Value.slice (some { block := w4.heap.size, off := 0 }) N N, u33, u34, u35, u36, u37, u38, u39, u40, u41, u42, u43, u44, u45, u46, u47, u48, u49, u50, u51, u52, u53, u54, u55, u56, u57, u58, u59, u60, u61, u62, u63, Value.bool false, Value.int IntKind.i64 (0 : Int), Value.slice (some { block := b, off := off }) G cg, Value.int IntKind.i64 (a : Int), Value.pointer (some { block := b, off := off + a }), Value.slice (some { block := q, off := o' }) m c', Value.int IntKind.i64 (m : Int), Value.bool true, u72, u73, Value.slice (some { block := b, off := off }) G cg, Value.int IntKind.i64 (a : Int), Value.pointer (some { block := b, off := off + a }), Value.slice (some { block := q, off := o' }) m c', Value.int IntKind.i64 (0 : Int), Value.pointer (some { block := q, off := o' }), Value.int IntKind.i64 (x : Int), Value.int .i64 (x : Int), Value.bool false, Value.bool false, Value.int .i64 (x : Int), Value.slice (some ⟨eb, eo, none⟩) N c3, Value.int .i64 (N : Int), Value.bool false, Value.bool false, Value.bool false, Value.int .i64 (0 : Int), Value.bool false, Value.bool false, undef, undef, undef, undef, undef, undef, undef, undef, undef, undef, Value.bool false, Value.bool false, Value.bool false, Value.slice (some ⟨eb, eo, none⟩) N c3, Value.int .i64 (x : Int), Value.pointer (some ⟨eb, eo + x * 4, none⟩), Value.pointer (some ⟨eb, eo + x * 4, none⟩), Value.pointer (some ⟨eb, eo + x * 4, none⟩), Value.int .i64 bb, Value.slice (some ⟨eb, eo, none⟩) N c3, Value.slice (some ⟨b, off, none⟩) G cg, Value.int .i64 (a : Int), Value.pointer (some ⟨b, off + a, none⟩), Value.slice (some ⟨q, o', none⟩) m c', Value.pointer (some ⟨q, o', none⟩), Value.int .i64 (f : Int), Value.pointer (some ⟨eb, eo + f * 4, none⟩), Value.pointer (some ⟨eb, eo + f * 4, none⟩), Value.pointer (some ⟨eb, eo + f * 4, none⟩), Value.int .i64 bb, Value.bool false, Value.bool false, u125, u126, u127, u128, u129, u130, undef, undef, undef, undef, undef, undef, undef, undef, undef, undef, undef, undef, undef, undef, undef, undef, undef, undef, undef, undef, undef, undef, undef], []⟩) (by kernel_rfl) ?_)
                  go_meet
                  exact ⟨rfl, HSD, HWD⟩
                · obtain ⟨s, hs⟩ : ∃ s, t = s + 1 := ⟨t - 1, by omega⟩
                  obtain ⟨pv, hpv, _, _⟩ := HMEM.out s (by omega)
                  have k6 := HK3.out s _ (by omega) hpv
                  have hin := HINC.out s (by omega)
                  rw [hpv, ← hs, HX.out] at hin
                  have hq2 : decide ((x : Int) ≤ (pv : Int)) = false := decide_eq_false (by omega)
                  have hq6 : pv < x := by omega
                  have hsm : s < m := by omega
                  have hs1 : s ≤ 1000 := by have := HMM.out; have := rowOf_length gl a; have := HGLN.out; omega
                  have hq7 : IntKind.i64.wrap ((t : Int) - 1) = (s : Int) := by rw [hs, show (((s + 1 : Nat) : Int) - 1) = (s : Int) by omega]; exact wrap_nat hs1
                  have hq8 : decide ((0 : Int) < (t : Int)) = true := decide_eq_true (by omega)
                  clear hpv hin hs HK3 HM HINC HMEM HBLK HNEXT HSNOC HCNT hz HX HX2 HCX HSi HWi
                  have HS9 : (fun w' : World => w'.cell? ⟨b, off + a, none⟩ = some (.slice (some ⟨q, o', none⟩) m c') ∧ w'.cell? ⟨q, o', none⟩ = some (.int .i64 (f : Int)) ∧ w'.cell? ⟨eb, eo + x * 4, none⟩ = some (.int .i64 bb) ∧ w'.cell? ⟨eb, eo + f * 4, none⟩ = some (.int .i64 bb) ∧ w'.cell? ⟨q, o' + s, none⟩ = some (.int .i64 (pv : Int))) wi.drew := ⟨keep_cell k0 (drew1 wi), keep_cell k5 (drew1 wi), keep_cell e1 (drew1 wi), keep_cell e2 (drew1 wi), keep_cell k6 (drew1 wi)⟩
                  clear k0 k4 k5 k6 e1 e2
                  refine wp_region_D (fun w' => w'.cell? ⟨b, off + a, none⟩ = some (.slice (some ⟨q, o', none⟩) m c') ∧ w'.cell? ⟨q, o', none⟩ = some (.int .i64 (f : Int)) ∧ w'.cell? ⟨eb, eo + x * 4, none⟩ = some (.int .i64 bb) ∧ w'.cell? ⟨eb, eo + f * 4, none⟩ = some (.int .i64 bb) ∧ w'.cell? ⟨q, o' + s, none⟩ = some (.int .i64 (pv : Int))) [0, 1, 2, 3, 4, 5, 6, 7, 8, 9, 10, 11, 12, 13, 14, 15, 16, 17, 18, 19, 20, 21, 22, 23, 24, 25, 26, 27, 28, 29, 30, 31, 32, 33, 34, 35, 36, 37, 38, 39, 40, 41, 42, 43] (by kernel_rfl) ?_
                  change wpAnyD _ _ _ _ _ _ 44 _ _ wi.drew
                  generalize wi.drew = w0 at *
                  refine wpAnyD_take (i := 0) (v := (.int .i64 (x : Int))) (by decide) rfl (by kernel_rfl) (by kernel_rfl) (by kernel_rfl) (fun _ _ _ h => h) (.inl ⟨by kernel_rfl, fun w9 h9 => by obtain ⟨s0, s1, s2, s3, s4⟩ := h9; (go_simp <;> first | omega | (exact wrap_nat (by omega)) | (intro h9; exfalso; omega) | (intro h8 h9; exfalso; omega))⟩) HS9 ?_
                  refine wpAnyD_take (i := 1) (v := (.bool false)) (by decide) rfl (by kernel_rfl) (by kernel_rfl) (by kernel_rfl) (fun _ _ _ h => h) (.inl ⟨by kernel_rfl, fun w9 h9 => by obtain ⟨s0, s1, s2, s3, s4⟩ := h9; (go_simp <;> first | omega | (exact wrap_nat (by omega)) | (intro h9; exfalso; omega) | (intro h8 h9; exfalso; omega))⟩) HS9 ?_
                  refine wpAnyD_take (i := 2) (v := (.bool false)) (by decide) rfl (by kernel_rfl) (by kernel_rfl) (by kernel_rfl) (fun _ _ _ h => h) (.inl ⟨by kernel_rfl, fun w9 h9 => by obtain ⟨s0, s1, s2, s3, s4⟩ := h9; (go_simp <;> first | omega | (exact wrap_nat (by omega)) | (intro h9; exfalso; omega) | (intro h8 h9; exfalso; omega))⟩) HS9 ?_
                  refine wpAnyD_take (i := 3) (v := (.int .i64 (x : Int))) (by decide) rfl (by kernel_rfl) (by kernel_rfl) (by kernel_rfl) (fun _ _ _ h => h) (.inl ⟨by kernel_rfl, fun w9 h9 => by obtain ⟨s0, s1, s2, s3, s4⟩ := h9; (go_simp <;> first | omega | (exact wrap_nat (by omega)) | (intro h9; exfalso; omega) | (intro h8 h9; exfalso; omega))⟩) HS9 ?_
                  refine wpAnyD_take (i := 4) (v := (.slice (some ⟨eb, eo, none⟩) N c3)) (by decide) rfl (by kernel_rfl) (by kernel_rfl) (by kernel_rfl) (fun _ _ _ h => h) (.inl ⟨by kernel_rfl, fun w9 h9 => by obtain ⟨s0, s1, s2, s3, s4⟩ := h9; (go_simp <;> first | omega | (exact wrap_nat (by omega)) | (intro h9; exfalso; omega) | (intro h8 h9; exfalso; omega))⟩) HS9 ?_
                  refine wpAnyD_take (i := 5) (v := (.int .i64 (N : Int))) (by decide) rfl (by kernel_rfl) (by kernel_rfl) (by kernel_rfl) (fun _ _ _ h => h) (.inl ⟨by kernel_rfl, fun w9 h9 => by obtain ⟨s0, s1, s2, s3, s4⟩ := h9; (go_simp <;> first | omega | (exact wrap_nat (by omega)) | (intro h9; exfalso; omega) | (intro h8 h9; exfalso; omega))⟩) HS9 ?_
                  refine wpAnyD_take (i := 6) (v := (.bool false)) (by decide) rfl (by kernel_rfl) (by kernel_rfl) (by kernel_rfl) (fun _ _ _ h => h) (.inl ⟨by kernel_rfl, fun w9 h9 => by obtain ⟨s0, s1, s2, s3, s4⟩ := h9; (go_simp <;> first | omega | (exact wrap_nat (by omega)) | (intro h9; exfalso; omega) | (intro h8 h9; exfalso; omega))⟩) HS9 ?_
                  refine wpAnyD_take (i := 7) (v := (.bool false)) (by decide) rfl (by kernel_rfl) (by kernel_rfl) (by kernel_rfl) (fun _ _ _ h => h) (.inl ⟨by kernel_rfl, fun w9 h9 => by obtain ⟨s0, s1, s2, s3, s4⟩ := h9; (go_simp <;> first | omega | (exact wrap_nat (by omega)) | (intro h9; exfalso; omega) | (intro h8 h9; exfalso; omega))⟩) HS9 ?_
                  refine wpAnyD_take (i := 8) (v := (.bool false)) (by decide) rfl (by kernel_rfl) (by kernel_rfl) (by kernel_rfl) (fun _ _ _ h => h) (.inl ⟨by kernel_rfl, fun w9 h9 => by obtain ⟨s0, s1, s2, s3, s4⟩ := h9; (go_simp <;> first | omega | (exact wrap_nat (by omega)) | (intro h9; exfalso; omega) | (intro h8 h9; exfalso; omega))⟩) HS9 ?_
                  refine wpAnyD_take (i := 9) (v := (.int .i64 (t : Int))) (by decide) rfl (by kernel_rfl) (by kernel_rfl) (by kernel_rfl) (fun _ _ _ h => h) (.inl ⟨by kernel_rfl, fun w9 h9 => by obtain ⟨s0, s1, s2, s3, s4⟩ := h9; (go_simp <;> first | omega | (exact wrap_nat (by omega)) | (intro h9; exfalso; omega) | (intro h8 h9; exfalso; omega))⟩) HS9 ?_
                  refine wpAnyD_take (i := 10) (v := (.bool true)) (by decide) rfl (by kernel_rfl) (by kernel_rfl) (by kernel_rfl) (fun _ _ _ h => h) (.inl ⟨by kernel_rfl, fun w9 h9 => by obtain ⟨s0, s1, s2, s3, s4⟩ := h9; (go_simp <;> first | omega | (exact wrap_nat (by omega)) | (intro h9; exfalso; omega) | (intro h8 h9; exfalso; omega))⟩) HS9 ?_
                  refine wpAnyD_take (i := 11) (v := (.bool true)) (by decide) rfl (by kernel_rfl) (by kernel_rfl) (by kernel_rfl) (fun _ _ _ h => h) (.inl ⟨by kernel_rfl, fun w9 h9 => by obtain ⟨s0, s1, s2, s3, s4⟩ := h9; (go_simp <;> first | omega | (exact wrap_nat (by omega)) | (intro h9; exfalso; omega) | (intro h8 h9; exfalso; omega))⟩) HS9 ?_
                  refine wpAnyD_take (i := 12) (v := (.int .i64 (x : Int))) (by decide) rfl (by kernel_rfl) (by kernel_rfl) (by kernel_rfl) (fun _ _ _ h => h) (.inl ⟨by kernel_rfl, fun w9 h9 => by obtain ⟨s0, s1, s2, s3, s4⟩ := h9; (go_simp <;> first | omega | (exact wrap_nat (by omega)) | (intro h9; exfalso; omega) | (intro h8 h9; exfalso; omega))⟩) HS9 ?_
                  refine wpAnyD_take (i := 13) (v := (.slice (some ⟨b, off, none⟩) G cg)) (by decide) rfl (by kernel_rfl) (by kernel_rfl) (by kernel_rfl) (fun _ _ _ h => h) (.inl ⟨by kernel_rfl, fun w9 h9 => by obtain ⟨s0, s1, s2, s3, s4⟩ := h9; (go_simp <;> first | omega | (exact wrap_nat (by omega)) | (intro h9; exfalso; omega) | (intro h8 h9; exfalso; omega))⟩) HS9 ?_
                  refine wpAnyD_take (i := 14) (v := (.int .i64 (a : Int))) (by decide) rfl (by kernel_rfl) (by kernel_rfl) (by kernel_rfl) (fun _ _ _ h => h) (.inl ⟨by kernel_rfl, fun w9 h9 => by obtain ⟨s0, s1, s2, s3, s4⟩ := h9; (go_simp <;> first | omega | (exact wrap_nat (by omega)) | (intro h9; exfalso; omega) | (intro h8 h9; exfalso; omega))⟩) HS9 ?_
                  refine wpAnyD_take (i := 15) (v := (.pointer (some ⟨b, off + a, none⟩))) (by decide) rfl (by kernel_rfl) (by kernel_rfl) (by kernel_rfl) (fun _ _ _ h => h) (.inl ⟨by kernel_rfl, fun w9 h9 => by obtain ⟨s0, s1, s2, s3, s4⟩ := h9; (go_simp <;> first | omega | (exact wrap_nat (by omega)) | (intro h9; exfalso; omega) | (intro h8 h9; exfalso; omega))⟩) HS9 ?_
                  refine wpAnyD_take (i := 16) (v := (.slice (some ⟨q, o', none⟩) m c')) (by decide) rfl (by kernel_rfl) (by kernel_rfl) (by kernel_rfl) (fun _ _ _ h => h) (.inl ⟨by kernel_rfl, fun w9 h9 => by obtain ⟨s0, s1, s2, s3, s4⟩ := h9; (go_simp <;> first | omega | (exact wrap_nat (by omega)) | (intro h9; exfalso; omega) | (intro h8 h9; exfalso; omega))⟩) HS9 ?_
                  refine wpAnyD_take (i := 17) (v := (.int .i64 (t : Int))) (by decide) rfl (by kernel_rfl) (by kernel_rfl) (by kernel_rfl) (fun _ _ _ h => h) (.inl ⟨by kernel_rfl, fun w9 h9 => by obtain ⟨s0, s1, s2, s3, s4⟩ := h9; (go_simp <;> first | omega | (exact wrap_nat (by omega)) | (intro h9; exfalso; omega) | (intro h8 h9; exfalso; omega))⟩) HS9 ?_
                  refine wpAnyD_take (i := 18) (v := (.int .i64 (s : Int))) (by decide) rfl (by kernel_rfl) (by kernel_rfl) (by kernel_rfl) (fun _ _ _ h => h) (.inl ⟨by kernel_rfl, fun w9 h9 => by obtain ⟨s0, s1, s2, s3, s4⟩ := h9; (go_simp <;> first | omega | (exact wrap_nat (by omega)) | (intro h9; exfalso; omega) | (intro h8 h9; exfalso; omega))⟩) HS9 ?_
                  refine wpAnyD_take (i := 19) (v := (.pointer (some ⟨q, o' + s, none⟩))) (by decide) rfl (by kernel_rfl) (by kernel_rfl) (by kernel_rfl) (fun _ _ _ h => h) (.inl ⟨by kernel_rfl, fun w9 h9 => by obtain ⟨s0, s1, s2, s3, s4⟩ := h9; (go_simp <;> first | omega | (exact wrap_nat (by omega)) | (intro h9; exfalso; omega) | (intro h8 h9; exfalso; omega))⟩) HS9 ?_
                  refine wpAnyD_take (i := 20) (v := (.int .i64 (pv : Int))) (by decide) rfl (by kernel_rfl) (by kernel_rfl) (by kernel_rfl) (fun _ _ _ h => h) (.inl ⟨by kernel_rfl, fun w9 h9 => by obtain ⟨s0, s1, s2, s3, s4⟩ := h9; (go_simp <;> first | omega | (exact wrap_nat (by omega)) | (intro h9; exfalso; omega) | (intro h8 h9; exfalso; omega))⟩) HS9 ?_
                  refine wpAnyD_take (i := 21) (v := (.bool false)) (by decide) rfl (by kernel_rfl) (by kernel_rfl) (by kernel_rfl) (fun _ _ _ h => h) (.inl ⟨by kernel_rfl, fun w9 h9 => by obtain ⟨s0, s1, s2, s3, s4⟩ := h9; (go_simp <;> first | omega | (exact wrap_nat (by omega)) | (intro h9; exfalso; omega) | (intro h8 h9; exfalso; omega))⟩) HS9 ?_
                  refine wpAnyD_take (i := 22) (v := (.bool false)) (by decide) rfl (by kernel_rfl) (by kernel_rfl) (by kernel_rfl) (fun _ _ _ h => h) (.inl ⟨by kernel_rfl, fun w9 h9 => by obtain ⟨s0, s1, s2, s3, s4⟩ := h9; (go_simp <;> first | omega | (exact wrap_nat (by omega)) | (intro h9; exfalso; omega) | (intro h8 h9; exfalso; omega))⟩) HS9 ?_
                  refine wpAnyD_take (i := 23) (v := (.bool false)) (by decide) rfl (by kernel_rfl) (by kernel_rfl) (by kernel_rfl) (fun _ _ _ h => h) (.inl ⟨by kernel_rfl, fun w9 h9 => by obtain ⟨s0, s1, s2, s3, s4⟩ := h9; (go_simp <;> first | omega | (exact wrap_nat (by omega)) | (intro h9; exfalso; omega) | (intro h8 h9; exfalso; omega))⟩) HS9 ?_
                  refine wpAnyD_take (i := 24) (v := (.bool false)) (by decide) rfl (by kernel_rfl) (by kernel_rfl) (by kernel_rfl) (fun _ _ _ h => h) (.inl ⟨by kernel_rfl, fun w9 h9 => by obtain ⟨s0, s1, s2, s3, s4⟩ := h9; (go_simp <;> first | omega | (exact wrap_nat (by omega)) | (intro h9; exfalso; omega) | (intro h8 h9; exfalso; omega))⟩) HS9 ?_
                  refine wpAnyD_take (i := 25) (v := (.slice (some ⟨eb, eo, none⟩) N c3)) (by decide) rfl (by kernel_rfl) (by kernel_rfl) (by kernel_rfl) (fun _ _ _ h => h) (.inl ⟨by kernel_rfl, fun w9 h9 => by obtain ⟨s0, s1, s2, s3, s4⟩ := h9; (go_simp <;> first | omega | (exact wrap_nat (by omega)) | (intro h9; exfalso; omega) | (intro h8 h9; exfalso; omega))⟩) HS9 ?_
                  refine wpAnyD_take (i := 26) (v := (.int .i64 (x : Int))) (by decide) rfl (by kernel_rfl) (by kernel_rfl) (by kernel_rfl) (fun _ _ _ h => h) (.inl ⟨by kernel_rfl, fun w9 h9 => by obtain ⟨s0, s1, s2, s3, s4⟩ := h9; (go_simp <;> first | omega | (exact wrap_nat (by omega)) | (intro h9; exfalso; omega) | (intro h8 h9; exfalso; omega))⟩) HS9 ?_
                  refine wpAnyD_take (i := 27) (v := (.pointer (some ⟨eb, eo + x * 4, none⟩))) (by decide) rfl (by kernel_rfl) (by kernel_rfl) (by kernel_rfl) (fun _ _ _ h => h) (.inl ⟨by kernel_rfl, fun w9 h9 => by obtain ⟨s0, s1, s2, s3, s4⟩ := h9; (go_simp <;> first | omega | (exact wrap_nat (by omega)) | (intro h9; exfalso; omega) | (intro h8 h9; exfalso; omega))⟩) HS9 ?_
                  refine wpAnyD_take (i := 28) (v := (.pointer (some ⟨eb, eo + x * 4, none⟩))) (by decide) rfl (by kernel_rfl) (by kernel_rfl) (by kernel_rfl) (fun _ _ _ h => h) (.inl ⟨by kernel_rfl, fun w9 h9 => by obtain ⟨s0, s1, s2, s3, s4⟩ := h9; (go_simp <;> first | omega | (exact wrap_nat (by omega)) | (intro h9; exfalso; omega) | (intro h8 h9; exfalso; omega))⟩) HS9 ?_
                  refine wpAnyD_take (i := 29) (v := (.pointer (some ⟨eb, eo + x * 4, none⟩))) (by decide) rfl (by kernel_rfl) (by kernel_rfl) (by kernel_rfl) (fun _ _ _ h => h) (.inl ⟨by kernel_rfl, fun w9 h9 => by obtain ⟨s0, s1, s2, s3, s4⟩ := h9; (go_simp <;> first | omega | (exact wrap_nat (by omega)) | (intro h9; exfalso; omega) | (intro h8 h9; exfalso; omega))⟩) HS9 ?_
                  refine wpAnyD_take (i := 30) (v := (.int .i64 bb)) (by decide) rfl (by kernel_rfl) (by kernel_rfl) (by kernel_rfl) (fun _ _ _ h => h) (.inl ⟨by kernel_rfl, fun w9 h9 => by obtain ⟨s0, s1, s2, s3, s4⟩ := h9; (go_simp <;> first | omega | (exact wrap_nat (by omega)) | (intro h9; exfalso; omega) | (intro h8 h9; exfalso; omega))⟩) HS9 ?_
                  refine wpAnyD_take (i := 31) (v := (.slice (some ⟨eb, eo, none⟩) N c3)) (by decide) rfl (by kernel_rfl) (by kernel_rfl) (by kernel_rfl) (fun _ _ _ h => h) (.inl ⟨by kernel_rfl, fun w9 h9 => by obtain ⟨s0, s1, s2, s3, s4⟩ := h9; (go_simp <;> first | omega | (exact wrap_nat (by omega)) | (intro h9; exfalso; omega) | (intro h8 h9; exfalso; omega))⟩) HS9 ?_
                  refine wpAnyD_take (i := 32) (v := (.slice (some ⟨b, off, none⟩) G cg)) (by decide) rfl (by kernel_rfl) (by kernel_rfl) (by kernel_rfl) (fun _ _ _ h => h) (.inl ⟨by kernel_rfl, fun w9 h9 => by obtain ⟨s0, s1, s2, s3, s4⟩ := h9; (go_simp <;> first | omega | (exact wrap_nat (by omega)) | (intro h9; exfalso; omega) | (intro h8 h9; exfalso; omega))⟩) HS9 ?_
                  refine wpAnyD_take (i := 33) (v := (.int .i64 (a : Int))) (by decide) rfl (by kernel_rfl) (by kernel_rfl) (by kernel_rfl) (fun _ _ _ h => h) (.inl ⟨by kernel_rfl, fun w9 h9 => by obtain ⟨s0, s1, s2, s3, s4⟩ := h9; (go_simp <;> first | omega | (exact wrap_nat (by omega)) | (intro h9; exfalso; omega) | (intro h8 h9; exfalso; omega))⟩) HS9 ?_
                  refine wpAnyD_take (i := 34) (v := (.pointer (some ⟨b, off + a, none⟩))) (by decide) rfl (by kernel_rfl) (by kernel_rfl) (by kernel_rfl) (fun _ _ _ h => h) (.inl ⟨by kernel_rfl, fun w9 h9 => by obtain ⟨s0, s1, s2, s3, s4⟩ := h9; (go_simp <;> first | omega | (exact wrap_nat (by omega)) | (intro h9; exfalso; omega) | (intro h8 h9; exfalso; omega))⟩) HS9 ?_
                  refine wpAnyD_take (i := 35) (v := (.slice (some ⟨q, o', none⟩) m c')) (by decide) rfl (by kernel_rfl) (by kernel_rfl) (by kernel_rfl) (fun _ _ _ h => h) (.inl ⟨by kernel_rfl, fun w9 h9 => by obtain ⟨s0, s1, s2, s3, s4⟩ := h9; (go_simp <;> first | omega | (exact wrap_nat (by omega)) | (intro h9; exfalso; omega) | (intro h8 h9; exfalso; omega))⟩) HS9 ?_
                  refine wpAnyD_take (i := 36) (v := (.pointer (some ⟨q, o', none⟩))) (by decide) rfl (by kernel_rfl) (by kernel_rfl) (by kernel_rfl) (fun _ _ _ h => h) (.inl ⟨by kernel_rfl, fun w9 h9 => by obtain ⟨s0, s1, s2, s3, s4⟩ := h9; (go_simp <;> first | omega | (exact wrap_nat (by omega)) | (intro h9; exfalso; omega) | (intro h8 h9; exfalso; omega))⟩) HS9 ?_
                  refine wpAnyD_take (i := 37) (v := (.int .i64 (f : Int))) (by decide) rfl (by kernel_rfl) (by kernel_rfl) (by kernel_rfl) (fun _ _ _ h => h) (.inl ⟨by kernel_rfl, fun w9 h9 => by obtain ⟨s0, s1, s2, s3, s4⟩ := h9; (go_simp <;> first | omega | (exact wrap_nat (by omega)) | (intro h9; exfalso; omega) | (intro h8 h9; exfalso; omega))⟩) HS9 ?_
                  refine wpAnyD_take (i := 38) (v := (.pointer (some ⟨eb, eo + f * 4, none⟩))) (by decide) rfl (by kernel_rfl) (by kernel_rfl) (by kernel_rfl) (fun _ _ _ h => h) (.inl ⟨by kernel_rfl, fun w9 h9 => by obtain ⟨s0, s1, s2, s3, s4⟩ := h9; (go_simp <;> first | omega | (exact wrap_nat (by omega)) | (intro h9; exfalso; omega) | (intro h8 h9; exfalso; omega))⟩) HS9 ?_
                  refine wpAnyD_take (i := 39) (v := (.pointer (some ⟨eb, eo + f * 4, none⟩))) (by decide) rfl (by kernel_rfl) (by kernel_rfl) (by kernel_rfl) (fun _ _ _ h => h) (.inl ⟨by kernel_rfl, fun w9 h9 => by obtain ⟨s0, s1, s2, s3, s4⟩ := h9; (go_simp <;> first | omega | (exact wrap_nat (by omega)) | (intro h9; exfalso; omega) | (intro h8 h9; exfalso; omega))⟩) HS9 ?_
                  refine wpAnyD_take (i := 40) (v := (.pointer (some ⟨eb, eo + f * 4, none⟩))) (by decide) rfl (by kernel_rfl) (by kernel_rfl) (by kernel_rfl) (fun _ _ _ h => h) (.inl ⟨by kernel_rfl, fun w9 h9 => by obtain ⟨s0, s1, s2, s3, s4⟩ := h9; (go_simp <;> first | omega | (exact wrap_nat (by omega)) | (intro h9; exfalso; omega) | (intro h8 h9; exfalso; omega))⟩) HS9 ?_
                  refine wpAnyD_take (i := 41) (v := (.int .i64 bb)) (by decide) rfl (by kernel_rfl) (by kernel_rfl) (by kernel_rfl) (fun _ _ _ h => h) (.inl ⟨by kernel_rfl, fun w9 h9 => by obtain ⟨s0, s1, s2, s3, s4⟩ := h9; (go_simp <;> first | omega | (exact wrap_nat (by omega)) | (intro h9; exfalso; omega) | (intro h8 h9; exfalso; omega))⟩) HS9 ?_
                  refine wpAnyD_take (i := 42) (v := (.bool false)) (by decide) rfl (by kernel_rfl) (by kernel_rfl) (by kernel_rfl) (fun _ _ _ h => h) (.inl ⟨by kernel_rfl, fun w9 h9 => by obtain ⟨s0, s1, s2, s3, s4⟩ := h9; (go_simp <;> first | omega | (exact wrap_nat (by omega)) | (intro h9; exfalso; omega) | (intro h8 h9; exfalso; omega))⟩) HS9 ?_
                  refine wpAnyD_take (i := 43) (v := (.bool false)) (by decide) rfl (by kernel_rfl) (by kernel_rfl) (by kernel_rfl) (fun _ _ _ h => h) (.inl ⟨by kernel_rfl, fun w9 h9 => by obtain ⟨s0, s1, s2, s3, s4⟩ := h9; (go_simp <;> first | omega | (exact wrap_nat (by omega)) | (intro h9; exfalso; omega) | (intro h8 h9; exfalso; omega))⟩) HS9 ?_
                  refine wpAnyD_done (by kernel_rfl) ?_ _
                  refine hK1 _ _ (frame_at (K := Met J1) (b := ⟨#[Value.slice (some { block := eb, off := eo }) N c3, undef, u2, Value.slice (some { block := b, off := off }) G cg, Value.slice A4 G c4, Value.slice (some { block := w4.heap.size, off := 0 }) N N, Value.int IntKind.i64 (a : Int), Value.int IntKind.i64 (t : Int), Value.int IntKind.i64 (x : Int), undef, Value.slice A n c, Value.slice (some { block := eb, off := eo }) N c3, Value.slice (some { block := eb, off := eo }) N c3, Value.slice (some { block := b, off := off }) G cg, Value.slice (some { block := eb, off := eo }) N c3, Value.slice A4 G c4, Value.slice (some { block := eb, off := eo }) N c3, Value.bool true, Value.bool false, undef, undef, undef, undef, undef, undef, undef, undef, undef, undef, undef, Value.slice (some { block := eb, off := eo }) N c3, Value.int IntKind.i64 (N : Int), Value.slice (some { block := w4.heap.size, off := 0 }) N N, u33, u34, u35, u36, u37, u38, u39, u40, u41, u42, u43, u44, u45, u46, u47, u48, u49, u50, u51, u52, u53, u54, u55, u56, u57, u58, u59, u60, u61, u62, u63, Value.bool false, Value.int IntKind.i64 (t : Int), Value.slice (some { block := b, off := off }) G cg, Value.int IntKind.i64 (a : Int), Value.pointer (some { block := b, off := off + a }), Value.slice (some { block := q, off := o' }) m c', Value.int IntKind.i64 (m : Int), Value.bool true, u72, u73, Value.slice (some { block := b, off := off }) G cg, Value.int IntKind.i64 (a : Int), Value.pointer (some { block := b, off := off + a }), Value.slice (some { block := q, off := o' }) m c', Value.int IntKind.i64 (t : Int), Value.pointer (some { block := q, off := o' + t }), Value.int IntKind.i64 (x : Int), Value.int .i64 (x : Int), Value.bool false, Value.bool false, Value.int .i64 (x : Int), Value.slice (some ⟨eb, eo, none⟩) N c3, Value.int .i64 (N : Int), Value.bool false, Value.bool false, Value.bool false, Value.int .i64 (t : Int), Value.bool true, Value.bool true, Value.int .i64 (x : Int), Value.slice (some ⟨b, off, none⟩) G cg, Value.int .i64 (a : Int), Value.pointer (some ⟨b, off + a, none⟩), Value.slice (some ⟨q, o', none⟩) m c', Value.int .i64 (t : Int), Value.int .i64 (s : Int), Value.pointer (some ⟨q, o' + s, none⟩), Value.int .i64 (pv : Int), Value.bool false, Value.bool false, Value.bool false, Value.bool false, Value.slice (some ⟨eb, eo, none⟩) N c3, Value.int .i64 (x : Int), Value.pointer (some ⟨eb, eo + x * 4, none⟩), Value.pointer (some ⟨eb, eo + x * 4, none⟩), Value.pointer (some ⟨eb, eo + x * 4, none⟩), Value.int .i64 bb, Value.slice (some ⟨eb, eo, none⟩) N c3, Value.slice (some ⟨b, off, none⟩) G cg, Value.int .i64 (a : Int), Value.pointer (some ⟨b, off + a, none⟩), Value.slice (some ⟨q, o', none⟩) m c', Value.pointer (some ⟨q, o', none⟩), Value.int .i64 (f : Int), Value.pointer (some ⟨eb, eo + f * 4, none⟩), Value.pointer (some ⟨eb, eo + f * 4, none⟩), Value.pointer (some ⟨eb, eo + f * 4, none⟩), Value.int .i64 bb, Value.bool false, Value.bool false, u125, u126, u127, u128, u129, u130, undef, undef, undef, undef, undef, undef, undef, undef, undef, undef, undef, undef, undef, undef, undef, undef, undef, undef, undef, undef, undef, undef, undef], []⟩) (by kernel_rfl) ?_)
                  go_meet
                  exact ⟨rfl, HSD, HWD⟩
              case rest =>
                clear HSi HWi k0 k4 k5 e1 e2 HK3 wi
                obtain ⟨rfl, HSc, HWc⟩ := hcut
                have hcx := HCX.out
                have s1 := SeenB.cell HSc.out hxN
                have s2 := Bk.free HSc.out x
                have HSn : Hid (SeenB (wc.setCell ⟨w4.heap.size, x, none⟩ (.int .i64 (((flatK gl a t).count (x : Int) : Int) + 1))) w4.heap.size N (flatK gl a (t + 1))) := by
                  show SeenB _ _ _ _
                  rw [HX2.out]
                  exact SeenB.bump HSc.out hxN
                have HWn : Hid (Below w4.heap.size w4 (wc.setCell ⟨w4.heap.size, x, none⟩ (.int .i64 (((flatK gl a t).count (x : Int) : Int) + 1)))) := HWc.out.setCell (Nat.le_refl _) _
                generalize (flatK gl a t).count (x : Int) = cx at *
                go_wp2
                go_roundw
                case rel => exact ⟨t + 1, by omega, by go_num, HSn, HWn⟩
                case measure => simp [intOf] <;> omega
            · obtain rfl : t = m := by omega
              go_wp2
              go_roundw
              case rel => exact ⟨a + 1, by omega, by go_num, by rw [HNEXT.out]; exact HSi, HWi⟩
              case measure => simp [intOf] <;> omega
      · obtain rfl : a = G := by omega
        have HALL : Hid (∀ m, m < N → (flatK gl a 0).count (m : Int) = 1) := HPF.out.all
        generalize flatK gl a 0 = F at *
        go_wp2
        go_loopw [9] (fun v wi => ∃ k : Nat, k ≤ N ∧ v = .int .i64 k ∧ Hid (SeenB wi w4.heap.size N F) ∧ Hid (Below w4.heap.size w4 wi)) (fun v _ => N - (intOf v).toNat)
        case atStart => exact ⟨0, by omega, rfl, HS, HW⟩
        case round =>
          rename World => wi
          obtain ⟨k, hk, rfl, HSi, HWi⟩ := hrel
          by_cases hkN : k < N
          · have s1 := SeenB.cell HSi.out hkN
            rw [HALL.out k hkN] at s1
            go_wp2
            go_roundw
            case rel => exact ⟨k + 1, by omega, by go_num, HSi, HWi⟩
            case measure => simp [intOf] <;> omega
          · obtain rfl : k = N := by omega
            go_wp2_with (first
              | (go_at_call 23; (with_reducible refine (mlive_any _).mono ?_); rintro e w7 ⟨rfl, hB⟩; have HB7 := Lib.hid (below_then HB4.out (below_then HWi.out hB)); have HD7 := Lib.hid (HD4.out.below (below_then HWi.out hB)); clear hB)
              | (go_at_call 16; (with_reducible refine (Right_any _ _ _ DR _ HD7.out).mono ?_); rw [HDR.out]; rintro e w8 ⟨rfl, hB⟩; have HB8 := Lib.hid (below_then HB7.out hB); clear hB))
            go_ret
            exact ⟨rfl, HB8.out⟩
end Go.Proofs.Ytpicagcapgjiaaa
