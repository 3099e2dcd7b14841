/- Walks of merge: Deps. -/
import Derived.Test.YtpicagcapgjiaaaMer3
import Derived.Test.YtpicagcapgjiaaaMer5
import Derived.Test.YtpicagcapgjiaaaSort
set_option linter.unusedSimpArgs false
set_option linter.unusedVariables false
namespace Go.Proofs.Ytpicagcapgjiaaa
open Go.RowKit Go.Sel Go.Sel.Gra Go.Sel.Mer Go.Shelf

def glI (L : List It) : List Int := (gls L L.length).map fun x : Nat => (x : Int)
/-- The first round's memory: each item's group is noted as far as it went. -/
def J1 (L : List It) (ob obx n : Nat) (w2 : World) (a t : Nat) (W : World) : Prop :=
  Fr (· = ob) w2 W ∧ ∃ os : List Int, os.length = n ∧ Bk W ob 3 (iv .i64 os) ∧ ∀ j, j < n → ((gls L n).getD j 0 < a ∨ ((gls L n).getD j 0 = a ∧ (j : Int) ∈ (rowOf (gls L n) a).take t)) → os[j]? = some (((gls L n).getD j 0 : Nat) : Int)
def rowsAt (L : List It) (a t : Nat) (j : Nat) : List Int := if j < a then depRow L j else if j = a then accR L (gls L L.length) a [] ((rowOf (gls L L.length) a).take t) else []
def J2 (L : List It) (B G : Nat) (W1 : World) (a t : Nat) (W : World) : Prop :=
  (∃ os, OutR B G (rowsAt L a t) (.slice (some ⟨B, 0, none⟩) G G) os W) ∧ Bk W (B + 1) 22 [.slice (some ⟨B, 0, none⟩) G G] ∧ Below B W1 W
theorem own_nils {w : World} {n : Nat} (hn : n ≤ 1000) : (w.alloc (.cells (nils n).toArray 23)).ownsRow w.heap.size 23 1 (.slice (some ⟨w.heap.size, 0, none⟩) n n) n (nils n) :=
  ⟨by simp [nils], .inr ⟨w.heap.size, n, (nils n).toArray, rfl, Nat.le_refl _, heap_alloc_new w _, Nat.le_refl _, by simp [maxLen]; omega, by simp [nils], by simp [nils]⟩⟩

theorem row_at {L : List It} {n a t : Nat} {x : Int} (ha : a < cnt L n) (hx : (nth (groupsK L n) a)[t]? = some x) : ∃ j : Nat, x = (j : Int) ∧ j < n ∧ (gls L n).getD j 0 = a ∧ (rowOf (gls L n) a).take (t + 1) = (rowOf (gls L n) a).take t ++ [(j : Int)] := by
  rw [nth_groupsK ha] at hx
  obtain ⟨ht, hx'⟩ := List.getElem?_eq_some_iff.1 hx
  obtain ⟨j, hj, h1, h2⟩ := mem_rowOf.1 (List.mem_of_getElem? hx)
  subst hj
  rw [gls_length] at h1
  refine ⟨j, rfl, h1, h2, ?_⟩
  rw [List.take_succ_eq_append_getElem ht, hx']
theorem J1_step {L : List It} {ob obx n a t : Nat} {w2 W : World} {x : Int} (h : J1 L ob obx n w2 a t W) (ha : a < cnt L n) (hx : (nth (groupsK L n) a)[t]? = some x) (hob : ob ≠ obx) (hc : w2.cell? ⟨obx, 0, none⟩ = some (.slice (some ⟨ob, 0, none⟩) n n)) (hn : n ≤ 1000) :
    Calls Try.prog 72 (#[.int .i64 (a : Int), .int .i64 x] ++ #[.pointer (some ⟨obx, 0, none⟩)]) W fun e W' => e = .returned (.tuple #[]) ∧ J1 L ob obx n w2 a (t + 1) W' := by
  obtain ⟨F, os, hl, hb, hall⟩ := h
  obtain ⟨j, rfl, hj, hga, htk⟩ := row_at ha hx
  refine (Deps1_any obx ob n j (a : Int) (iv .i64 os) W ((F.cell (p := ⟨obx, 0, none⟩) (Ne.symm hob) hc).trans hc) hb (by simpa using hl) hj hn).mono ?_
  rintro e W' ⟨rfl, rfl⟩
  refine ⟨rfl, F.setCell (p := ⟨ob, j, none⟩) (.inl rfl) _, os.set j (a : Int), by simpa using hl, ?_, ?_⟩
  · have := hb.set j (.int .i64 (a : Int))
    rwa [iv_set] at this
  · intro i hi hcond
    by_cases e : i = j
    · subst e
      rw [List.getElem?_set_self (by omega), hga]
    · rw [List.getElem?_set_ne (Ne.symm e)]
      refine hall i hi ?_
      rcases hcond with h1 | ⟨h1, h2⟩
      · exact .inl h1
      · rw [htk] at h2
        rcases List.mem_append.1 h2 with h2 | h2
        · exact .inr ⟨h1, h2⟩
        · simp at h2
          omega
theorem J1_next {L : List It} {ob obx n a : Nat} {w2 W : World} (h : J1 L ob obx n w2 a (nth (groupsK L n) a).length W) (ha : a < cnt L n) : J1 L ob obx n w2 (a + 1) 0 W := by
  obtain ⟨F, os, hl, hb, hall⟩ := h
  refine ⟨F, os, hl, hb, fun j hj hc => hall j hj ?_⟩
  rw [nth_groupsK ha, List.take_length]
  rcases hc with h1 | ⟨h1, h2⟩
  · by_cases e : (gls L n).getD j 0 = a
    · exact .inr ⟨e, mem_rowOf.2 ⟨j, rfl, by rw [gls_length]; exact hj, e⟩⟩
    · exact .inl (by omega)
  · simp at h2
theorem J1_end {L : List It} {ob obx n : Nat} {w2 W : World} (h : J1 L ob obx n w2 (cnt L n) 0 W) : Bk W ob 3 (iv .i64 ((gls L n).map fun x : Nat => (x : Int))) ∧ Fr (· = ob) w2 W := by
  obtain ⟨F, os, hl, hb, hall⟩ := h
  have : os = (gls L n).map fun x : Nat => (x : Int) := by
    apply List.ext_getElem?
    intro j
    by_cases hj : j < n
    · rw [hall j hj (.inl (gls_lt L n j hj))]
      simp [List.getD_eq_getElem?_getD, hj]
    · rw [List.getElem?_eq_none (by omega), List.getElem?_eq_none (by simp; omega)]
  rw [← this]
  exact ⟨hb, F⟩

theorem J2_start (L : List It) (G : Nat) (hG : G ≤ 1000) (w3 : World) : J2 L w3.heap.size G w3 0 0 ((w3.alloc (.cells (nils G).toArray 23)).alloc (.cells #[.slice (some ⟨w3.heap.size, 0, none⟩) G G] 22)) := by
  refine ⟨⟨nils G, own_below (own_nils hG) (below_al _ _) (Nat.le_refl _), ?_, ?_⟩, ?_, below_then (below_al _ _) (below_al _ _)⟩
  · intro g hg
    refine ⟨.slice none 0 0, by simp [nils, nilV, hg], ?_⟩
    have e : rowsAt L 0 0 g = [] := by simp [rowsAt, accR]
    rw [e]
    exact World.ownsRow_nil _ _ _ _
  · intro a b u u' k _ hu _ hk
    have : u = .slice none 0 0 := by
      have h1 := (List.getElem?_eq_some_iff.1 hu).1
      simp [nils] at h1
      simp [nils, nilV, h1] at hu
      exact hu.symm
    subst this
    simp [Value.ownBlock] at hk
  · have := Bk.new (w3.alloc (.cells (nils G).toArray 23)) 22 [.slice (some ⟨w3.heap.size, 0, none⟩) G G]
    rw [World.size_alloc] at this
    exact this
theorem J2_step {A : Option Addr} {n c B G lb obx ob a t : Nat} {L : List It} {w3 W : World} {x : Int} (h : J2 L B G w3 a t W) (hr : mrightB L = true) (hB : w3.heap.size = B) (hG : G = cnt L n) (hn : n ≤ 64) (hL : Ip w3 A n c L) (hlb : w3.cell? ⟨lb, 0, none⟩ = some (.slice A n c)) (hobx : w3.cell? ⟨obx, 0, none⟩ = some (.slice (some ⟨ob, 0, none⟩) n n))
    (hob : Bk w3 ob 3 (iv .i64 ((gls L n).map fun x : Nat => (x : Int)))) (ha : a < G) (hx : (nth (groupsK L n) a)[t]? = some x) :
    Calls Try.prog 73 (#[.int .i64 (a : Int), .int .i64 x] ++ #[.pointer (some ⟨lb, 0, none⟩), .pointer (some ⟨obx, 0, none⟩), .pointer (some ⟨B + 1, 0, none⟩)]) W fun e W' => e = .returned (.tuple #[]) ∧ J2 L B G w3 a (t + 1) W' := by
  obtain ⟨hO, hb, hBl⟩ := h
  subst hG
  have hN := hL.len
  obtain ⟨j, rfl, hj, hga, htk⟩ := row_at ha hx
  have hcn := cnt_le L n
  have hjr : (j : Int) ∈ rowOf (gls L L.length) a := mem_rowOf.2 ⟨j, rfl, by rw [gls_length]; omega, by rw [hN]; exact hga⟩
  have hsub : ∀ i ∈ (rowOf (gls L L.length) a).take t, i ∈ rowOf (gls L L.length) a := fun i hi => List.mem_of_mem_take hi
  have hra : rowsAt L a t a = accR L (gls L L.length) a [] ((rowOf (gls L L.length) a).take t) := by simp [rowsAt]
  refine (Deps2_any w3 W A n c L B lb obx ob (cnt L n) a j _ (rowsAt L a t) hB hL hlb hobx hob rfl hO hb hBl ha (by omega) hj hn (fun d hd => ?_) (fun s => ?_)).mono ?_
  · have := ds_lt hr (by omega) hd
    omega
  · rw [hra]
    have := accI_le hr hsub hjr (t := s)
    rw [Int.toNat_natCast] at this
    rw [hN] at this ⊢
    omega
  · rintro e W' ⟨rfl, os, h1, h2, h3⟩
    refine ⟨rfl, ⟨os, ?_⟩, h2, h3⟩
    have e : rowsAt L a (t + 1) = fun i => if i = a then accI (gls L n) a (rowsAt L a t a) (nthI L j).ds else rowsAt L a t i := by
      funext i
      by_cases e : i = a
      · subst e
        rw [if_pos rfl, hra]
        unfold rowsAt
        rw [if_neg (by omega), if_pos rfl, hN, htk, accR_snoc, Int.toNat_natCast]
      · rw [if_neg e]
        simp [rowsAt, e]
    rw [e]; exact h1
theorem J2_next {n B G a : Nat} {L : List It} {w3 W : World} (hN : L.length = n) (h : J2 L B G w3 a (nth (groupsK L n) a).length W) (ha : a < cnt L n) : J2 L B G w3 (a + 1) 0 W := by
  obtain ⟨⟨os, hO⟩, hb, hBl⟩ := h
  refine ⟨⟨os, ?_⟩, hb, hBl⟩
  have e : rowsAt L (a + 1) 0 = rowsAt L a (nth (groupsK L n) a).length := by
    funext j
    rw [nth_groupsK ha]
    unfold rowsAt
    by_cases h1 : j < a
    · rw [if_pos (by omega), if_pos h1]
    · by_cases h2 : j = a
      · subst h2
        rw [if_pos (by omega), if_neg (by omega), if_pos rfl, hN, List.take_length, depRow, hN]
      · rw [if_neg (by omega), if_neg h1, if_neg h2]
        split
        · simp [accR]
        · rfl
  rw [e]; exact hO

set_option maxRecDepth 100000 in
set_option maxHeartbeats 4000000 in
theorem mDeps_any (A : Option Addr) (n c : Nat) (L : List It) (w : World) (hL : Ip w A n c L) (hn : n ≤ 1000) :
    Calls Try.prog 29 #[.slice A n c] w fun e w' => (∃ A' c', e = .returned (.slice A' (mdepsL L).length c') ∧ Dp w' A' (mdepsL L).length c' (mdepsL L)) ∧ Below w.heap.size w w' := by
  have HL := Lib.hid hL
  have HN := Lib.hid hL.len
  have l1 := hL.le
  have l2 := hL.cap
  clear hL
  have hmk := mkInts n hn
  cases hr : mrightB L with
  | false =>
    have HR := Lib.hid hr
    have HE : Hid (groupsL L = []) := by show _ = _; rw [groupsL, if_neg (by rw [hr]; decide)]
    have HME : Hid (mdepsL L = []) := by show _ = _; rw [mdepsL, if_neg (by rw [hr]; decide)]
    rw [HME.out]
    clear hr
    have hmk0 : ∀ w : World, (Instr.makeSlice 22 (.int .i64 0) (.int .i64 0)).run Try.prog w = .ok (.slice (some ⟨w.heap.size, 0, none⟩) 0 0) (w.alloc (.cells (nils 0).toArray 23)) := mkRows 0 (by omega)
    have HEA : Hid (∀ (gf : Nat) (lb : Array Value) (eg : ∀ args w, (callFunc gf args).run Try.prog w = .ok (.enter gf args) w) (Ag : Option Addr) (cg : Nat) (wx : World), cg ≤ 9223372036854775807 → Calls Try.prog 71 #[.slice Ag 0 cg, .func (.func gf) #[] lb] wx fun e w' => e = .returned (.tuple #[]) ∧ w' = wx) := fun gf lb eg Ag cg wx hcg =>
      each_any gf lb eg Ag 0 cg [] wx (fun _ _ W => W = wx) (by omega) hcg [] (fun a t W h => ⟨rfl, rfl, Rd.nil hcg, fun j hj => by simp at hj⟩) (fun a t W x ha => by omega) (fun a W ha => by omega) rfl
    go_enter Try.func29, Try.ntmps29
    go_upto_region 3 with (go_at_call 27; (with_reducible refine (mGroups_any A n c L _ (HL.out.below (below_al _ _))).mono ?_); rw [HE.out]; rintro e w1 ⟨⟨Ag, cg, rfl, hg⟩, hB⟩; have hlb := keep_cell (new_cell w #[.slice A n c] 33 0 _ rfl) hB; have hcg := hg.cap; have HB1 := Lib.hid (below_then (below_al w _) hB); clear hg hB)
    have HB2 : Hid (Below w.heap.size w ((w1.alloc (.cells (zints n).toArray 3)).alloc (.cells #[.slice (some ⟨w1.heap.size, 0, none⟩) n n] 23))) := below_then HB1.out (below_then (below_al _ _) (below_al _ _))
    clear hmk hlb
    generalize ((w1.alloc (.cells (zints n).toArray 3)).alloc (.cells #[.slice (some ⟨w1.heap.size, 0, none⟩) n n] 23)) = w2 at *
    have H1 := Lib.hid (fun (wx : World) => HEA.out 72 #[.pointer (some ⟨w1.heap.size + 1, 0, none⟩)] (enters_of Try.func72 (by kernel_rfl) rfl) Ag cg wx hcg)
    go_upto_region 5 with (go_at_call 71; (with_reducible refine (H1.out _).mono ?_); rintro e w3 ⟨rfl, hw⟩; have hw := hw.symm; subst hw)
    have HB3 : Hid (Below w.heap.size w ((w2.alloc (.cells (nils 0).toArray 23)).alloc (.cells #[.slice (some ⟨w2.heap.size, 0, none⟩) 0 0] 22))) := below_then HB2.out (below_then (below_al _ _) (below_al _ _))
    have hbx : ((w2.alloc (.cells (nils 0).toArray 23)).alloc (.cells #[.slice (some ⟨w2.heap.size, 0, none⟩) 0 0] 22)).cell? ⟨w2.heap.size + 1, 0, none⟩ = some (.slice (some ⟨w2.heap.size, 0, none⟩) 0 0) := by
      have := new_cell (w2.alloc (.cells (nils 0).toArray 23)) #[.slice (some ⟨w2.heap.size, 0, none⟩) 0 0] 22 0 _ rfl
      rw [World.size_alloc] at this
      exact this
    clear hmk0 H1
    generalize ((w2.alloc (.cells (nils 0).toArray 23)).alloc (.cells #[.slice (some ⟨w2.heap.size, 0, none⟩) 0 0] 22)) = w4 at *
    have H2 := Lib.hid (fun (wx : World) => HEA.out 73 #[.pointer (some ⟨w.heap.size, 0, none⟩), .pointer (some ⟨w1.heap.size + 1, 0, none⟩), .pointer (some ⟨w2.heap.size + 1, 0, none⟩)] (enters_of Try.func73 (by kernel_rfl) rfl) Ag cg wx hcg)
    go_upto_region 6 with (go_at_call 71; (with_reducible refine (H2.out _).mono ?_); rintro e w5 ⟨rfl, hw⟩; have hw := hw.symm; subst hw)
    go_wp2
    go_loop [6, 23] (fun _ v => v = .int .i64 0) (fun _ _ => 0)
    case atStart => rfl
    case round =>
      subst hrel
      go_wp2
      go_ret
      exact ⟨⟨_, 0, rfl, Dp.nil (by omega)⟩, HB3.out⟩
  | true =>
    have HR := Lib.hid hr
    have hn64 : n ≤ 64 := by have := (mright_iff.1 hr).1; have := HN.out; omega
    have HE : Hid (groupsL L = groupsK L n) := by show _ = _; rw [groupsL, if_pos hr, HN.out]
    have HME : Hid (mdepsL L = (List.range (cnt L n)).map (depS L)) := by show _ = _; rw [mdepsL, if_pos hr, HN.out]
    rw [HME.out]
    have hc64 := cnt_le L n
    clear hr
    go_enter Try.func29, Try.ntmps29
    go_upto_region 3 with (go_at_call 27; (with_reducible refine (mGroups_any A n c L _ (HL.out.below (below_al _ _))).mono ?_); rw [HE.out, groupsK_length]; rintro e w1 ⟨⟨Ag, cg, rfl, hg⟩, hB⟩; have hlb := keep_cell (new_cell w #[.slice A n c] 33 0 _ rfl) hB; have HG := Lib.hid hg; have HB1 := Lib.hid (below_then (below_al w _) hB); clear hg hB)
    obtain ⟨ss, hgs⟩ := dp_s HG.out
    have g1 := HG.out.le
    have g2 := HG.out.cap
    have HGS := Lib.hid hgs
    clear hgs hmk
    have hob : w1.heap.size ≠ w1.heap.size + 1 := by omega
    have HOBX : Hid (((w1.alloc (.cells (zints n).toArray 3)).alloc (.cells #[.slice (some ⟨w1.heap.size, 0, none⟩) n n] 23)).cell? ⟨w1.heap.size + 1, 0, none⟩ = some (.slice (some ⟨w1.heap.size, 0, none⟩) n n)) := by
      show _ = _
      have := new_cell (w1.alloc (.cells (zints n).toArray 3)) #[.slice (some ⟨w1.heap.size, 0, none⟩) n n] 23 0 _ rfl
      rw [World.size_alloc] at this
      exact this
    have HJ0 : Hid (J1 L w1.heap.size (w1.heap.size + 1) n ((w1.alloc (.cells (zints n).toArray 3)).alloc (.cells #[.slice (some ⟨w1.heap.size, 0, none⟩) n n] 23)) 0 0 ((w1.alloc (.cells (zints n).toArray 3)).alloc (.cells #[.slice (some ⟨w1.heap.size, 0, none⟩) n n] 23))) := by
      refine ⟨Fr.refl _ _, List.replicate n 0, by simp, ?_, fun j hj hc => by rcases hc with h | ⟨_, h⟩; omega; simp at h⟩
      have : zints n = iv .i64 (List.replicate n 0) := by simp [zints, iv]
      rw [← this]
      exact (Bk.new w1 3 (zints n)).keep (below_al _ _)
    have HB2 : Hid (Below w1.heap.size w1 ((w1.alloc (.cells (zints n).toArray 3)).alloc (.cells #[.slice (some ⟨w1.heap.size, 0, none⟩) n n] 23))) := below_then (below_al _ _) (below_al _ _)
    generalize ((w1.alloc (.cells (zints n).toArray 3)).alloc (.cells #[.slice (some ⟨w1.heap.size, 0, none⟩) n n] 23)) = w2 at *
    have hlb2 := keep_cell hlb HB2.out
    have HEA : Hid (Calls Try.prog 71 #[.slice Ag (cnt L n) cg, .func (.func 72) #[] #[.pointer (some ⟨w1.heap.size + 1, 0, none⟩)]] w2 fun e w' => e = .returned (.tuple #[]) ∧ J1 L w1.heap.size (w1.heap.size + 1) n w2 (cnt L n) 0 w') :=
      each_any _ _ (enters_of Try.func72 (by kernel_rfl) rfl) Ag (cnt L n) cg (groupsK L n) w2 (J1 L w1.heap.size (w1.heap.size + 1) n w2) g1 g2 ss
        (fun a t W h => HGS.out.below (HB2.out.trans (h.1.below HB2.out.size (fun k e => by omega))))
        (fun a t W x ha hx h => J1_step h ha hx hob HOBX.out hn) (fun a W ha h => J1_next h ha) HJ0.out
    clear HJ0
    have HSZ : Hid (w1.heap.size + 1 < w2.heap.size) := World.block_lt_of_cell? _ _ HOBX.out
    have HLBZ : Hid (w.heap.size < w1.heap.size) := World.block_lt_of_cell? _ _ hlb
    go_upto_region 5 with (go_at_call 71; (with_reducible refine HEA.out.mono ?_); rintro e w3 ⟨rfl, hJ⟩; obtain ⟨q1, q2⟩ := J1_end hJ; have HOB := Lib.hid q1; have HF3 := Lib.hid q2; clear q1 q2 hJ; have hmk2 := mkRows (cnt L n) (by omega); have hlb3 := (HF3.out.cell (p := ⟨w.heap.size, 0, none⟩) (by have := HLBZ.out; show ¬ (w.heap.size = w1.heap.size); omega) hlb2).trans hlb2)
    have HJ2 := Lib.hid (J2_start L (cnt L n) (by omega) w3)
    have HB3 : Hid (Below w1.heap.size w1 w3) := HB2.out.trans (HF3.out.below HB2.out.size (fun k e => by omega))
    have HB4 : Hid (Below w3.heap.size w3 ((w3.alloc (.cells (nils (cnt L n)).toArray 23)).alloc (.cells #[.slice (some ⟨w3.heap.size, 0, none⟩) (cnt L n) (cnt L n)] 22))) := below_then (below_al _ _) (below_al _ _)
    generalize ((w3.alloc (.cells (nils (cnt L n)).toArray 23)).alloc (.cells #[.slice (some ⟨w3.heap.size, 0, none⟩) (cnt L n) (cnt L n)] 22)) = w4 at *
    have HOB3 := Lib.hid ((HF3.out.cell (p := ⟨w1.heap.size + 1, 0, none⟩) (by show ¬ (w1.heap.size + 1 = w1.heap.size); omega) HOBX.out).trans HOBX.out)
    have HLB3 := Lib.hid hlb3
    have HL3 : Hid (Ip w3 A n c L) := HL.out.below (below_then HB1.out HB3.out)
    have HGS3 := Lib.hid (HGS.out.below HB3.out)
    have HEB : Hid (Calls Try.prog 71 #[.slice Ag (cnt L n) cg, .func (.func 73) #[] #[.pointer (some ⟨w.heap.size, 0, none⟩), .pointer (some ⟨w1.heap.size + 1, 0, none⟩), .pointer (some ⟨w3.heap.size + 1, 0, none⟩)]] w4 fun e w' => e = .returned (.tuple #[]) ∧ J2 L w3.heap.size (cnt L n) w3 (cnt L n) 0 w') :=
      each_any _ _ (enters_of Try.func73 (by kernel_rfl) rfl) Ag (cnt L n) cg (groupsK L n) w4 (J2 L w3.heap.size (cnt L n) w3) g1 g2 ss
        (fun a t W h => HGS3.out.below h.2.2)
        (fun a t W x ha hx h => J2_step h HR.out rfl rfl hn64 HL3.out HLB3.out HOB3.out HOB.out ha hx) (fun a W ha h => J2_next HN.out h ha) HJ2.out
    clear HEA HJ2 hmk2 hlb hlb2 hlb3
    generalize hB : w3.heap.size = B at *
    have HB := Lib.hid hB
    clear hB
    go_upto_region 6 with (go_at_call 71; (with_reducible refine HEB.out.mono ?_); rintro e w5 ⟨rfl, hJ⟩; obtain ⟨⟨os5, ho5⟩, hb5, hB5⟩ := hJ; have HO5 := Lib.hid ho5; have HBX5 := Lib.hid hb5; have HB5 := Lib.hid hB5; have hbx := hb5.cell 0 (by simp); simp only [List.getElem_cons_zero] at hbx; clear ho5 hb5 hB5)
    have HO6 : Hid (∃ os, OutR B (cnt L n) (fun j => if j < 0 then depS L j else depRow L j) (.slice (some ⟨B, 0, none⟩) (cnt L n) (cnt L n)) os w5) := by
      refine ⟨os5, HO5.out.own, fun g hg => ?_, HO5.out.apart⟩
      obtain ⟨v, hv, hw⟩ := HO5.out.row g hg
      have e : rowsAt L (cnt L n) 0 g = depRow L g := by simp [rowsAt, hg]
      rw [e] at hw
      exact ⟨v, hv, by simpa using hw⟩
    clear HO5 HEB
    go_wp2
    go_loopw [6, 23] (fun _ v wr => ∃ k : Nat, k ≤ cnt L n ∧ v = .int .i64 k ∧ Hid (∃ os, OutR B (cnt L n) (fun j => if j < k then depS L j else depRow L j) (.slice (some ⟨B, 0, none⟩) (cnt L n) (cnt L n)) os wr) ∧ Hid (Bk wr (B + 1) 22 [.slice (some ⟨B, 0, none⟩) (cnt L n) (cnt L n)]) ∧ Hid (Below B w3 wr)) (fun _ v _ => cnt L n - (intOf v).toNat)
    case atStart => exact ⟨0, by omega, rfl, HO6, HBX5, HB5⟩
    case round =>
      obtain ⟨k, hk, rfl, HO, HBX, HBl⟩ := hrel
      have hbk := HBX.out.cell 0 (by simp)
      simp only [List.getElem_cons_zero] at hbk
      by_cases hlt : k < cnt L n
      · obtain ⟨os, ho⟩ := HO.out
        obtain ⟨vg, hvg, hrow⟩ := ho.row k hlt
        simp only [Nat.lt_irrefl, if_false] at hrow
        have hoc := ho.own.cellAt k (by omega)
        rw [hvg] at hoc
        have hdl : (depRow L k).length ≤ 1000 := by
          have := nodup_le (cnt L L.length) (depRow L k) (depRow_nodup L k) (fun x hx => depRow_lt HR.out hx)
          have := HN.out
          rw [HN.out] at *
          omega
        have HS : Hid (Calls Try.prog 75 #[vg] wr fun e W' => e = .returned (.tuple #[]) ∧ W'.ownsRow B 3 1 vg (depRow L k).length (iv .i64 (depS L k)) ∧ Fr (fun q => vg.ownBlock = some q) wr W') := by
          have := SortP_any (depRow L k) hdl vg B wr hrow
          rw [sort_depRow HR.out] at this
          exact this
        have HO1 := Lib.hid ho
        have HVG := Lib.hid hvg
        have HROW := Lib.hid hrow
        have HLN : Hid ((depS L k).length = (depRow L k).length) := by
          show _ = _
          rw [← sort_depRow HR.out, List.length_mergeSort]
        clear ho hvg hrow
        go_wp2_with (go_at_call 75; (with_reducible refine HS.out.mono ?_); rintro e w8 ⟨rfl, hr8, hf8⟩; have HR8 := Lib.hid hr8; have HF8 := Lib.hid hf8; clear hr8 hf8)
        go_roundw
        case rel =>
          refine ⟨k + 1, by omega, by go_num, ?_, HF8.out.far HBX.out ?_, HBl.out.trans (HF8.out.below ?_ ?_)⟩
          · refine ⟨os, ?_⟩
            have h9 := out_turned HO1.out hlt HVG.out HF8.out (by simpa using HR8.out) (by simpa using HLN.out)
            have e : (fun j => if j < k + 1 then depS L j else depRow L j) = (fun j => if j = k then depS L k else if j < k then depS L j else depRow L j) := by
              funext j
              by_cases e1 : j = k
              · subst e1; simp
              · by_cases e2 : j < k
                · rw [if_pos (by omega), if_neg e1, if_pos e2]
                · rw [if_neg (by omega), if_neg e1, if_neg e2]
            rw [e]; exact h9
          · intro e
            exact absurd (IsC.one (own_typed HROW.out _ e).2 (Bk.isC HBX.out)) (by decide)
          · have := HBl.out.size; have := HB.out; omega
          · intro q e
            exact (own_typed HROW.out _ e).1
        case measure => simp [intOf]; omega
      · obtain rfl : k = cnt L n := by omega
        obtain ⟨os, ho⟩ := HO.out
        obtain ⟨A9, c9, e9, hd9⟩ := out_dp ho
        injection e9 with e9 _ e9c
        subst e9; subst e9c
        have e : (List.range (cnt L n)).map (fun j => if j < cnt L n then depS L j else depRow L j) = (List.range (cnt L n)).map (depS L) := by
          refine List.map_congr_left fun j hj => ?_
          rw [if_pos (by simpa using hj)]
        rw [e] at hd9
        have HD9 := Lib.hid hd9
        clear ho hd9 e
        go_wp2
        go_ret
        have hBw : Below w3.heap.size w3 wr := by rw [HB.out]; exact HBl.out
        exact ⟨⟨_, _, rfl, HD9.out⟩, below_then (below_then HB1.out HB3.out) hBw⟩
end Go.Proofs.Ytpicagcapgjiaaa
