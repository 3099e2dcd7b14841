/- Walks of big: plan and Put, wherever they are asked rightly. -/
import Derived.Test.YtcgfoaihfncppaaBgB
import Derived.Test.YtcgfoaihfncppaaBgC
import Derived.Test.YtcgfoaihfncppaaBgD
import Derived.Test.YtcgfoaihfncppaaBgE
import Derived.Test.YtcgfoaihfncppaaBgF
set_option linter.unusedSimpArgs false
set_option linter.unusedVariables false
namespace Go.Proofs.Ytcgfoaihfncppaa
open Go.RowKit Go.Sel Go.Sel.Gra Go.Sel.Bg Go.Sel.Mer Go.Shelf

/-- The patches that Put writes. -/
def planL (D : List (List Int)) (t : List Int) (k : Nat) (b : Int) (F : List Int) : List It :=
  if k < 6 then []
  else if k < 38 then (if tp t 6 = 0 then [⟨f0 F, 0, strOfNums (pt (k - 6) b), []⟩] else [⟨tp t 6, (k : Int) - 6, strOfNums [b], []⟩])
  else if tp t 7 = 0 then [⟨f0 F, 0, strOfNums (pt ((k - 38) / 32) (f1 F)), []⟩, ⟨f1 F, 0, strOfNums (pt ((k - 38) % 32) b), []⟩]
  else if val D t (lf k) = 0 then [⟨f0 F, 0, strOfNums (pt ((k - 38) % 32) b), []⟩, ⟨tp t 7, Nat.cast ((k - 38) / 32), strOfNums [f0 F], [0]⟩]
  else [⟨val D t (lf k), Nat.cast ((k - 38) % 32), strOfNums [b], []⟩]

theorem spl_all {row s : List Int} (h : row.length = s.length) : spl row 0 s = s := by
  simp [spl, ← h]
theorem spl_one {row : List Int} {i : Nat} {x : Int} (h : i < row.length) : spl row i [x] = row.set i x := by
  rw [spl, List.set_eq_take_append_cons_drop, if_pos h]
  simp
theorem set_get {D : List (List Int)} {i : Nat} (h : i < D.length) (r r' : List Int) : (D.set i r).set i r' = D.set i r' := by simp
theorem nth_set {D : List (List Int)} {i j : Nat} (r : List Int) (h : i < D.length) : nth (D.set i r) j = if i = j then r else nth D j := by
  simp only [nth, List.getD_eq_getElem?_getD, List.getElem?_set]
  by_cases e : i = j
  · subst e; simp [h]
  · simp [e]
theorem two_le {F : List Int} (h : 2 ≤ F.length) : ∃ F', F = f0 F :: f1 F :: F' := by
  match F, h with
  | a :: b :: F', _ => exact ⟨F', rfl⟩
/-- What the patches do. -/
theorem applyL_plan {D : List (List Int)} {t : List Int} {k : Nat} {b : Int} {F : List Int} (hR : Rt D t) (ht : t.length = 8) (hO : OkPut D t D.length k b F) (hF : 2 ≤ F.length) :
    applyL D (planL D t k b F) (planL D t k b F).length = (putL D t k b F).1 ∧ ∀ x ∈ planL D t k b F, prightB x = true ∧ x.b < D.length := by
  have hk := hO.hk
  have m0 : f0 F ∈ F := by unfold f0; rw [List.getD_eq_getElem?_getD, List.getElem?_eq_getElem (by omega)]; exact List.getElem_mem _
  have m1 : f1 F ∈ F := by unfold f1; rw [List.getD_eq_getElem?_getD, List.getElem?_eq_getElem (by omega)]; exact List.getElem_mem _
  have n01 : f1 F ≠ f0 F := by
    unfold f0 f1
    rw [List.getD_eq_getElem?_getD, List.getD_eq_getElem?_getD, List.getElem?_eq_getElem (show 0 < F.length by omega), List.getElem?_eq_getElem (show 1 < F.length by omega)]
    have := List.pairwise_iff_getElem.1 hO.nd 0 1 (by omega) (by omega) (by omega)
    simpa using fun e => this e.symm
  have g0 := hO.f _ m0
  have g1 := hO.f _ m1
  have gb := hO.b0
  have gb' := hO.b1
  have h96 := hR.1.1
  have hrow : ∀ i, i < D.length → (nth D i).length = 32 := fun i hi => by rw [nth_get hi]; exact hR.1.2 _ (List.getElem_mem hi)
  have hpt : ∀ s (x : Int), 0 ≤ x → x ≤ 255 → nums (strOfNums (pt s x)) = pt s x := fun s x h1 h2 => nums_strOfNums (pt_byte s x h1 h2)
  have h1 : ∀ x : Int, 0 ≤ x → x ≤ 255 → nums (strOfNums [x]) = [x] := fun x h1 h2 => nums_strOfNums (fun y hy => by simp at hy; omega)
  have hsz : ∀ (l : List Int), (strOfNums l).size = l.length := fun l => by
    have := congrArg List.length (strOfNums_data l)
    rw [Array.length_toList, List.length_map] at this
    exact this
  have hpr : ∀ (x : Int) s (y : Int) ds, 0 ≤ x → x < D.length → prightB ⟨x, 0, strOfNums (pt s y), ds⟩ = true := fun x s y ds h0 hx => by
    rw [pright_iff]
    simp only [hsz, pt_len]
    omega
  have hp1 : ∀ (x : Int) (i : Nat) (y : Int) ds, 0 ≤ x → x < D.length → i < 32 → prightB ⟨x, (i : Int), strOfNums [y], ds⟩ = true := fun x i y ds h0 hx hi => by
    rw [pright_iff]
    simp only [hsz, List.length_cons, List.length_nil]
    omega
  have hz0 : zrow.length = 32 := by simp [zrow]
  have hptz : ∀ s x, zrow.set s x = pt s x := fun s x => rfl
  unfold planL putL
  by_cases h6 : k < 6
  · rw [if_pos h6, if_pos h6]
    exact ⟨rfl, fun x hx => by simp at hx⟩
  · rw [if_neg h6, if_neg h6]
    by_cases h38 : k < 38
    · obtain ⟨e, ep, es⟩ := posK_mid h6 h38
      rw [if_pos h38, if_pos h38]
      by_cases ht6 : tp t 6 = 0
      · rw [if_pos ht6, if_pos ht6]
        refine ⟨?_, fun x hx => ?_⟩
        · have hv : val (D.set (f0 F).toNat zrow) (t.set 6 (f0 F)) 6 = f0 F := by
            rw [val_top _ _ (by omega)]
            simp [tp, ht]
          simp only [applyL, List.length_cons, List.length_nil, List.take, List.foldl_cons, List.foldl_nil]
          have hz : Int.toNat 0 = 0 := rfl
          rw [setD, ep, es, hv, hpt _ _ (by omega) (by omega), hz, spl_all (by rw [hrow _ (by omega), pt_len])]
          have e1 : (D.set (f0 F).toNat zrow).getD (f0 F).toNat [] = zrow := by
            simp [List.getD_eq_getElem?_getD, show (f0 F).toNat < D.length by omega]
          rw [e1, set_get (by omega)]
          rfl
        · simp only [List.mem_singleton] at hx
          subst hx
          exact ⟨hpr _ _ _ _ (by omega) (by omega), by simp only; omega⟩
      · rw [if_neg ht6, if_neg ht6]
        have hb := hR.2.1 6 (by omega)
        rw [val_top _ _ (by omega)] at hb
        refine ⟨?_, fun x hx => ?_⟩
        · simp only [applyL, List.length_cons, List.length_nil, List.take, List.foldl_cons, List.foldl_nil]
          rw [setD, ep, es, val_top _ _ (by omega), h1 _ (by omega) (by omega)]
          have e2 : ((k : Int) - 6).toNat = k - 6 := by omega
          rw [e2, spl_one (by rw [hrow _ (by omega)]; omega)]
          rfl
        · simp only [List.mem_singleton] at hx
          subst hx
          have e2 : ((k : Int) - 6) = ((k - 6 : Nat) : Int) := by omega
          refine ⟨?_, by simp only; omega⟩
          rw [e2]
          exact hp1 _ _ _ _ (by omega) (by omega) (by omega)
    · obtain ⟨e, ep, es, hni⟩ := posK_hi h38
      obtain ⟨l8, ll, lp, ls, li⟩ := lf_at hk
      rw [if_neg h38, if_neg h38]
      by_cases ht7 : tp t 7 = 0
      · rw [if_pos ht7, if_pos ht7]
        refine ⟨?_, fun x hx => ?_⟩
        · have hv : ∀ D', val D' (t.set 7 (f0 F)) 7 = f0 F := fun D' => by
            rw [val_top _ _ (by omega)]
            simp [tp, ht]
          have hl0 : ((D.set (f0 F).toNat zrow).set (f1 F).toNat zrow).getD (f0 F).toNat [] = zrow := by
            show nth _ _ = _
            rw [nth_set _ (by rw [List.length_set]; omega), nth_set _ (by omega), if_neg (by omega), if_pos rfl]
          have hvl : val (setD ((D.set (f0 F).toNat zrow).set (f1 F).toNat zrow) (t.set 7 (f0 F)) (lf k) (f1 F)) (t.set 7 (f0 F)) (lf k) = f1 F := by
            rw [val_par _ _ l8 ll, lp, ls, hv, if_neg (by omega), setD, lp, ls, hv, hl0]
            rw [at2_set _ _ _ _ _ (by simp; omega), if_pos rfl]
            rw [List.getD_eq_getElem?_getD, List.getElem?_set_self (by rw [hz0]; omega)]
            rfl
          simp only [applyL, List.length_cons, List.length_nil, List.take, List.foldl_cons, List.foldl_nil]
          rw [setD, ep, es, hvl, hpt _ _ (by omega) (by omega), hpt _ _ (by omega) (by omega)]
          have hz : Int.toNat 0 = 0 := rfl
          rw [hz, spl_all (by rw [hrow _ (by omega), pt_len])]
          rw [spl_all (by rw [nth_set _ (by omega), if_neg (by omega), hrow _ (by omega), pt_len])]
          rw [setD, lp, ls, hv, hl0]
          have e3 : (((D.set (f0 F).toNat zrow).set (f1 F).toNat zrow).set (f0 F).toNat (zrow.set ((k - 38) / 32) (f1 F))).getD (f1 F).toNat [] = zrow := by
            show nth _ _ = _
            rw [nth_set _ (by simp; omega), if_neg (by omega), nth_set _ (by simp; omega), if_pos rfl]
          rw [e3, List.set_comm (zrow.set ((k - 38) / 32) (f1 F)) zrow (show (f0 F).toNat ≠ (f1 F).toNat by omega) |>.symm |> fun h => h]
          simp only [List.set_set, hptz]
        · simp only [List.mem_cons, List.not_mem_nil, or_false] at hx
          rcases hx with rfl | rfl
          · exact ⟨hpr _ _ _ _ (by omega) (by omega), by simp only; omega⟩
          · exact ⟨hpr _ _ _ _ (by omega) (by omega), by simp only; omega⟩
      · rw [if_neg ht7, if_neg ht7]
        have hb := hR.2.1 7 (by omega)
        rw [val_top _ _ (by omega)] at hb
        by_cases hl : val D t (lf k) = 0
        · rw [if_pos hl, if_pos hl]
          have hne7 : (tp t 7).toNat ≠ (f0 F).toNat := fun e => by
            have := hO.nf _ m0 7 (by omega)
            rw [val_top _ _ (by omega)] at this
            omega
          refine ⟨?_, fun x hx => ?_⟩
          · have hvl : val (setD (D.set (f0 F).toNat zrow) t (lf k) (f0 F)) t (lf k) = f0 F := by
              rw [val_par _ _ l8 ll, lp, ls, val_top _ _ (by omega), if_neg ht7, setD, lp, ls, val_top _ _ (by omega)]
              rw [at2_set _ _ _ _ _ (by simp; omega), if_pos rfl]
              have e4 : (D.set (f0 F).toNat zrow).getD (tp t 7).toNat [] = nth D (tp t 7).toNat := by
                show nth _ _ = _
                rw [nth_set _ (by omega), if_neg (fun e => hne7 e.symm)]
              have hl' := hrow (tp t 7).toNat (by omega)
              rw [e4, List.getD_eq_getElem?_getD, List.getElem?_set_self (by omega)]
              rfl
            simp only [applyL, List.length_cons, List.length_nil, List.take, List.foldl_cons, List.foldl_nil]
            have hz : Int.toNat 0 = 0 := rfl
            have hzc : ∀ m : Nat, (Nat.cast m : Int).toNat = m := fun m => by simp
            rw [setD, ep, es, hvl, hpt _ _ (by omega) (by omega), h1 _ (by omega) (by omega), hz, hzc, spl_all (by rw [hrow _ (by omega), pt_len])]
            have e5 : nth (D.set (f0 F).toNat (pt ((k - 38) % 32) b)) (tp t 7).toNat = nth D (tp t 7).toNat := by rw [nth_set _ (by omega), if_neg (fun e => hne7 e.symm)]
            rw [e5, spl_one (by rw [hrow _ (by omega)]; omega), setD, lp, ls, val_top _ _ (by omega)]
            have e4 : (D.set (f0 F).toNat zrow).getD (tp t 7).toNat [] = nth D (tp t 7).toNat := by
              show nth _ _ = _
              rw [nth_set _ (by omega), if_neg (fun e => hne7 e.symm)]
            have e6 : ((D.set (f0 F).toNat zrow).set (tp t 7).toNat ((nth D (tp t 7).toNat).set ((k - 38) / 32) (f0 F))).getD (f0 F).toNat [] = zrow := by
              show nth _ _ = _
              rw [nth_set _ (by simp; omega), if_neg hne7, nth_set _ (by omega), if_pos rfl]
            rw [e4, e6, hptz, List.set_comm _ _ hne7]
            simp only [List.set_set]
          · simp only [List.mem_cons, List.not_mem_nil, or_false] at hx
            rcases hx with rfl | rfl
            · exact ⟨hpr _ _ _ _ (by omega) (by omega), by simp only; omega⟩
            · exact ⟨hp1 _ _ _ _ (by omega) (by omega) (by omega), by simp only; omega⟩
        · rw [if_neg hl, if_neg hl]
          have hbl := hR.2.1 (lf k) ll
          refine ⟨?_, fun x hx => ?_⟩
          · simp only [applyL, List.length_cons, List.length_nil, List.take, List.foldl_cons, List.foldl_nil]
            have hzc : ∀ m : Nat, (Nat.cast m : Int).toNat = m := fun m => by simp
            rw [setD, ep, es, h1 _ (by omega) (by omega), hzc, spl_one (by rw [hrow _ (by omega)]; omega)]
            rfl
          · simp only [List.mem_singleton] at hx
            subst hx
            exact ⟨hp1 _ _ _ _ (by omega) (by omega) (by omega), by simp only; omega⟩
theorem plan_any (A : Option Addr) (n c : Nat) (D : List (List Int)) (t : List Int) (k : Nat) (b : Int) (Af : Option Addr) (nf cf : Nat) (F : List Int) (hF2 : 2 ≤ F.length) (ht : t.length = 8) (w : World) (hD : Bp w A n c D) (hR : Rt D t) (hF : Rd w Af nf cf (iv .i64 F)) (hlF : F.length = nf) (hO : OkPut D t n k b F) :
    Calls Try.prog 31 #[.slice A n c, bigV t, .int .i64 (k : Int), .int .i64 b, .slice Af nf cf] w fun e w' => ∃ Ai ci, e = .returned (.agg (putC (putL D t k b F).2.1 (.slice Ai (planL D t k b F).length ci) ((putL D t k b F).2.2 : Nat))) ∧ PI w.heap.size w' (.slice Ai (planL D t k b F).length ci) (planL D t k b F).length (planL D t k b F) ∧ Below w.heap.size w w' := by
  obtain ⟨F', hFe⟩ := two_le hF2
  unfold planL putL
  by_cases h6 : k < 6
  · rw [if_pos h6, if_pos h6]
    exact plan_1 A n c D t k b Af nf cf F F' _ _ hFe ht w hD hR hF hlF hO h6
  · rw [if_neg h6, if_neg h6]
    by_cases h38 : k < 38
    · rw [if_pos h38, if_pos h38]
      by_cases ht6 : tp t 6 = 0
      · rw [if_pos ht6, if_pos ht6]
        exact plan_20 A n c D t k b Af nf cf F F' _ _ hFe ht w hD hR hF hlF hO h6 h38 ht6
      · rw [if_neg ht6, if_neg ht6]
        exact plan_21 A n c D t k b Af nf cf F F' _ _ hFe ht w hD hR hF hlF hO h6 h38 ht6
    · rw [if_neg h38, if_neg h38]
      by_cases ht7 : tp t 7 = 0
      · rw [if_pos ht7, if_pos ht7]
        exact plan_30 A n c D t k b Af nf cf F F' _ _ hFe ht w hD hR hF hlF hO (by omega) ht7
      · rw [if_neg ht7, if_neg ht7]
        by_cases hl : val D t (lf k) = 0
        · rw [if_pos hl, if_pos hl]
          exact plan_31 A n c D t k b Af nf cf F F' _ _ hFe ht w hD hR hF hlF hO (by omega) ht7 hl
        · rw [if_neg hl, if_neg hl]
          exact plan_32 A n c D t k b Af nf cf F F' _ _ hFe ht w hD hR hF hlF hO (by omega) ht7 hl
/-- Put, where it is asked rightly. -/
theorem Put_any (A : Option Addr) (n c : Nat) (D : List (List Int)) (t : List Int) (k : Nat) (b : Int) (Af : Option Addr) (nf cf : Nat) (F : List Int) (hF2 : 2 ≤ F.length) (ht : t.length = 8) (w : World) (hD : Bp w A n c D) (hR : Rt D t) (hF : Rd w Af nf cf (iv .i64 F)) (hlF : F.length = nf) (hO : OkPut D t n k b F) :
    Calls Try.prog 13 #[.slice A n c, bigV t, .int .i64 (k : Int), .int .i64 b, .slice Af nf cf] w fun e w' => (∃ Ao co, e = .returned (.tuple #[.slice Ao n co, bigV (putL D t k b F).2.1, .int .i64 ((putL D t k b F).2.2 : Nat), .int .i64 0]) ∧ Wb w.heap.size w' Ao n co (putL D t k b F).1) ∧ Below w.heap.size w w' := by
  have hn := hD.len
  obtain ⟨h1, h2⟩ := applyL_plan hR ht (hn ▸ hO) hF2
  have := Put_ok A n c D t k b Af nf cf (putL D t k b F).2.1 (planL D t k b F) (planL D t k b F).length ((putL D t k b F).2.2 : Nat) ht ((putL_len D t k b F).2.1.trans ht) w hD (by rw [← hn]; exact hR.1.1) hR.1 (fun x hx => by rw [← hn]; exact h2 x hx)
    (fun W hB => plan_any A n c D t k b Af nf cf F hF2 ht W (hD.below hB) hR (hF.below hB) hlF hO)
  rw [h1] at this
  exact this
end Go.Proofs.Ytcgfoaihfncppaa
