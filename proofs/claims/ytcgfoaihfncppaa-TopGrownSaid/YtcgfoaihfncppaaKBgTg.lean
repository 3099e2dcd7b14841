/- A big file that grows block by block, plainly. No program in sight. -/
import Derived.Test.YtcgfoaihfncppaaKBgCv
set_option linter.unusedSimpArgs false
set_option linter.unusedVariables false
namespace Go.Sel.Bg
open Go.RowKit Go.Sel Go.Sel.Gra

/-- How many of the first n leaves there are. -/
def lfn (v : Nat → Int) (n : Nat) : Nat := ((List.range n).filter fun j => decide (v (40 + 33 * j) ≠ 0)).length
theorem lfn_succ (v : Nat → Int) (n : Nat) : lfn v (n + 1) = lfn v n + if v (40 + 33 * n) ≠ 0 then 1 else 0 := by
  unfold lfn
  rw [List.range_succ, List.filter_append, List.length_append]
  by_cases e : v (40 + 33 * n) = 0 <;> simp [e]
theorem lfn_congr {v v' : Nat → Int} : ∀ n, (∀ j, j < n → v' (40 + 33 * j) = v (40 + 33 * j)) → lfn v' n = lfn v n
  | 0, _ => rfl
  | n + 1, h => by rw [lfn_succ, lfn_succ, lfn_congr n (fun j hj => h j (by omega)), h n (by omega)]
theorem lfn_upd {v : Nat → Int} {j : Nat} {x : Int} (h0 : v (40 + 33 * j) = 0) (hx : x ≠ 0) : ∀ n, lfn (upd v (40 + 33 * j) x) n = lfn v n + if j < n then 1 else 0
  | 0 => by simp [lfn]
  | n + 1 => by
    rw [lfn_succ, lfn_succ, lfn_upd h0 hx n]
    by_cases e : n = j
    · subst e
      have e1 : upd v (40 + 33 * n) x (40 + 33 * n) = x := by unfold Bg.upd; rw [if_pos rfl]
      rw [e1, h0]
      simp [hx]
    · have e1 : upd v (40 + 33 * j) x (40 + 33 * n) = v (40 + 33 * n) := by unfold Bg.upd; rw [if_neg (by omega)]
      have e2 : (if j < n + 1 then 1 else 0) = (if j < n then 1 else 0) := by split <;> split <;> omega
      rw [e1, e2]
      omega
/-- How many blocks of pointers. -/
def icn (v : Nat → Int) : Nat := (if v 6 ≠ 0 then 1 else 0) + (if v 7 ≠ 0 then 1 else 0) + lfn v 32
theorem icn_data {v : Nat → Int} {q : Nat} {x : Int} (hq : ¬ inP q) : icn (upd v q x) = icn v := by
  have n6 : (6 : Nat) ≠ q := by rintro rfl; exact hq (.inl rfl)
  have n7 : (7 : Nat) ≠ q := by rintro rfl; exact hq (.inr (.inl rfl))
  have nD : ∀ j, 40 + 33 * j ≠ q := by rintro j rfl; exact hq (in_D j)
  have h6 : upd v q x 6 = v 6 := by unfold Bg.upd; rw [if_neg n6]
  have h7 : upd v q x 7 = v 7 := by unfold Bg.upd; rw [if_neg n7]
  have hD : lfn (upd v q x) 32 = lfn v 32 := lfn_congr 32 fun j _ => by unfold Bg.upd; rw [if_neg (nD j)]
  unfold icn
  rw [h6, h7, hD]
theorem icn_6 {v : Nat → Int} {x : Int} (h0 : v 6 = 0) (hx : x ≠ 0) : icn (upd v 6 x) = icn v + 1 := by
  have e1 : upd v 6 x 6 = x := by unfold Bg.upd; rw [if_pos rfl]
  have e2 : upd v 6 x 7 = v 7 := by unfold Bg.upd; rw [if_neg (by omega)]
  have hD : lfn (upd v 6 x) 32 = lfn v 32 := lfn_congr 32 fun j _ => by unfold Bg.upd; rw [if_neg (by omega)]
  unfold icn
  rw [e1, e2, h0, hD]
  simp [hx]
  omega
theorem icn_7 {v : Nat → Int} {x : Int} (h0 : v 7 = 0) (hx : x ≠ 0) : icn (upd v 7 x) = icn v + 1 := by
  have e1 : upd v 7 x 7 = x := by unfold Bg.upd; rw [if_pos rfl]
  have e2 : upd v 7 x 6 = v 6 := by unfold Bg.upd; rw [if_neg (by omega)]
  have hD : lfn (upd v 7 x) 32 = lfn v 32 := lfn_congr 32 fun j _ => by unfold Bg.upd; rw [if_neg (by omega)]
  unfold icn
  rw [e1, e2, h0, hD]
  simp [hx]
  omega
theorem icn_D {v : Nat → Int} {j : Nat} {x : Int} (hj : j < 32) (h0 : v (40 + 33 * j) = 0) (hx : x ≠ 0) : icn (upd v (40 + 33 * j) x) = icn v + 1 := by
  have h6 : upd v (40 + 33 * j) x 6 = v 6 := by unfold Bg.upd; rw [if_neg (by omega)]
  have h7 : upd v (40 + 33 * j) x 7 = v 7 := by unfold Bg.upd; rw [if_neg (by omega)]
  unfold icn
  rw [h6, h7, lfn_upd h0 hx, if_pos hj]
  omega
theorem lf_D (k : Nat) : lf k = 40 + 33 * ((k - 38) / 32) := rfl
/-- Put takes as many as there are new blocks of pointers. -/
theorem icn_put {D : List (List Int)} {t : List Int} {k : Nat} {b : Int} {F : List Int} (hR : Rt D t) (hk : k < 1062) (h0 : f0 F ≠ 0) (h1 : f1 F ≠ 0) : icn (putV D t k b F) = icn (val D t) + (putL D t k b F).2.2 := by
  have hno := posK_out hk
  have v6 : val D t 6 = tp t 6 := val_top _ _ (by omega)
  have v7 : val D t 7 = tp t 7 := val_top _ _ (by omega)
  unfold putV putL
  by_cases h6 : k < 6
  · rw [if_pos h6, if_pos h6, icn_data hno]; rfl
  · rw [if_neg h6, if_neg h6]
    by_cases h38 : k < 38
    · rw [if_pos h38, if_pos h38]
      by_cases e : tp t 6 = 0
      · rw [if_pos e, if_pos e, icn_data hno, icn_6 (v6.trans e) h0]
      · rw [if_neg e, if_neg e, icn_data hno]; rfl
    · rw [if_neg h38, if_neg h38]
      by_cases e : tp t 7 = 0
      · have hl : val D t (40 + 33 * ((k - 38) / 32)) = 0 := by
          rw [val, if_neg (by omega), if_neg (by omega), if_pos (by omega), vD, if_pos e]
        rw [if_pos e, if_pos e, icn_data hno, lf_D, icn_D (by omega) (by unfold Bg.upd; rw [if_neg (by omega)]; exact hl) h1, icn_7 (v7.trans e) h0]
        rfl
      · rw [if_neg e, if_neg e]
        by_cases el : val D t (lf k) = 0
        · rw [if_pos el, if_pos el, icn_data hno, lf_D, icn_D (by omega) el h0]
        · rw [if_neg el, if_neg el, icn_data hno]; rfl
/-- A file of 60 blocks behind i puts from place k on; the free ones end at nx. -/
structure Gr (k i : Nat) (D : List (List Int)) (t : List Int) (nx : Nat) : Prop where
  rt : Rt D t
  len : t.length = 8
  dl : D.length = 60
  data : ∀ p, p < 1062 → atK D t p = if k ≤ p ∧ p < k + i then ((p - k + 1 : Nat) : Int) else 0
  inn : ∀ q, q < 1096 → inP q → val D t q ≠ 0 → (nx : Int) < val D t q
  cnt : nx + icn (val D t) = 59
  sup : ∀ j, j < 32 → val D t (40 + 33 * j) ≠ 0 → ∃ p, k ≤ p ∧ p < k + i ∧ 38 ≤ p ∧ (p - 38) / 32 = j
/-- Few leaves. -/
theorem lfn_two {v : Nat → Int} {a : Nat} (h : ∀ j, v (40 + 33 * j) ≠ 0 → j < 32 → j = a ∨ j = a + 1) : ∀ n, n ≤ 32 → lfn v n ≤ (if a < n then 1 else 0) + if a + 1 < n then 1 else 0
  | 0, _ => by simp [lfn]
  | n + 1, hn => by
    rw [lfn_succ]
    have ih := lfn_two h n (by omega)
    by_cases e : v (40 + 33 * n) = 0
    · rw [if_neg (fun h => h e)]
      split at ih <;> split at ih <;> split <;> split <;> omega
    · rw [if_pos e]
      have := h n e (by omega)
      split at ih <;> split at ih <;> split <;> split <;> omega
theorem Gr.low {k i : Nat} {D : List (List Int)} {t : List Int} {nx : Nat} (h : Gr k i D t nx) (hi : i ≤ 30) : 55 ≤ nx := by
  have h1 : lfn (val D t) 32 ≤ 2 := by
    have := lfn_two (v := val D t) (a := (k - 38) / 32) (fun j hj hj' => by
      obtain ⟨p, p1, p2, p3, p4⟩ := h.sup j hj' hj
      omega) 32 (by omega)
    split at this <;> split at this <;> omega
  have h2 := h.cnt
  unfold icn at h2
  split at h2 <;> split at h2 <;> omega
theorem putV_inner {D : List (List Int)} {t : List Int} {k : Nat} {b : Int} {F : List Int} (hk : k < 1062) {q : Nat} (hq : inP q) :
    putV D t k b F q = val D t q ∨ (putV D t k b F q = f0 F ∧ 1 ≤ (putL D t k b F).2.2 ∧ (q = 6 ∨ q = 7 ∨ (q = lf k ∧ 38 ≤ k))) ∨ (putV D t k b F q = f1 F ∧ (putL D t k b F).2.2 = 2 ∧ q = lf k ∧ 38 ≤ k) := by
  have hne : q ≠ posK k := fun e => posK_out hk (e ▸ hq)
  unfold putV putL
  by_cases h6 : k < 6
  · rw [if_pos h6, if_pos h6]; left; unfold Bg.upd; rw [if_neg hne]
  · rw [if_neg h6, if_neg h6]
    by_cases h38 : k < 38
    · rw [if_pos h38, if_pos h38]
      by_cases e : tp t 6 = 0
      · rw [if_pos e, if_pos e]
        unfold Bg.upd
        rw [if_neg hne]
        by_cases e6 : q = 6
        · rw [if_pos e6]; exact .inr (.inl ⟨rfl, Nat.le_refl _, .inl e6⟩)
        · rw [if_neg e6]; exact .inl rfl
      · rw [if_neg e, if_neg e]; left; unfold Bg.upd; rw [if_neg hne]
    · rw [if_neg h38, if_neg h38]
      by_cases e : tp t 7 = 0
      · rw [if_pos e, if_pos e]
        unfold Bg.upd
        rw [if_neg hne]
        by_cases el : q = lf k
        · rw [if_pos el]; exact .inr (.inr ⟨rfl, rfl, el, by omega⟩)
        · rw [if_neg el]
          by_cases e7 : q = 7
          · rw [if_pos e7]; exact .inr (.inl ⟨rfl, by simp, .inr (.inl e7)⟩)
          · rw [if_neg e7]; exact .inl rfl
      · rw [if_neg e, if_neg e]
        by_cases e0 : val D t (lf k) = 0
        · rw [if_pos e0, if_pos e0]
          unfold Bg.upd
          rw [if_neg hne]
          by_cases el : q = lf k
          · rw [if_pos el]; exact .inr (.inl ⟨rfl, Nat.le_refl _, .inr (.inr ⟨el, by omega⟩)⟩)
          · rw [if_neg el]; exact .inl rfl
        · rw [if_neg e0, if_neg e0]; left; unfold Bg.upd; rw [if_neg hne]
theorem icn_congr {v v' : Nat → Int} (h : ∀ q, q < 1096 → v' q = v q) : icn v' = icn v := by
  unfold icn
  rw [h 6 (by omega), h 7 (by omega), lfn_congr 32 fun j hj => h _ (by omega)]
/-- The free ones that the next put is given. -/
def fr3 (nx : Nat) : List Int := [(nx : Int), (nx : Int) - 1, (nx : Int) - 2]
theorem Gr.ok {k i : Nat} {D : List (List Int)} {t : List Int} {nx : Nat} (h : Gr k i D t nx) (hk : k < 1022) (hi : i < 30) : OkPut D t 60 (k + i) ((i : Int) + 1) (fr3 nx) := by
  have hl := h.low (by omega)
  have hc := h.cnt
  have hv : ∀ q, q < 1096 → val D t q ≤ 30 ∧ val D t q ≤ i ∨ (nx : Int) < val D t q := fun q hq => by
    by_cases hin : inP q
    · by_cases e : val D t q = 0
      · rw [e]; left; omega
      · exact .inr (h.inn q hq hin e)
    · obtain ⟨p, hp, rfl⟩ := posK_onto hq hin
      have := h.data p hp
      unfold atK at this
      rw [this]
      left
      split <;> omega
  refine ⟨by omega, by omega, by omega, fun x hx => ?_, fun q hq e => ?_, fun hx => ?_, fun x hx q hq e => ?_, ?_, ?_⟩
  · simp only [fr3, List.mem_cons, List.not_mem_nil, or_false] at hx
    omega
  · have := hv q hq
    omega
  · simp only [fr3, List.mem_cons, List.not_mem_nil, or_false] at hx
    omega
  · simp only [fr3, List.mem_cons, List.not_mem_nil, or_false] at hx
    have := hv q hq
    omega
  · simp only [fr3, List.nodup_cons, List.mem_cons, List.not_mem_nil, or_false, not_or, List.nodup_nil, and_true, not_false_eq_true]
    omega
  · rw [h.data _ (by omega), if_neg (by omega)]
theorem Gr.put {k i : Nat} {D : List (List Int)} {t : List Int} {nx : Nat} (h : Gr k i D t nx) (hk : k < 1022) (hi : i < 30) :
    Gr k (i + 1) (putL D t (k + i) ((i : Int) + 1) (fr3 nx)).1 (putL D t (k + i) ((i : Int) + 1) (fr3 nx)).2.1 (nx - (putL D t (k + i) ((i : Int) + 1) (fr3 nx)).2.2) := by
  have hl := h.low (by omega)
  have hc := h.cnt
  have hO := h.ok hk hi
  have hdl := h.dl
  obtain ⟨r1, r2⟩ := put_right h.rt h.len (by rw [hdl]; exact hO) (by simp [fr3])
  obtain ⟨l1, l2, l3⟩ := putL_len D t (k + i) ((i : Int) + 1) (fr3 nx)
  have e0 : f0 (fr3 nx) = nx := rfl
  have e1 : f1 (fr3 nx) = (nx : Int) - 1 := rfl
  have hic := icn_put (b := (i : Int) + 1) (F := fr3 nx) h.rt hO.hk (by rw [e0]; omega) (by rw [e1]; omega)
  have hin := fun q hq => putV_inner (D := D) (t := t) (b := (i : Int) + 1) (F := fr3 nx) hO.hk (q := q) hq
  refine ⟨r1, l2.trans h.len, l1.trans h.dl, fun p hp => ?_, fun q hq hiq hne => ?_, ?_, fun j hj hne => ?_⟩
  · rw [atK, r2 _ (posK_lt hp), putV_at hO.hk hp, h.data p hp]
    by_cases e : p = k + i
    · subst e
      rw [if_pos rfl, if_pos (by omega)]
      omega
    · rw [if_neg e]
      by_cases h1 : k ≤ p ∧ p < k + i
      · rw [if_pos h1, if_pos (by omega)]
      · rw [if_neg h1, if_neg (by omega)]
  · rw [r2 q hq] at hne ⊢
    rcases hin q hiq with h1 | ⟨h1, h2, _⟩ | ⟨h1, h2, _⟩
    · rw [h1] at hne ⊢
      have := h.inn q hq hiq hne
      omega
    · rw [h1, e0]; omega
    · rw [h1, e1]; omega
  · rw [icn_congr r2, hic]; omega
  · rw [r2 _ (by omega)] at hne
    have hnew : lf (k + i) = 40 + 33 * j → 38 ≤ k + i → ∃ p, k ≤ p ∧ p < k + (i + 1) ∧ 38 ≤ p ∧ (p - 38) / 32 = j := fun e h38 => ⟨k + i, by omega, by omega, h38, by rw [lf_D] at e; omega⟩
    rcases hin _ (in_D j) with h1 | ⟨h1, h2, h3⟩ | ⟨h1, h2, h3, h4⟩
    · rw [h1] at hne
      obtain ⟨p, p1, p2, p3, p4⟩ := h.sup j hj hne
      exact ⟨p, p1, by omega, p3, p4⟩
    · rcases h3 with h3 | h3 | ⟨h3, h4⟩
      · omega
      · omega
      · exact hnew h3.symm h4
    · exact hnew h3.symm h4
theorem filter_seg (k n : Nat) : ∀ m, (List.range m).filter (fun p => decide (k ≤ p ∧ p < k + n)) = (List.range (min n (m - k))).map (k + ·)
  | 0 => by simp
  | m + 1 => by
    rw [List.range_succ, List.filter_append, filter_seg k n m]
    by_cases h : k ≤ m ∧ m < k + n
    · have e1 : min n (m - k) = m - k := by omega
      have e2 : min n (m + 1 - k) = m - k + 1 := by omega
      rw [e1, e2, List.range_succ, List.map_append]
      have e3 : k + (m - k) = m := by omega
      simp [h, e3]
    · have e2 : min n (m + 1 - k) = min n (m - k) := by omega
      rw [e2]
      simp [h]
theorem Gr.plN {k i : Nat} {D : List (List Int)} {t : List Int} {nx : Nat} (h : Gr k i D t nx) (hk : k + i ≤ 1062) : plN D t = (List.range i).map (k + ·) := by
  have e : Bg.plN D t = (List.range 1062).filter (fun p => decide (k ≤ p ∧ p < k + i)) := by
    unfold Bg.plN
    refine List.filter_congr fun p hp => ?_
    rw [h.data p (List.mem_range.1 hp)]
    by_cases h1 : k ≤ p ∧ p < k + i
    · rw [if_pos h1]
      rw [decide_eq_true h1, decide_eq_true (by omega)]
    · rw [if_neg h1]
      simp [h1]
  have e2 : min i (1062 - k) = i := by omega
  rw [e, filter_seg, e2]
theorem Gr.start (k : Nat) : Gr k 0 (List.replicate 60 zrow) [0, 0, 0, 0, 0, 0, 0, 0] 59 where
  rt := Rt_zero (whole_blank (by omega))
  len := rfl
  dl := by simp
  data := fun p hp => by rw [atK, val_zero _ _ (posK_lt hp), if_neg (by omega)]
  inn := fun q hq _ hne => absurd (val_zero _ q hq) hne
  cnt := by
    rw [icn_congr (v := fun _ => 0) (fun q hq => val_zero _ q hq)]
    have : ∀ n, lfn (fun _ => 0) n = 0 := fun n => by simp [lfn]
    simp [icn, this]
  sup := fun j hj hne => absurd (val_zero _ _ (by omega)) hne
end Go.Sel.Bg
namespace Go.Proofs.Ytcgfoaihfncppaa
open Go.RowKit Go.Sel Go.Sel.Gra Go.Sel.Bg Go.Sel.Mer Go.Shelf
theorem inL_icn (D : List (List Int)) (t : List Int) : (inL D t).length = icn (val D t) := by
  have hD : ∀ j, val D t (40 + 33 * j) = vD D t j := fun j => by
    rw [val, if_neg (by omega), if_neg (by omega), if_pos (by omega), show (40 + 33 * j - 40) / 33 = j by omega]
  have v6 : val D t 6 = tp t 6 := val_top _ _ (by omega)
  have v7 : val D t 7 = tp t 7 := val_top _ _ (by omega)
  have hlf : lfn (val D t) 32 = ((List.range 32).filter fun j => decide (vD D t j ≠ 0)).length := by
    unfold lfn
    have ef : ((List.range 32).filter fun j => decide (val D t (40 + 33 * j) ≠ 0)) = (List.range 32).filter fun j => decide (vD D t j ≠ 0) := List.filter_congr fun j hj => by rw [hD j]
    rw [ef]
  rw [inL, List.length_map, innD, innI, List.length_append, icn, v6, v7, hlf]
  by_cases h6 : tp t 6 = 0 <;> by_cases h7 : tp t 7 = 0
  · have : ∀ i, vD D t i = 0 := fun i => by unfold vD; rw [if_pos h7]
    have e0 : ((List.range 32).filter fun j => decide (vD D t j ≠ 0)).length = 0 := by
      rw [List.length_eq_zero_iff, List.filter_eq_nil_iff]
      intro j _
      simp [this j]
    rw [e0]
    simp [h6, h7]
  · simp [h6, h7, innE_count]; omega
  · have : ∀ i, vD D t i = 0 := fun i => by unfold vD; rw [if_pos h7]
    have e0 : ((List.range 32).filter fun j => decide (vD D t j ≠ 0)).length = 0 := by
      rw [List.length_eq_zero_iff, List.filter_eq_nil_iff]
      intro j _
      simp [this j]
    rw [e0]
    simp [h6, h7]
  · simp [h6, h7, innE_count]; omega
end Go.Proofs.Ytcgfoaihfncppaa
