/- Walk of the statement GroupFew. -/
import Derived.Test.YtbflmgpcjfoifaaGs7
import Derived.Test.YtbflmgpcjfoifaaGs6
set_option linter.unusedSimpArgs false
set_option linter.unusedVariables false
namespace Go.Sel.Gp
theorem few_new {T : List G} {nx : Int} {k : Nat} (h : Inv T nx k) : posG (T ++ [⟨nx, 1, [], []⟩]) nx = some T.length := by
  unfold posG
  rw [List.findIdx?_eq_some_iff_getElem]
  refine ⟨by simp, by simp, fun j hj => ?_⟩
  rw [List.getElem_append_left hj]
  have := (h.lo _ (List.getElem_mem hj)).2
  simp only [Bool.not_eq_true, beq_eq_false_iff_ne]
  omega
theorem few_nth {T : List G} {x : G} : nthG (T ++ [x]) T.length = x := by
  rw [nthG_get (by simp)]
  simp
theorem few_state {T : List G} {nx : Int} {k : Nat} (h : Inv T nx k) : stateS (T ++ [⟨nx, 1, [], []⟩]) nx = 1 ∧ patchesS (T ++ [⟨nx, 1, [], []⟩]) nx = [] := by
  rw [stateS, patchesS, few_new h]
  simp [few_nth]
theorem few_abandon {T : List G} {nx : Int} {k : Nat} (h : Inv T nx k) : abandonS (T ++ [⟨nx, 1, [], []⟩]) nx = (0, T) := by
  rw [abandonS, few_new h]
  simp only [few_nth]
  rw [if_neg (by decide), if_neg]
  · simp
  · rw [List.any_eq_true]
    rintro ⟨g, hg, hm⟩
    rw [decide_eq_true_eq] at hm
    rcases List.mem_append.1 hg with hg | hg
    · obtain ⟨rk, hr⟩ := h.ah
      obtain ⟨⟨y, hy, e, _⟩, _⟩ := hr g hg nx hm
      have := (h.lo y hy).2
      omega
    · have : g = ⟨nx, 1, [], []⟩ := by simpa using hg
      rw [this] at hm
      simp at hm
/-- How many numbers below j are groups'. -/
def manyS (T : List G) (j : Nat) : Nat := ((List.range j).filter fun n : Nat => decide (stateS T (n : Int) ≠ 0)).length
theorem manyS_succ (T : List G) (j : Nat) : manyS T (j + 1) = manyS T j + if stateS T (j : Int) ≠ 0 then 1 else 0 := by
  unfold manyS
  rw [List.range_succ, List.filter_append, List.length_append]
  congr 1
  by_cases h : stateS T (j : Int) ≠ 0
  · rw [if_pos h]; simp [h]
  · rw [if_neg h]; simp [h]
theorem manyS_le {T : List G} {nx : Int} {k : Nat} (h : Inv T nx k) (j : Nat) : manyS T j ≤ 8 := by
  have h1 : (((List.range j).filter fun n : Nat => decide (stateS T (n : Int) ≠ 0)).map fun n : Nat => (n : Int)).Nodup := by
    refine List.Pairwise.map _ (fun (a b : Nat) (hab : a ≠ b) e => hab (by omega)) ?_
    exact (List.nodup_range).sublist List.filter_sublist
  have h2 := nodup_length h1 (L := T.map (·.n)) fun x hx => by
    obtain ⟨n, hn, rfl⟩ := List.mem_map.1 hx
    have hs : stateS T (n : Int) ≠ 0 := by simpa using (List.mem_filter.1 hn).2
    obtain ⟨g, hg, e, _⟩ := in_of_state h rfl hs
    exact List.mem_map.2 ⟨g, hg, e⟩
  have := h.len
  simp only [List.length_map] at h2
  unfold manyS
  omega
theorem manyS_bd (T : List G) (j : Nat) : manyS T j ≤ j := by
  have := List.length_filter_le (fun n : Nat => decide (stateS T (n : Int) ≠ 0)) (List.range j)
  rw [List.length_range] at this
  exact this
end Go.Sel.Gp
namespace Go.Proofs.Ytbflmgpcjfoifaa
open Go.RowKit Go.Sel Go.Sel.Gp

set_option maxRecDepth 100000 in
set_option maxHeartbeats 8000000 in
theorem law_GroupFew (A : Option Addr) (n c : Nat) (L : List D3) (p : Int) (w : World) (hL : Dd w A n c L) (hp0 : 0 ≤ p) (hp1 : p ≤ 255) : Calls Try.prog 6 #[.slice A n c, .int .u8 p] w fun e w' => e = .returned (.bool true) ∧ Below w.heap.size w w' := by
  have HL := Lib.hid hL
  have HI := Lib.hid (play_inv hL)
  have l1 := hL.rd.le
  have l2 := hL.rd.cap
  have hm0 : 0 ≤ p % 12 := by omega
  have hm1 : p % 12 < 12 := by omega
  clear hL
  go_enter Try.func6, Try.ntmps6
  go_upto_region 4 with (first
    | (go_at_call 12; (with_reducible refine (play_any _ _ _ L _ HL.out).mono ?_); rintro e w1 ⟨gb, rb, rfl, hb⟩; have HB1 := Lib.hid hb; clear hb)
    | (go_at_call 13; (with_reducible refine (live_any _).mono ?_); rintro e w2 ⟨rfl, hB⟩; have HB2 := Lib.hid (HB1.out.step hB); clear hB))
  generalize (playK L (min n 60)).1 = S at *
  generalize (playK L (min n 60)).2 = next at *
  have HG2 := Lib.hid HB2.out.gl
  have hsz := HB2.out.sz
  have hnx := HI.out.nx
  go_wp2_with (fail)
  go_loopw [8, 9] (fun u v wr => ∃ (i : Nat) (T : List G) (nx last : Int), i ≤ 12 ∧ v = .int .i64 (i : Int) ∧ u = .int .i64 last ∧ 0 ≤ last ∧ last < nx ∧ Hid (Inv T nx (60 + 2 * i)) ∧ Hid (GL w.heap.size w wr gb T nx) ∧ w.heap.size ≤ wr.heap.size) (fun _ v _ => 12 - (intOf v).toNat)
  case atStart => exact ⟨0, S, next, 0, by omega, rfl, rfl, by omega, by omega, HI, HG2, hsz⟩
  case round =>
    clear HG2 hsz hnx
    obtain ⟨i, T, nx, last, hi, rfl, rfl, hla, hlb, HIT, HG, hsw⟩ := hrel
    have hnx := HIT.out.nx
    have hlen := HIT.out.len
    by_cases hlt : (i : Int) < p % 12
    · have hi11 : i < 12 := by omega
      have d0 : decide ((i : Int) < p % 12) = true := decide_eq_true hlt
      have CM : Hid (Calls Try.prog 21 #[.pointer (some ⟨gb, 0, none⟩)] wr fun e w' => e = .returned (.tuple #[.int .i64 (makeS T nx).1, .int .i64 (makeS T nx).2.1]) ∧ GL w.heap.size w w' gb (makeS T nx).2.2.1 (makeS T nx).2.2.2 ∧ w.heap.size ≤ w'.heap.size) := HG.out.next hsw fun F h => pMake_any F wr gb T nx h hlen (fun g hg e => by have := (HIT.out.lo g hg).2; omega) (by omega) (by omega)
      by_cases hfull : 8 ≤ T.length
      · have HM : Hid (makeS T nx = (0, 11, T, nx)) := by show _ = _; rw [makeS, if_pos hfull]
        rw [HM.out] at CM
        clear hlt
        go_wp2_with (go_at_call 21; (with_reducible refine CM.out.mono ?_); rintro e w3 ⟨rfl, hg, hs⟩; have HG3 := Lib.hid hg; have hs3 := hs; clear hg hs)
        go_roundw
        case rel => exact ⟨i + 1, T, nx, last, by omega, by go_num, rfl, hla, hlb, HIT.out.mono (by omega), HG3, hs3⟩
        case measure => simp [intOf] <;> omega
      · have HM : Hid (makeS T nx = (nx, 0, T ++ [⟨nx, 1, [], []⟩], nx + 1)) := by show _ = _; rw [makeS, if_neg hfull]
        have HI1 : Hid (Inv (T ++ [⟨nx, 1, [], []⟩]) (nx + 1) (60 + 2 * i + 1)) := by
          have := HIT.out.make
          rw [HM.out] at this
          exact this
        rw [HM.out] at CM
        have HS := Lib.hid (few_state HIT.out)
        have HAB := Lib.hid (few_abandon HIT.out)
        have d1 : decide (nx ≤ last) = false := by simp; omega
        clear hlt
        have CA : Hid (∀ w4, GL w.heap.size w w4 gb (T ++ [⟨nx, 1, [], []⟩]) (nx + 1) → w.heap.size ≤ w4.heap.size → Calls Try.prog 22 #[.pointer (some ⟨gb, 0, none⟩), .int .i64 nx] w4 fun e w' => e = .returned (.int .i64 0) ∧ GL w.heap.size w w' gb T (nx + 1) ∧ w.heap.size ≤ w'.heap.size) := fun w4 hg hs => hg.next hs fun F h => by
          have := pAbandon_any F w4 gb _ (nx + 1) h nx
          rw [HAB.out] at this
          exact this
        have CS : Hid (∀ w4, GL w.heap.size w w4 gb (T ++ [⟨nx, 1, [], []⟩]) (nx + 1) → Calls Try.prog 15 #[.pointer (some ⟨gb, 0, none⟩), .int .i64 nx] w4 fun e w' => e = .returned (.int .u8 1) ∧ w' = w4) := fun w4 hg => by
          obtain ⟨F, h, _⟩ := hg
          have := pState_any F w4 gb _ (nx + 1) h nx
          rw [HS.out.1] at this
          exact this
        have CP : Hid (∀ w4, GL w.heap.size w w4 gb (T ++ [⟨nx, 1, [], []⟩]) (nx + 1) → Calls Try.prog 16 #[.pointer (some ⟨gb, 0, none⟩), .int .i64 nx] w4 fun e w' => (∃ A c, e = .returned (.slice A 0 c) ∧ c ≤ 9223372036854775807) ∧ Below w4.heap.size w4 w') := fun w4 hg => by
          obtain ⟨F, h, _⟩ := hg
          refine (gp_patches h HI1.out (by omega) nx).mono ?_
          rintro e w' ⟨⟨A, c, rfl, hr⟩, hB⟩
          have := hr.cap
          rw [HS.out.2]
          exact ⟨⟨A, c, rfl, this⟩, hB⟩
        go_upto_region 13 with (first
          | (go_at_call 21; (with_reducible refine CM.out.mono ?_); rintro e w3 ⟨rfl, hg, hs⟩; have HG3 := Lib.hid hg; have hs3 := hs; clear hg hs)
          | (go_at_call 15; (with_reducible refine (CS.out _ HG3.out).mono ?_); rintro e w4 ⟨rfl, hw⟩; subst w4)
          | (go_at_call 16; (with_reducible refine (CP.out _ HG3.out).mono ?_); rintro e w5 ⟨⟨A5, c5, rfl, hc5⟩, hB⟩; have HG5 := Lib.hid (GLs HG3.out hs3 hB); have hs5 := Nat.le_trans hs3 hB.size; clear hB))
        by_cases h3 : (i : Int) % 3 = 2
        · go_wp2_with (go_at_call 22; (with_reducible refine (CA.out _ HG5.out hs5).mono ?_); rintro e w6 ⟨rfl, hg, hs⟩; have HG6 := Lib.hid hg; have hs6 := hs; clear hg hs)
          have HI2 : Hid (Inv T (nx + 1) (60 + 2 * (i + 1))) := by
            have := HI1.out.abandon nx
            rw [HAB.out] at this
            exact this
          go_roundw
          case rel => exact ⟨i + 1, T, nx + 1, nx, by omega, by go_num, rfl, by omega, by omega, HI2, HG6, hs6⟩
          case measure => simp [intOf] <;> omega
        · have q3 : ((i : Int) % 3 == 2) = false := by simpa using h3
          clear h3
          go_wp2
          go_roundw
          case rel => exact ⟨i + 1, _, nx + 1, nx, by omega, by go_num, rfl, by omega, by omega, HI1.out.mono (by omega), HG5, hs5⟩
          case measure => simp [intOf] <;> omega
    · have d0 : decide ((i : Int) < p % 12) = false := decide_eq_false hlt
      clear hlt
      have CS : Hid (∀ x, Calls Try.prog 15 #[.pointer (some ⟨gb, 0, none⟩), .int .i64 x] wr fun e w' => e = .returned (.int .u8 (stateS T x)) ∧ w' = wr) := fun x => by
        obtain ⟨F, h, _⟩ := HG.out
        exact pState_any F wr gb _ nx h x
      have HB : Hid (Below w.heap.size w wr) := by
        obtain ⟨F, _, _, h⟩ := HG.out
        exact h
      go_wp2
      generalize hw9 : wr = w9 at *
      clear hw9
      go_loopw [12, 13] (fun u v wr => ∃ j : Nat, j ≤ 100 ∧ v = .int .i64 (j : Int) ∧ u = .int .i64 (manyS T j : Int) ∧ wr = w9) (fun _ v _ => 100 - (intOf v).toNat)
      case atStart => exact ⟨0, by omega, rfl, rfl, rfl⟩
      case round =>
        obtain ⟨j, hj, rfl, rfl, hwr⟩ := hrel
        have hwr' := hwr.symm
        subst hwr'
        have hbd := manyS_bd T j
        by_cases hjl : j < 100
        · have HMS := Lib.hid (manyS_succ T j)
          by_cases hst : stateS T (j : Int) = 0
          · rw [if_neg (by simp [hst]), Nat.add_zero] at HMS
            have HST := Lib.hid hst
            clear hst
            go_wp2_with (go_at_call 15; (with_reducible refine (CS.out _).mono ?_); rw [HST.out]; rintro e w10 ⟨rfl, hw⟩; subst w10)
            go_roundw
            case rel => exact ⟨j + 1, by omega, by go_num, by rw [HMS.out]; rfl, by first | trivial | rfl⟩
            case measure => simp [intOf] <;> omega
          · rw [if_pos hst] at HMS
            have q0 : (stateS T (j : Int) == 0) = false := by simpa using hst
            clear hst
            go_wp2_with (go_at_call 15; (with_reducible refine (CS.out _).mono ?_); rintro e w10 ⟨rfl, hw⟩; subst w10)
            go_roundw
            case rel => exact ⟨j + 1, by omega, by go_num, by rw [HMS.out]; go_num, by first | trivial | rfl⟩
            case measure => simp [intOf] <;> omega
        · obtain rfl : j = 100 := by omega
          have h8 := manyS_le HIT.out 100
          have d8 : decide ((manyS T 100 : Int) ≤ 8) = true := by simp; omega
          go_wp2
          go_ret
          exact ⟨rfl, HB.out⟩
end Go.Proofs.Ytbflmgpcjfoifaa
