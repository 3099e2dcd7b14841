/- Walks of merge's reference: SameBlocks. -/
import Derived.Test.YtpicagcapgjiaaaMb2
set_option linter.unusedSimpArgs false
set_option linter.unusedVariables false
namespace Go.Proofs.Ytpicagcapgjiaaa
open Go.RowKit Go.Sel Go.Sel.Gra Go.Sel.Mer Go.Shelf

theorem same_blocks {D E : List (List Int)} {n : Nat} (h1 : D.length = n) (h2 : E.length = n) : D = E ↔ ∀ j, j < n → nth D j = nth E j := by
  constructor
  · rintro rfl; simp
  · intro h
    apply List.ext_getElem (by omega)
    intro j h3 h4
    have := h j (by omega)
    simpa [nth, List.getD_eq_getElem?_getD, h3, h4] using this

set_option maxRecDepth 100000 in
set_option maxHeartbeats 4000000 in
theorem SameBlocks_any (A : Option Addr) (n c : Nat) (D : List (List Int)) (A1 : Option Addr) (n1 c1 : Nat) (E : List (List Int)) (w : World) (hD : Bp w A n c D) (hE : Bp w A1 n1 c1 E) :
    Calls Try.prog 43 #[.slice A n c, .slice A1 n1 c1] w fun e w' => e = .returned (.bool (decide (D = E))) ∧ Below w.heap.size w w' := by
  have HD := Lib.hid hD
  have HE := Lib.hid hE
  have HDN := Lib.hid hD.len
  have HEN := Lib.hid hE.len
  have l1 := hD.le
  have l2 := hD.cap
  have l3 := hE.le
  have l4 := hE.cap
  clear hD hE
  by_cases hnn : n = n1
  · subst hnn
    have q0 : ((n : Int) != (n : Int)) = false := by simp
    go_enter Try.func43, Try.ntmps43
    go_wp2
    go_loopw [5] (fun v wr => ∃ k : Nat, k ≤ n ∧ v = .int .i64 k ∧ Hid (∀ j, j < k → nth D j = nth E j) ∧ Hid (Below w.heap.size w wr)) (fun v _ => n - (intOf v).toNat)
    case atStart => exact ⟨0, by omega, rfl, fun j hj => by omega, Below.refl _ _⟩
    case round =>
      obtain ⟨k, hk, rfl, HJ, HB⟩ := hrel
      by_cases hlt : k < n
      · obtain ⟨b, off, A', n', c', rfl, hb, hc, hl, hr, hx⟩ := (HD.out.below HB.out).at_ hlt
        obtain ⟨b1, off1, A1', n1', c1', rfl, hb1, hc1, hl1, hr1, hx1⟩ := (HE.out.below HB.out).at_ hlt
        have HQ : Hid (((strOfNums (nth D k)).toList == (strOfNums (nth E k)).toList) = decide (nth D k = nth E k)) := strOfNums_beq hx hx1
        have HEQ : Hid (nth D k = nth E k ↔ decide (nth D k = nth E k) = true) := by show _ ↔ _; simp
        generalize decide (nth D k = nth E k) = q at *
        have HS : At (fun w' : World => w'.cell? ⟨b, off + k, none⟩ = some (.slice A' n' c') ∧ w'.cell? ⟨b1, off1 + k, none⟩ = some (.slice A1' n1' c1') ∧ (convert 77 9 (.slice A' n' c')).run Try.prog w' = .ok (.string (strOfNums (nth D k))) w' ∧ (convert 77 9 (.slice A1' n1' c1')).run Try.prog w' = .ok (.string (strOfNums (nth E k))) w') wr.drew :=
          ⟨hc, hc1, Rd.str (P := Try.prog) (rd_drewN 1 hr) hl Try.underlying77 Try.underlying5 Try.underlying9, Rd.str (P := Try.prog) (rd_drewN 1 hr1) hl1 Try.underlying77 Try.underlying5 Try.underlying9⟩
        have HBD : Hid (Below w.heap.size w wr.drew) := HB.out.drew
        have k1 : (0 : Int) ≤ (k : Int) := by omega
        have k2 : (k : Int) < (n : Int) := by omega
        clear hc hc1 hl hl1 hr hr1 hx hx1 hb hb1
        have HQ2 := HQ.out
        generalize strOfNums (nth D k) = sx at *
        generalize strOfNums (nth E k) = sy at *
        go_upto_region 6 with (fail)
        refine wp_region_lexD HS [0, 1, 2, 3, 4, 5, 6, 7, 8, 9, 10] (by kernel_rfl) (by kernel_rfl) (fun _ _ d _ _ h => by cases d <;> exact h) ?_
        repeat (refine lexD_take (by kernel_rfl) (by kernel_rfl) HS (fun w9 h9 => by obtain ⟨s0, s1, s2, s3⟩ := h9; go_simp; first | done | rfl) (fun K hK => ?_); go_simp; refine hK _ ?_; clear hK K)
        refine lexD_nil ?_
        cases q with
        | true =>
          go_wp2
          go_roundw
          case rel => exact ⟨k + 1, by omega, by go_num, fun j hj => by
            by_cases e : j = k
            · subst e; exact HEQ.out.2 rfl
            · exact HJ.out j (by omega), HBD⟩
          case measure => simp [intOf] <;> omega
        | false =>
          go_wp2
          go_ret
          have : ¬ D = E := fun e => by have := HEQ.out.1 (by rw [e]); cases this
          exact ⟨ret_bool (by simp [this]), HBD.out⟩
      · obtain rfl : k = n := by omega
        go_wp2
        go_ret
        have : D = E := (same_blocks HDN.out HEN.out).2 HJ.out
        exact ⟨ret_bool (by simp [this]), HB.out⟩
  · have q0 : ((n : Int) != (n1 : Int)) = true := by simp; omega
    have HNE : Hid (¬ D = E) := by show ¬ _; rintro rfl; exact hnn (HDN.out.symm.trans HEN.out)
    go_enter Try.func43, Try.ntmps43
    go_wp2
    go_ret
    exact ⟨ret_bool (by simp [HNE.out]), Below.refl _ _⟩
end Go.Proofs.Ytpicagcapgjiaaa
