/- Walks of the statements' helpers: a deed on the program's groups and the reference's. Written by gen_gr1.py. -/
import Derived.Test.YtbflmgpcjfoifaaGq13
import Derived.Test.YtbflmgpcjfoifaaGp7
import Derived.Test.YtbflmgpcjfoifaaGp8
import Derived.Test.YtbflmgpcjfoifaaGp9
import Derived.Test.YtbflmgpcjfoifaaGp11
import Derived.Test.YtbflmgpcjfoifaaGpP
set_option linter.unusedSimpArgs false
set_option linter.unusedVariables false
namespace Go.Proofs.Ytbflmgpcjfoifaa
open Go.RowKit Go.Sel Go.Sel.Gp

/-- The program's groups and the reference's, both as S says; F: their blocks. -/
def BT (F : Nat → Prop) (w : World) (gb rb : Nat) (S : List G) (next : Int) : Prop := ∃ Fg Fr, GP Fg w gb S next ∧ GR Fr w rb S next ∧ (∀ b, Fg b → ¬ Fr b) ∧ ∀ b, Fg b ∨ Fr b → F b
def BTn (F : Nat → Prop) (w w' : World) (gb rb : Nat) (S : List G) (next : Int) : Prop := ∃ F', BT F' w' gb rb S next ∧ Fr F w w' ∧ ∀ b, F' b → F b ∨ w.heap.size ≤ b
theorem BT.keep {F : Nat → Prop} {w w' : World} {gb rb : Nat} {S : List G} {next : Int} (h : BT F w gb rb S next) (hs : w.heap.size ≤ w'.heap.size) (hk : ∀ b, F b → w'.heap[b]? = w.heap[b]?) : BT F w' gb rb S next := by
  obtain ⟨Fg, Fr, h1, h2, h3, h4⟩ := h
  exact ⟨Fg, Fr, h1.keep hs (fun b hb => hk b (h4 b (.inl hb))), h2.keep hs (fun b hb => hk b (h4 b (.inr hb))), h3, h4⟩
/-- One behind the other, each on its own. -/
theorem BTn.two {F Fg Fr0 : Nat → Prop} {w w1 w2 : World} {gb rb : Nat} {S S' : List G} {next next' : Int} (hr : GR Fr0 w rb S next) (hg : GP Fg w gb S next) (hd : ∀ b, Fg b → ¬ Fr0 b) (hF : ∀ b, Fg b ∨ Fr0 b → F b)
    (h1 : GPn Fg w w1 gb S' next') (h2 : GRn Fr0 w1 w2 rb S' next') : BTn F w w2 gb rb S' next' := by
  obtain ⟨Fg', g1, g2, g3⟩ := h1
  obtain ⟨Fr', r1, r2, r3⟩ := h2
  have hlt : ∀ b, Fg b → b < w.heap.size := hg.flt
  have hlr : ∀ b, Fr0 b → b < w.heap.size := hr.flt
  have hl1 : ∀ b, Fg' b → b < w1.heap.size := g1.flt
  have hs1 := g2.size
  have hs2 := r2.size
  have hn : ∀ b, Fg' b → ¬ Fr0 b := fun b hb hr => by
    rcases g3 b hb with h | h
    · exact hd b h hr
    · have := hlr b hr; omega
  refine ⟨fun b => Fg' b ∨ Fr' b, ⟨Fg', Fr', g1.keep hs2 (fun b hb => r2.block b (hl1 b hb) (hn b hb)), r1, fun b hb hb' => ?_, fun b hb => hb⟩, ⟨r2.os.trans g2.os, r2.tape.trans g2.tape, r2.output.trans g2.output, Nat.le_trans hs1 hs2, fun k hk hn => ?_⟩, fun b hb => ?_⟩
  · rcases r3 b hb' with h | h
    · exact hn b hb h
    · have := hl1 b hb; omega
  · exact (r2.block k (by omega) (fun h => hn (hF k (.inr h)))).trans (g2.block k hk (fun h => hn (hF k (.inl h))))
  · rcases hb with hb | hb
    · exact (g3 b hb).imp (fun h => hF b (.inl h)) id
    · rcases r3 b hb with h | h
      · exact .inl (hF b (.inr h))
      · exact .inr (by omega)
theorem BTn.pre {F : Nat → Prop} {w0 w w' : World} {gb rb : Nat} {S : List G} {next : Int} (h : BTn F w w' gb rb S next) (hB : Below w0.heap.size w0 w) : BTn F w0 w' gb rb S next := by
  obtain ⟨F', h1, h2, h3⟩ := h
  have := hB.size
  exact ⟨F', h1, (fr_of_below hB F).trans h2, fun b hb => (h3 b hb).imp id (fun h => by omega)⟩
theorem BTn.trans {F : Nat → Prop} {w0 w w' : World} {gb rb : Nat} {S S' : List G} {next next' : Int} (h : BTn F w0 w gb rb S next) (k : ∀ F', BT F' w gb rb S next → BTn F' w w' gb rb S' next') : BTn F w0 w' gb rb S' next' := by
  obtain ⟨F', h1, h2, h3⟩ := h
  obtain ⟨F2, k1, k2, k3⟩ := k F' h1
  have := h2.size
  refine ⟨F2, k1, ⟨k2.os.trans h2.os, k2.tape.trans h2.tape, k2.output.trans h2.output, Nat.le_trans h2.size k2.size, fun b hb hn => ?_⟩, fun b hb => ?_⟩
  · refine (k2.block b (by omega) (fun h => ?_)).trans (h2.block b hb hn)
    rcases h3 b h with h | h
    · exact hn h
    · omega
  · rcases k3 b hb with h | h
    · exact h3 b h
    · exact .inr (by omega)
theorem gp_drew {F : Nat → Prop} {w : World} {gb : Nat} {S : List G} {next : Int} (h : GP F w gb S next) : GP F w.drew gb S next := h.keep (Nat.le_refl _) (fun _ _ => rfl)
theorem gr_drew {F : Nat → Prop} {w : World} {gb : Nat} {S : List G} {next : Int} (h : GR F w gb S next) : GR F w.drew gb S next := h.keep (Nat.le_refl _) (fun _ _ => rfl)
theorem nthG_ps {S : List G} {next : Int} {k : Nat} (h : Inv S next k) (hk : k ≤ 1000) (j : Nat) (hj : j < S.length) : (nthG S j).ps.length ≤ 1000000 := by
  have := (h.ps _ (mem_nthG hj)).2.2; omega
theorem nthG_ah {S : List G} {next : Int} {k : Nat} (h : Inv S next k) (hk : k ≤ 1000) (j : Nat) (hj : j < S.length) : (nthG S j).ah.length ≤ 1000000 := by
  have := h.ahl _ (mem_nthG hj); omega

set_option maxRecDepth 100000 in
set_option maxHeartbeats 8000000 in
theorem do_any (F : Nat → Prop) (w : World) (gb rb : Nat) (S : List G) (next : Int) (k : Nat) (h : BT F w gb rb S next) (hi : Inv S next k) (hk : k ≤ 1000) (kind n m : Int) :
    Calls Try.prog 17 #[.pointer (some ⟨gb, 0, none⟩), .pointer (some ⟨rb, 0, none⟩), .agg #[.int .i64 kind, .int .i64 n, .int .i64 m]] w fun e w' => e = .returned (.bool true) ∧ BTn F w w' gb rb (doS S next kind n m).1 (doS S next kind n m).2 := by
  obtain ⟨Fg, Fr0, hg, hr, hd, hF⟩ := h
  have HBA : Hid (Below w.heap.size w (w.alloc (.cells #[.int .i64 kind, .int .i64 n, .int .i64 m] 36))) := below_al _ _
  have HGA := Lib.hid (hg.below HBA.out)
  have HRA := Lib.hid (hr.below HBA.out)
  have HF := Lib.hid hF
  have HD := Lib.hid hd
  have HI := Lib.hid hi
  have hgl : ∀ b, Fg b → b < w.heap.size := hg.flt
  have hrl : ∀ b, Fr0 b → b < w.heap.size := hr.flt
  have HGL := Lib.hid hgl
  have HRL := Lib.hid hrl
  have HK := Lib.hid hk
  have hl := hi.len
  have a0 : (w.alloc (.cells #[.int .i64 kind, .int .i64 n, .int .i64 m] 36)).cell? ⟨w.heap.size, 0, none⟩ = some (.int .i64 kind) := new_cell w _ _ 0 _ rfl
  have a1 : (w.alloc (.cells #[.int .i64 kind, .int .i64 n, .int .i64 m] 36)).cell? ⟨w.heap.size, 1, none⟩ = some (.int .i64 n) := new_cell w _ _ 1 _ rfl
  have a2 : (w.alloc (.cells #[.int .i64 kind, .int .i64 n, .int .i64 m] 36)).cell? ⟨w.heap.size, 2, none⟩ = some (.int .i64 m) := new_cell w _ _ 2 _ rfl
  have hsz : (w.alloc (.cells #[.int .i64 kind, .int .i64 n, .int .i64 m] 36)).heap.size = w.heap.size + 1 := by simp
  clear hg hr hd hF hi hk hgl hrl
  by_cases k0 : kind = 0
  · have HE : Hid (doS S next kind n m = (makeS S next).2.2) := by subst k0; rfl
    subst k0
    have hnx := HI.out.nx
    have HC1 := Lib.hid (pMake_any Fg _ gb S next HGA.out hl (fun g hg e => by have := (HI.out.lo g hg).2; omega) (by omega) (by have := HK.out; omega))
    go_enter Try.func17, Try.ntmps17
    generalize hW1 : (w.alloc (.cells #[.int .i64 0, .int .i64 n, .int .i64 m] 36)) = w1 at *
    go_wp2_with (first
      | (go_at_call 21; (with_reducible refine HC1.out.mono ?_); rintro e w2 ⟨rfl, hn1⟩; have HN1 := Lib.hid hn1; have hfr := hn1.choose_spec.2.1; have HR2 : Hid (GR Fr0 w2 rb S next) := HRA.out.keep hfr.size (fun b hb => hfr.block b (by have := HRL.out b hb; omega) (fun h => HD.out b h hb)); clear hn1 hfr)
      | (go_at_call 37; (with_reducible refine (rMake_any Fr0 _ rb S next HR2.out hl (by omega) (by have := HK.out; omega)).mono ?_); rintro e w3 ⟨rfl, hn2⟩; have HN2 := Lib.hid (BTn.two HRA.out HGA.out HD.out HF.out HN1.out hn2); clear hn2))
    go_ret
    exact ⟨rfl, by rw [HE.out]; exact HN2.out.pre HBA.out⟩
  have q0 : (kind == 0) = false := by simpa using k0
  have Q0 := Lib.hid k0
  clear k0
  by_cases k1 : kind = 1
  · have HE : Hid ((doS S next kind n m).1 = (dependS S n m).2 ∧ (doS S next kind n m).2 = next) := by subst k1; exact ⟨rfl, rfl⟩
    subst k1
    go_enter Try.func17, Try.ntmps17
    go_upto_region 7 with (fail)
    have HB1 := HBA
    generalize hW1 : (w.alloc (.cells #[.int .i64 1, .int .i64 n, .int .i64 m] 36)) = w1 at *
    have HS0 : At (fun w' : World => w'.cell? ⟨w.heap.size, 1, none⟩ = some (.int .i64 n) ∧ w'.cell? ⟨w.heap.size, 2, none⟩ = some (.int .i64 m)) w1.drew := ⟨a1, a2⟩
    have HG1 := Lib.hid (gp_drew HGA.out)
    have HR1 := Lib.hid (gr_drew HRA.out)
    have HB2 : Hid (Below w.heap.size w w1.drew) := HB1.out.trans (Sel.below_drewN w1 1 |>.mono HB1.out.size)
    have hs0 : w1.drew.heap.size = w.heap.size + 1 := hsz
    clear HGA HRA HB1 a0 a1 a2 HBA
    refine any_start HS0 [0, 1, 2, 3, 4, 6, 7, 8, 9, 10] (by kernel_rfl) ?_
    change wpAnyD _ _ _ _ _ _ 14 (Array.replicate 14 false) _ w1.drew
    generalize w1.drew = w0 at *
    refine any_take 0 rfl (by kernel_rfl) (fun _ _ d _ _ h => by cases d <;> exact h) (by kernel_rfl) HS0 (fun w9 h9 => by obtain ⟨s0, s1⟩ := h9; go_simp; first | done | rfl) (fun K hK => ?_); go_simp; refine hK _ ?_; clear hK K
    refine any_take 1 rfl (by kernel_rfl) (fun _ _ d _ _ h => by cases d <;> exact h) (by kernel_rfl) HS0 (fun w9 h9 => by obtain ⟨s0, s1⟩ := h9; go_simp; first | done | rfl) (fun K hK => ?_); go_simp; refine hK _ ?_; clear hK K
    refine any_take 2 rfl (by kernel_rfl) (fun _ _ d _ _ h => by cases d <;> exact h) (by kernel_rfl) HS0 (fun w9 h9 => by obtain ⟨s0, s1⟩ := h9; go_simp; first | done | rfl) (fun K hK => ?_); go_simp; refine hK _ ?_; clear hK K
    refine any_take 3 rfl (by kernel_rfl) (fun _ _ d _ _ h => by cases d <;> exact h) (by kernel_rfl) HS0 (fun w9 h9 => by obtain ⟨s0, s1⟩ := h9; go_simp; first | done | rfl) (fun K hK => ?_); go_simp; refine hK _ ?_; clear hK K
    refine any_take 4 rfl (by kernel_rfl) (fun _ _ d _ _ h => by cases d <;> exact h) (by kernel_rfl) HS0 (fun w9 h9 => by obtain ⟨s0, s1⟩ := h9; go_simp; first | done | rfl) (fun K hK => ?_); go_simp; refine hK _ ?_; clear hK K
    refine any_take 6 rfl (by kernel_rfl) (fun _ _ d _ _ h => by cases d <;> exact h) (by kernel_rfl) HS0 (fun w9 h9 => by obtain ⟨s0, s1⟩ := h9; go_simp; first | done | rfl) (fun K hK => ?_); go_simp; refine hK _ ?_; clear hK K
    refine any_take 7 rfl (by kernel_rfl) (fun _ _ d _ _ h => by cases d <;> exact h) (by kernel_rfl) HS0 (fun w9 h9 => by obtain ⟨s0, s1⟩ := h9; go_simp; first | done | rfl) (fun K hK => ?_); go_simp; refine hK _ ?_; clear hK K
    refine any_take 8 rfl (by kernel_rfl) (fun _ _ d _ _ h => by cases d <;> exact h) (by kernel_rfl) HS0 (fun w9 h9 => by obtain ⟨s0, s1⟩ := h9; go_simp; first | done | rfl) (fun K hK => ?_); go_simp; refine hK _ ?_; clear hK K
    refine any_take 9 rfl (by kernel_rfl) (fun _ _ d _ _ h => by cases d <;> exact h) (by kernel_rfl) HS0 (fun w9 h9 => by obtain ⟨s0, s1⟩ := h9; go_simp; first | done | rfl) (fun K hK => ?_); go_simp; refine hK _ ?_; clear hK K
    refine any_take 10 rfl (by kernel_rfl) (fun _ _ d _ _ h => by cases d <;> exact h) (by kernel_rfl) HS0 (fun w9 h9 => by obtain ⟨s0, s1⟩ := h9; go_simp; first | done | rfl) (fun K hK => ?_); go_simp; refine hK _ ?_; clear hK K
    have HC1 := Lib.hid (pDepend_any Fg w0 gb S next HG1.out n m)
    refine any_one 5 rfl (by kernel_rfl) (by kernel_rfl) (fun K hK => ?_); go_simp
    refine HC1.out.mono ?_
    rintro e w2 ⟨rfl, hn1⟩
    have hfr := hn1.choose_spec.2.1
    have HN1 := Lib.hid hn1
    have hnb : ¬ Fg w.heap.size := fun h => by have := HGL.out _ h; omega
    have HS2 : At (fun w' : World => w'.cell? ⟨w.heap.size, 1, none⟩ = some (.int .i64 n) ∧ w'.cell? ⟨w.heap.size, 2, none⟩ = some (.int .i64 m)) w2 := ⟨(hfr.cell hnb HS0.1).trans HS0.1, (hfr.cell hnb HS0.2).trans HS0.2⟩
    have HR2 : Hid (GR Fr0 w2 rb S next) := HR1.out.keep hfr.size (fun b hb => hfr.block b (by have := HRL.out b hb; omega) (fun h => HD.out b h hb))
    refine hK _ _ (fun _ => HS2) ?_
    clear hK K hn1 hfr HC1
    have HC2 := Lib.hid (rDepend_any Fr0 w2 rb S next HR2.out n m (nthG_ah HI.out HK.out))
    refine any_one 11 rfl (by kernel_rfl) (by kernel_rfl) (fun K hK => ?_); go_simp
    refine HC2.out.mono ?_
    rintro e w3 ⟨rfl, hn2⟩
    have HN2 := Lib.hid (BTn.two HR1.out HG1.out HD.out HF.out HN1.out hn2)
    have hfr := hn2.choose_spec.2.1
    have hnb2 : ¬ Fr0 w.heap.size := fun h => by have := HRL.out _ h; omega
    have HS3 : At (fun w' : World => w'.cell? ⟨w.heap.size, 1, none⟩ = some (.int .i64 n) ∧ w'.cell? ⟨w.heap.size, 2, none⟩ = some (.int .i64 m)) w3 := ⟨(hfr.cell hnb2 HS2.1).trans HS2.1, (hfr.cell hnb2 HS2.2).trans HS2.2⟩
    refine hK _ _ (fun _ => HS3) ?_
    clear hK K hn2 hfr HC2 HN1 HR2 HS2
    rw [← HE.out.1] at HN2
    generalize (dependS S n m).1 = r1 at *
    refine any_one 12 rfl (by kernel_rfl) (by kernel_rfl) (fun K hK => ?_); go_simp; refine hK _ _ (fun _ => HS3) ?_; clear hK K
    refine any_one 13 rfl (by kernel_rfl) (by kernel_rfl) (fun K hK => ?_); go_simp; refine hK _ _ (fun _ => HS3) ?_; clear hK K
    refine any_end (by kernel_rfl) ?_
    go_wp2
    go_ret
    exact ⟨rfl, by rw [HE.out.2]; exact HN2.out.pre HB2.out⟩
  have q1 : (kind == 1) = false := by simpa using k1
  have Q1 := Lib.hid k1
  clear k1
  by_cases k2 : kind = 2
  · have HE : Hid ((doS S next kind n m).1 = (turnS S n 1 3 2).2 ∧ (doS S next kind n m).2 = next) := by subst k2; exact ⟨rfl, rfl⟩
    subst k2
    go_enter Try.func17, Try.ntmps17
    go_upto_region 9 with (fail)
    have HB1 := HBA
    generalize hW1 : (w.alloc (.cells #[.int .i64 2, .int .i64 n, .int .i64 m] 36)) = w1 at *
    have HS0 : At (fun w' : World => w'.cell? ⟨w.heap.size, 1, none⟩ = some (.int .i64 n) ∧ w'.cell? ⟨w.heap.size, 2, none⟩ = some (.int .i64 m)) w1.drew := ⟨a1, a2⟩
    have HG1 := Lib.hid (gp_drew HGA.out)
    have HR1 := Lib.hid (gr_drew HRA.out)
    have HB2 : Hid (Below w.heap.size w w1.drew) := HB1.out.trans (Sel.below_drewN w1 1 |>.mono HB1.out.size)
    have hs0 : w1.drew.heap.size = w.heap.size + 1 := hsz
    clear HGA HRA HB1 a0 a1 a2 HBA
    refine any_start HS0 [0, 1, 2, 4, 5, 6] (by kernel_rfl) ?_
    change wpAnyD _ _ _ _ _ _ 10 (Array.replicate 10 false) _ w1.drew
    generalize w1.drew = w0 at *
    refine any_take 0 rfl (by kernel_rfl) (fun _ _ d _ _ h => by cases d <;> exact h) (by kernel_rfl) HS0 (fun w9 h9 => by obtain ⟨s0, s1⟩ := h9; go_simp; first | done | rfl) (fun K hK => ?_); go_simp; refine hK _ ?_; clear hK K
    refine any_take 1 rfl (by kernel_rfl) (fun _ _ d _ _ h => by cases d <;> exact h) (by kernel_rfl) HS0 (fun w9 h9 => by obtain ⟨s0, s1⟩ := h9; go_simp; first | done | rfl) (fun K hK => ?_); go_simp; refine hK _ ?_; clear hK K
    refine any_take 2 rfl (by kernel_rfl) (fun _ _ d _ _ h => by cases d <;> exact h) (by kernel_rfl) HS0 (fun w9 h9 => by obtain ⟨s0, s1⟩ := h9; go_simp; first | done | rfl) (fun K hK => ?_); go_simp; refine hK _ ?_; clear hK K
    refine any_take 4 rfl (by kernel_rfl) (fun _ _ d _ _ h => by cases d <;> exact h) (by kernel_rfl) HS0 (fun w9 h9 => by obtain ⟨s0, s1⟩ := h9; go_simp; first | done | rfl) (fun K hK => ?_); go_simp; refine hK _ ?_; clear hK K
    refine any_take 5 rfl (by kernel_rfl) (fun _ _ d _ _ h => by cases d <;> exact h) (by kernel_rfl) HS0 (fun w9 h9 => by obtain ⟨s0, s1⟩ := h9; go_simp; first | done | rfl) (fun K hK => ?_); go_simp; refine hK _ ?_; clear hK K
    refine any_take 6 rfl (by kernel_rfl) (fun _ _ d _ _ h => by cases d <;> exact h) (by kernel_rfl) HS0 (fun w9 h9 => by obtain ⟨s0, s1⟩ := h9; go_simp; first | done | rfl) (fun K hK => ?_); go_simp; refine hK _ ?_; clear hK K
    have HC1 := Lib.hid (pEngage_any Fg w0 gb S next HG1.out n)
    refine any_one 3 rfl (by kernel_rfl) (by kernel_rfl) (fun K hK => ?_); go_simp
    refine HC1.out.mono ?_
    rintro e w2 ⟨rfl, hn1⟩
    have hfr := hn1.choose_spec.2.1
    have HN1 := Lib.hid hn1
    have hnb : ¬ Fg w.heap.size := fun h => by have := HGL.out _ h; omega
    have HS2 : At (fun w' : World => w'.cell? ⟨w.heap.size, 1, none⟩ = some (.int .i64 n) ∧ w'.cell? ⟨w.heap.size, 2, none⟩ = some (.int .i64 m)) w2 := ⟨(hfr.cell hnb HS0.1).trans HS0.1, (hfr.cell hnb HS0.2).trans HS0.2⟩
    have HR2 : Hid (GR Fr0 w2 rb S next) := HR1.out.keep hfr.size (fun b hb => hfr.block b (by have := HRL.out b hb; omega) (fun h => HD.out b h hb))
    refine hK _ _ (fun _ => HS2) ?_
    clear hK K hn1 hfr HC1
    have HC2 := Lib.hid (rEngage_any Fr0 w2 rb S next HR2.out n)
    refine any_one 7 rfl (by kernel_rfl) (by kernel_rfl) (fun K hK => ?_); go_simp
    refine HC2.out.mono ?_
    rintro e w3 ⟨rfl, hn2⟩
    have HN2 := Lib.hid (BTn.two HR1.out HG1.out HD.out HF.out HN1.out hn2)
    have hfr := hn2.choose_spec.2.1
    have hnb2 : ¬ Fr0 w.heap.size := fun h => by have := HRL.out _ h; omega
    have HS3 : At (fun w' : World => w'.cell? ⟨w.heap.size, 1, none⟩ = some (.int .i64 n) ∧ w'.cell? ⟨w.heap.size, 2, none⟩ = some (.int .i64 m)) w3 := ⟨(hfr.cell hnb2 HS2.1).trans HS2.1, (hfr.cell hnb2 HS2.2).trans HS2.2⟩
    refine hK _ _ (fun _ => HS3) ?_
    clear hK K hn2 hfr HC2 HN1 HR2 HS2
    rw [← HE.out.1] at HN2
    generalize (turnS S n 1 3 2).1 = r1 at *
    refine any_one 8 rfl (by kernel_rfl) (by kernel_rfl) (fun K hK => ?_); go_simp; refine hK _ _ (fun _ => HS3) ?_; clear hK K
    refine any_one 9 rfl (by kernel_rfl) (by kernel_rfl) (fun K hK => ?_); go_simp; refine hK _ _ (fun _ => HS3) ?_; clear hK K
    refine any_end (by kernel_rfl) ?_
    go_wp2
    go_ret
    exact ⟨rfl, by rw [HE.out.2]; exact HN2.out.pre HB2.out⟩
  have q2 : (kind == 2) = false := by simpa using k2
  have Q2 := Lib.hid k2
  clear k2
  by_cases k3 : kind = 3
  · have HE : Hid ((doS S next kind n m).1 = (turnS S n 2 2 3).2 ∧ (doS S next kind n m).2 = next) := by subst k3; exact ⟨rfl, rfl⟩
    subst k3
    go_enter Try.func17, Try.ntmps17
    go_upto_region 11 with (fail)
    have HB1 := HBA
    generalize hW1 : (w.alloc (.cells #[.int .i64 3, .int .i64 n, .int .i64 m] 36)) = w1 at *
    have HS0 : At (fun w' : World => w'.cell? ⟨w.heap.size, 1, none⟩ = some (.int .i64 n) ∧ w'.cell? ⟨w.heap.size, 2, none⟩ = some (.int .i64 m)) w1.drew := ⟨a1, a2⟩
    have HG1 := Lib.hid (gp_drew HGA.out)
    have HR1 := Lib.hid (gr_drew HRA.out)
    have HB2 : Hid (Below w.heap.size w w1.drew) := HB1.out.trans (Sel.below_drewN w1 1 |>.mono HB1.out.size)
    have hs0 : w1.drew.heap.size = w.heap.size + 1 := hsz
    clear HGA HRA HB1 a0 a1 a2 HBA
    refine any_start HS0 [0, 1, 2, 4, 5, 6] (by kernel_rfl) ?_
    change wpAnyD _ _ _ _ _ _ 10 (Array.replicate 10 false) _ w1.drew
    generalize w1.drew = w0 at *
    refine any_take 0 rfl (by kernel_rfl) (fun _ _ d _ _ h => by cases d <;> exact h) (by kernel_rfl) HS0 (fun w9 h9 => by obtain ⟨s0, s1⟩ := h9; go_simp; first | done | rfl) (fun K hK => ?_); go_simp; refine hK _ ?_; clear hK K
    refine any_take 1 rfl (by kernel_rfl) (fun _ _ d _ _ h => by cases d <;> exact h) (by kernel_rfl) HS0 (fun w9 h9 => by obtain ⟨s0, s1⟩ := h9; go_simp; first | done | rfl) (fun K hK => ?_); go_simp; refine hK _ ?_; clear hK K
    refine any_take 2 rfl (by kernel_rfl) (fun _ _ d _ _ h => by cases d <;> exact h) (by kernel_rfl) HS0 (fun w9 h9 => by obtain ⟨s0, s1⟩ := h9; go_simp; first | done | rfl) (fun K hK => ?_); go_simp; refine hK _ ?_; clear hK K
    refine any_take 4 rfl (by kernel_rfl) (fun _ _ d _ _ h => by cases d <;> exact h) (by kernel_rfl) HS0 (fun w9 h9 => by obtain ⟨s0, s1⟩ := h9; go_simp; first | done | rfl) (fun K hK => ?_); go_simp; refine hK _ ?_; clear hK K
    refine any_take 5 rfl (by kernel_rfl) (fun _ _ d _ _ h => by cases d <;> exact h) (by kernel_rfl) HS0 (fun w9 h9 => by obtain ⟨s0, s1⟩ := h9; go_simp; first | done | rfl) (fun K hK => ?_); go_simp; refine hK _ ?_; clear hK K
    refine any_take 6 rfl (by kernel_rfl) (fun _ _ d _ _ h => by cases d <;> exact h) (by kernel_rfl) HS0 (fun w9 h9 => by obtain ⟨s0, s1⟩ := h9; go_simp; first | done | rfl) (fun K hK => ?_); go_simp; refine hK _ ?_; clear hK K
    have HC1 := Lib.hid (pDisengage_any Fg w0 gb S next HG1.out n)
    refine any_one 3 rfl (by kernel_rfl) (by kernel_rfl) (fun K hK => ?_); go_simp
    refine HC1.out.mono ?_
    rintro e w2 ⟨rfl, hn1⟩
    have hfr := hn1.choose_spec.2.1
    have HN1 := Lib.hid hn1
    have hnb : ¬ Fg w.heap.size := fun h => by have := HGL.out _ h; omega
    have HS2 : At (fun w' : World => w'.cell? ⟨w.heap.size, 1, none⟩ = some (.int .i64 n) ∧ w'.cell? ⟨w.heap.size, 2, none⟩ = some (.int .i64 m)) w2 := ⟨(hfr.cell hnb HS0.1).trans HS0.1, (hfr.cell hnb HS0.2).trans HS0.2⟩
    have HR2 : Hid (GR Fr0 w2 rb S next) := HR1.out.keep hfr.size (fun b hb => hfr.block b (by have := HRL.out b hb; omega) (fun h => HD.out b h hb))
    refine hK _ _ (fun _ => HS2) ?_
    clear hK K hn1 hfr HC1
    have HC2 := Lib.hid (rDisengage_any Fr0 w2 rb S next HR2.out n)
    refine any_one 7 rfl (by kernel_rfl) (by kernel_rfl) (fun K hK => ?_); go_simp
    refine HC2.out.mono ?_
    rintro e w3 ⟨rfl, hn2⟩
    have HN2 := Lib.hid (BTn.two HR1.out HG1.out HD.out HF.out HN1.out hn2)
    have hfr := hn2.choose_spec.2.1
    have hnb2 : ¬ Fr0 w.heap.size := fun h => by have := HRL.out _ h; omega
    have HS3 : At (fun w' : World => w'.cell? ⟨w.heap.size, 1, none⟩ = some (.int .i64 n) ∧ w'.cell? ⟨w.heap.size, 2, none⟩ = some (.int .i64 m)) w3 := ⟨(hfr.cell hnb2 HS2.1).trans HS2.1, (hfr.cell hnb2 HS2.2).trans HS2.2⟩
    refine hK _ _ (fun _ => HS3) ?_
    clear hK K hn2 hfr HC2 HN1 HR2 HS2
    rw [← HE.out.1] at HN2
    generalize (turnS S n 2 2 3).1 = r1 at *
    refine any_one 8 rfl (by kernel_rfl) (by kernel_rfl) (fun K hK => ?_); go_simp; refine hK _ _ (fun _ => HS3) ?_; clear hK K
    refine any_one 9 rfl (by kernel_rfl) (by kernel_rfl) (fun K hK => ?_); go_simp; refine hK _ _ (fun _ => HS3) ?_; clear hK K
    refine any_end (by kernel_rfl) ?_
    go_wp2
    go_ret
    exact ⟨rfl, by rw [HE.out.2]; exact HN2.out.pre HB2.out⟩
  have q3 : (kind == 3) = false := by simpa using k3
  have Q3 := Lib.hid k3
  clear k3
  by_cases k4 : kind = 4
  · have HE : Hid ((doS S next kind n m).1 = (turnS S n 1 3 4).2 ∧ (doS S next kind n m).2 = next) := by subst k4; exact ⟨rfl, rfl⟩
    subst k4
    go_enter Try.func17, Try.ntmps17
    go_upto_region 13 with (fail)
    have HB1 := HBA
    generalize hW1 : (w.alloc (.cells #[.int .i64 4, .int .i64 n, .int .i64 m] 36)) = w1 at *
    have HS0 : At (fun w' : World => w'.cell? ⟨w.heap.size, 1, none⟩ = some (.int .i64 n) ∧ w'.cell? ⟨w.heap.size, 2, none⟩ = some (.int .i64 m)) w1.drew := ⟨a1, a2⟩
    have HG1 := Lib.hid (gp_drew HGA.out)
    have HR1 := Lib.hid (gr_drew HRA.out)
    have HB2 : Hid (Below w.heap.size w w1.drew) := HB1.out.trans (Sel.below_drewN w1 1 |>.mono HB1.out.size)
    have hs0 : w1.drew.heap.size = w.heap.size + 1 := hsz
    clear HGA HRA HB1 a0 a1 a2 HBA
    refine any_start HS0 [0, 1, 2, 4, 5, 6] (by kernel_rfl) ?_
    change wpAnyD _ _ _ _ _ _ 10 (Array.replicate 10 false) _ w1.drew
    generalize w1.drew = w0 at *
    refine any_take 0 rfl (by kernel_rfl) (fun _ _ d _ _ h => by cases d <;> exact h) (by kernel_rfl) HS0 (fun w9 h9 => by obtain ⟨s0, s1⟩ := h9; go_simp; first | done | rfl) (fun K hK => ?_); go_simp; refine hK _ ?_; clear hK K
    refine any_take 1 rfl (by kernel_rfl) (fun _ _ d _ _ h => by cases d <;> exact h) (by kernel_rfl) HS0 (fun w9 h9 => by obtain ⟨s0, s1⟩ := h9; go_simp; first | done | rfl) (fun K hK => ?_); go_simp; refine hK _ ?_; clear hK K
    refine any_take 2 rfl (by kernel_rfl) (fun _ _ d _ _ h => by cases d <;> exact h) (by kernel_rfl) HS0 (fun w9 h9 => by obtain ⟨s0, s1⟩ := h9; go_simp; first | done | rfl) (fun K hK => ?_); go_simp; refine hK _ ?_; clear hK K
    refine any_take 4 rfl (by kernel_rfl) (fun _ _ d _ _ h => by cases d <;> exact h) (by kernel_rfl) HS0 (fun w9 h9 => by obtain ⟨s0, s1⟩ := h9; go_simp; first | done | rfl) (fun K hK => ?_); go_simp; refine hK _ ?_; clear hK K
    refine any_take 5 rfl (by kernel_rfl) (fun _ _ d _ _ h => by cases d <;> exact h) (by kernel_rfl) HS0 (fun w9 h9 => by obtain ⟨s0, s1⟩ := h9; go_simp; first | done | rfl) (fun K hK => ?_); go_simp; refine hK _ ?_; clear hK K
    refine any_take 6 rfl (by kernel_rfl) (fun _ _ d _ _ h => by cases d <;> exact h) (by kernel_rfl) HS0 (fun w9 h9 => by obtain ⟨s0, s1⟩ := h9; go_simp; first | done | rfl) (fun K hK => ?_); go_simp; refine hK _ ?_; clear hK K
    have HC1 := Lib.hid (pRelease_any Fg w0 gb S next HG1.out n)
    refine any_one 3 rfl (by kernel_rfl) (by kernel_rfl) (fun K hK => ?_); go_simp
    refine HC1.out.mono ?_
    rintro e w2 ⟨rfl, hn1⟩
    have hfr := hn1.choose_spec.2.1
    have HN1 := Lib.hid hn1
    have hnb : ¬ Fg w.heap.size := fun h => by have := HGL.out _ h; omega
    have HS2 : At (fun w' : World => w'.cell? ⟨w.heap.size, 1, none⟩ = some (.int .i64 n) ∧ w'.cell? ⟨w.heap.size, 2, none⟩ = some (.int .i64 m)) w2 := ⟨(hfr.cell hnb HS0.1).trans HS0.1, (hfr.cell hnb HS0.2).trans HS0.2⟩
    have HR2 : Hid (GR Fr0 w2 rb S next) := HR1.out.keep hfr.size (fun b hb => hfr.block b (by have := HRL.out b hb; omega) (fun h => HD.out b h hb))
    refine hK _ _ (fun _ => HS2) ?_
    clear hK K hn1 hfr HC1
    have HC2 := Lib.hid (rRelease_any Fr0 w2 rb S next HR2.out n)
    refine any_one 7 rfl (by kernel_rfl) (by kernel_rfl) (fun K hK => ?_); go_simp
    refine HC2.out.mono ?_
    rintro e w3 ⟨rfl, hn2⟩
    have HN2 := Lib.hid (BTn.two HR1.out HG1.out HD.out HF.out HN1.out hn2)
    have hfr := hn2.choose_spec.2.1
    have hnb2 : ¬ Fr0 w.heap.size := fun h => by have := HRL.out _ h; omega
    have HS3 : At (fun w' : World => w'.cell? ⟨w.heap.size, 1, none⟩ = some (.int .i64 n) ∧ w'.cell? ⟨w.heap.size, 2, none⟩ = some (.int .i64 m)) w3 := ⟨(hfr.cell hnb2 HS2.1).trans HS2.1, (hfr.cell hnb2 HS2.2).trans HS2.2⟩
    refine hK _ _ (fun _ => HS3) ?_
    clear hK K hn2 hfr HC2 HN1 HR2 HS2
    rw [← HE.out.1] at HN2
    generalize (turnS S n 1 3 4).1 = r1 at *
    refine any_one 8 rfl (by kernel_rfl) (by kernel_rfl) (fun K hK => ?_); go_simp; refine hK _ _ (fun _ => HS3) ?_; clear hK K
    refine any_one 9 rfl (by kernel_rfl) (by kernel_rfl) (fun K hK => ?_); go_simp; refine hK _ _ (fun _ => HS3) ?_; clear hK K
    refine any_end (by kernel_rfl) ?_
    go_wp2
    go_ret
    exact ⟨rfl, by rw [HE.out.2]; exact HN2.out.pre HB2.out⟩
  have q4 : (kind == 4) = false := by simpa using k4
  have Q4 := Lib.hid k4
  clear k4
  by_cases k5 : kind = 5
  · have HE : Hid ((doS S next kind n m).1 = (abandonS S n).2 ∧ (doS S next kind n m).2 = next) := by subst k5; exact ⟨rfl, rfl⟩
    subst k5
    go_enter Try.func17, Try.ntmps17
    go_upto_region 15 with (fail)
    have HB1 := HBA
    generalize hW1 : (w.alloc (.cells #[.int .i64 5, .int .i64 n, .int .i64 m] 36)) = w1 at *
    have HS0 : At (fun w' : World => w'.cell? ⟨w.heap.size, 1, none⟩ = some (.int .i64 n) ∧ w'.cell? ⟨w.heap.size, 2, none⟩ = some (.int .i64 m)) w1.drew := ⟨a1, a2⟩
    have HG1 := Lib.hid (gp_drew HGA.out)
    have HR1 := Lib.hid (gr_drew HRA.out)
    have HB2 : Hid (Below w.heap.size w w1.drew) := HB1.out.trans (Sel.below_drewN w1 1 |>.mono HB1.out.size)
    have hs0 : w1.drew.heap.size = w.heap.size + 1 := hsz
    clear HGA HRA HB1 a0 a1 a2 HBA
    refine any_start HS0 [0, 1, 2, 4, 5, 6] (by kernel_rfl) ?_
    change wpAnyD _ _ _ _ _ _ 10 (Array.replicate 10 false) _ w1.drew
    generalize w1.drew = w0 at *
    refine any_take 0 rfl (by kernel_rfl) (fun _ _ d _ _ h => by cases d <;> exact h) (by kernel_rfl) HS0 (fun w9 h9 => by obtain ⟨s0, s1⟩ := h9; go_simp; first | done | rfl) (fun K hK => ?_); go_simp; refine hK _ ?_; clear hK K
    refine any_take 1 rfl (by kernel_rfl) (fun _ _ d _ _ h => by cases d <;> exact h) (by kernel_rfl) HS0 (fun w9 h9 => by obtain ⟨s0, s1⟩ := h9; go_simp; first | done | rfl) (fun K hK => ?_); go_simp; refine hK _ ?_; clear hK K
    refine any_take 2 rfl (by kernel_rfl) (fun _ _ d _ _ h => by cases d <;> exact h) (by kernel_rfl) HS0 (fun w9 h9 => by obtain ⟨s0, s1⟩ := h9; go_simp; first | done | rfl) (fun K hK => ?_); go_simp; refine hK _ ?_; clear hK K
    refine any_take 4 rfl (by kernel_rfl) (fun _ _ d _ _ h => by cases d <;> exact h) (by kernel_rfl) HS0 (fun w9 h9 => by obtain ⟨s0, s1⟩ := h9; go_simp; first | done | rfl) (fun K hK => ?_); go_simp; refine hK _ ?_; clear hK K
    refine any_take 5 rfl (by kernel_rfl) (fun _ _ d _ _ h => by cases d <;> exact h) (by kernel_rfl) HS0 (fun w9 h9 => by obtain ⟨s0, s1⟩ := h9; go_simp; first | done | rfl) (fun K hK => ?_); go_simp; refine hK _ ?_; clear hK K
    refine any_take 6 rfl (by kernel_rfl) (fun _ _ d _ _ h => by cases d <;> exact h) (by kernel_rfl) HS0 (fun w9 h9 => by obtain ⟨s0, s1⟩ := h9; go_simp; first | done | rfl) (fun K hK => ?_); go_simp; refine hK _ ?_; clear hK K
    have HC1 := Lib.hid (pAbandon_any Fg w0 gb S next HG1.out n)
    refine any_one 3 rfl (by kernel_rfl) (by kernel_rfl) (fun K hK => ?_); go_simp
    refine HC1.out.mono ?_
    rintro e w2 ⟨rfl, hn1⟩
    have hfr := hn1.choose_spec.2.1
    have HN1 := Lib.hid hn1
    have hnb : ¬ Fg w.heap.size := fun h => by have := HGL.out _ h; omega
    have HS2 : At (fun w' : World => w'.cell? ⟨w.heap.size, 1, none⟩ = some (.int .i64 n) ∧ w'.cell? ⟨w.heap.size, 2, none⟩ = some (.int .i64 m)) w2 := ⟨(hfr.cell hnb HS0.1).trans HS0.1, (hfr.cell hnb HS0.2).trans HS0.2⟩
    have HR2 : Hid (GR Fr0 w2 rb S next) := HR1.out.keep hfr.size (fun b hb => hfr.block b (by have := HRL.out b hb; omega) (fun h => HD.out b h hb))
    refine hK _ _ (fun _ => HS2) ?_
    clear hK K hn1 hfr HC1
    have HC2 := Lib.hid (rAbandon_any Fr0 w2 rb S next HR2.out n (by omega))
    refine any_one 7 rfl (by kernel_rfl) (by kernel_rfl) (fun K hK => ?_); go_simp
    refine HC2.out.mono ?_
    rintro e w3 ⟨rfl, hn2⟩
    have HN2 := Lib.hid (BTn.two HR1.out HG1.out HD.out HF.out HN1.out hn2)
    have hfr := hn2.choose_spec.2.1
    have hnb2 : ¬ Fr0 w.heap.size := fun h => by have := HRL.out _ h; omega
    have HS3 : At (fun w' : World => w'.cell? ⟨w.heap.size, 1, none⟩ = some (.int .i64 n) ∧ w'.cell? ⟨w.heap.size, 2, none⟩ = some (.int .i64 m)) w3 := ⟨(hfr.cell hnb2 HS2.1).trans HS2.1, (hfr.cell hnb2 HS2.2).trans HS2.2⟩
    refine hK _ _ (fun _ => HS3) ?_
    clear hK K hn2 hfr HC2 HN1 HR2 HS2
    rw [← HE.out.1] at HN2
    generalize (abandonS S n).1 = r1 at *
    refine any_one 8 rfl (by kernel_rfl) (by kernel_rfl) (fun K hK => ?_); go_simp; refine hK _ _ (fun _ => HS3) ?_; clear hK K
    refine any_one 9 rfl (by kernel_rfl) (by kernel_rfl) (fun K hK => ?_); go_simp; refine hK _ _ (fun _ => HS3) ?_; clear hK K
    refine any_end (by kernel_rfl) ?_
    go_wp2
    go_ret
    exact ⟨rfl, by rw [HE.out.2]; exact HN2.out.pre HB2.out⟩
  have q5 : (kind == 5) = false := by simpa using k5
  have Q5 := Lib.hid k5
  clear k5
  by_cases k6 : kind = 6
  · have HE : Hid ((doS S next kind n m).1 = (tookS S m).2 ∧ (doS S next kind n m).2 = next) := by subst k6; exact ⟨rfl, rfl⟩
    subst k6
    go_enter Try.func17, Try.ntmps17
    go_upto_region 17 with (fail)
    have HB1 := HBA
    generalize hW1 : (w.alloc (.cells #[.int .i64 6, .int .i64 n, .int .i64 m] 36)) = w1 at *
    have HS0 : At (fun w' : World => w'.cell? ⟨w.heap.size, 1, none⟩ = some (.int .i64 n) ∧ w'.cell? ⟨w.heap.size, 2, none⟩ = some (.int .i64 m)) w1.drew := ⟨a1, a2⟩
    have HG1 := Lib.hid (gp_drew HGA.out)
    have HR1 := Lib.hid (gr_drew HRA.out)
    have HB2 : Hid (Below w.heap.size w w1.drew) := HB1.out.trans (Sel.below_drewN w1 1 |>.mono HB1.out.size)
    have hs0 : w1.drew.heap.size = w.heap.size + 1 := hsz
    clear HGA HRA HB1 a0 a1 a2 HBA
    refine any_start HS0 [0, 1, 2, 4, 5, 6] (by kernel_rfl) ?_
    change wpAnyD _ _ _ _ _ _ 10 (Array.replicate 10 false) _ w1.drew
    generalize w1.drew = w0 at *
    refine any_take 0 rfl (by kernel_rfl) (fun _ _ d _ _ h => by cases d <;> exact h) (by kernel_rfl) HS0 (fun w9 h9 => by obtain ⟨s0, s1⟩ := h9; go_simp; first | done | rfl) (fun K hK => ?_); go_simp; refine hK _ ?_; clear hK K
    refine any_take 1 rfl (by kernel_rfl) (fun _ _ d _ _ h => by cases d <;> exact h) (by kernel_rfl) HS0 (fun w9 h9 => by obtain ⟨s0, s1⟩ := h9; go_simp; first | done | rfl) (fun K hK => ?_); go_simp; refine hK _ ?_; clear hK K
    refine any_take 2 rfl (by kernel_rfl) (fun _ _ d _ _ h => by cases d <;> exact h) (by kernel_rfl) HS0 (fun w9 h9 => by obtain ⟨s0, s1⟩ := h9; go_simp; first | done | rfl) (fun K hK => ?_); go_simp; refine hK _ ?_; clear hK K
    refine any_take 4 rfl (by kernel_rfl) (fun _ _ d _ _ h => by cases d <;> exact h) (by kernel_rfl) HS0 (fun w9 h9 => by obtain ⟨s0, s1⟩ := h9; go_simp; first | done | rfl) (fun K hK => ?_); go_simp; refine hK _ ?_; clear hK K
    refine any_take 5 rfl (by kernel_rfl) (fun _ _ d _ _ h => by cases d <;> exact h) (by kernel_rfl) HS0 (fun w9 h9 => by obtain ⟨s0, s1⟩ := h9; go_simp; first | done | rfl) (fun K hK => ?_); go_simp; refine hK _ ?_; clear hK K
    refine any_take 6 rfl (by kernel_rfl) (fun _ _ d _ _ h => by cases d <;> exact h) (by kernel_rfl) HS0 (fun w9 h9 => by obtain ⟨s0, s1⟩ := h9; go_simp; first | done | rfl) (fun K hK => ?_); go_simp; refine hK _ ?_; clear hK K
    have HC1 := Lib.hid (pTook_any Fg w0 gb S next HG1.out m (by omega) HI.out.rise (HI.out.wf (by have := HK.out; omega)))
    refine any_one 3 rfl (by kernel_rfl) (by kernel_rfl) (fun K hK => ?_); go_simp
    refine HC1.out.mono ?_
    rintro e w2 ⟨rfl, hn1⟩
    have hfr := hn1.choose_spec.2.1
    have HN1 := Lib.hid hn1
    have hnb : ¬ Fg w.heap.size := fun h => by have := HGL.out _ h; omega
    have HS2 : At (fun w' : World => w'.cell? ⟨w.heap.size, 1, none⟩ = some (.int .i64 n) ∧ w'.cell? ⟨w.heap.size, 2, none⟩ = some (.int .i64 m)) w2 := ⟨(hfr.cell hnb HS0.1).trans HS0.1, (hfr.cell hnb HS0.2).trans HS0.2⟩
    have HR2 : Hid (GR Fr0 w2 rb S next) := HR1.out.keep hfr.size (fun b hb => hfr.block b (by have := HRL.out b hb; omega) (fun h => HD.out b h hb))
    refine hK _ _ (fun _ => HS2) ?_
    clear hK K hn1 hfr HC1
    have HC2 := Lib.hid (rTook_any Fr0 w2 rb S next HR2.out m (nthG_ps HI.out HK.out))
    refine any_one 7 rfl (by kernel_rfl) (by kernel_rfl) (fun K hK => ?_); go_simp
    refine HC2.out.mono ?_
    rintro e w3 ⟨rfl, hn2⟩
    have HN2 := Lib.hid (BTn.two HR1.out HG1.out HD.out HF.out HN1.out hn2)
    have hfr := hn2.choose_spec.2.1
    have hnb2 : ¬ Fr0 w.heap.size := fun h => by have := HRL.out _ h; omega
    have HS3 : At (fun w' : World => w'.cell? ⟨w.heap.size, 1, none⟩ = some (.int .i64 n) ∧ w'.cell? ⟨w.heap.size, 2, none⟩ = some (.int .i64 m)) w3 := ⟨(hfr.cell hnb2 HS2.1).trans HS2.1, (hfr.cell hnb2 HS2.2).trans HS2.2⟩
    refine hK _ _ (fun _ => HS3) ?_
    clear hK K hn2 hfr HC2 HN1 HR2 HS2
    rw [← HE.out.1] at HN2
    generalize (tookS S m).1 = r1 at *
    refine any_one 8 rfl (by kernel_rfl) (by kernel_rfl) (fun K hK => ?_); go_simp; refine hK _ _ (fun _ => HS3) ?_; clear hK K
    refine any_one 9 rfl (by kernel_rfl) (by kernel_rfl) (fun K hK => ?_); go_simp; refine hK _ _ (fun _ => HS3) ?_; clear hK K
    refine any_end (by kernel_rfl) ?_
    go_wp2
    go_ret
    exact ⟨rfl, by rw [HE.out.2]; exact HN2.out.pre HB2.out⟩
  have q6 : (kind == 6) = false := by simpa using k6
  have Q6 := Lib.hid k6
  clear k6
  have HE : Hid (doS S next kind n m = (S, next)) := by
    show _ = _
    unfold doS
    rw [if_neg Q0.out, if_neg Q1.out, if_neg Q2.out, if_neg Q3.out, if_neg Q4.out, if_neg Q5.out, if_neg Q6.out]
  go_enter Try.func17, Try.ntmps17
  go_wp2
  go_ret
  refine ⟨rfl, ?_⟩
  rw [HE.out]
  exact BTn.pre ⟨F, ⟨Fg, Fr0, HGA.out, HRA.out, HD.out, HF.out⟩, Fr.refl _ _, fun b hb => .inl hb⟩ HBA.out
end Go.Proofs.Ytbflmgpcjfoifaa
