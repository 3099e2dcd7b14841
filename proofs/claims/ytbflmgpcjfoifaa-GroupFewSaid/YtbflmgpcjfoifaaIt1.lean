/- Iterators over memory: what a round keeps. No program in sight. -/
import Derived.Test.YtbflmgpcjfoifaaSel7
import Derived.RangeFuncNested
import Derived.RangeFuncWrites
import Derived.RangeFuncBox
import Derived.Test.YtbflmgpcjfoifaaSel3
import Derived.OwnWalkIn
import Derived.Test.YtbflmgpcjfoifaaMap1
import Derived.RangeFuncLeaves
import Derived.Sort.MapsRangeIn
set_option linter.unusedSimpArgs false
set_option linter.unusedVariables false
namespace Go.Sel
open Go.RowKit

/-- Block k is the box, or the row that the box's slice lies in. -/
def RowOf (ob : Option Nat) (w : World) (k : Nat) : Prop := ∃ b, ob = some b ∧ (k = b ∨ ∃ off n c, w.cell? ⟨b, 0, none⟩ = some (.slice (some ⟨k, off, none⟩) n c))
/-- What a round keeps: all cells, all walks and all that lies below B, but for S and for a row in a box; the row is the old one or a new one. -/
structure KeepD (S : Nat → Prop) (ob : Option Nat) (B : Nat) (w w' : World) : Prop where
  base : B ≤ w.heap.size
  size : w.heap.size ≤ w'.heap.size
  cells : ∀ k cs ty fr, ¬ S k → ¬ RowOf ob w k → w.heap[k]? = some (.cells cs ty fr) → w'.heap[k]? = some (.cells cs ty fr)
  low : ∀ k, k < B → ¬ S k → ¬ RowOf ob w k → w'.heap[k]? = w.heap[k]?
  walk : ∀ (k : Nat) (o : Obj), ¬ S k → w.heap[k]? = some o → o.isWalk = true → w'.heap[k]? = some o
  row : ∀ k, RowOf ob w' k → RowOf ob w k ∨ w.heap.size ≤ k
theorem KeepD.trans {S : Nat → Prop} {ob : Option Nat} {B : Nat} {a b c : World} (h : KeepD S ob B a b) (k : KeepD S ob B b c) : KeepD S ob B a c := by
  have hs := h.size
  refine ⟨h.base, Nat.le_trans h.size k.size, fun i cs ty fr h1 h2 h3 => ?_, fun i h1 h2 h3 => ?_, fun i o h0 h1 h2 => k.walk i o h0 (h.walk i o h0 h1 h2) h2, fun i hi => ?_⟩
  · have hi : i < a.heap.size := (Array.getElem?_eq_some_iff.1 h3).1
    exact k.cells i cs ty fr h1 (fun hr => (h.row i hr).elim h2 (by omega)) (h.cells i cs ty fr h1 h2 h3)
  · have hb := h.base
    exact (k.low i h1 h2 fun hr => (h.row i hr).elim h3 (by omega)).trans (h.low i h1 h2 h3)
  · rcases k.row i hi with h1 | h1
    · exact h.row i h1
    · exact .inr (by omega)
theorem KeepD.refl {S : Nat → Prop} {ob : Option Nat} {B : Nat} {w : World} (hB : B ≤ w.heap.size) : KeepD S ob B w w := ⟨hB, Nat.le_refl _, fun _ _ _ _ _ _ h => h, fun _ _ _ _ => rfl, fun _ _ _ h _ => h, fun _ h => .inl h⟩
theorem keepD_b {S : Nat → Prop} {ob : Option Nat} {B : Nat} {w : World} (hB : B ≤ w.heap.size) (hob : ∀ b, ob = some b → b < B) (W : World) (l : Nat) (o o' : Obj) (hl : w.heap.size ≤ l) (h : W.heap[l]? = some o) (hc : o.isCells = false) (hw : o.isWalk = false) : KeepD S ob B W (W.putObj l o') := by
  have hlt := (Array.getElem?_eq_some_iff.1 h).1
  refine ⟨by omega, by simp, fun k cs ty fr _ _ h1 => ?_, fun k h1 _ _ => World.putObj_heap_other (by omega), fun k o1 _ h1 h2 => ?_, fun k hk => ?_⟩
  · have e : k ≠ l := fun e => by subst e; rw [h] at h1; cases h1; cases hc
    exact (World.putObj_heap_other e).trans h1
  · have e : k ≠ l := fun e => by subst e; rw [h] at h1; cases h1; rw [hw] at h2; cases h2
    exact (World.putObj_heap_other e).trans h1
  · obtain ⟨b, e, hb⟩ := hk
    have hbl := hob b e
    refine .inl ⟨b, e, hb.imp id fun ⟨off, n, c, hcell⟩ => ⟨off, n, c, ?_⟩⟩
    rw [← hcell]
    simp only [World.cell?]
    rw [World.putObj_heap_other (show b ≠ l by omega)]
/-- A step that lays new blocks alone. -/
theorem KeepD.of_below {S : Nat → Prop} {ob : Option Nat} {B : Nat} {w w' : World} (hB : B ≤ w.heap.size) (hob : ∀ b, ob = some b → b < B) (h : Below w.heap.size w w') : KeepD S ob B w w' := by
  refine ⟨hB, h.size, fun k cs ty fr _ _ h1 => (h.block k (Array.getElem?_eq_some_iff.1 h1).1).trans h1, fun k h1 _ _ => h.block k (by omega), fun k o _ h1 _ => (h.block k (Array.getElem?_eq_some_iff.1 h1).1).trans h1, fun k hk => ?_⟩
  obtain ⟨b, e, hb⟩ := hk
  have hbl := hob b e
  refine .inl ⟨b, e, hb.imp id fun ⟨off, n, c, hcell⟩ => ⟨off, n, c, ?_⟩⟩
  rw [← hcell]
  simp only [World.cell?]
  rw [h.block b (by omega)]
/-- A step that turns a block of S that is no walk. -/
theorem KeepD.of_but {S : Nat → Prop} {ob : Option Nat} {B b : Nat} {w w' : World} (hB : B ≤ w.heap.size) (hob : ∀ b, ob = some b → b < B ∧ ¬ S b) (hS : S b) (h : ButBlock b w w') : KeepD S ob B w w' := by
  refine ⟨hB, Nat.le_of_eq h.size.symm, fun k cs ty fr h1 _ h3 => (h.far k (fun e => h1 (e ▸ hS))).trans h3, fun k _ h1 _ => h.far k (fun e => h1 (e ▸ hS)), fun k o h0 h1 h2 => (h.far k (fun e => h0 (e ▸ hS))).trans h1, fun k hk => ?_⟩
  · obtain ⟨b', e, hb⟩ := hk
    have hne : b' ≠ b := fun e' => (hob b' e).2 (e' ▸ hS)
    refine .inl ⟨b', e, hb.imp id fun ⟨off, n, c, hcell⟩ => ⟨off, n, c, ?_⟩⟩
    rw [← hcell]
    simp only [World.cell?]
    rw [h.far b' hne]
theorem KeepD.bk {S : Nat → Prop} {ob : Option Nat} {B : Nat} {w w' : World} (h : KeepD S ob B w w') {g : Nat} {T : TypeId} {vs : List Value} (hb : Bk w g T vs) (hs : ¬ S g) (hr : ¬ RowOf ob w g) : Bk w' g T vs := h.cells g _ _ _ hs hr hb
end Go.Sel
/- Iterators over memory: a round that appends to the row in its box. No program in sight. -/
set_option linter.unusedSimpArgs false
set_option linter.unusedVariables false
namespace Go.Sel
open Go.RowKit

/-- The box's slice is appended to: the box and its row are turned, nothing else; the row is the old one or a new one. -/
theorem KeepD.appended {S : Nat → Prop} {b B : Nat} {w w' : World} {A' : Option Addr} {n' c' : Nat} (hB : B ≤ w.heap.size) (hf : Fr (fun k => RowOf (some b) w k) w w') (ho : KeepsOthers w w')
    (hcell : w'.cell? ⟨b, 0, none⟩ = some (.slice A' n' c')) (hnew : ∀ k off, A' = some ⟨k, off, none⟩ → RowOf (some b) w k ∨ w.heap.size ≤ k) : KeepD S (some b) B w w' := by
  refine ⟨hB, hf.size, fun k cs ty fr _ h2 h3 => (hf.block k (Array.getElem?_eq_some_iff.1 h3).1 h2).trans h3, fun k h1 _ h2 => hf.block k (by omega) h2, fun k o _ h1 h2 => ho.walks.same k o h1 h2, fun k hk => ?_⟩
  obtain ⟨b', e, hb⟩ := hk
  cases e
  rcases hb with rfl | ⟨off, m, d, hc⟩
  · exact .inl ⟨_, rfl, .inl rfl⟩
  · rw [hcell] at hc
    injection hc with hc
    injection hc with h1 _ _
    exact hnew k off h1
section
variable {F : Fence} {n0 : Nat} {P : Program} {ops : Array Oper} {o : Oper} {a : Act} {Q : Exit → Act → World → Prop}
/-- 'append(s, y)' in a fence, the row the old one or a new one. -/
theorem wpListIn_push {Wg : World} (W : World) {rest : List Oper} (hgd : o.guard = none) (s x : Operand) (t e : TypeId)
    (ho : o.op = .call { callee := .builtin .append, args := #[s, x], argTypes := #[t, t] }) (base : Nat) (z : Value) (bytes : Nat)
    (ht : P.underlying t = some (.slice e)) (hinfo : (P.info? e).map (fun i => (i.zero, i.size, i.bytes)) = some (some z, 1, bytes)) (hz : z.cells.size = 1) (hb0 : 0 < bytes)
    (v : Value) (n : Nat) (xs : List Value) (y : Value) (hs : a.eval s = v) (hx : a.eval x = .slice (some ⟨W.heap.size, 0, none⟩) 1 1) (h1 : y.oneCell' = true)
    (HO : W.ownsRow base e 1 v n xs) (hbase : base ≤ W.heap.size) (hl : (n + 1) * bytes ≤ 140737488355328) (hW : Wg = W.alloc (.cells #[y] e))
    (h : ∀ g cap w1, w1.ownsRow base e 1 (.slice (some ⟨g, 0, none⟩) (n + 1) cap) (n + 1) (xs ++ [y]) → W.grownBy w1 v.ownBlock → (v.ownBlock = some g ∨ W.heap.size ≤ g) → g < w1.heap.size → wpListIn F n0 P ops Q rest (a.put o.dst (.slice (some ⟨g, 0, none⟩) (n + 1) cap)) w1) :
    wpListIn F n0 P ops Q (o :: rest) a Wg := by
  subst hW
  refine wpListIn_plain hgd fun K hK => ?_
  obtain ⟨g, cap, w1, hr, h2, h3, h4, h5⟩ := run_push (P := P) base t o.type e z bytes ht hinfo hz hb0 v n xs y h1 HO hbase hl
  unfold Oper.wpIn
  refine ⟨?_, ?_⟩
  · simp [Oper.about, ho, resolve, Target.leads, Sem.run_pure]
  · rw [Oper.semAt_plain F _ _ (by rw [ho]; intro c hc'; cases hc')]
    simp only [execOp, ho, resolve, invoke, builtin, Sem.run_bind, Sem.run_pure, Result.andThen_ok, List.map_toArray, List.map_cons, List.map_nil, hs, hx, hr]
    exact hK _ _ (h g cap w1 h2 h3 h4 h5)
end
end Go.Sel
/- A range over a function whose iterator ranges over functions itself: the round's invariant abides the turn of whatever block that is no cells and was laid since the iterator began; a round keeps all such blocks. No program in sight. -/
set_option linter.unusedSimpArgs false
set_option linter.unusedVariables false
namespace Go.Sel
open Go.RowKit
variable {F : Fence} {n : Nat} {P : Program}

/-- The contract of an iterator that may hold loops over iterators. -/
def SeqO {α : Type} (F : Fence) (n : Nat) (P : Program) (g : Nat) (lb : Array Value) (encs : α → Array Value) (Kp : World → World → Prop) (S : List α → Prop) (w : World) : Prop :=
  ∀ (l : Nat) (J Jx : List α → World → Prop) (W : World), Below w.heap.size w W → OwnFrom W.heap.size J → OwnFrom W.heap.size Jx →
    (∀ pre x W1, J pre W1 → W.heap.size ≤ W1.heap.size → YieldAt F (n - 1) P l (encs x) W1 fun e W' =>
      KeepsFrom W.heap.size W1 W' ∧ ((e = .returned (.bool true) ∧ J (pre ++ [x]) W' ∧ Kp W1 W') ∨ (e = .returned (.bool false) ∧ Jx (pre ++ [x]) W'))) →
    J [] W →
    CallsIn F n P g (#[.func (.yield l) #[] #[]] ++ lb) W fun e W' => (∃ v, e = .returned v) ∧ W.heap.size ≤ W'.heap.size ∧ ((∃ xs, S xs ∧ J xs W') ∨ (∃ pre, Jx pre W'))

/-- The loop's law over such a contract. -/
theorem wpIn_rangeFunc_O {α : Type} {g : Operand} {ps : Array Tmp} {assign body : Code} {Q : Exit → Act → World → Prop} {a : Act} {w : World}
    (hro : F.round = none) (h1 : 1 ≤ n) {gf : Nat} {lb : Array Value} (hg : a.eval g = .func (.func gf) #[] lb) (hFg : F.fn gf) (eg : ∀ args w, (callFunc gf args).run P w = .ok (.enter gf args) w)
    {encs : α → Array Value} {Kp : World → World → Prop} {S : List α → Prop} {w0 : World} (hseq : SeqO F (n - 1) P gf lb encs Kp S w0)
    (hKt : ∀ {A B C : World}, Kp A B → Kp B C → Kp A C) (hKb : ∀ (W : World) (l : Nat) (o o' : Obj), w.heap.size ≤ l → W.heap[l]? = some o → o.isCells = false → o.isWalk = false → Kp W (W.putObj l o')) (hb0 : Below w0.heap.size w0 w) (hps : ∀ x, (encs x).size = ps.size)
    (I : List α → World → Prop) (Ix : Code → List α → World → Prop) (hI : OwnFrom w.heap.size I) (hIx : ∀ c, OwnFrom w.heap.size (Ix c)) (h0 : I [] w) (a₁ : α → Act)
    (hassign : ∀ (l : Nat) (x : α) (W : World) (K : Act → World → Prop), K (a₁ x) W →
      assign.wpIn (F.inRound l) (n - 1 - 1) P (Exit.then K (fun _ _ _ => False)) { tmps := (ps.zip (encs x)).foldl (fun t (p, v) => t.setIfInBounds p v) a.tmps, defers := [] } W)
    (hbody : ∀ (l : Nat) (pre : List α) (x : α) (W : World), w.heap.size ≤ W.heap.size → I pre W → body.wpIn (F.inRound l) (n - 1 - 1) P (ownPostG w.heap.size Kp I Ix (pre ++ [x]) W) (a₁ x) W)
    (hdone : ∀ (D : Nat) (xs : List α) (W : World), w.heap.size ≤ D → S xs → I xs W → W.heap[D]? = some (.deferred (some [])) → Q .normal { a with defers := { target := .collected D, args := #[] } :: a.defers } W)
    (hstop : ∀ (D : Nat) (c : Code) (pre : List α) (W : World), w.heap.size ≤ D → Ix c pre W → W.heap[D]? = some (.deferred (some [])) → c.wpIn F n P Q { a with defers := { target := .collected D, args := #[] } :: a.defers } W) :
    (Code.rangeFunc g ps assign body).wpIn F n P Q a w := by
  refine wpIn_rangeFunc fun fn hfn => ?_
  rw [hro]
  -- the loop's record, by its state and what is pending
  let rec' : LoopState → Option Code → Loop := fun st pe => { state := st, pending := pe, fn, tmps := a.tmps, params := ps, assign, body, defers := w.heap.size }
  obtain ⟨rec, hrec⟩ : ∃ r, r = rec' := ⟨_, rfl⟩
  have hr' : ∀ st pe, rec st pe = { state := st, pending := pe, fn, tmps := a.tmps, params := ps, assign, body, defers := w.heap.size } := fun st pe => by rw [hrec]
  obtain ⟨d, hd⟩ : ∃ d, d = w.heap.size := ⟨_, rfl⟩
  obtain ⟨W1, hW1⟩ : ∃ W1, (w.alloc (.deferred (some []))).alloc (.loop (rec .ready none)) = W1 := ⟨_, rfl⟩
  have hs1 : W1.heap.size = d + 2 := by rw [← hW1]; simp [hd]
  have hL1 : W1.heap[d + 1]? = some (.loop (rec .ready none)) := by
    have h := World.alloc_heap_new (w.alloc (.deferred (some []))) (.loop (rec .ready none))
    rw [World.size_alloc, hW1, ← hd] at h
    exact h
  have hK1 : W1.heap[d]? = some (.deferred (some [])) := by
    rw [← hW1, hd]
    exact (Below.heap_alloc _ _ _ (by simp)).trans (World.alloc_heap_new w _)
  have hI1 : I [] W1 := hW1 ▸ hI.alloc _ (hI.alloc _ h0)
  have hb1 : Below w0.heap.size w0 W1 := by
    rw [← hW1]
    exact hb0.trans ((((Below.refl _ w).alloc (Nat.le_refl _) _).alloc (by simp) _).mono hb0.size)
  -- the two blocks of book-keeping outlive the turn of a younger one
  have hBK : ∀ {A B : World} {row : Option Nat} {k : Nat} {o : Obj}, A.grownBy B row → (∀ r, row = some r → W1.heap.size ≤ r ∧ ∃ o : Obj, A.heap[r]? = some o ∧ o.isCells = false) → k < W1.heap.size → A.heap[k]? = some o → B.heap[k]? = some o := fun hg' hr hk h =>
    (hg'.block _ (Array.getElem?_eq_some_iff.1 h).1 (fun e => by have := (hr _ e.symm).1; omega)).trans h
  have hup : ∀ {A : World} {row : Option Nat}, (∀ r, row = some r → W1.heap.size ≤ r ∧ ∃ o : Obj, A.heap[r]? = some o ∧ o.isCells = false) → (∀ r, row = some r → w.heap.size ≤ r ∧ ∃ o : Obj, A.heap[r]? = some o ∧ o.isCells = false) :=
    fun hr r e => ⟨by have := (hr r e).1; omega, (hr r e).2⟩
  refine ⟨d + 1, [{ target := .collected d, args := #[] }], W1, { target := .fn (.func gf) lb, args := #[.func (.yield (d + 1)) #[] #[]] }, W1, gf, #[.func (.yield (d + 1)) #[] #[]] ++ lb, W1, ?_, ?_, ?_, ?_, fun _ => h1, ?_⟩
  · rw [← hW1, hr', hd]
    exact run_enterLoop_outer _ _ _ _ _
  · simp only [resolve, hg]
    simp [go_sem]
  · intro f' hf'
    simp [Target.leads] at hf'
    subst hf'
    exact hFg
  · simp [invoke, go_sem, eg]
  · refine (hseq (d + 1)
      (fun pre W => I pre W ∧ W.heap[d + 1]? = some (.loop (rec .ready none)) ∧ W.heap[d]? = some (.deferred (some [])))
      (fun pre W => ∃ c, Ix c pre W ∧ W.heap[d + 1]? = some (.loop (rec .done (some c))) ∧ W.heap[d]? = some (.deferred (some [])))
      W1 hb1
      (fun s A B row hs hg' hr => ⟨hI s A B row hs.1 hg' (hup hr), hBK hg' hr (by omega) hs.2.1, hBK hg' hr (by omega) hs.2.2⟩)
      (fun s A B row hs hg' hr => by
        obtain ⟨c, hc, hl, hk⟩ := hs
        exact ⟨c, hIx c s A B row hc hg' (hup hr), hBK hg' hr (by omega) hl, hBK hg' hr (by omega) hk⟩)
      ?_ ⟨hI1, hL1, hK1⟩).mono ?_
    · rintro pre x W ⟨hi, hl, hk⟩ hge
      have hlt : d + 1 < W.heap.size := (Array.getElem?_eq_some_iff.1 hl).1
      have hy := run_yield (P := P) (args := encs x) hl (by rw [hr']; exact hps x)
      rw [hr'] at hy
      refine ⟨fn, _, assign, body, hy, roundIn_of_wpIn hfn (hassign _ x W _ ?_)⟩
      refine ⟨_, run_beginRound hl (by rw [hr']), ?_⟩
      obtain ⟨V, hV⟩ : ∃ V, W.putObj (d + 1) (.loop { rec .ready none with state := .busy }) = V := ⟨_, rfl⟩
      have hl2 : V.heap[d + 1]? = some (.loop { rec .ready none with state := .busy }) := by rw [← hV]; exact World.putObj_heap_same hlt
      have hk2 : V.heap[d]? = some (.deferred (some [])) := by rw [← hV]; exact (World.putObj_heap_other (by omega)).trans hk
      have hw2 : Kp W V := by rw [← hV]; exact hKb _ _ _ _ (by omega) hl rfl rfl
      have hf2 : KeepsFrom W1.heap.size W V := by rw [← hV]; exact KeepsFrom.of_grownBy (grownBy_putObj' _ _ _) (fun j e => by cases e; omega)
      have hi2 : I pre V := by rw [← hV]; exact hI.putObj _ hi (by omega) hl rfl
      have hsV : w.heap.size ≤ V.heap.size := by rw [← hV]; simp; omega
      rw [hV]
      refine wpIn_mono (hbody _ pre x V hsV hi2) ?_
      -- how a round ends
      have fin : ∀ (jump : Option Code) (W3 : World), KeepsFrom w.heap.size V W3 →
          (Instr.endRound (d + 1) jump).run P W3 = .ok (.bool jump.isNone) (W3.putObj (d + 1) (.loop (rec (if jump.isNone then .ready else .done) jump))) ∧
          W3.heap[d + 1]? = some (.loop { rec .ready none with state := .busy }) ∧
          (W3.putObj (d + 1) (.loop (rec (if jump.isNone then .ready else .done) jump))).heap[d + 1]? = some (.loop (rec (if jump.isNone then .ready else .done) jump)) ∧
          (W3.putObj (d + 1) (.loop (rec (if jump.isNone then .ready else .done) jump))).heap[d]? = some (.deferred (some [])) ∧
          KeepsFrom W1.heap.size W (W3.putObj (d + 1) (.loop (rec (if jump.isNone then .ready else .done) jump))) := fun jump W3 hk3 => by
        have hl3 := hk3.same _ _ (by omega) hl2 rfl
        have hend := run_endRound (P := P) jump hl3
        refine ⟨?_, hl3, World.putObj_heap_same (Array.getElem?_eq_some_iff.1 hl3).1, (World.putObj_heap_other (by omega)).trans (hk3.same _ _ (by omega) hk2 rfl), ?_⟩
        · subst hrec
          exact hend
        · exact (hf2.trans ⟨hk3.size, fun k o hB hko hc => hk3.same k o (by omega) hko hc⟩).trans (KeepsFrom.of_grownBy (grownBy_putObj' _ _ _) (fun j e => by cases e; omega))
      rintro e a3 W3 hp
      cases e with
      | normal =>
        obtain ⟨hk3, hkp3, hi3⟩ := hp
        obtain ⟨hr, hl3, hl4, hk4, hf4⟩ := fin none W3 hk3
        exact ⟨_, _, hr, hf4, .inl ⟨rfl, ⟨hI.putObj _ hi3 (by omega) hl3 rfl, hl4, hk4⟩, hKt (hKt hw2 hkp3) (hKb _ _ _ _ (by omega) hl3 rfl rfl)⟩⟩
      | ret =>
        obtain ⟨hk3, hi3⟩ := hp
        obtain ⟨hr, hl3, hl4, hk4, hf4⟩ := fin (some .ret) W3 hk3
        exact ⟨_, _, hr, hf4, .inr ⟨rfl, .ret, (hIx _).putObj _ hi3 (by omega) hl3 rfl, hl4, hk4⟩⟩
      | exit id =>
        obtain ⟨hk3, hi3⟩ := hp
        obtain ⟨hr, hl3, hl4, hk4, hf4⟩ := fin (some (.exit id)) W3 hk3
        exact ⟨_, _, hr, hf4, .inr ⟨rfl, .exit id, (hIx _).putObj _ hi3 (by omega) hl3 rfl, hl4, hk4⟩⟩
      | goto t =>
        obtain ⟨hk3, hi3⟩ := hp
        obtain ⟨hr, hl3, hl4, hk4, hf4⟩ := fin (some (.goto t)) W3 hk3
        exact ⟨_, _, hr, hf4, .inr ⟨rfl, .goto t, (hIx _).putObj _ hi3 (by omega) hl3 rfl, hl4, hk4⟩⟩
      | panic ch => exact hp.elim
      | outgrown => exact hp.elim
    · rintro e W2 ⟨⟨v, rfl⟩, _, (⟨xs, hS, hi, hl, hk⟩ | ⟨pre, c, hi, hl, hk⟩)⟩
      · refine ⟨none, _, (by have h := run_endLoop (P := P) hl (by rw [hr']; simp); rw [hr'] at h; exact h), ?_⟩
        rw [hd] at hl hk ⊢
        exact hdone _ xs _ (Nat.le_refl _) hS (hI.putObj _ hi (by omega) hl rfl) ((World.putObj_heap_other (by omega)).trans hk)
      · refine ⟨some c, _, (by have h := run_endLoop (P := P) hl (by rw [hr']; simp); rw [hr'] at h; exact h), ?_⟩
        rw [hd] at hl hk ⊢
        exact hstop _ c pre _ (Nat.le_refl _) ((hIx c).putObj _ hi (by omega) hl rfl) ((World.putObj_heap_other (by omega)).trans hk)

/-- Where no depth is asked the figures are all one. -/
theorem yieldAt_any {F : Fence} (hd : F.depth = none) {m : Nat} (m' : Nat) {P : Program} {l : Nat} {args : Array Value} {W : World} {R : Ending → World → Prop} (h : YieldAt F m P l args W R) : YieldAt F m' P l args W R := by
  obtain ⟨fn, tmps, assign, body, hy, hR⟩ := h
  exact ⟨fn, tmps, assign, body, hy, ⟨hR.1, fun c cs _ => hR.2 c cs (fun d h => by rw [hd] at h; cases h)⟩⟩
end Go.Sel
/- Ranges over maps in a fence; what an invariant over a loop abides; marks of rounds' deferred calls. No program in sight. -/
set_option linter.unusedSimpArgs false
set_option linter.unusedVariables false
namespace Go.Sel
open Go.RowKit Go.MapKept Go.Maps

section
variable {F : Fence} {n : Nat} {P : Program} {w : World} {ops : Array Oper} {rest : List Oper} {o : Oper} {a : Act} {Q : Exit → Act → World → Prop}
/-- 'range m' at the operation, in a fence. -/
theorem wpListIn_range_i (hg : o.guard = none) (m : Operand) (t : TypeId) (hop : o.op = Op.range t m) {k e : TypeId} (ht : P.underlying t = some (.map k e)) {b : Nat} {l : List (Int × Value)} (hm : a.eval m = .map (some b)) (h : IMap w b l)
    (hK : ∀ w', IRng w' b w.heap.size l l → Below w.heap.size w w' → w.heap.size < w'.heap.size → wpListIn F n P ops Q rest (a.put o.dst (.pointer (some ⟨w.heap.size, 0, none⟩))) w') :
    wpListIn F n P ops Q (o :: rest) a w := by
  refine wpListIn_plain hg fun K' hK' => ?_
  obtain ⟨w', hrun, r1, r2, r3⟩ := IRng.start (P := P) h ht
  unfold Oper.wpIn
  refine ⟨?_, ?_⟩
  · simp [Oper.about, hop]
  · rw [Oper.semAt_plain F _ _ (by rw [hop]; intro c hc'; cases hc')]
    simp [execOp, hop, hm, hrun, Result.andThen]
    exact hK' _ _ (hK w' r1 r2 r3)
/-- The step at the operation, in a fence. -/
theorem wpListIn_next_i (hg : o.guard = none) (it : Operand) (hop : o.op = Op.next it false) {b r : Nat} {l left : List (Int × Value)} (hit : a.eval it = .pointer (some ⟨r, 0, none⟩)) (h : IRng w b r l left)
    (hDone : left = [] → wpListIn F n P ops Q rest (a.put o.dst (.tuple #[.bool false])) w)
    (hMore : ∀ l1 p l2 w', left = l1 ++ p :: l2 → IRng w' b r l (l1 ++ l2) → Fr (· = r) w w' → w'.heap.size = w.heap.size → (Instr.entry (.pointer (some ⟨r, 0, none⟩))).run P w' = .ok (.tuple #[.int .i64 p.1, p.2]) w' →
      wpListIn F n P ops Q rest (a.put o.dst (.tuple #[.bool true, .int .i64 p.1, p.2])) w') :
    wpListIn F n P ops Q (o :: rest) a w := by
  refine wpListIn_plain hg fun K' hK' => ?_
  unfold Oper.wpIn
  refine ⟨?_, ?_⟩
  · simp [Oper.about, hop]
  · rw [Oper.semAt_plain F _ _ (by rw [hop]; intro c hc'; cases hc')]
    rcases h.next (P := P) o.type with ⟨h0, hrun⟩ | ⟨l1, p, l2, w', e, hrun, hr, hf, hs, hen⟩
    · simp [execOp, hop, hit, hrun, Result.andThen]
      exact hK' _ _ (hDone h0)
    · simp [execOp, hop, hit, hrun, Result.andThen]
      exact hK' _ _ (hMore l1 p l2 w' e hr hf hs hen)
/-- A store into a map at the operation, in a fence. -/
theorem wpListIn_mapstore (hg : o.guard = none) (m x v : Operand) (t : TypeId) (hop : o.op = Op.mapUpdate t m x v) {kt e : TypeId} {q : IntKind}
    (ht : P.underlying t = some (.map kt e)) (hk : P.underlying kt = some (.int q)) {b : Nat} {l : List (Int × Value)} {k : Int} {val : Value}
    (hm : a.eval m = .map (some b)) (hx : a.eval x = .int .i64 k) (hv : a.eval v = val) (h : IMap w b l)
    (hK : ∀ w', IMap w' b (put l k val) → ButBlock b w w' → wpListIn F n P ops Q rest (a.put o.dst undef) w') : wpListIn F n P ops Q (o :: rest) a w := by
  refine wpListIn_plain hg fun K' hK' => ?_
  obtain ⟨w', hrun, r1, r2⟩ := h.store ht hk k val
  unfold Oper.wpIn
  refine ⟨?_, ?_⟩
  · simp [Oper.about, hop]
  · rw [Oper.semAt_plain F _ _ (by rw [hop]; intro c hc'; cases hc')]
    simp [execOp, hop, hm, hx, hv, hrun, Result.andThen]
    exact hK' _ _ (hK w' r1 r2)
end

theorem ownFrom_keepD {β : Type} {S : Nat → Prop} {B B' : Nat} {w₀ : World} (hB : w₀.heap.size ≤ B') : OwnFrom B' (fun (_ : β) W => KeepD S none B w₀ W) := fun _ X Y row hs hg hr => by
  have key : ∀ k, k < w₀.heap.size → k < X.heap.size → Y.heap[k]? = X.heap[k]? := fun k h1 h2 => hg.block k h2 (fun e => by have := (hr k e.symm).1; omega)
  refine ⟨hs.base, Nat.le_trans hs.size hg.size, fun k cs ty fr h1 h2 h3 => ?_, fun k h1 h2 h3 => ?_, fun k o h0 h1 h2 => ?_, fun k hk => by obtain ⟨b, e, _⟩ := hk; cases e⟩
  · have hlt := (Array.getElem?_eq_some_iff.1 h3).1
    exact (key k hlt (Nat.lt_of_lt_of_le hlt hs.size)).trans (hs.cells k cs ty fr h1 h2 h3)
  · have hb := hs.base
    exact (key k (by omega) (by have := hs.size; omega)).trans (hs.low k h1 h2 h3)
  · have hlt := (Array.getElem?_eq_some_iff.1 h1).1
    exact (key k hlt (Nat.lt_of_lt_of_le hlt hs.size)).trans (hs.walk k o h0 h1 h2)

/-- Marks of rounds' deferred calls that are to be taken. -/
def collected (ds : List Nat) : List Deferred := ds.map fun D => { target := .collected D, args := #[] }
def Marks (ds : List Nat) (w : World) : Prop := ds.Nodup ∧ ∀ D ∈ ds, w.heap[D]? = some (.deferred (some []))
theorem Marks.nil {w : World} : Marks [] w := ⟨List.nodup_nil, by simp⟩
theorem Marks.keep {ds : List Nat} {w w' : World} {B : Nat} (h : Marks ds w) (hb : ∀ D ∈ ds, B ≤ D) (hk : KeepsFrom B w w') : Marks ds w' := ⟨h.1, fun D hD => hk.same D _ (hb D hD) (h.2 D hD) rfl⟩
theorem Marks.cons {ds : List Nat} {w : World} {D : Nat} (h : Marks ds w) (hD : w.heap[D]? = some (.deferred (some []))) (hn : ∀ E ∈ ds, E < D) : Marks (D :: ds) w :=
  ⟨List.nodup_cons.2 ⟨fun hm => by have := hn D hm; omega, h.1⟩, fun E hE => by
    rcases List.mem_cons.1 hE with rfl | hE
    · exact hD
    · exact h.2 E hE⟩
/-- What abides the turn of younger blocks that are no cells outlives the taking of the marks. -/
theorem leaves_own {F : Fence} {n : Nat} {P : Program} {fn : Func} {tmps : Array Value} {R : Ending → World → Prop} {β : Type} {base : Nat} {I : β → World → Prop} (hI : OwnFrom base I) {s : β} : ∀ (ds : List Nat) (w : World), Marks ds w → (∀ D ∈ ds, base ≤ D) →
    I s w → (∀ w', w.heap.size ≤ w'.heap.size → I s w' → LeavesIn F n P fn tmps R [] .returning w') → LeavesInM F n P fn tmps R (collected ds) .returning w
  | [], w, _, _, hi, h => h w (Nat.le_refl _) hi
  | D :: ds, w, hm, hb, hi, h => by
    have hD := hm.2 D (by simp)
    refine ⟨by simp, .inl ⟨D, _, rfl, run_takeDeferred hD, ?_⟩⟩
    have hnd := List.nodup_cons.1 hm.1
    refine leaves_own hI ds (w.putObj D (.deferred none)) ⟨hnd.2, fun E hE => ?_⟩ (fun E hE => hb E (by simp [hE])) (hI.putObj _ hi (hb D (by simp)) hD rfl) fun w' hs hi' => h w' (by simpa using hs) hi'
    rw [World.putObj_heap_other (fun e => hnd.1 (by rw [← e]; exact hE))]
    exact hm.2 E (by simp [hE])
end Go.Sel
