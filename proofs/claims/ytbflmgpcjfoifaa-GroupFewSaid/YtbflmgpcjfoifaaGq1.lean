/- The program's groups in memory. -/
import Derived.Test.YtbflmgpcjfoifaaProg
import Derived.Test.YtbflmgpcjfoifaaGpP
import Derived.Test.YtbflmgpcjfoifaaMap1
import Derived.Test.YtbflmgpcjfoifaaSelB
set_option linter.unusedSimpArgs false
set_option linter.unusedVariables false
namespace Go.Sel
theorem look_perm {l l' : List (Int × Value)} (hp : l.Perm l') (hn : (l'.map (·.1)).Nodup) (k : Int) : look l k = look l' k := by
  have hn1 : (l.map (·.1)).Nodup := (hp.map _).nodup_iff.2 hn
  have key : ∀ {l : List (Int × Value)}, (l.map (·.1)).Nodup → ∀ {v : Value}, (k, v) ∈ l → look l k = some v := by
    intro l hl v hv
    induction l with
    | nil => simp at hv
    | cons p l ih =>
      rw [List.map_cons, List.nodup_cons] at hl
      rcases List.mem_cons.1 hv with rfl | hv
      · simp [look]
      · have hne : p.1 ≠ k := fun e => hl.1 (by rw [e]; exact List.mem_map.2 ⟨_, hv, rfl⟩)
        have : look (p :: l) k = look l k := by simp [look, hne]
        rw [this]
        exact ih hl.2 hv
  cases h : look l' k with
  | none =>
    rw [look_none] at h ⊢
    exact fun p hp' => h p (hp.mem_iff.1 hp')
  | some v =>
    have : (k, v) ∈ l' := by
      simp only [look, Option.map_eq_some_iff] at h
      obtain ⟨p, hp1, rfl⟩ := h
      have h1 := List.mem_of_find?_eq_some hp1
      have h2 := List.find?_some hp1
      simp only [beq_iff_eq] at h2
      subst h2
      exact h1
    exact key hn1 (hp.mem_iff.2 this)
end Go.Sel
namespace Go.Proofs.Ytbflmgpcjfoifaa
open Go.RowKit Go.Sel Go.Sel.Gp

abbrev B3 := Nat × Nat × Nat
/-- The blocks of a group: its cells, its patches, those that it comes behind. -/
structure One (w : World) (b : B3) (g : G) : Prop where
  cells : Bk w b.1 62 [.int .u8 g.st, .map (some b.2.1), .map (some b.2.2)]
  ps : ∃ ks, IMap w b.2.1 (seenL ks) ∧ ∀ x, x ∈ ks ↔ x ∈ g.ps
  ah : ∃ ks, IMap w b.2.2 (seenL ks) ∧ ∀ x, x ∈ ks ↔ x ∈ g.ah
theorem One.same {w w' : World} {b : B3} {g : G} (h : One w b g) (h1 : w'.heap[b.1]? = w.heap[b.1]?) (h2 : w'.heap[b.2.1]? = w.heap[b.2.1]?) (h3 : w'.heap[b.2.2]? = w.heap[b.2.2]?) : One w' b g := by
  obtain ⟨k1, m1, e1⟩ := h.ps
  obtain ⟨k2, m2, e2⟩ := h.ah
  exact ⟨h1.trans h.cells, ⟨k1, ⟨m1.nodup, by rw [h2]; exact m1.is⟩, e1⟩, ⟨k2, ⟨m2.nodup, by rw [h3]; exact m2.is⟩, e2⟩⟩
def pairsG (S : List G) (bs : Nat → B3) : List (Int × Value) := (List.range S.length).map fun i => ((nthG S i).n, .pointer (some ⟨(bs i).1, 0, none⟩))
theorem pairsG_keys (S : List G) (bs : Nat → B3) : (pairsG S bs).map (·.1) = S.map (·.n) := by
  rw [pairsG, List.map_map]
  apply List.ext_getElem (by simp)
  intro i h1 h2
  have : i < S.length := by simpa using h1
  simp [nthG_get this]
theorem look_pairs {S : List G} {bs : Nat → B3} (hn : (S.map (·.n)).Nodup) (n : Int) : Sel.look (pairsG S bs) n = (posG S n).map fun i => .pointer (some ⟨(bs i).1, 0, none⟩) := by
  cases hp : posG S n with
  | none =>
    rw [Option.map_none, Sel.look_none]
    intro p hp'
    obtain ⟨i, hi, rfl⟩ := List.mem_map.1 hp'
    exact posG_none hp i (by simpa using hi)
  | some i =>
    obtain ⟨h1, h2, h3⟩ := posG_lt hp
    rw [Option.map_some]
    unfold Sel.look
    have : (pairsG S bs).find? (fun p => p.1 == n) = some ((nthG S i).n, .pointer (some ⟨(bs i).1, 0, none⟩)) := by
      rw [List.find?_eq_some_iff_getElem]
      refine ⟨by simpa using h2, i, by simp [pairsG, h1], by simp [pairsG], fun j hj => ?_⟩
      have := h3 j hj
      simpa [pairsG] using this
    rw [this]
    rfl
/-- The program's groups at block gb, their map at mb; F: their blocks. -/
structure GPx (F : Nat → Prop) (w : World) (gb mb : Nat) (S : List G) (bs : Nat → B3) (next : Int) : Prop where
  hd : Bk w gb 66 [.map (some mb), .int .i64 next]
  all : ∃ l, IMap w mb l ∧ l.Perm (pairsG S bs)
  each : ∀ i, i < S.length → One w (bs i) (nthG S i)
  num : (S.map (·.n)).Nodup
  fh : F gb
  fm : F mb
  fe : ∀ i, i < S.length → F (bs i).1 ∧ F (bs i).2.1 ∧ F (bs i).2.2
  flt : ∀ b, F b → b < w.heap.size
  sep : ∀ i j, i < S.length → j < S.length → i ≠ j → (bs i).1 ≠ (bs j).1 ∧ (bs i).2.1 ≠ (bs j).2.1 ∧ (bs i).2.2 ≠ (bs j).2.2
  sepa : ∀ i j, i < S.length → j < S.length → (bs i).2.1 ≠ (bs j).2.2
  sepm : ∀ i, i < S.length → (bs i).2.1 ≠ mb ∧ (bs i).2.2 ≠ mb
section
variable {F : Nat → Prop} {w w' : World} {gb mb : Nat} {S : List G} {bs : Nat → B3} {next : Int}
theorem imap_no_cells {w : World} {b : Nat} {l : List (Int × Value)} (h : IMap w b l) {cur : Array Value} {T : TypeId} {fr : Nat × Nat} : w.heap[b]? ≠ some (.cells cur T fr) := by
  obtain ⟨es, c, hb, _⟩ := h.is
  rw [hb]
  intro e
  injection e with e
  cases e
theorem bk_imap {w : World} {a b : Nat} {T : TypeId} {vs : List Value} {l : List (Int × Value)} (h : Bk w a T vs) (k : IMap w b l) : a ≠ b := fun e => by
  subst e
  exact imap_no_cells k h
theorem GPx.keep (h : GPx F w gb mb S bs next) (hs : w.heap.size ≤ w'.heap.size) (hk : ∀ b, F b → w'.heap[b]? = w.heap[b]?) : GPx F w' gb mb S bs next := by
  obtain ⟨l, hm, hp⟩ := h.all
  exact ⟨(hk _ h.fh).trans h.hd, ⟨l, ⟨hm.nodup, by rw [hk _ h.fm]; exact hm.is⟩, hp⟩, fun i hi => (h.each i hi).same (hk _ (h.fe i hi).1) (hk _ (h.fe i hi).2.1) (hk _ (h.fe i hi).2.2), h.num, h.fh, h.fm, h.fe, fun b hb => Nat.lt_of_lt_of_le (h.flt b hb) hs, h.sep, h.sepa, h.sepm⟩
theorem GPx.below (h : GPx F w gb mb S bs next) (hb : Below w.heap.size w w') : GPx F w' gb mb S bs next := h.keep hb.size fun b hf => hb.block b (h.flt b hf)
theorem GPx.mono {F' : Nat → Prop} (h : GPx F w gb mb S bs next) (hF : ∀ b, F b → F' b) (hl : ∀ b, F' b → b < w.heap.size) : GPx F' w gb mb S bs next :=
  ⟨h.hd, h.all, h.each, h.num, hF _ h.fh, hF _ h.fm, fun i hi => ⟨hF _ (h.fe i hi).1, hF _ (h.fe i hi).2.1, hF _ (h.fe i hi).2.2⟩, hl, h.sep, h.sepa, h.sepm⟩
theorem GPx.h0 (h : GPx F w gb mb S bs next) : w.cell? ⟨gb, 0, none⟩ = some (.map (some mb)) := h.hd.cell 0 (by simp)
theorem GPx.h1 (h : GPx F w gb mb S bs next) : w.cell? ⟨gb, 1, none⟩ = some (.int .i64 next) := h.hd.cell 1 (by simp)
theorem GPx.lt (h : GPx F w gb mb S bs next) : gb < w.heap.size := h.hd.lt
theorem GPx.look (h : GPx F w gb mb S bs next) : ∃ l, IMap w mb l ∧ l.length = S.length ∧ ∀ n, Sel.look l n = (posG S n).map fun i => .pointer (some ⟨(bs i).1, 0, none⟩) := by
  obtain ⟨l, hm, hp⟩ := h.all
  refine ⟨l, hm, by rw [hp.length_eq]; simp [pairsG], fun n => ?_⟩
  rw [look_perm hp (by rw [pairsG_keys]; exact h.num), look_pairs h.num]
end
/-- The program's groups at block gb. -/
def GP (F : Nat → Prop) (w : World) (gb : Nat) (S : List G) (next : Int) : Prop := ∃ mb bs, GPx F w gb mb S bs next
theorem GP.below {F : Nat → Prop} {w w' : World} {gb : Nat} {S : List G} {next : Int} (h : GP F w gb S next) (hb : Below w.heap.size w w') : GP F w' gb S next := by
  obtain ⟨mb, bs, h⟩ := h
  exact ⟨mb, bs, h.below hb⟩
theorem GP.keep {F : Nat → Prop} {w w' : World} {gb : Nat} {S : List G} {next : Int} (h : GP F w gb S next) (hs : w.heap.size ≤ w'.heap.size) (hk : ∀ b, F b → w'.heap[b]? = w.heap[b]?) : GP F w' gb S next := by
  obtain ⟨mb, bs, h⟩ := h
  exact ⟨mb, bs, h.keep hs hk⟩
theorem GP.flt {F : Nat → Prop} {w : World} {gb : Nat} {S : List G} {next : Int} (h : GP F w gb S next) (b : Nat) (hb : F b) : b < w.heap.size := by
  obtain ⟨mb, bs, h⟩ := h
  exact h.flt b hb
/-- What an operation on it leaves. -/
def GPn (F : Nat → Prop) (w w' : World) (gb : Nat) (S : List G) (next : Int) : Prop := ∃ F', GP F' w' gb S next ∧ Fr F w w' ∧ ∀ b, F' b → F b ∨ w.heap.size ≤ b
theorem GPn.same {F : Nat → Prop} {w : World} {gb : Nat} {S : List G} {next : Int} (h : GP F w gb S next) : GPn F w w gb S next := ⟨F, h, Fr.refl _ _, fun b hb => .inl hb⟩
/-- The sameness of sets is all that is asked of what comes in. -/
theorem IMap.congr {w : World} {b : Nat} {l : List (Int × Value)} {xs ys : List Int} (h : ∃ ks, IMap w b (seenL ks) ∧ ∀ x, x ∈ ks ↔ x ∈ xs) (he : ∀ x, x ∈ xs ↔ x ∈ ys) : ∃ ks, IMap w b (seenL ks) ∧ ∀ x, x ∈ ks ↔ x ∈ ys := by
  obtain ⟨ks, h1, h2⟩ := h
  exact ⟨ks, h1, fun x => (h2 x).trans (he x)⟩
end Go.Proofs.Ytbflmgpcjfoifaa
