/- Walks of the program's groups: New, find, State, Patches. -/
import Derived.Test.YtbflmgpcjfoifaaGq1
import Derived.Test.YtbflmgpcjfoifaaGpL
import Derived.Carry
set_option linter.unusedSimpArgs false
set_option linter.unusedVariables false
namespace Go.Proofs.Ytbflmgpcjfoifaa
open Go.RowKit Go.Sel Go.Sel.Gp

theorem zeroOne (w : World) : (zeroValue 58).run Try.prog w = .ok (.pointer none) w := by kernel_rfl
theorem zeroBl (w : World) : (zeroValue 4).run Try.prog w = .ok (.bool false) w := by kernel_rfl

set_option maxHeartbeats 1000000 in
theorem pNew_any (w : World) : Calls Try.prog 31 #[] w fun e w' => e = .returned (.pointer (some ⟨w.heap.size + 1, 0, none⟩)) ∧ GP (fun b => w.heap.size ≤ b ∧ b < w'.heap.size) w' (w.heap.size + 1) [] 1 ∧ Below w.heap.size w w' := by
  have hmm := @run_makeMap Try.prog
  go_enter Try.func31, Try.ntmps31
  go_wp2
  go_ret
  have hB1 := below_al w (.map #[] 0)
  have hB2 := below_al (w.alloc (.map #[] 0)) (.cells #[.map (some w.heap.size), .int .i64 1] 66)
  refine ⟨by simp, ⟨w.heap.size, fun _ => (0, 0, 0), ?_, ⟨[], ?_, List.Perm.refl _⟩, fun i hi => by simp at hi, by simp, ?_, ?_, fun i hi => by simp at hi, fun b hb => hb.2, fun i j hi => by simp at hi, fun i j hi => by simp at hi, fun i hi => by simp at hi⟩, below_then hB1 hB2⟩
  · have := blk11 (w.alloc (.map #[] 0)) (.cells #[.map (some w.heap.size), .int .i64 1] 66)
    rw [World.size_alloc] at this
    exact this
  · exact (IMap.new w (t := 0) (kt := 0) (e := 0)).below hB2 (by simp)
  · simp
  · simp <;> omega

def findV (S : List G) (bs : Nat → B3) (n : Int) : Value := match posG S n with | none => .tuple #[.pointer none, .int .i64 5] | some i => .tuple #[.pointer (some ⟨(bs i).1, 0, none⟩), .int .i64 0]

set_option maxRecDepth 100000 in
set_option maxHeartbeats 4000000 in
theorem find_any (F : Nat → Prop) (w : World) (gb mb : Nat) (S : List G) (bs : Nat → B3) (next : Int) (h : GPx F w gb mb S bs next) (n : Int) :
    Calls Try.prog 36 #[.pointer (some ⟨gb, 0, none⟩), .int .i64 n] w fun e w' => e = .returned (findV S bs n) ∧ w' = w := by
  obtain ⟨l, hm, _, hl⟩ := h.look
  have h0 := h.h0
  have hrun := IMap.lookup_ok hm Try.underlying64 Try.underlying3 (zeroOne w) n
  rw [hl n] at hrun
  cases hp : posG S n with
  | none =>
    have HE : Hid (findV S bs n = .tuple #[.pointer none, .int .i64 5]) := by show _ = _; rw [findV, hp]
    rw [hp] at hrun
    simp only [Option.map_none, Option.getD_none, Option.isSome_none] at hrun
    clear hp hl hm h
    go_enter Try.func36, Try.ntmps36
    go_wp2
    go_ret2
    exact ⟨by rw [HE.out]; rfl, rfl⟩
  | some i =>
    have HE : Hid (findV S bs n = .tuple #[.pointer (some ⟨(bs i).1, 0, none⟩), .int .i64 0]) := by show _ = _; rw [findV, hp]
    rw [hp] at hrun
    simp only [Option.map_some, Option.getD_some, Option.isSome_some] at hrun
    clear hp hl hm h
    generalize (bs i).1 = ob at *
    go_enter Try.func36, Try.ntmps36
    go_wp2
    go_ret2
    exact ⟨by rw [HE.out]; rfl, rfl⟩

set_option maxRecDepth 100000 in
set_option maxHeartbeats 4000000 in
theorem pState_any (F : Nat → Prop) (w : World) (gb : Nat) (S : List G) (next : Int) (h : GP F w gb S next) (n : Int) :
    Calls Try.prog 15 #[.pointer (some ⟨gb, 0, none⟩), .int .i64 n] w fun e w' => e = .returned (.int .u8 (stateS S n)) ∧ w' = w := by
  obtain ⟨mb, bs, h⟩ := h
  have HC := Lib.hid (find_any F w gb mb S bs next h n)
  cases hp : posG S n with
  | none =>
    have HV : Hid (findV S bs n = .tuple #[.pointer none, .int .i64 5]) := by show _ = _; rw [findV, hp]
    have HE : Hid (stateS S n = 0) := by show _ = _; rw [stateS, hp]
    rw [HV.out] at HC
    clear h hp
    go_enter Try.func15, Try.ntmps15
    go_wp2_with (go_at_call 36; (with_reducible refine HC.out.mono ?_); rintro e w2 ⟨rfl, hw⟩; subst w2)
    go_ret
    exact ⟨ret_int HE.out.symm, rfl⟩
  | some i =>
    have hi := (posG_lt hp).1
    have HV : Hid (findV S bs n = .tuple #[.pointer (some ⟨(bs i).1, 0, none⟩), .int .i64 0]) := by show _ = _; rw [findV, hp]
    have HE : Hid (stateS S n = (nthG S i).st) := by show _ = _; rw [stateS, hp]
    rw [HV.out] at HC
    have c0 := (h.each i hi).cells.cell 0 (by simp)
    simp only [List.getElem_cons_zero] at c0
    clear h hp hi
    generalize (nthG S i).st = x at *
    generalize (bs i).1 = ob at *
    go_enter Try.func15, Try.ntmps15
    go_wp2_with (go_at_call 36; (with_reducible refine HC.out.mono ?_); rintro e w2 ⟨rfl, hw⟩; subst w2)
    go_ret
    exact ⟨ret_int HE.out.symm, rfl⟩

theorem wf_i64 {x : Int} (h : -9223372036854775808 ≤ x ∧ x ≤ 9223372036854775807) : (Lit.int .i64 x).wf = true := by
  simp only [Lit.wf, Bool.and_eq_true, decide_eq_true_eq]
  exact ⟨h.1, h.2⟩

set_option maxRecDepth 100000 in
set_option maxHeartbeats 4000000 in
theorem pPatches_any (F : Nat → Prop) (w : World) (gb : Nat) (S : List G) (next : Int) (h : GP F w gb S next) (n : Int) (hb : (patchesS S n).length ≤ 1000000) (hr : (patchesS S n).Pairwise (· < ·)) (hw : ∀ x ∈ patchesS S n, -9223372036854775808 ≤ x ∧ x ≤ 9223372036854775807) :
    Calls Try.prog 16 #[.pointer (some ⟨gb, 0, none⟩), .int .i64 n] w fun e w' => (∃ v, e = .returned v ∧ Sl w' v (patchesS S n)) ∧ Below w.heap.size w w' := by
  obtain ⟨mb, bs, h⟩ := h
  have HC := Lib.hid (find_any F w gb mb S bs next h n)
  cases hp : posG S n with
  | none =>
    have HV : Hid (findV S bs n = .tuple #[.pointer none, .int .i64 5]) := by show _ = _; rw [findV, hp]
    have HE : Hid (patchesS S n = []) := by show _ = _; rw [patchesS, hp]
    rw [HV.out] at HC
    rw [HE.out]
    clear h hp hb hr hw
    go_enter Try.func16, Try.ntmps16
    go_wp2_with (go_at_call 36; (with_reducible refine HC.out.mono ?_); rintro e w2 ⟨rfl, hw⟩; subst w2)
    go_ret
    exact ⟨⟨_, rfl, Sl.nil⟩, Below.refl _ _⟩
  | some i =>
    have hi := (posG_lt hp).1
    have HV : Hid (findV S bs n = .tuple #[.pointer (some ⟨(bs i).1, 0, none⟩), .int .i64 0]) := by show _ = _; rw [findV, hp]
    have HE : Hid (patchesS S n = (nthG S i).ps) := by show _ = _; rw [patchesS, hp]
    rw [HV.out] at HC
    have c1 := (h.each i hi).cells.cell 1 (by simp)
    simp only [List.getElem_cons_succ, List.getElem_cons_zero] at c1
    obtain ⟨ks, him, hks⟩ := (h.each i hi).ps
    have hkeys : (seenL ks).map (·.1) = ks := by simp [seenL, Function.comp_def]
    have hkl : ks.length ≤ 1000000 := by
      have h1 := him.nodup
      rw [hkeys] at h1
      have h2 : (nthG S i).ps.Nodup := by rw [← HE.out]; exact hr.imp fun h => by omega
      rw [(List.perm_ext_iff_of_nodup h1 h2).2 hks |>.length_eq, ← HE.out]
      exact hb
    have HS := Lib.hid (sortedA_any w (bs i).2.1 (seenL ks) (patchesS S n) him (fun p hp => by
      obtain ⟨x, hx, rfl⟩ := List.mem_map.1 hp
      exact wf_i64 (hw x (by rw [HE.out]; exact (hks x).1 hx))) hr (fun x => by rw [hkeys, HE.out]; exact hks x) (by simpa [seenL] using hkl))
    clear h hp hi hb hr hw him hks hkeys hkl
    generalize (bs i).2.1 = pb at *
    generalize (bs i).1 = ob at *
    generalize patchesS S n = xs at *
    go_enter Try.func16, Try.ntmps16
    go_wp2_with (first
      | (go_at_call 36; (with_reducible refine HC.out.mono ?_); rintro e w2 ⟨rfl, hw⟩; subst w2)
      | (go_at_call 35; (with_reducible refine (keysA_any _ _).mono ?_); rintro e w2 ⟨rfl, hw⟩; subst w2)
      | (go_at_call 34; (with_reducible refine HS.out.mono ?_); rintro e w3 ⟨⟨v, rfl, hsl⟩, hB⟩; have HSL := Lib.hid hsl; have HB := Lib.hid hB; clear hsl hB))
    go_ret
    exact ⟨⟨_, rfl, HSL.out⟩, HB.out⟩
end Go.Proofs.Ytbflmgpcjfoifaa
/- The program's groups: what a store does; turn, Engage, Disengage, Release, Depend walked. -/
set_option linter.unusedSimpArgs false
set_option linter.unusedVariables false
namespace Go.Proofs.Ytbflmgpcjfoifaa
open Go.RowKit Go.Sel Go.Sel.Gp

theorem put_seen_any (ks : List Int) (k : Int) : ∃ ks', put (seenL ks) k (.bool true) = seenL ks' ∧ ∀ x, x ∈ ks' ↔ x ∈ ks ∨ x = k := by
  by_cases h : ks.contains k = true
  · refine ⟨ks, ?_, fun x => ?_⟩
    · unfold put
      have ha : (seenL ks).any (fun p => p.1 == k) = true := by
        rw [List.any_eq_true]
        exact ⟨(k, .bool true), List.mem_map.2 ⟨k, by simpa using h, rfl⟩, by simp⟩
      rw [if_pos ha, seenL, List.map_map]
      refine List.map_congr_left fun x _ => ?_
      simp only [Function.comp]
      split
      · rename_i e; simp at e; rw [e]
      · rfl
    · constructor
      · exact .inl
      · rintro (h1 | rfl)
        · exact h1
        · simpa using h
  · exact ⟨ks ++ [k], put_seen ks k (by simpa using h), fun x => by simp⟩

section
variable {F : Nat → Prop} {w w' : World} {gb mb : Nat} {S : List G} {bs : Nat → B3} {next : Int}
theorem set_num {S : List G} {i : Nat} {g : G} (hi : i < S.length) (hg : g.n = (nthG S i).n) : (S.set i g).map (·.n) = S.map (·.n) := by
  rw [List.map_set, hg, nthG_get hi]
  apply List.ext_getElem (by simp)
  intro j h1 h2
  rw [List.getElem_set]
  split
  · rename_i e; subst e; simp
  · rfl
theorem set_pairs {S : List G} {bs : Nat → B3} {i : Nat} {g : G} (hi : i < S.length) (hg : g.n = (nthG S i).n) : pairsG (S.set i g) bs = pairsG S bs := by
  unfold pairsG
  rw [List.length_set]
  refine List.map_congr_left fun j hj => ?_
  rw [nthG_set hi]
  split
  · rename_i e; subst e; rw [hg]
  · rfl
/-- One group is another now; nothing else has turned. -/
theorem GPx.turned (h : GPx F w gb mb S bs next) {i : Nat} (hi : i < S.length) {g : G} (hg : g.n = (nthG S i).n) (hs : w'.heap.size = w.heap.size) {c : Nat} (hc : c = (bs i).1 ∨ c = (bs i).2.1 ∨ c = (bs i).2.2) (hk : ∀ b, b ≠ c → w'.heap[b]? = w.heap[b]?) (hone : One w' (bs i) g) :
    GPx F w' gb mb (S.set i g) bs next := by
  obtain ⟨l, hm, hp⟩ := h.all
  have hO := h.each i hi
  obtain ⟨_, m1, _⟩ := hO.ps
  obtain ⟨_, m2, _⟩ := hO.ah
  have hbc := bk_imap hO.cells m1
  have hba := bk_imap hO.cells m2
  have hgm := bk_imap h.hd hm
  have hgc : gb ≠ c := by
    rcases hc with rfl | rfl | rfl
    · intro e
      have h1 := h.hd
      have h2 := hO.cells
      rw [e] at h1
      unfold Bk at h1 h2
      rw [h1] at h2
      injection h2 with h2
      injection h2 with _ h3 _
      exact absurd h3 (by decide)
    · exact bk_imap h.hd m1
    · exact bk_imap h.hd m2
  have hmc : mb ≠ c := by
    rcases hc with rfl | rfl | rfl
    · exact (bk_imap hO.cells hm).symm
    · exact (h.sepm i hi).1.symm
    · exact (h.sepm i hi).2.symm
  refine ⟨(hk _ hgc).trans h.hd, ⟨l, ⟨hm.nodup, by rw [hk _ hmc]; exact hm.is⟩, by rw [set_pairs hi hg]; exact hp⟩, fun j hj => ?_, by rw [set_num hi hg]; exact h.num, h.fh, h.fm, fun j hj => h.fe j (by simpa using hj), fun b hb => by rw [hs]; exact h.flt b hb, fun a b ha hb => h.sep a b (by simpa using ha) (by simpa using hb), fun a b ha hb => h.sepa a b (by simpa using ha) (by simpa using hb), fun a ha => h.sepm a (by simpa using ha)⟩
  rw [nthG_set hi]
  by_cases e : i = j
  · subst e
    rw [if_pos rfl]
    exact hone
  · rw [if_neg e]
    have hj' : j < S.length := by simpa using hj
    have hOj := h.each j hj'
    obtain ⟨_, n1, _⟩ := hOj.ps
    obtain ⟨_, n2, _⟩ := hOj.ah
    have s1 := h.sep i j hi hj' e
    have s2 := h.sepa i j hi hj'
    have s3 := h.sepa j i hj' hi
    refine hOj.same (hk _ ?_) (hk _ ?_) (hk _ ?_)
    · rcases hc with rfl | rfl | rfl
      · exact s1.1.symm
      · exact bk_imap hOj.cells m1
      · exact bk_imap hOj.cells m2
    · rcases hc with rfl | rfl | rfl
      · exact (bk_imap hO.cells n1).symm
      · exact s1.2.1.symm
      · exact s3
    · rcases hc with rfl | rfl | rfl
      · exact (bk_imap hO.cells n2).symm
      · exact s2.symm
      · exact s1.2.2.symm
theorem GPx.setSt (h : GPx F w gb mb S bs next) {i : Nat} (hi : i < S.length) (x : Int) : GPx F (w.setCell ⟨(bs i).1, 0, none⟩ (.int .u8 x)) gb mb (S.set i { nthG S i with st := x }) bs next := by
  have hO := h.each i hi
  obtain ⟨k1, m1, e1⟩ := hO.ps
  obtain ⟨k2, m2, e2⟩ := hO.ah
  have hk : ∀ b, b ≠ (bs i).1 → (w.setCell ⟨(bs i).1, 0, none⟩ (.int .u8 x)).heap[b]? = w.heap[b]? := fun b hb => Below.heap_setCell _ _ _ _ hb
  refine h.turned hi rfl (by simp) (.inl rfl) hk ⟨hO.cells.set 0 (.int .u8 x), ⟨k1, ⟨m1.nodup, by rw [hk _ (bk_imap hO.cells m1).symm]; exact m1.is⟩, e1⟩, ⟨k2, ⟨m2.nodup, by rw [hk _ (bk_imap hO.cells m2).symm]; exact m2.is⟩, e2⟩⟩
theorem GPx.putAh (h : GPx F w gb mb S bs next) {i : Nat} (hi : i < S.length) {ks : List Int} (hm : IMap w (bs i).2.2 (seenL ks)) (hks : ∀ x, x ∈ ks ↔ x ∈ (nthG S i).ah) {k : Int} (hb : ButBlock (bs i).2.2 w w') (hp : IMap w' (bs i).2.2 (put (seenL ks) k (.bool true))) {ah : List Int} (ha : ∀ x, x ∈ ah ↔ x ∈ (nthG S i).ah ∨ x = k) :
    GPx F w' gb mb (S.set i { nthG S i with ah := ah }) bs next := by
  have hO := h.each i hi
  obtain ⟨k1, m1, e1⟩ := hO.ps
  obtain ⟨ks', e, hk'⟩ := put_seen_any ks k
  rw [e] at hp
  refine h.turned hi rfl hb.size (.inr (.inr rfl)) hb.far ⟨(hb.far _ (bk_imap hO.cells hm)).trans hO.cells, ⟨k1, ⟨m1.nodup, by rw [hb.far _ (h.sepa i i hi hi)]; exact m1.is⟩, e1⟩, ⟨ks', hp, fun x => ?_⟩⟩
  rw [hk' x, hks x]
  exact (ha x).symm
theorem GPx.putPs (h : GPx F w gb mb S bs next) {i : Nat} (hi : i < S.length) {ks : List Int} (hm : IMap w (bs i).2.1 (seenL ks)) (hks : ∀ x, x ∈ ks ↔ x ∈ (nthG S i).ps) {k : Int} (hb : ButBlock (bs i).2.1 w w') (hp : IMap w' (bs i).2.1 (put (seenL ks) k (.bool true))) {ps : List Int} (ha : ∀ x, x ∈ ps ↔ x ∈ (nthG S i).ps ∨ x = k) :
    GPx F w' gb mb (S.set i { nthG S i with ps := ps }) bs next := by
  have hO := h.each i hi
  obtain ⟨k1, m1, e1⟩ := hO.ah
  obtain ⟨ks', e, hk'⟩ := put_seen_any ks k
  rw [e] at hp
  refine h.turned hi rfl hb.size (.inr (.inl rfl)) hb.far ⟨(hb.far _ (bk_imap hO.cells hm)).trans hO.cells, ⟨ks', hp, fun x => ?_⟩, ⟨k1, ⟨m1.nodup, by rw [hb.far _ (h.sepa i i hi hi).symm]; exact m1.is⟩, e1⟩⟩
  rw [hk' x, hks x]
  exact (ha x).symm
end

set_option maxRecDepth 100000 in
set_option maxHeartbeats 4000000 in
theorem pTurn_any (F : Nat → Prop) (w : World) (gb : Nat) (S : List G) (next : Int) (h : GP F w gb S next) (n a b x : Int) (fb fo n' c' : Nat) (zs : List Int) (hz : zs.length = n') (hn : n' ≤ 1000) (hc : ∀ j (h : j < zs.length), w.cell? ⟨fb, fo + j, none⟩ = some (.int .u8 zs[j])) (hab : ∀ y, y ∈ zs ↔ y = a ∨ y = b) :
    Calls Try.prog 44 #[.pointer (some ⟨gb, 0, none⟩), .int .i64 n, .int .u8 x, .slice (some ⟨fb, fo, none⟩) n' c'] w fun e w' => e = .returned (.int .i64 (turnS S n a b x).1) ∧ GPn F w w' gb (turnS S n a b x).2 next := by
  have HG := Lib.hid h
  obtain ⟨mb, bs, h⟩ := h
  have HC := Lib.hid (find_any F w gb mb S bs next h n)
  cases hp : posG S n with
  | none =>
    have HV : Hid (findV S bs n = .tuple #[.pointer none, .int .i64 5]) := by show _ = _; rw [findV, hp]
    have HE : Hid (turnS S n a b x = (5, S)) := by show _ = _; rw [turnS, hp]
    rw [HV.out] at HC
    clear h hp hc hab
    generalize turnS S n a b x = r at *
    have he := HE.out
    subst he
    go_enter Try.func44, Try.ntmps44
    go_wp2_with (go_at_call 36; (with_reducible refine HC.out.mono ?_); rintro e w2 ⟨rfl, hw⟩; subst w2)
    go_ret
    exact ⟨rfl, GPn.same HG.out⟩
  | some i =>
    have hi := (posG_lt hp).1
    have HV : Hid (findV S bs n = .tuple #[.pointer (some ⟨(bs i).1, 0, none⟩), .int .i64 0]) := by show _ = _; rw [findV, hp]
    have HE : Hid (turnS S n a b x = if (nthG S i).st ≠ a ∧ (nthG S i).st ≠ b then (13, S) else (0, S.set i { nthG S i with st := x })) := by show _ = _; rw [turnS, hp]
    rw [HV.out] at HC
    have c0 := (h.each i hi).cells.cell 0 (by simp)
    have f0 := (h.each i hi).cells.free 0
    simp only [List.getElem_cons_zero] at c0
    have HSET := Lib.hid (h.setSt hi x)
    have HFB := Lib.hid (h.fe i hi).1
    have HCN := Lib.hid (containsA_any fb fo n' c' zs (nthG S i).st w hz hn hc)
    clear h hp hc
    generalize turnS S n a b x = r at *
    by_cases hst : (nthG S i).st ∈ zs
    · have he := HE.out
      rw [if_neg (fun h => by rcases (hab _).1 hst with e | e; exact h.1 e; exact h.2 e)] at he
      subst he
      have ed : decide ((nthG S i).st ∈ zs) = true := decide_eq_true hst
      rw [ed] at HCN
      clear hst ed HE hab
      generalize hg : nthG S i = g at *
      obtain ⟨gn, gs, gp, ga⟩ := g
      clear hg
      simp only at *
      generalize (bs i).1 = ob at *
      go_enter Try.func44, Try.ntmps44
      go_wp2_with (first
        | (go_at_call 36; (with_reducible refine HC.out.mono ?_); rintro e w2 ⟨rfl, hw⟩; subst w2)
        | (go_at_call 61; (with_reducible refine HCN.out.mono ?_); rintro e w2 ⟨rfl, hw⟩; subst w2))
      go_ret
      exact ⟨rfl, F, ⟨_, _, HSET.out⟩, (Fr.refl F _).setCell (.inl HFB.out) _, fun b hb => .inl hb⟩
    · have he := HE.out
      rw [if_pos ⟨fun e => hst ((hab _).2 (.inl e)), fun e => hst ((hab _).2 (.inr e))⟩] at he
      subst he
      have ed : decide ((nthG S i).st ∈ zs) = false := decide_eq_false hst
      rw [ed] at HCN
      clear hst ed HE hab
      generalize hg : nthG S i = g at *
      obtain ⟨gn, gs, gp, ga⟩ := g
      clear hg
      simp only at *
      generalize (bs i).1 = ob at *
      go_enter Try.func44, Try.ntmps44
      go_wp2_with (first
        | (go_at_call 36; (with_reducible refine HC.out.mono ?_); rintro e w2 ⟨rfl, hw⟩; subst w2)
        | (go_at_call 61; (with_reducible refine HCN.out.mono ?_); rintro e w2 ⟨rfl, hw⟩; subst w2))
      go_ret
      exact ⟨rfl, GPn.same HG.out⟩
end Go.Proofs.Ytbflmgpcjfoifaa
/- Walks of the program's groups: Engage, Disengage, Release, Depend, Make. -/
set_option linter.unusedSimpArgs false
set_option linter.unusedVariables false
namespace Go.Proofs.Ytbflmgpcjfoifaa
open Go.RowKit Go.Sel Go.Sel.Gp

theorem GPn.behind {F : Nat → Prop} {w w1 w' : World} {gb : Nat} {S : List G} {next : Int} (h : GPn F w1 w' gb S next) (hB : Below w.heap.size w w1) : GPn F w w' gb S next := by
  obtain ⟨F', h1, h2, h3⟩ := h
  exact ⟨F', h1, (fr_of_below hB F).trans h2, fun b hb => (h3 b hb).imp id fun h => Nat.le_trans hB.size h⟩
set_option maxRecDepth 100000 in
set_option maxHeartbeats 1000000 in
theorem pEngage_any (F : Nat → Prop) (w : World) (gb : Nat) (S : List G) (next : Int) (h : GP F w gb S next) (n : Int) :
    Calls Try.prog 19 #[.pointer (some ⟨gb, 0, none⟩), .int .i64 n] w fun e w' => e = .returned (.int .i64 (turnS S n 1 3 2).1) ∧ GPn F w w' gb (turnS S n 1 3 2).2 next := by
  have hB := below_al w (.cells #[.int .u8 1, .int .u8 3] 31)
  have HB := Lib.hid hB
  have HC := Lib.hid (pTurn_any F _ gb S next (h.below hB) n 1 3 2 w.heap.size 0 2 2 [1, 3] rfl (by omega) (fun j hj => by
    have hb := blk11 w (.cells #[.int .u8 1, .int .u8 3] 31)
    rw [blk_cell hb]
    rcases (show j = 0 ∨ j = 1 by simp at hj; omega) with rfl | rfl <;> rfl) (fun y => by simp))
  clear h hB
  generalize turnS S n 1 3 2 = r at *
  go_enter Try.func19, Try.ntmps19
  go_wp2_with (go_at_call 44; (with_reducible refine HC.out.mono ?_); rintro e w' ⟨rfl, hg⟩; have HG := Lib.hid (hg.behind HB.out); clear hg)
  go_ret
  exact ⟨rfl, HG.out⟩
set_option maxRecDepth 100000 in
set_option maxHeartbeats 1000000 in
theorem pRelease_any (F : Nat → Prop) (w : World) (gb : Nat) (S : List G) (next : Int) (h : GP F w gb S next) (n : Int) :
    Calls Try.prog 20 #[.pointer (some ⟨gb, 0, none⟩), .int .i64 n] w fun e w' => e = .returned (.int .i64 (turnS S n 1 3 4).1) ∧ GPn F w w' gb (turnS S n 1 3 4).2 next := by
  have hB := below_al w (.cells #[.int .u8 1, .int .u8 3] 31)
  have HB := Lib.hid hB
  have HC := Lib.hid (pTurn_any F _ gb S next (h.below hB) n 1 3 4 w.heap.size 0 2 2 [1, 3] rfl (by omega) (fun j hj => by
    have hb := blk11 w (.cells #[.int .u8 1, .int .u8 3] 31)
    rw [blk_cell hb]
    rcases (show j = 0 ∨ j = 1 by simp at hj; omega) with rfl | rfl <;> rfl) (fun y => by simp))
  clear h hB
  generalize turnS S n 1 3 4 = r at *
  go_enter Try.func20, Try.ntmps20
  go_wp2_with (go_at_call 44; (with_reducible refine HC.out.mono ?_); rintro e w' ⟨rfl, hg⟩; have HG := Lib.hid (hg.behind HB.out); clear hg)
  go_ret
  exact ⟨rfl, HG.out⟩
set_option maxRecDepth 100000 in
set_option maxHeartbeats 1000000 in
theorem pDisengage_any (F : Nat → Prop) (w : World) (gb : Nat) (S : List G) (next : Int) (h : GP F w gb S next) (n : Int) :
    Calls Try.prog 30 #[.pointer (some ⟨gb, 0, none⟩), .int .i64 n] w fun e w' => e = .returned (.int .i64 (turnS S n 2 2 3).1) ∧ GPn F w w' gb (turnS S n 2 2 3).2 next := by
  have hB := below_al w (.cells #[.int .u8 2] 31)
  have HB := Lib.hid hB
  have HC := Lib.hid (pTurn_any F _ gb S next (h.below hB) n 2 2 3 w.heap.size 0 1 1 [2] rfl (by omega) (fun j hj => by
    have hb := blk11 w (.cells #[.int .u8 2] 31)
    rw [blk_cell hb]
    rcases (show j = 0 by simp at hj; omega) with rfl <;> rfl) (fun y => by simp))
  clear h hB
  generalize turnS S n 2 2 3 = r at *
  go_enter Try.func30, Try.ntmps30
  go_wp2_with (go_at_call 44; (with_reducible refine HC.out.mono ?_); rintro e w' ⟨rfl, hg⟩; have HG := Lib.hid (hg.behind HB.out); clear hg)
  go_ret
  exact ⟨rfl, HG.out⟩

theorem fr_but {F : Nat → Prop} {b : Nat} {w w' : World} (h : ButBlock b w w') (hb : F b) : Fr F w w' :=
  ⟨h.os, h.tape, h.output, Nat.le_of_eq h.size.symm, fun k _ hn => h.far k fun e => hn (e ▸ hb)⟩

set_option maxRecDepth 100000 in
set_option maxHeartbeats 4000000 in
theorem pDepend_any (F : Nat → Prop) (w : World) (gb : Nat) (S : List G) (next : Int) (h : GP F w gb S next) (later ahead : Int) :
    Calls Try.prog 29 #[.pointer (some ⟨gb, 0, none⟩), .int .i64 later, .int .i64 ahead] w fun e w' => e = .returned (.int .i64 (dependS S later ahead).1) ∧ GPn F w w' gb (dependS S later ahead).2 next := by
  have HG := Lib.hid h
  obtain ⟨mb, bs, h⟩ := h
  have HC1 := Lib.hid (find_any F w gb mb S bs next h later)
  have HC2 := Lib.hid (find_any F w gb mb S bs next h ahead)
  cases hp : posG S later with
  | none =>
    have HV : Hid (findV S bs later = .tuple #[.pointer none, .int .i64 5]) := by show _ = _; rw [findV, hp]
    have HE : Hid (dependS S later ahead = (5, S)) := by show _ = _; rw [dependS, hp]
    rw [HV.out] at HC1
    clear h hp HC2
    generalize dependS S later ahead = r at *
    have he := HE.out
    subst he
    go_enter Try.func29, Try.ntmps29
    go_wp2_with (go_at_call 36; (with_reducible refine HC1.out.mono ?_); rintro e w2 ⟨rfl, hw⟩; subst w2)
    go_ret
    exact ⟨rfl, GPn.same HG.out⟩
  | some i =>
    have hi := (posG_lt hp).1
    have HV1 : Hid (findV S bs later = .tuple #[.pointer (some ⟨(bs i).1, 0, none⟩), .int .i64 0]) := by show _ = _; rw [findV, hp]
    rw [HV1.out] at HC1
    cases hq : posG S ahead with
    | none =>
      have HV2 : Hid (findV S bs ahead = .tuple #[.pointer none, .int .i64 5]) := by show _ = _; rw [findV, hq]
      have HE : Hid (dependS S later ahead = (5, S)) := by show _ = _; rw [dependS, hp, hq]
      rw [HV2.out] at HC2
      clear h hp hq hi
      generalize dependS S later ahead = r at *
      have he := HE.out
      subst he
      go_enter Try.func29, Try.ntmps29
      go_wp2_with (first
        | (go_at_call 36; (with_reducible refine HC1.out.mono ?_); rintro e w2 ⟨rfl, hw⟩; subst w2)
        | (go_at_call 36; (with_reducible refine HC2.out.mono ?_); rintro e w2 ⟨rfl, hw⟩; subst w2))
      go_ret
      exact ⟨rfl, GPn.same HG.out⟩
    | some k =>
      have hk := (posG_lt hq).1
      have HV2 : Hid (findV S bs ahead = .tuple #[.pointer (some ⟨(bs k).1, 0, none⟩), .int .i64 0]) := by show _ = _; rw [findV, hq]
      have HE : Hid (dependS S later ahead = if (nthG S i).st ≠ 1 ∨ (nthG S k).st ≠ 4 then (13, S) else (0, S.set i { nthG S i with ah := (nthG S i).ah ++ [ahead] })) := by show _ = _; rw [dependS, hp, hq]
      rw [HV2.out] at HC2
      have c0 := (h.each i hi).cells.cell 0 (by simp)
      have c2 := (h.each i hi).cells.cell 2 (by simp)
      have d0 := (h.each k hk).cells.cell 0 (by simp)
      simp only [List.getElem_cons_zero, List.getElem_cons_succ] at c0 c2 d0
      obtain ⟨ks, him, hks⟩ := (h.each i hi).ah
      have HFE := Lib.hid (h.fe i hi)
      have H := Lib.hid h
      clear h hp hq hk
      generalize dependS S later ahead = r at *
      by_cases ha : (nthG S i).st = 1
      · have e1 : ((nthG S i).st != 1) = false := by simpa using ha
        by_cases hc : (nthG S k).st = 4
        · have e2 : ((nthG S k).st != 4) = false := by simpa using hc
          have he := HE.out
          rw [if_neg (fun h => h.elim (fun h => h ha) (fun h => h hc))] at he
          subst he
          clear ha hc HE
          have HEND : Hid (∀ w2, IMap w2 (bs i).2.2 (put (seenL ks) ahead (.bool true)) → ButBlock (bs i).2.2 w w2 → GPn F w w2 gb (S.set i { nthG S i with ah := (nthG S i).ah ++ [ahead] }) next) := fun w2 h1 h2 =>
            ⟨F, ⟨_, _, H.out.putAh hi him hks h2 h1 (fun x => by simp)⟩, fr_but h2 HFE.out.2.2, fun b hb => .inl hb⟩
          generalize S.set i { nthG S i with ah := (nthG S i).ah ++ [ahead] } = S2 at *
          have HIM := Lib.hid him
          clear hks him
          generalize (nthG S k).st = y at *
          generalize (nthG S i).st = x at *
          generalize (bs i).2.2 = ab at *
          generalize (bs i).1 = ob at *
          generalize (bs k).1 = ok at *
          go_enter Try.func29, Try.ntmps29
          go_wp2_with (first
            | (go_at_call 36; (with_reducible refine HC1.out.mono ?_); rintro e w2 ⟨rfl, hw⟩; subst w2)
            | (go_at_call 36; (with_reducible refine HC2.out.mono ?_); rintro e w2 ⟨rfl, hw⟩; subst w2)
            | (refine wpList_store rfl _ _ _ _ rfl Try.underlying52 Try.underlying3 rfl rfl rfl HIM.out ?_; intro w3 h1 h2; have HW3 := Lib.hid (HEND.out w3 h1 h2); clear h1 h2))
          go_ret
          exact ⟨rfl, HW3.out⟩
        · have e2 : ((nthG S k).st != 4) = true := by simpa using hc
          have he := HE.out
          rw [if_pos (.inr hc)] at he
          subst he
          clear ha hc HE him
          generalize (nthG S k).st = y at *
          generalize (nthG S i).st = x at *
          generalize (bs i).1 = ob at *
          generalize (bs k).1 = ok at *
          go_enter Try.func29, Try.ntmps29
          go_wp2_with (first
            | (go_at_call 36; (with_reducible refine HC1.out.mono ?_); rintro e w2 ⟨rfl, hw⟩; subst w2)
            | (go_at_call 36; (with_reducible refine HC2.out.mono ?_); rintro e w2 ⟨rfl, hw⟩; subst w2))
          go_ret
          exact ⟨rfl, GPn.same HG.out⟩
      · have e1 : ((nthG S i).st != 1) = true := by simpa using ha
        have he := HE.out
        rw [if_pos (.inl ha)] at he
        subst he
        clear ha HE him
        generalize (nthG S k).st = y at *
        generalize (nthG S i).st = x at *
        generalize (bs i).1 = ob at *
        generalize (bs k).1 = ok at *
        go_enter Try.func29, Try.ntmps29
        go_wp2_with (first
          | (go_at_call 36; (with_reducible refine HC1.out.mono ?_); rintro e w2 ⟨rfl, hw⟩; subst w2)
          | (go_at_call 36; (with_reducible refine HC2.out.mono ?_); rintro e w2 ⟨rfl, hw⟩; subst w2))
        go_ret
        exact ⟨rfl, GPn.same HG.out⟩
end Go.Proofs.Ytbflmgpcjfoifaa
/- Walks of the program's groups: Make. -/
set_option linter.unusedSimpArgs false
set_option linter.unusedVariables false
namespace Go.Proofs.Ytbflmgpcjfoifaa
open Go.RowKit Go.Sel Go.Sel.Gp

theorem put_new {l : List (Int × Value)} {k : Int} {v : Value} (h : ∀ p ∈ l, p.1 ≠ k) : put l k v = l ++ [(k, v)] := by
  unfold put
  have : l.any (fun p => p.1 == k) = false := by
    rw [List.any_eq_false]
    intro p hp
    simpa using h p hp
  rw [if_neg (by rw [this]; simp)]
def withB (bs : Nat → B3) (n : Nat) (b : B3) (j : Nat) : B3 := if j = n then b else bs j
theorem nthG_app {S : List G} {g : G} {j : Nat} (h : j < S.length) : nthG (S ++ [g]) j = nthG S j := by
  rw [nthG_get (by simp; omega), nthG_get h, List.getElem_append_left h]
theorem nthG_last (S : List G) (g : G) : nthG (S ++ [g]) S.length = g := by
  rw [nthG_get (by simp)]
  simp
theorem pairs_app (S : List G) (g : G) (bs : Nat → B3) (b : B3) : pairsG (S ++ [g]) (withB bs S.length b) = pairsG S bs ++ [(g.n, .pointer (some ⟨b.1, 0, none⟩))] := by
  unfold pairsG
  rw [List.length_append, List.length_singleton, List.range_succ, List.map_append, List.map_cons, List.map_nil, nthG_last]
  congr 1
  · refine List.map_congr_left fun j hj => ?_
    have hj' : j < S.length := by simpa using hj
    rw [nthG_app hj', withB, if_neg (by omega)]
  · simp [withB]

section
variable {F : Nat → Prop} {w w3 w4 : World} {gb mb : Nat} {S : List G} {bs : Nat → B3} {next : Int}
theorem GPx.made (h : GPx F w gb mb S bs next) (hB : Below w.heap.size w w3) {o p a : Nat} (ho : w.heap.size ≤ o ∧ o < w3.heap.size) (hp : w.heap.size ≤ p ∧ p < w3.heap.size) (ha : w.heap.size ≤ a ∧ a < w3.heap.size) (hpa : p ≠ a)
    (hone : One w3 (o, p, a) ⟨next, 1, [], []⟩) {l : List (Int × Value)} (hl : IMap w mb l) (hll : ∀ n, Sel.look l n = (posG S n).map fun i => .pointer (some ⟨(bs i).1, 0, none⟩)) (hb : ButBlock mb w3 w4) (hput : IMap w4 mb (put l next (.pointer (some ⟨o, 0, none⟩)))) (hperm : l.Perm (pairsG S bs)) (hn : ∀ g ∈ S, g.n ≠ next) :
    GPx (fun b => F b ∨ (w.heap.size ≤ b ∧ b < w3.heap.size)) w4 gb mb (S ++ [⟨next, 1, [], []⟩]) (withB bs S.length (o, p, a)) next := by
  have h3 := h.below hB
  have hfm := h.flt _ h.fm
  have hgm : gb ≠ mb := bk_imap h.hd hl
  have hkey : ∀ q ∈ l, q.1 ≠ next := fun q hq => by
    have := hperm.mem_iff.1 hq
    obtain ⟨i, hi, rfl⟩ := List.mem_map.1 this
    have hi' : i < S.length := by simpa using hi
    rw [nthG_get hi']
    exact hn _ (List.getElem_mem hi')
  rw [put_new hkey] at hput
  have hlen : (S ++ [(⟨next, 1, [], []⟩ : G)]).length = S.length + 1 := by simp
  have hold : ∀ j, j < S.length → withB bs S.length (o, p, a) j = bs j := fun j hj => by rw [withB, if_neg (by omega)]
  have hnew : withB bs S.length (o, p, a) S.length = (o, p, a) := by simp [withB]
  have hlt : ∀ j, j < S.length → (bs j).1 < w.heap.size ∧ (bs j).2.1 < w.heap.size ∧ (bs j).2.2 < w.heap.size := fun j hj => ⟨h.flt _ (h.fe j hj).1, h.flt _ (h.fe j hj).2.1, h.flt _ (h.fe j hj).2.2⟩
  have hc : ∀ {q : Nat} {T : TypeId} {vs : List Value}, Bk w3 q T vs → q ≠ mb := fun hq => bk_imap hq (hl.below hB hfm)
  refine ⟨(hb.far _ hgm).trans h3.hd, ⟨_, hput, by rw [pairs_app]; exact hperm.append_right _⟩, fun j hj => ?_, ?_, .inl h.fh, .inl h.fm, fun j hj => ?_, fun b hb' => ?_, fun i j hi hj hij => ?_, fun i j hi hj => ?_, fun i hi => ?_⟩
  · by_cases e : j = S.length
    · subst e
      rw [hnew, nthG_last]
      exact hone.same (hb.far _ (by simp only; omega)) (hb.far _ (by simp only; omega)) (hb.far _ (by simp only; omega))
    · have hj' : j < S.length := by omega
      rw [hold j hj', nthG_app hj']
      exact (h3.each j hj').same (hb.far _ (hc (h3.each j hj').cells)) (hb.far _ (h.sepm j hj').1) (hb.far _ (h.sepm j hj').2)
  · rw [List.map_append, List.nodup_append]
    refine ⟨h.num, by simp, ?_⟩
    intro x hx y hy
    obtain ⟨g, hg, rfl⟩ := List.mem_map.1 hx
    simp only [List.map_cons, List.map_nil, List.mem_singleton] at hy
    subst hy
    exact hn g hg
  · by_cases e : j = S.length
    · subst e
      rw [hnew]
      exact ⟨.inr ho, .inr hp, .inr ha⟩
    · have hj' : j < S.length := by omega
      rw [hold j hj']
      exact ⟨.inl (h.fe j hj').1, .inl (h.fe j hj').2.1, .inl (h.fe j hj').2.2⟩
  · rw [hb.size]
    rcases hb' with hb' | hb'
    · exact Nat.lt_of_lt_of_le (h.flt b hb') hB.size
    · exact hb'.2
  · by_cases e1 : i = S.length
    · subst e1
      have hj' : j < S.length := by omega
      rw [hnew, hold j hj']
      have := hlt j hj'
      simp only
      omega
    · have hi' : i < S.length := by omega
      rw [hold i hi']
      by_cases e2 : j = S.length
      · subst e2
        rw [hnew]
        have := hlt i hi'
        simp only
        omega
      · have hj' : j < S.length := by omega
        rw [hold j hj']
        exact h.sep i j hi' hj' hij
  · by_cases e1 : i = S.length
    · subst e1
      rw [hnew]
      by_cases e2 : j = S.length
      · subst e2
        rw [hnew]
        exact hpa
      · have hj' : j < S.length := by omega
        rw [hold j hj']
        have := hlt j hj'
        simp only
        omega
    · have hi' : i < S.length := by omega
      rw [hold i hi']
      have := hlt i hi'
      by_cases e2 : j = S.length
      · subst e2
        rw [hnew]
        simp only
        omega
      · have hj' : j < S.length := by omega
        rw [hold j hj']
        exact h.sepa i j hi' hj'
  · by_cases e1 : i = S.length
    · subst e1
      rw [hnew]
      simp only
      omega
    · have hi' : i < S.length := by omega
      rw [hold i hi']
      exact h.sepm i hi'
theorem GPx.nexted (h : GPx F w gb mb S bs next) (x : Int) : GPx F (w.setCell ⟨gb, 1, none⟩ (.int .i64 x)) gb mb S bs x := by
  obtain ⟨l, hm, hp⟩ := h.all
  have hk : ∀ b, b ≠ gb → (w.setCell ⟨gb, 1, none⟩ (.int .i64 x)).heap[b]? = w.heap[b]? := fun b hb => Below.heap_setCell _ _ _ _ hb
  refine ⟨h.hd.set 1 _, ⟨l, ⟨hm.nodup, by rw [hk _ (bk_imap h.hd hm).symm]; exact hm.is⟩, hp⟩, fun i hi => ?_, h.num, h.fh, h.fm, h.fe, fun b hb => by simpa using h.flt b hb, h.sep, h.sepa, h.sepm⟩
  have hO := h.each i hi
  obtain ⟨_, m1, _⟩ := hO.ps
  obtain ⟨_, m2, _⟩ := hO.ah
  refine hO.same (hk _ ?_) (hk _ (bk_imap h.hd m1).symm) (hk _ (bk_imap h.hd m2).symm)
  intro e
  have h1 := h.hd
  have h2 := hO.cells
  rw [e] at h2
  unfold Bk at h1 h2
  rw [h1] at h2
  injection h2 with h2
  injection h2 with _ h3 _
  exact absurd h3 (by decide)
end

set_option maxRecDepth 100000 in
set_option maxHeartbeats 4000000 in
theorem pMake_any (F : Nat → Prop) (w : World) (gb : Nat) (S : List G) (next : Int) (h : GP F w gb S next) (hs : S.length ≤ 8) (hn : ∀ g ∈ S, g.n ≠ next) (hn0 : 0 ≤ next) (hn1 : next ≤ 1000000) :
    Calls Try.prog 21 #[.pointer (some ⟨gb, 0, none⟩)] w fun e w' => e = .returned (.tuple #[.int .i64 (makeS S next).1, .int .i64 (makeS S next).2.1]) ∧ GPn F w w' gb (makeS S next).2.2.1 (makeS S next).2.2.2 := by
  have HG := Lib.hid h
  obtain ⟨mb, bs, h⟩ := h
  have H := Lib.hid h
  obtain ⟨l, hm, hp⟩ := h.all
  have hl2 : l.length = S.length := by rw [hp.length_eq]; simp [pairsG]
  have hlen := IMap.len hm Try.underlying64 3
  rw [hl2] at hlen
  have HIM := Lib.hid hm
  have h0 := h.h0
  have h1 := h.h1
  have f1 := h.hd.free 1
  have hgl := h.lt
  have hml := hm.lt
  have hgm : gb ≠ mb := bk_imap h.hd hm
  have HLL : Hid (∀ n, Sel.look l n = (posG S n).map fun i => .pointer (some ⟨(bs i).1, 0, none⟩)) := fun n => by rw [look_perm hp (by rw [pairsG_keys]; exact h.num), look_pairs h.num]
  have HPM := Lib.hid hp
  have HN := Lib.hid hn
  have hmm := @run_makeMap Try.prog
  by_cases h8 : S.length = 8
  · have HE : Hid (makeS S next = (0, 11, S, next)) := by show _ = _; rw [makeS, if_pos (by omega)]
    have e8 : ((S.length : Int) == 8) = true := by simp; omega
    clear h hs hp hm hn h8 hl2
    generalize makeS S next = r at *
    have he := HE.out
    subst he
    generalize (S.length : Int) = sl at *
    go_enter Try.func21, Try.ntmps21
    go_wp2
    go_ret2
    exact ⟨rfl, GPn.same HG.out⟩
  · have HE : Hid (makeS S next = (next, 0, S ++ [⟨next, 1, [], []⟩], next + 1)) := by show _ = _; rw [makeS, if_neg (by omega)]
    have e8 : ((S.length : Int) == 8) = false := by simp; omega
    clear h hs hp hm hn h8 hl2
    generalize makeS S next = r at *
    have he := HE.out
    subst he
    generalize (S.length : Int) = sl at *
    have hB1 := below_al w (.map #[] 0)
    have hB2 := below_then hB1 (below_al (w.alloc (.map #[] 0)) (.map #[] 0))
    have hB3 := below_then hB2 (below_al ((w.alloc (.map #[] 0)).alloc (.map #[] 0)) (.cells #[.int .u8 1, .map (some w.heap.size), .map (some (w.heap.size + 1))] 62))
    have HI3 := Lib.hid (HIM.out.below hB3 hml)
    have HB3 := Lib.hid hB3
    have HO : Hid (One (((w.alloc (.map #[] 0)).alloc (.map #[] 0)).alloc (.cells #[.int .u8 1, .map (some w.heap.size), .map (some (w.heap.size + 1))] 62)) (w.heap.size + 2, w.heap.size, w.heap.size + 1) ⟨next, 1, [], []⟩) := by
      have b1 := below_al (w.alloc (.map #[] 0)) (.map #[] 0)
      have b2 := below_al ((w.alloc (.map #[] 0)).alloc (.map #[] 0)) (.cells #[.int .u8 1, .map (some w.heap.size), .map (some (w.heap.size + 1))] 62)
      have m1 := (IMap.new w (t := 0) (kt := 0) (e := 0)).below b1 (by simp)
      have m2 := IMap.new (w.alloc (.map #[] 0)) (t := 0) (kt := 0) (e := 0)
      rw [World.size_alloc] at m2
      have c3 := blk11 ((w.alloc (.map #[] 0)).alloc (.map #[] 0)) (.cells #[.int .u8 1, .map (some w.heap.size), .map (some (w.heap.size + 1))] 62)
      simp only [World.size_alloc] at c3
      exact ⟨c3, ⟨[], m1.below b2 (by simp <;> omega), by simp⟩, ⟨[], m2.below b2 (by simp <;> omega), by simp⟩⟩
    clear hB1 hB2 hB3
    go_enter Try.func21, Try.ntmps21
    go_wp2_with (refine wpList_store rfl _ _ _ _ rfl Try.underlying64 Try.underlying3 rfl rfl rfl HI3.out ?_; intro w3 q1 q2; have HM := Lib.hid (H.out.made HB3.out (o := w.heap.size + 2) (p := w.heap.size) (a := w.heap.size + 1) (by simp <;> omega) (by simp <;> omega) (by simp <;> omega) (by omega) HO.out HIM.out HLL.out q2 q1 HPM.out HN.out); have HF3 : Hid (Fr F w w3) := (fr_of_below HB3.out F).trans (fr_but q2 H.out.fm); have t1 := HM.out.h1; have t2 := HM.out.hd.free 1; have HSZ : Hid (w3.heap.size = _) := q2.size; clear q1 q2 h0 h1 f1)
    go_ret2
    exact ⟨rfl, _, ⟨_, _, HM.out.nexted (next + 1)⟩, HF3.out.setCell (.inl H.out.fh) _, fun b hb => hb.imp id fun h => h.1⟩
end Go.Proofs.Ytbflmgpcjfoifaa
/- Walks of the program's groups: Abandon. -/
set_option linter.unusedSimpArgs false
set_option linter.unusedVariables false
namespace Go.Sel
open Go.RowKit
section
variable {P : Program} {w : World} {ops : Array Oper} {rest : List Oper} {o : Oper} {a : Act} {Q : Exit → Act → World → Prop}
/-- 'delete' at the operation. -/
theorem wpList_delete_i (hg : o.guard = none) (m x : Operand) (t k' : TypeId) (hop : o.op = Op.call { callee := Callee.builtin Builtin.delete, args := #[m, x], argTypes := #[t, k'] }) {kt e : TypeId} {q : IntKind} (ht : P.underlying t = some (.map kt e)) (hk : P.underlying kt = some (.int q))
    {b : Nat} {l : List (Int × Value)} {k : Int} (hm : a.eval m = .map (some b)) (hx : a.eval x = .int .i64 k) (h : IMap w b l)
    (hK : ∀ w', IMap w' b (del l k) → ButBlock b w w' → wpList P ops Q rest (a.put o.dst (.tuple #[])) w') :
    wpList P ops Q (o :: rest) a w := by
  refine wpList_plain hg fun K' hK' => ?_
  obtain ⟨w', hrun, r1, r2⟩ := h.delete (P := P) ht hk k k' o.type
  unfold Oper.wp
  simp [execOp, hop, resolve, invoke, builtin, hm, hx, hrun, Result.andThen]
  exact hK' _ _ (hK w' r1 r2)
end
theorem IRng.sub {w : World} {b r : Nat} {l left : List (Int × Value)} (h : IRng w b r l left) : ∀ q ∈ left, q ∈ l := by
  intro q hq
  obtain ⟨es, clock, since, seen, c0, hb, hr, hnd, hold, _, _, hl, hes⟩ := h.it
  have hmem : (Value.int .i64 q.1, q.2) ∈ left.map (fun p => (Value.int .i64 p.1, p.2)) := List.mem_map.2 ⟨q, hq, rfl⟩
  rw [← hl] at hmem
  obtain ⟨x, hx, he⟩ := List.mem_map.1 hmem
  have hx2 : x ∈ es.toList := by
    simp only [leftOf, Array.toList_filter, List.mem_filter] at hx
    exact hx.1
  have h2 : (Value.int .i64 q.1, q.2) ∈ l.map (fun p => (Value.int .i64 p.1, p.2)) := by
    rw [← hes, ← he]
    exact List.mem_map.2 ⟨x, hx2, rfl⟩
  obtain ⟨p, hp, e⟩ := List.mem_map.1 h2
  simp only [Prod.mk.injEq, Value.int.injEq, true_and] at e
  have : p = q := Prod.ext e.1 e.2
  rw [← this]
  exact hp
theorem del_erase {l : List (Int × Value)} (hn : (l.map (·.1)).Nodup) {j : Nat} (hj : j < l.length) : del l l[j].1 = l.eraseIdx j := by
  have e1 : l = l.take j ++ l[j] :: l.drop (j + 1) := by simp
  generalize hx : l[j] = x at *
  unfold del
  rw [List.eraseIdx_eq_take_drop_succ]
  conv => lhs; rw [e1]
  rw [e1, List.map_append, List.map_cons, List.nodup_append, List.nodup_cons] at hn
  obtain ⟨_, ⟨n1, _⟩, n3⟩ := hn
  rw [List.filter_append, List.filter_cons]
  have a1 : (l.take j).filter (fun p => p.1 != x.1) = l.take j := List.filter_eq_self.2 fun y hy => by
    have := n3 y.1 (List.mem_map_of_mem hy) x.1 (by simp)
    simpa using this
  have a2 : (l.drop (j + 1)).filter (fun p => p.1 != x.1) = l.drop (j + 1) := List.filter_eq_self.2 fun y hy => by
    have : y.1 ≠ x.1 := fun e' => n1 (by rw [← e']; exact List.mem_map_of_mem hy)
    simpa using this
  rw [a1, a2]
  simp
end Go.Sel
namespace Go.Proofs.Ytbflmgpcjfoifaa
open Go.RowKit Go.Sel Go.Sel.Gp

def lessB (bs : Nat → B3) (i j : Nat) : B3 := if j < i then bs j else bs (j + 1)
theorem nthG_erase {S : List G} {i j : Nat} (h : j < (S.eraseIdx i).length) : nthG (S.eraseIdx i) j = if j < i then nthG S j else nthG S (j + 1) := by
  rw [nthG_get h, List.getElem_eraseIdx]
  have hl : (S.eraseIdx i).length ≤ S.length := List.length_eraseIdx_le _ _
  split
  · rw [nthG_get]
  · rw [nthG_get]
theorem pairs_erase {S : List G} (bs : Nat → B3) {i : Nat} (hi : i < S.length) : pairsG (S.eraseIdx i) (lessB bs i) = (pairsG S bs).eraseIdx i := by
  have h0 : (pairsG S bs).length = S.length := by simp [pairsG]
  have h1 : (pairsG (S.eraseIdx i) (lessB bs i)).length = S.length - 1 := by simp [pairsG, List.length_eraseIdx, hi]
  apply List.ext_getElem
  · rw [h1, List.length_eraseIdx, h0, if_pos hi]
  · intro j h2 h3
    rw [h1] at h2
    rw [List.getElem_eraseIdx]
    have hj : j < (S.eraseIdx i).length := by simp [List.length_eraseIdx, hi]; omega
    simp only [pairsG, List.getElem_map, List.getElem_range]
    rw [nthG_erase hj, lessB]
    split
    · rfl
    · rfl
section
variable {F : Nat → Prop} {w w' : World} {gb mb : Nat} {S : List G} {bs : Nat → B3} {next : Int}
theorem GPx.less (h : GPx F w gb mb S bs next) {i : Nat} (hi : i < S.length) {l : List (Int × Value)} (hl : IMap w mb l) (hp : l.Perm (pairsG S bs)) (hb : ButBlock mb w w') (hd : IMap w' mb (del l (nthG S i).n)) : GPx F w' gb mb (S.eraseIdx i) (lessB bs i) next := by
  have hlen : (S.eraseIdx i).length = S.length - 1 := by simp [List.length_eraseIdx, hi]
  have hgm : gb ≠ mb := bk_imap h.hd hl
  have hold : ∀ j, j < S.length - 1 → ∃ k, k < S.length ∧ lessB bs i j = bs k ∧ nthG (S.eraseIdx i) j = nthG S k ∧ k = if j < i then j else j + 1 := fun j hj => by
    by_cases e : j < i
    · exact ⟨j, by omega, by rw [lessB, if_pos e], by rw [nthG_erase (by omega), if_pos e], by rw [if_pos e]⟩
    · exact ⟨j + 1, by omega, by rw [lessB, if_neg e], by rw [nthG_erase (by omega), if_neg e], by rw [if_neg e]⟩
  refine ⟨(hb.far _ hgm).trans h.hd, ⟨_, hd, ?_⟩, fun j hj => ?_, ?_, h.fh, h.fm, fun j hj => ?_, fun b hb' => by rw [hb.size]; exact h.flt b hb', fun a b ha hb' hab => ?_, fun a b ha hb' => ?_, fun a ha => ?_⟩
  · rw [pairs_erase bs hi]
    have hpl : i < (pairsG S bs).length := by simpa [pairsG] using hi
    have hn : ((pairsG S bs).map (·.1)).Nodup := by rw [pairsG_keys]; exact h.num
    have e := del_erase hn hpl
    have e2 : (pairsG S bs)[i].1 = (nthG S i).n := by simp [pairsG]
    rw [e2] at e
    rw [← e]
    exact hp.filter _
  · obtain ⟨k, hk, e1, e2, _⟩ := hold j (by omega)
    rw [e1, e2]
    exact (h.each k hk).same (hb.far _ (bk_imap (h.each k hk).cells hl)) (hb.far _ (h.sepm k hk).1) (hb.far _ (h.sepm k hk).2)
  · exact h.num.sublist ((List.eraseIdx_sublist _ _).map _)
  · obtain ⟨k, hk, e1, _⟩ := hold j (by omega)
    rw [e1]
    exact h.fe k hk
  · obtain ⟨k1, hk1, e1, _, f1⟩ := hold a (by omega)
    obtain ⟨k2, hk2, e2, _, f2⟩ := hold b (by omega)
    rw [e1, e2]
    refine h.sep k1 k2 hk1 hk2 ?_
    rw [f1, f2]
    split <;> split <;> omega
  · obtain ⟨k1, hk1, e1, _⟩ := hold a (by omega)
    obtain ⟨k2, hk2, e2, _⟩ := hold b (by omega)
    rw [e1, e2]
    exact h.sepa k1 k2 hk1 hk2
  · obtain ⟨k1, hk1, e1, _⟩ := hold a (by omega)
    rw [e1]
    exact h.sepm k1 hk1
end
theorem num_inj {S : List G} (hn : (S.map (·.n)).Nodup) {i j : Nat} (hi : i < S.length) (hj : j < S.length) (e : (nthG S i).n = (nthG S j).n) : i = j := by
  rw [nthG_get hi, nthG_get hj] at e
  rw [List.nodup_iff_pairwise_ne, List.pairwise_iff_getElem] at hn
  rcases Nat.lt_trichotomy i j with h | h | h
  · exact absurd (by rw [List.getElem_map, List.getElem_map]; exact e) (hn i j (by simpa using hi) (by simpa using hj) h)
  · exact h
  · exact absurd (by rw [List.getElem_map, List.getElem_map]; exact e.symm) (hn j i (by simpa using hj) (by simpa using hi) h)
theorem mem_pairs {S : List G} {bs : Nat → B3} {p : Int × Value} (h : p ∈ pairsG S bs) : ∃ i, i < S.length ∧ p = ((nthG S i).n, .pointer (some ⟨(bs i).1, 0, none⟩)) := by
  obtain ⟨i, hi, rfl⟩ := List.mem_map.1 h
  exact ⟨i, by simpa using hi, rfl⟩

set_option maxRecDepth 100000 in
set_option maxHeartbeats 4000000 in
theorem pAbandon_any (F : Nat → Prop) (w : World) (gb : Nat) (S : List G) (next : Int) (h : GP F w gb S next) (n : Int) :
    Calls Try.prog 22 #[.pointer (some ⟨gb, 0, none⟩), .int .i64 n] w fun e w' => e = .returned (.int .i64 (abandonS S n).1) ∧ GPn F w w' gb (abandonS S n).2 next := by
  have HG := Lib.hid h
  obtain ⟨mb, bs, h⟩ := h
  have HC := Lib.hid (find_any F w gb mb S bs next h n)
  cases hp : posG S n with
  | none =>
    have HV : Hid (findV S bs n = .tuple #[.pointer none, .int .i64 5]) := by show _ = _; rw [findV, hp]
    have HE : Hid (abandonS S n = (5, S)) := by show _ = _; rw [abandonS, hp]
    rw [HV.out] at HC
    clear h hp
    generalize abandonS S n = r at *
    have he := HE.out
    subst he
    go_enter Try.func22, Try.ntmps22
    go_wp2_with (go_at_call 36; (with_reducible refine HC.out.mono ?_); rintro e w2 ⟨rfl, hw⟩; subst w2)
    go_ret
    exact ⟨rfl, GPn.same HG.out⟩
  | some i =>
    have hi := (posG_lt hp).1
    have HIN := Lib.hid (posG_lt hp).2.1
    have HI := Lib.hid hi
    have HV : Hid (findV S bs n = .tuple #[.pointer (some ⟨(bs i).1, 0, none⟩), .int .i64 0]) := by show _ = _; rw [findV, hp]
    have HE : Hid (abandonS S n = if (nthG S i).st = 2 then (13, S) else if S.any (fun g => decide (n ∈ g.ah)) then (12, S) else (0, S.take i ++ S.drop (i + 1))) := by show _ = _; rw [abandonS, hp]
    rw [HV.out] at HC
    have c0 := (h.each i hi).cells.cell 0 (by simp)
    simp only [List.getElem_cons_zero] at c0
    obtain ⟨l, hm, hpm⟩ := h.all
    have HIM := Lib.hid hm
    have HPM := Lib.hid hpm
    have H := Lib.hid h
    have h0 := h.h0
    have hml := hm.lt
    have hgl := h.lt
    clear h hp hi hm hpm
    generalize abandonS S n = r at *
    by_cases ha : (nthG S i).st = 2
    · have e1 : ((nthG S i).st == 2) = true := by simpa using ha
      have he := HE.out
      rw [if_pos ha] at he
      subst he
      clear ha HE
      generalize (nthG S i).st = x at *
      generalize (bs i).1 = ob at *
      go_enter Try.func22, Try.ntmps22
      go_wp2_with (go_at_call 36; (with_reducible refine HC.out.mono ?_); rintro e w2 ⟨rfl, hw⟩; subst w2)
      go_ret
      exact ⟨rfl, GPn.same HG.out⟩
    · have e1 : ((nthG S i).st == 2) = false := by simpa using ha
      have HE2 : Hid (r = if S.any (fun g => decide (n ∈ g.ah)) then (12, S) else (0, S.take i ++ S.drop (i + 1))) := by show _ = _; rw [HE.out, if_neg ha]
      clear ha HE
      generalize (nthG S i).st = x at *
      generalize hob : (bs i).1 = ob at *
      clear hob
      go_enter Try.func22, Try.ntmps22
      go_wp2_with (first
        | (go_at_call 36; (with_reducible refine HC.out.mono ?_); rintro e w2 ⟨rfl, hw⟩; subst w2)
        | (at_range; refine wpList_range_i rfl _ _ rfl Try.underlying64 rfl HIM.out ?_; intro w0 hrg hB0 hlt0; have HRG := Lib.hid hrg; have HB0 := Lib.hid hB0; clear hrg hB0))
      go_frame
      go_loopw [8] (fun v wr => ∃ left, Hid (IRng wr mb w.heap.size l left) ∧ Hid (∀ p ∈ l, p ∈ left ∨ ∀ j, j < S.length → (nthG S j).n = p.1 → n ∉ (nthG S j).ah) ∧ Hid (Below w.heap.size w wr)) (fun _ wr => wr.rangeLeft mb w.heap.size)
      case atStart => exact ⟨l, HRG, fun p hp => .inl hp, HB0⟩
      case round =>
        obtain ⟨left, HR, HJ, HB⟩ := hrel
        have HMEAS : Hid (wr.rangeLeft mb w.heap.size = left.length) := HR.out.left_eq
        go_wp2_with (at_next; refine wpList_next_i rfl _ rfl rfl HR.out ?_ ?_)
        · intro hnil
          have HNIL := Lib.hid hnil
          have HR3 : Hid (r = (0, S.take i ++ S.drop (i + 1))) := by
            show _ = _
            rw [HE2.out, if_neg]
            rw [List.any_eq_true]
            rintro ⟨g, hg, hn⟩
            obtain ⟨j, hj, rfl⟩ := List.mem_iff_getElem.1 hg
            have hmem : (((nthG S j).n, .pointer (some ⟨(bs j).1, 0, none⟩)) : Int × Value) ∈ l := HPM.out.mem_iff.2 (List.mem_map.2 ⟨j, by simpa using hj, rfl⟩)
            rcases HJ.out _ hmem with h1 | h1
            · rw [HNIL.out] at h1; cases h1
            · have := h1 j hj rfl
              rw [nthG_get hj] at this
              exact this (by simpa using hn)
          have he := HR3.out
          subst he
          clear hnil HE2
          have h0' : wr.cell? ⟨gb, 0, none⟩ = some (.map (some mb)) := (HB.out.cell (p := ⟨gb, 0, none⟩) hgl).trans h0
          have HIM2 := Lib.hid (HIM.out.below HB.out hml)
          have HX2 := Lib.hid (H.out.below HB.out)
          clear h0 c0
          go_wp2_with (refine wpList_delete_i rfl _ _ _ _ rfl Try.underlying64 Try.underlying3 rfl rfl HIM2.out ?_; intro w5 q1 q2; have HQ1 := Lib.hid q1; have HQ2 := Lib.hid q2; clear q1 q2)
          go_ret
          refine ⟨rfl, F, ⟨mb, lessB bs i, ?_⟩, (fr_of_below HB.out F).trans (fr_but HQ2.out H.out.fm), fun b hb => .inl hb⟩
          rw [← List.eraseIdx_eq_take_drop_succ]
          exact HX2.out.less HI.out HIM2.out HPM.out HQ2.out (by rw [HIN.out]; exact HQ1.out)
        · intro l1 pk pv l2 w3 e hr hf hs hen
          have hp : (pk, pv) ∈ l := HR.out.sub (pk, pv) (by rw [e]; simp)
          obtain ⟨j, hj, ej⟩ := mem_pairs (HPM.out.mem_iff.1 hp)
          simp only [Prod.mk.injEq] at ej
          obtain ⟨rfl, rfl⟩ := ej
          have HB3 : Hid (Below w.heap.size w w3) := HB.out.trans (hf.below HB.out.size (fun k hk => Nat.le_of_eq hk.symm))
          have HX3 := Lib.hid (H.out.below HB3.out)
          have c2 := (HX3.out.each j hj).cells.cell 2 (by simp)
          simp only [List.getElem_cons_zero, List.getElem_cons_succ] at c2
          obtain ⟨ks, him, hks⟩ := (HX3.out.each j hj).ah
          have hrun := IMap.lookup him Try.underlying52 Try.underlying3 (zeroBl w3) n
          rw [look_seen] at hrun
          have HR3 := Lib.hid hr
          have HLE := Lib.hid e
          have HKS := Lib.hid hks
          have HMEAS3 : Hid (w3.rangeLeft mb w.heap.size = (l1 ++ l2).length) := hr.left_eq
          clear h0 c0 hr hf him hks hp e
          by_cases hin : ks.contains n = true
          · rw [hin] at hrun
            have HR4 : Hid (r = (12, S)) := by
              show _ = _
              rw [HE2.out, if_pos]
              rw [List.any_eq_true]
              refine ⟨S[j], List.getElem_mem hj, ?_⟩
              have := (HKS.out n).1 (by simpa using hin)
              rw [nthG_get hj] at this
              simpa using this
            have he := HR4.out
            subst he
            clear hin HE2
            go_wp2
            go_ret
            exact ⟨rfl, F, ⟨mb, bs, HX3.out⟩, fr_of_below HB3.out F, fun b hb => .inl hb⟩
          · have hin' : ks.contains n = false := by simpa using hin
            rw [hin'] at hrun
            have HNI : Hid (n ∉ (nthG S j).ah) := fun hc => hin (by simpa using (HKS.out n).2 hc)
            clear hin hin'
            go_wp2
            go_roundw
            case rel => exact ⟨l1 ++ l2, HR3, fun p hp => by
              rcases HJ.out p hp with h1 | h1
              · rw [HLE.out] at h1
                rcases List.mem_append.1 h1 with h2 | h2
                · exact .inl (List.mem_append.2 (.inl h2))
                · rcases List.mem_cons.1 h2 with h3 | h3
                  · right
                    intro j' hj' e'
                    have hn := H.out.num
                    have : j' = j := by
                      rw [h3] at e'
                      exact num_inj hn hj' hj e'
                    rw [this]; exact HNI.out
                  · exact .inl (List.mem_append.2 (.inr h3))
              · exact .inr h1, HB3⟩
            case measure => rw [HMEAS3.out, HMEAS.out, HLE.out]; simp
end Go.Proofs.Ytbflmgpcjfoifaa
/- maps.Copy of sets. -/
set_option linter.unusedSimpArgs false
set_option linter.unusedVariables false
namespace Go.Proofs.Ytbflmgpcjfoifaa
open Go.RowKit Go.Sel Go.Sel.Gp

set_option maxRecDepth 100000 in
set_option maxHeartbeats 4000000 in
theorem copy_any (w : World) (d s : Nat) (xs ys : List Int) (hd : IMap w d (seenL xs)) (hs : IMap w s (seenL ys)) (hne : d ≠ s) :
    Calls Try.prog 51 #[.map (some d), .map (some s)] w fun e w' => (∃ v, e = .returned v) ∧ (∃ zs, IMap w' d (seenL zs) ∧ ∀ x, x ∈ zs ↔ x ∈ xs ∨ x ∈ ys) ∧ Fr (· = d) w w' := by
  have HD := Lib.hid hd
  have HS := Lib.hid hs
  have hdl := hd.lt
  have hsl := hs.lt
  clear hd hs
  go_enter Try.func51, Try.ntmps51
  go_wp2_with (at_range; refine wpList_range_i rfl _ _ rfl Try.underlying52 rfl HS.out ?_; intro w0 hrg hB0 hlt0; have HRG := Lib.hid hrg; have HB0 := Lib.hid hB0; clear hrg hB0)
  go_frame
  go_loopw [4] (fun v wr => ∃ left zs, Hid (IRng wr s w.heap.size (seenL ys) left) ∧ Hid (IMap wr d (seenL zs)) ∧ Hid (∀ x, x ∈ zs → x ∈ xs ∨ x ∈ ys) ∧ Hid (∀ x, x ∈ xs → x ∈ zs) ∧ Hid (∀ x, x ∈ ys → (x, .bool true) ∈ left ∨ x ∈ zs) ∧ Hid (Fr (· = d) w wr)) (fun _ wr => wr.rangeLeft s w.heap.size)
  case atStart => exact ⟨seenL ys, xs, HRG, HD.out.below HB0.out hdl, fun x hx => .inl hx, fun x hx => hx, fun x hx => .inl (List.mem_map.2 ⟨x, hx, rfl⟩), fr_of_below HB0.out _⟩
  case round =>
    obtain ⟨left, zs, HR, HZ, H1, H2, H3, HF⟩ := hrel
    have HMEAS : Hid (wr.rangeLeft s w.heap.size = left.length) := HR.out.left_eq
    go_wp2_with (at_next; refine wpList_next_i rfl _ rfl rfl HR.out ?_ ?_)
    · intro hnil
      have HNIL := Lib.hid hnil
      clear hnil
      go_wp2
      go_end0
      refine ⟨⟨_, rfl⟩, ⟨zs, HZ.out, fun x => ⟨H1.out x, fun h => ?_⟩⟩, HF.out⟩
      rcases h with h | h
      · exact H2.out x h
      · rcases H3.out x h with h1 | h1
        · rw [HNIL.out] at h1; cases h1
        · exact h1
    · intro l1 pk pv l2 w3 e hr hf hs3 hen
      have hp : (pk, pv) ∈ seenL ys := HR.out.sub (pk, pv) (by rw [e]; simp)
      obtain ⟨x0, hx0, ex⟩ := List.mem_map.1 hp
      simp only [Prod.mk.injEq] at ex
      obtain ⟨rfl, rfl⟩ := ex
      have hrd : w.heap.size ≠ d := by omega
      have HZ3 : Hid (IMap w3 d (seenL zs)) := ⟨HZ.out.nodup, by rw [hf.block d HZ.out.lt (fun h => hrd h.symm)]; exact HZ.out.is⟩
      have HF3 : Hid (Fr (· = d) w w3) := by
        have h1 := HF.out
        refine ⟨hf.os.trans h1.os, hf.tape.trans h1.tape, hf.output.trans h1.output, Nat.le_trans h1.size hf.size, fun k hk hkd => ?_⟩
        exact (hf.block k (Nat.lt_of_lt_of_le hk h1.size) (by omega)).trans (h1.block k hk hkd)
      have HR3 := Lib.hid hr
      have HLE := Lib.hid e
      have HX0 := Lib.hid hx0
      obtain ⟨zs', hput, hz'⟩ := put_seen_any zs x0
      have HPUT := Lib.hid hput
      have HZP := Lib.hid hz'
      clear hr hf hp e hx0 hput hz'
      go_wp2_with (refine wpList_store rfl _ _ _ _ rfl Try.underlying52 Try.underlying3 rfl rfl rfl HZ3.out ?_; intro w4 q1 q2; have HQ1 := Lib.hid q1; have HQ2 := Lib.hid q2; clear q1 q2)
      have HR4 : Hid (IRng w4 s w.heap.size (seenL ys) (l1 ++ l2)) := HR3.out.same (HQ2.out.far _ (fun h => hne h.symm)) (HQ2.out.far _ hrd)
      have HMEAS4 : Hid (w4.rangeLeft s w.heap.size = (l1 ++ l2).length) := HR4.out.left_eq
      have K0 : Hid (IMap w4 d (seenL zs')) := by show IMap _ _ _; rw [← HPUT.out]; exact HQ1.out
      have K1 : Hid (∀ x, x ∈ zs' → x ∈ xs ∨ x ∈ ys) := fun x hx => by
        rcases (HZP.out x).1 hx with h | rfl
        · exact H1.out x h
        · exact .inr HX0.out
      have K2 : Hid (∀ x, x ∈ xs → x ∈ zs') := fun x hx => (HZP.out x).2 (.inl (H2.out x hx))
      have K3 : Hid (∀ x, x ∈ ys → (x, .bool true) ∈ l1 ++ l2 ∨ x ∈ zs') := fun x hx => by
        rcases H3.out x hx with h | h
        · rw [HLE.out] at h
          rcases List.mem_append.1 h with h2 | h2
          · exact .inl (List.mem_append.2 (.inl h2))
          · rcases List.mem_cons.1 h2 with h3 | h3
            · simp only [Prod.mk.injEq] at h3
              exact .inr ((HZP.out x).2 (.inr h3.1))
            · exact .inl (List.mem_append.2 (.inr h3))
        · exact .inr ((HZP.out x).2 (.inl h))
      have K4 : Hid (Fr (· = d) w w4) := HF3.out.trans (fr_but HQ2.out rfl)
      go_roundw
      case rel =>
        exact ⟨_, _, _, _, _, _, _, _, _, _, ⟨l1 ++ l2, zs', HR4, K0, K1, K2, K3, K4⟩, rfl⟩
      case measure => rw [HMEAS4.out, HMEAS.out, HLE.out]; simp
end Go.Proofs.Ytbflmgpcjfoifaa
