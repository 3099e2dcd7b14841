/- Walks of the program's groups: above, as an iterator that ranges over itself. -/
import Derived.Test.YtbflmgpcjfoifaaGpT
import Derived.Test.YtbflmgpcjfoifaaGpP
import Derived.Test.YtbflmgpcjfoifaaIt1
set_option linter.unusedSimpArgs false
set_option linter.unusedVariables false
namespace Go.Sel
open Go.RowKit
theorem KeepD.cell {S : Nat → Prop} {B : Nat} {w w' : World} (h : KeepD S none B w w') {p : Addr} {v : Value} (hc : w.cell? p = some v) (hs : ¬ S p.block) : w'.cell? p = some v := by
  obtain ⟨o, ho, hk⟩ := cells_of_cell hc
  cases o <;> try cases hk
  refine (World.cell?_of_block ?_).trans hc
  rw [ho]
  exact h.cells _ _ _ _ hs (fun hr => by obtain ⟨b, e, _⟩ := hr; cases e) ho
end Go.Sel
namespace Go.Proofs.Ytbflmgpcjfoifaa
open Go.RowKit Go.Sel Go.Sel.Gp Go.Shelf Go.Maps Go.Sort

attribute [local go_sem] Oper.semAt_some

/-- The places of groups; their numbers are what comes. -/
abbrev AhT (S : List G) := { i : Nat // i < S.length }
def numA (S : List G) (x : AhT S) : Int := (nthG S x.val).n
def encA (S : List G) (x : AhT S) : Array Value := #[.int .i64 (nthG S x.val).n]
def ReachS (S : List G) (n : Int) (ys : List (AhT S)) : Prop := ∀ y, y ∈ ys.map (numA S) ↔ Rch S n y

theorem keepD_imap {Sx : Nat → Prop} {B : Nat} {w w' : World} (hk : KeepD Sx none B w w') {b : Nat} {l : List (Int × Value)} (h : IMap w b l) (hs : ¬ Sx b) : w'.heap[b]? = w.heap[b]? := by
  obtain ⟨es, c, hb, _⟩ := h.is
  rw [hb]
  exact hk.walk b _ hs hb rfl
theorem keepD_bk {Sx : Nat → Prop} {B : Nat} {w w' : World} (hk : KeepD Sx none B w w') {b : Nat} {T : TypeId} {vs : List Value} (h : Bk w b T vs) (hs : ¬ Sx b) : w'.heap[b]? = w.heap[b]? := by
  have : w.heap[b]? = some (.cells vs.toArray T (0, 0)) := h
  rw [this]
  exact hk.cells b _ _ _ hs (fun hr => by obtain ⟨x, e, _⟩ := hr; cases e) this
section
variable {F : Nat → Prop} {w w' : World} {gb mb : Nat} {S : List G} {bs : Nat → B3} {next : Int}
/-- The blocks of groups, and no others. -/
def Bl (gb mb : Nat) (S : List G) (bs : Nat → B3) (k : Nat) : Prop := k = gb ∨ k = mb ∨ ∃ i, i < S.length ∧ (k = (bs i).1 ∨ k = (bs i).2.1 ∨ k = (bs i).2.2)
theorem GPx.bl (h : GPx F w gb mb S bs next) {k : Nat} (hk : Bl gb mb S bs k) : F k := by
  rcases hk with rfl | rfl | ⟨i, hi, rfl | rfl | rfl⟩
  · exact h.fh
  · exact h.fm
  · exact (h.fe i hi).1
  · exact (h.fe i hi).2.1
  · exact (h.fe i hi).2.2
theorem GPx.exact (h : GPx F w gb mb S bs next) : GPx (Bl gb mb S bs) w gb mb S bs next :=
  ⟨h.hd, h.all, h.each, h.num, .inl rfl, .inr (.inl rfl), fun i hi => ⟨.inr (.inr ⟨i, hi, .inl rfl⟩), .inr (.inr ⟨i, hi, .inr (.inl rfl)⟩), .inr (.inr ⟨i, hi, .inr (.inr rfl)⟩)⟩, fun b hb => h.flt b (h.bl hb), h.sep, h.sepa, h.sepm⟩
theorem GPx.keptD {Sx : Nat → Prop} {B : Nat} (h : GPx (Bl gb mb S bs) w gb mb S bs next) (hk : KeepD Sx none B w w') (hs : ∀ k, Bl gb mb S bs k → ¬ Sx k) : GPx (Bl gb mb S bs) w' gb mb S bs next := by
  refine h.keep hk.size fun b hb => ?_
  have hsb := hs b hb
  rcases hb with rfl | rfl | ⟨i, hi, rfl | rfl | rfl⟩
  · exact keepD_bk hk h.hd hsb
  · obtain ⟨l, hm, _⟩ := h.all
    exact keepD_imap hk hm hsb
  · exact keepD_bk hk (h.each i hi).cells hsb
  · obtain ⟨_, hm, _⟩ := (h.each i hi).ps
    exact keepD_imap hk hm hsb
  · obtain ⟨_, hm, _⟩ := (h.each i hi).ah
    exact keepD_imap hk hm hsb
end
theorem above_any (gb : Nat) (n : Int) (w : World) : Calls Try.prog 33 #[.pointer (some ⟨gb, 0, none⟩), .int .i64 n] w fun e w' => e = .returned (.func (.func 53) #[] #[.pointer (some ⟨w.heap.size, 0, none⟩), .pointer (some ⟨w.heap.size + 1, 0, none⟩)]) ∧ w' = (w.alloc (.cells #[.pointer (some ⟨gb, 0, none⟩)] 23)).alloc (.cells #[.int .i64 n] 3) := by
  go_enter Try.func33, Try.ntmps33
  go_wp2
  go_ret
  exact ⟨rfl, rfl⟩

/-- What has come when the keys of 'l' that are not in 'left' have had their turn. -/
def Came (S : List G) (ks left : List Int) (pre : List (AhT S)) : Prop := ∀ y, y ∈ pre.map (numA S) ↔ ∃ a, a ∈ ks ∧ a ∉ left ∧ (y = a ∨ Rch S a y)

theorem SeqO.wide {α : Type} {m m' : Nat} {P : Program} {g : Nat} {lb : Array Value} {encs : α → Array Value} {Kp : World → World → Prop} {S : List α → Prop} {w : World} (h : SeqO Fence.wide m P g lb encs Kp S w) : SeqO Fence.wide m' P g lb encs Kp S w :=
  fun l J Jx W hW hJ hJx hY h0 => callsIn_wide.2 (callsIn_wide.1 (h l J Jx W hW hJ hJx (fun pre x W1 h1 h2 => yieldAt_any rfl _ (hY pre x W1 h1 h2)) h0))
theorem yieldRound {n m : Nat} {P : Program} {l l2 : Nat} {f : FuncId} {tmps : Array Value} {assign body : Code} {w : World} {R : Ending → World → Prop} (h : RoundIn Fence.wide n P l f tmps assign body w R) : RoundIn (Fence.wide.inRound l2) m P l f tmps assign body w R :=
  ⟨h.1, fun c cs _ => h.2 c cs (fun d h => by cases h)⟩
theorem fr_grown {r : Nat} {w w' : World} (h : Fr (· = r) w w') : w.grownBy w' (some r) := ⟨h.os, h.tape, h.output, h.size, fun k hk hne => h.block k hk (fun e => hne (by rw [e]))⟩
theorem came_next {S : List G} {ks : List Int} {l1 l2 : List Int} {a : Int} {pre xs : List (AhT S)} {x : AhT S} (h : Came S ks (l1 ++ a :: l2) pre) (hn : (l1 ++ a :: l2).Nodup) (ha : a ∈ ks) (hx : numA S x = a) (hxs : ReachS S a xs) : Came S ks (l1 ++ l2) (pre ++ [x] ++ xs) := fun y => by
  have hna : a ∉ l1 ++ l2 := by
    rw [List.nodup_append, List.nodup_cons] at hn
    obtain ⟨_, ⟨h1, _⟩, h2⟩ := hn
    intro hm
    rcases List.mem_append.1 hm with h3 | h3
    · exact h2 a h3 a (by simp) rfl
    · exact h1 h3
  rw [List.map_append, List.map_append, List.mem_append, List.mem_append, h y, hxs y]
  simp only [List.map_cons, List.map_nil, List.mem_singleton, hx]
  constructor
  · rintro ((⟨b, h1, h2, h3⟩ | rfl) | h1)
    · exact ⟨b, h1, fun hm => h2 (by
        rcases List.mem_append.1 hm with h4 | h4
        · exact List.mem_append.2 (.inl h4)
        · exact List.mem_append.2 (.inr (by simp [h4]))), h3⟩
    · exact ⟨_, ha, hna, .inl rfl⟩
    · exact ⟨a, ha, hna, .inr h1⟩
  · rintro ⟨b, h1, h2, h3⟩
    by_cases e : b = a
    · subst e
      rcases h3 with rfl | h3
      · exact .inl (.inr rfl)
      · exact .inr h3
    · refine .inl (.inl ⟨b, h1, fun hm => h2 ?_, h3⟩)
      rcases List.mem_append.1 hm with h4 | h4
      · exact List.mem_append.2 (.inl h4)
      · rcases List.mem_cons.1 h4 with h5 | h5
        · exact absurd h5 e
        · exact List.mem_append.2 (.inr h5)
theorem irng_nodup {w : World} {b r : Nat} {l left : List (Int × Value)} (h : IRng w b r l left) : (left.map (·.1)).Nodup := by
  obtain ⟨es, clock, since, seen, c0, hb, hr, _, _, _, _, hl, hes⟩ := h.it
  have hsub : (left.map fun p => (Value.int .i64 p.1, p.2)).Sublist (l.map fun p => (Value.int .i64 p.1, p.2)) := by
    rw [← hl, ← hes]
    refine List.Sublist.map _ ?_
    simp only [leftOf, Array.toList_filter]
    exact List.filter_sublist
  have h2 := (hsub.map (·.1))
  rw [List.map_map, List.map_map] at h2
  have h3 : (l.map ((fun x => x.1) ∘ fun (p : Int × Value) => (Value.int .i64 p.1, p.2))).Nodup := by
    have : (l.map ((fun x => x.1) ∘ fun (p : Int × Value) => (Value.int .i64 p.1, p.2))) = (l.map (·.1)).map fun x => Value.int .i64 x := by simp [Function.comp_def]
    rw [this]
    refine List.Pairwise.map _ (fun a b hab e => hab (by cases e; rfl)) h.map.nodup
  have h4 := h3.sublist h2
  have e4 : (left.map ((fun x => x.1) ∘ fun (p : Int × Value) => (Value.int .i64 p.1, p.2))) = (left.map (·.1)).map fun x => Value.int .i64 x := by simp [Function.comp_def]
  rw [e4] at h4
  rw [List.nodup_iff_pairwise_ne] at h4 ⊢
  exact (List.pairwise_map.1 h4).imp fun hab e => hab (by rw [e])

set_option maxRecDepth 100000 in
set_option maxHeartbeats 4000000 in
theorem above_O (S : List G) (rk : Int → Nat) (hrk : ∀ n a, a ∈ ahOf S n → (∃ k, posG S a = some k ∧ (nthG S k).st = 4) ∧ rk a < rk n) (hl : S.length ≤ 1000) (gb mb : Nat) (bs : Nat → B3) (next : Int) (Sx : Nat → Prop) (hBS : ∀ k, Bl gb mb S bs k → ¬ Sx k) :
    ∀ (d : Nat) (n : Int), rk n < d → ∀ (b1 b2 : Nat) (w : World), GPx (Bl gb mb S bs) w gb mb S bs next → (∀ k, Sx k → k < w.heap.size) → w.cell? ⟨b1, 0, none⟩ = some (.pointer (some ⟨gb, 0, none⟩)) → w.cell? ⟨b2, 0, none⟩ = some (.int .i64 n) → ¬ Sx b1 → ¬ Sx b2 →
      SeqO Fence.wide 8 Try.prog 53 #[.pointer (some ⟨b1, 0, none⟩), .pointer (some ⟨b2, 0, none⟩)] (encA S) (KeepD Sx none 0) (ReachS S n) w := by
  intro d
  induction d with
  | zero => intro n h; omega
  | succ d ih =>
    intro n hn b1 b2 w HX0 hSw0 c10 c20 hs1 hs2 l J Jx W hW hJ hJx hY h0
    have HX := Lib.hid (HX0.below hW)
    have c1 := keep_cell c10 hW
    have c2 := keep_cell c20 hW
    have HSw : Hid (∀ k, Sx k → k < W.heap.size) := fun k hk => Nat.lt_of_lt_of_le (hSw0 k hk) hW.size
    have HS1 := Lib.hid hs1
    have HS2 := Lib.hid hs2
    have HY := Lib.hid hY
    have HJ := Lib.hid hJ
    have HJX := Lib.hid hJx
    have H0 := Lib.hid h0
    have HRK := Lib.hid hrk
    have HN := Lib.hid hn
    have IH := Lib.hid ih
    clear HX0 hSw0 c10 c20 hs1 hs2 hW hJ hJx hY h0 hrk hn ih
    change CallsIn _ _ _ _ #[.func (.yield l) #[] #[], .pointer (some ⟨b1, 0, none⟩), .pointer (some ⟨b2, 0, none⟩)] _ _
    have HXa := Lib.hid (HX.out.below (below_al W (.cells #[.func (.yield l) #[] #[]] 77)))
    have c1a := keep_cell c1 (below_al W (.cells #[.func (.yield l) #[] #[]] 77))
    have hf1 : Fence.wide.fn 36 := trivial
    have hf2 : Fence.wide.fn 33 := trivial
    have c2a := keep_cell c2 (below_al W (.cells #[.func (.yield l) #[] #[]] 77))
    cases hp : posG S n with
    | none =>
      have HV : Hid (findV S bs n = .tuple #[.pointer none, .int .i64 5]) := by show _ = _; rw [findV, hp]
      have HF := Lib.hid (callsIn_wide (n := 8 - 1) |>.2 (find_any _ _ gb mb S bs next HXa.out n))
      rw [HV.out] at HF
      have HR : Hid (ReachS S n []) := fun y => by
        have ha : ahOf S n = [] := by rw [ahOf, hp]
        constructor
        · intro h; simp at h
        · intro hr
          rcases Rch.iff.1 hr with h1 | ⟨a, h1, _⟩ <;> rw [ha] at h1 <;> simp at h1
      clear hp
      refine callsIn_of_wp_marks Try.func53 rfl trivial ?_ rfl
      simp only [Try.ntmps53, List.size_toArray, List.length_cons, List.length_nil, Nat.reduceAdd, Nat.reduceSub, Array.replicate_succ, Array.replicate_zero, List.push_toArray, List.append_toArray, List.nil_append, List.cons_append]
      gi_wp2_with (gi_at_call 36; (with_reducible refine HF.out.mono ?_); rintro e w2 ⟨rfl, hw⟩; subst w2)
      exact ⟨_, results_none rfl _ _ _, ⟨_, rfl⟩, by simp, .inl ⟨[], HR.out, HJ.out.alloc _ H0.out⟩⟩
    | some i =>
      have hi := (posG_lt hp).1
      have HV : Hid (findV S bs n = .tuple #[.pointer (some ⟨(bs i).1, 0, none⟩), .int .i64 0]) := by show _ = _; rw [findV, hp]
      have HF := Lib.hid (callsIn_wide (n := 8 - 1) |>.2 (find_any _ _ gb mb S bs next HXa.out n))
      rw [HV.out] at HF
      have c3 := (HXa.out.each i hi).cells.cell 2 (by simp)
      simp only [List.getElem_cons_succ, List.getElem_cons_zero] at c3
      obtain ⟨ks, him, hks⟩ := (HXa.out.each i hi).ah
      have HIM := Lib.hid him
      have HAH : Hid (∀ x, x ∈ ks ↔ x ∈ ahOf S n) := fun x => by rw [hks x, ahOf, hp]
      have HBA : Hid (¬ Sx (bs i).2.2) := hBS _ (.inr (.inr ⟨i, hi, .inr (.inr rfl)⟩))
      clear hp hi him hks
      generalize (bs i).2.2 = ab at *
      generalize (bs i).1 = ob at *
      refine callsIn_of_wp_marks Try.func53 rfl trivial ?_ rfl
      simp only [Try.ntmps53, List.size_toArray, List.length_cons, List.length_nil, Nat.reduceAdd, Nat.reduceSub, Array.replicate_succ, Array.replicate_zero, List.push_toArray, List.append_toArray, List.nil_append, List.cons_append]
      gi_wp2_with (first
        | (gi_at_call 36; (with_reducible refine HF.out.mono ?_); rintro e w2 ⟨rfl, hw⟩; subst w2)
        | (gi_at_range; refine wpListIn_range_i rfl _ _ rfl Try.underlying52 rfl HIM.out ?_; intro w0 hrg hB0 hlt0; have HRG := Lib.hid hrg; have HB0 := Lib.hid hB0; clear hrg hB0))
      have hsa : (W.alloc (.cells #[.func (.yield l) #[] #[]] 77)).heap.size = W.heap.size + 1 := by simp
      have HYC : Hid ((W.alloc (.cells #[.func (.yield l) #[] #[]] 77)).cell? ⟨W.heap.size, 0, none⟩ = some (.func (.yield l) #[] #[])) := new_cell W _ _ 0 _ rfl
      have HJa : Hid (J [] (W.alloc (.cells #[.func (.yield l) #[] #[]] 77))) := HJ.out.alloc _ H0.out
      have HC1 := Lib.hid c1a
      clear HF HIM H0 c1 c2 c3 c2a c1a HX
      generalize (W.alloc (.cells #[.func (.yield l) #[] #[]] 77)) = Wa at *
      have HKa : Hid (KeepD Sx none 0 Wa w0) := KeepD.of_below (Nat.zero_le _) (fun b e => by cases e) HB0.out
      have HJ0 : Hid (J [] w0) := HJ.out _ _ _ none HJa.out ⟨HB0.out.os, HB0.out.tape, HB0.out.output, HB0.out.size, fun k hk _ => HB0.out.block k hk⟩ (fun r e => by cases e)
      rw [hsa] at hlt0 HRG
      have hsW : ¬ Sx W.heap.size := fun h => by have := HSw.out _ h; omega
      have HSO : Hid (¬ Sx (W.heap.size + 1)) := fun h => by have := HSw.out _ h; omega
      refine wpIn_loop (fun a' wr => ∃ (pre : List (AhT S)) (left : List (Int × Value)) (ds : List Nat) (u6 u7 u21 u22 u23 u24 u25 u26 u27 u28 u29 u30 u31 u32 u33 u34 u35 u36 : Value), IRng wr ab (W.heap.size + 1) (seenL ks) left ∧ J pre wr ∧ Came S ks (left.map (·.1)) pre ∧ KeepD Sx none 0 Wa wr ∧ W.heap.size + 2 ≤ wr.heap.size ∧ Marks ds wr ∧ (∀ E ∈ ds, W.heap.size ≤ E) ∧ a' = { tmps := #[.func (.yield l) #[] #[], .pointer (some ⟨b1, 0, none⟩), .pointer (some ⟨b2, 0, none⟩), .pointer (some ⟨W.heap.size, 0, none⟩), .pointer (some ⟨ob, 0, none⟩), .int .i64 0, u6, u7, .tuple #[.pointer (some ⟨ob, 0, none⟩), .int .i64 0], .pointer (some ⟨gb, 0, none⟩), .int .i64 n, .tuple #[.pointer (some ⟨ob, 0, none⟩), .int .i64 0], .pointer (some ⟨ob, 0, none⟩), .int .i64 0, .int .i64 0, .bool false, .pointer (some ⟨ob, 0, none⟩), .pointer (some ⟨ob, 0, none⟩), .pointer (some ⟨ob, 2, none⟩), .map (some ab), .pointer (some ⟨W.heap.size + 1, 0, none⟩), u21, u22, u23, u24, u25, u26, u27, u28, u29, u30, u31, u32, u33, u34, u35, u36], defers := collected ds }) (fun _ wr => wr.rangeLeft ab (W.heap.size + 1)) ?start ?round
      case start =>
        refine ⟨[], seenL ks, [], undef, undef, undef, undef, undef, undef, undef, undef, undef, undef, undef, undef, undef, undef, undef, undef, undef, undef, HRG.out, HJ0.out, fun y => ⟨fun h => by simp at h, fun ⟨a, h1, h2, _⟩ => absurd (by simpa [seenL, Function.comp_def] using h1) h2⟩, HKa.out, by omega, Marks.nil, by simp, ?_⟩
        simp only [hsa]
        rfl
      case round =>
        rintro a' wr ⟨pre, left, ds, u6, u7, u21, u22, u23, u24, u25, u26, u27, u28, u29, u30, u31, u32, u33, u34, u35, u36, hR, hJ1, hC, hKD, hsz, hM, hds, rfl⟩
        have HR := Lib.hid hR
        have HJ1 := Lib.hid hJ1
        have HC := Lib.hid hC
        have HKD := Lib.hid hKD
        have HM := Lib.hid hM
        have HDS := Lib.hid hds
        have HMEAS : Hid (wr.rangeLeft ab (W.heap.size + 1) = left.length) := hR.left_eq
        clear hR hJ1 hC hKD hM hds
        gi_wp2_with (gi_at_next; refine wpListIn_next_i rfl _ rfl rfl HR.out ?_ ?_)
        · intro hnil
          subst hnil
          gi_wp2
          have HRN : Hid (ReachS S n pre) := fun y => by
            rw [HC.out y, Rch.iff]
            constructor
            · rintro ⟨a, h1, _, rfl | h3⟩
              · exact .inl ((HAH.out _).1 h1)
              · exact .inr ⟨a, (HAH.out _).1 h1, h3⟩
            · rintro (h1 | ⟨a, h1, h2⟩)
              · exact ⟨y, (HAH.out _).2 h1, by simp, .inl rfl⟩
              · exact ⟨a, (HAH.out _).2 h1, by simp, .inr h2⟩
          exact leaves_own (base := W.heap.size) HJ.out ds wr HM.out HDS.out HJ1.out (fun w' hs hi => ⟨_, results_none rfl _ _ _, ⟨_, rfl⟩, by omega, .inl ⟨pre, HRN.out, hi⟩⟩)
        · intro l1 pk pv l2 w2 e hr hf hs hen
          have hab : (pk, pv) ∈ seenL ks := HR.out.sub _ (by rw [e]; simp)
          have hak : pk ∈ ks := by
            obtain ⟨x, hx, ex⟩ := List.mem_map.1 hab
            cases ex
            exact hx
          obtain ⟨⟨k, hpk, _⟩, hrk2⟩ := HRK.out n pk ((HAH.out pk).1 hak)
          have hkl := (posG_lt hpk).1
          have hkn := (posG_lt hpk).2.1
          have hg0 := fr_grown hf
          have HJ2 : Hid (J pre w2) := HJ.out _ _ _ _ HJ1.out hg0 (fun r' e' => by
            cases e'
            obtain ⟨es, clock, since, seen, c0, _, hr', _⟩ := HR.out.it
            exact ⟨by omega, _, hr', rfl⟩)
          have HKD2 : Hid (KeepD Sx none 0 Wa w2) := ownFrom_keepD (B' := Wa.heap.size) (Nat.le_refl _) () _ _ _ HKD.out hg0 (fun r' e' => by
            cases e'
            obtain ⟨es, clock, since, seen, c0, _, hr', _⟩ := HR.out.it
            exact ⟨by omega, _, hr', rfl⟩)
          have HM2 : Hid (Marks ds w2) := ⟨HM.out.1, fun D hD => (hf.block D (Array.getElem?_eq_some_iff.1 (HM.out.2 D hD)).1 (fun e' => by
            have h1 := HM.out.2 D hD
            obtain ⟨es, clock, since, seen, c0, _, hr', _⟩ := HR.out.it
            rw [e', hr'] at h1
            cases h1)).trans (HM.out.2 D hD)⟩
          have HCN : Hid (∀ (x : AhT S) (xs : List (AhT S)), numA S x = pk → ReachS S pk xs → Came S ks ((l1 ++ l2).map (·.1)) (pre ++ [x] ++ xs)) := fun x xs hx hxs => by
            have hnd := irng_nodup HR.out
            have hc := HC.out
            rw [e, List.map_append, List.map_cons] at hc hnd
            rw [List.map_append]
            exact came_next hc hnd hak hx hxs
          have HR2 := Lib.hid hr
          have HLE : Hid ((l1 ++ l2).length < left.length) := by show _ < _; rw [e]; simp
          have hsz2 : W.heap.size + 2 ≤ w2.heap.size := by omega
          obtain ⟨x, hxv⟩ : ∃ x : AhT S, numA S x = pk := ⟨⟨k, hkl⟩, hkn⟩
          obtain ⟨fn, tmps, assign, body, hy, hRd⟩ := HY.out pre x w2 HJ2.out (by omega)
          have hen2 : encA S x = #[.int .i64 pk] := by rw [← hxv]; rfl
          rw [hen2] at hy
          have HX2 := Lib.hid hxv
          have HRK2 : Hid (rk pk < d) := by show _ < _; have := HN.out; omega
          have hyc : w2.cell? ⟨W.heap.size, 0, none⟩ = some (.func (.yield l) #[] #[]) := HKD2.out.cell HYC.out hsW
          clear e hr hf hs hg0 hab hak hpk hrk2 hkl hkn hen2 hxv HRK HC
          gi_wp2
          refine hRd.mono ?_
          rintro e W3 ⟨hkf3, ⟨rfl, hJ3, hk3⟩ | ⟨rfl, hJx3⟩⟩
          · have HKF3 := Lib.hid hkf3
            have HJ3 := Lib.hid hJ3
            have HK23 := Lib.hid hk3
            have HKD3 := Lib.hid (HKD2.out.trans hk3)
            have hb13 : W3.cell? ⟨b1, 0, none⟩ = some (.pointer (some ⟨gb, 0, none⟩)) := HKD3.out.cell HC1.out HS1.out
            clear hkf3 hJ3 hk3
            gi_wp2_with (gi_at_call 33; (with_reducible refine (callsIn_wide.2 (above_any gb pk W3)).mono ?_); rintro e w4 ⟨rfl, rfl⟩)
            obtain ⟨HB4, hd1, hd2, hs4⟩ : Hid (Below W3.heap.size W3 ((W3.alloc (.cells #[.pointer (some ⟨gb, 0, none⟩)] 23)).alloc (.cells #[.int .i64 pk] 3))) ∧ ((W3.alloc (.cells #[.pointer (some ⟨gb, 0, none⟩)] 23)).alloc (.cells #[.int .i64 pk] 3)).cell? ⟨W3.heap.size, 0, none⟩ = some (.pointer (some ⟨gb, 0, none⟩)) ∧ ((W3.alloc (.cells #[.pointer (some ⟨gb, 0, none⟩)] 23)).alloc (.cells #[.int .i64 pk] 3)).cell? ⟨W3.heap.size + 1, 0, none⟩ = some (.int .i64 pk) ∧ ((W3.alloc (.cells #[.pointer (some ⟨gb, 0, none⟩)] 23)).alloc (.cells #[.int .i64 pk] 3)).heap.size = W3.heap.size + 2 := by
              refine ⟨below_then (below_al _ _) (below_al _ _), keep_cell (new_cell W3 _ _ 0 _ rfl) (below_al _ _), ?_, by simp⟩
              have := new_cell (W3.alloc (.cells #[.pointer (some ⟨gb, 0, none⟩)] 23)) #[.int .i64 pk] 3 0 _ rfl
              rw [World.size_alloc] at this
              exact this
            have hs3 : w2.heap.size ≤ W3.heap.size := HK23.out.size
            have HK34 : Hid (KeepD Sx none 0 W3 ((W3.alloc (.cells #[.pointer (some ⟨gb, 0, none⟩)] 23)).alloc (.cells #[.int .i64 pk] 3))) := KeepD.of_below (Nat.zero_le _) (fun b e => by cases e) HB4.out
            have HJ4 : Hid (J (pre ++ [x]) ((W3.alloc (.cells #[.pointer (some ⟨gb, 0, none⟩)] 23)).alloc (.cells #[.int .i64 pk] 3))) := HJ.out.alloc _ (HJ.out.alloc _ HJ3.out)
            have HKF4 : Hid (KeepsFrom W.heap.size w2 ((W3.alloc (.cells #[.pointer (some ⟨gb, 0, none⟩)] 23)).alloc (.cells #[.int .i64 pk] 3))) := HKF3.out.trans (((KeepsOthers.alloc _ _).trans (KeepsOthers.alloc _ _)).from _)
            clear hb13 hyc hen
            generalize ((W3.alloc (.cells #[.pointer (some ⟨gb, 0, none⟩)] 23)).alloc (.cells #[.int .i64 pk] 3)) = w4 at *
            have HKD4 := Lib.hid (HKD3.out.trans HK34.out)
            have HK24 := Lib.hid (HK23.out.trans HK34.out)
            have hnew : ∀ k, W3.heap.size ≤ k → ¬ Sx k := fun k hk h => by have := HSw.out k h; omega
            refine wpIn_rangeFunc_O (F := Fence.wide) (n := 8) rfl (by omega) (gf := 53) (lb := #[.pointer (some ⟨W3.heap.size, 0, none⟩), .pointer (some ⟨W3.heap.size + 1, 0, none⟩)]) rfl trivial (enters_of Try.func53 (by kernel_rfl) rfl)
              (SeqO.wide (IH.out pk HRK2.out W3.heap.size (W3.heap.size + 1) w4 (HXa.out.keptD HKD4.out hBS) (fun k hk => by have := HSw.out k hk; omega) hd1 hd2 (hnew _ (Nat.le_refl _)) (hnew _ (by omega))))
              KeepD.trans (fun W l o o' h1 h2 h3 h4 => keepD_b (w := w4) (Nat.zero_le _) (fun b e => by cases e) W l o o' h1 h2 h3 h4) (Below.refl _ _) (fun _ => rfl)
              (fun q V => (J (pre ++ [x] ++ q) V ∧ KeepD Sx none 0 w4 V) ∧ KeepsFrom W.heap.size w4 V)
              (fun c q V => (c = .ret ∧ ∃ q', Jx q' V) ∧ KeepsFrom W.heap.size w4 V)
              (OwnFrom.and (OwnFrom.and (fun s X Y row h1 h2 h3 => HJ.out _ X Y row h1 h2 (fun r e => ⟨by have := (h3 r e).1; omega, (h3 r e).2⟩)) (ownFrom_keepD (Nat.le_refl _))) (ownFrom_keepsFrom (Nat.le_refl _)))
              (fun c => OwnFrom.and (fun s X Y row h1 h2 h3 => ⟨h1.1, h1.2.choose, HJX.out _ X Y row h1.2.choose_spec h2 (fun r e => ⟨by have := (h3 r e).1; omega, (h3 r e).2⟩)⟩) (ownFrom_keepsFrom (Nat.le_refl _)))
              ⟨⟨by rw [List.append_nil]; exact HJ4.out, KeepD.refl (Nat.zero_le _)⟩, KeepsFrom.refl _ _⟩
              (fun y => { tmps := #[.func (.yield l) #[] #[], .pointer (some ⟨b1, 0, none⟩), .pointer (some ⟨b2, 0, none⟩), .pointer (some ⟨W.heap.size, 0, none⟩), .pointer (some ⟨ob, 0, none⟩), .int .i64 0, .int .i64 pk, .int .i64 (nthG S y.val).n, .tuple #[.pointer (some ⟨ob, 0, none⟩), .int .i64 0], .pointer (some ⟨gb, 0, none⟩), .int .i64 n, .tuple #[.pointer (some ⟨ob, 0, none⟩), .int .i64 0], .pointer (some ⟨ob, 0, none⟩), .int .i64 0, .int .i64 0, .bool false, .pointer (some ⟨ob, 0, none⟩), .pointer (some ⟨ob, 0, none⟩), .pointer (some ⟨ob, 2, none⟩), .map (some ab), .pointer (some ⟨W.heap.size + 1, 0, none⟩), .tuple #[.bool true, .int .i64 pk, pv], .bool true, .tuple #[.int .i64 pk, pv], .int .i64 pk, .func (.yield l) #[] #[], .int .i64 pk, .bool true, .bool false, .pointer (some ⟨gb, 0, none⟩), .int .i64 pk, .func (.func 53) #[] #[.pointer (some ⟨W3.heap.size, 0, none⟩), .pointer (some ⟨W3.heap.size + 1, 0, none⟩)], .int .i64 (nthG S y.val).n, u33, u34, u35, u36], defers := [] }) ?assign ?body ?done ?stop
            case assign =>
              intro l2 y V K hK
              simp only [encA]
              gi_wp2
              exact hK
            case body =>
              rintro l2 q y V hV ⟨⟨hJq, hKq⟩, hKFq⟩
              obtain ⟨fn2, tmps2, assign2, body2, hy2, hRd2⟩ := HY.out (pre ++ [x] ++ q) y V hJq (by omega)
              have hen2 : encA S y = #[.int .i64 (nthG S y.val).n] := rfl
              rw [hen2] at hy2
              have hyc2 : V.cell? ⟨W.heap.size, 0, none⟩ = some (.func (.yield l) #[] #[]) := (HKD4.out.trans hKq).cell HYC.out hsW
              have HKQ := Lib.hid hKFq
              have HAS : Hid (pre ++ [x] ++ q ++ [y] = pre ++ [x] ++ (q ++ [y])) := by show _ = _; rw [List.append_assoc]
              have hup : ∀ {A B : World}, KeepsFrom W.heap.size A B → KeepsFrom w4.heap.size A B := fun h => ⟨h.size, fun k o hk => h.same k o (by omega)⟩
              have HUP : Hid (∀ {A B : World}, KeepsFrom W.heap.size A B → KeepsFrom w4.heap.size A B) := hup
              have HKK := Lib.hid hKq
              clear hJq hKFq hen2 hup hKq
              generalize (nthG S y.val).n = yn at *
              gi_wp2
              refine (yieldRound hRd2).mono ?_
              rintro e W5 ⟨hkf5, ⟨rfl, hJ5, hk5⟩ | ⟨rfl, hJx5⟩⟩
              · gi_wp2
                exact ⟨HUP.out hkf5, hk5, ⟨by rw [← HAS.out]; exact hJ5, HKK.out.trans hk5⟩, HKQ.out.trans hkf5⟩
              · gi_wp2
                exact ⟨HUP.out hkf5, ⟨rfl, _, hJx5⟩, HKQ.out.trans hkf5⟩
            case done =>
              rintro D xs V hD hxs ⟨⟨hJv, hKv⟩, hKFv⟩ hK
              have hK24v := HK24.out.trans hKv
              have hKFv' := HKF4.out.trans hKFv
              have hds : ∀ E ∈ ds, E < D := fun E hE => by have := (Array.getElem?_eq_some_iff.1 (HM2.out.2 E hE)).1; omega
              have hRv : IRng V ab (W.heap.size + 1) (seenL ks) (l1 ++ l2) := HR2.out.same (keepD_imap hK24v HR2.out.map HBA.out) (by
                obtain ⟨es, clock, since, seen, c0, _, hr', _⟩ := HR2.out.it
                rw [hr']
                exact hK24v.walk _ _ HSO.out hr' rfl)
              have hMv : Marks (D :: ds) V := (HM2.out.keep HDS.out hKFv').cons hK hds
              have hsv : w4.heap.size ≤ V.heap.size := hKv.size
              have HJV := Lib.hid hJv
              have HKV := Lib.hid (HKD4.out.trans hKv)
              clear hJv hKv hKFv hK hK24v hKFv'
              gi_wp2
              refine ⟨⟨pre ++ [x] ++ xs, l1 ++ l2, D :: ds, _, _, _, _, _, _, _, _, _, _, _, _, _, _, _, _, _, _, hRv, HJV.out, HCN.out x xs HX2.out hxs, HKV.out, by omega, hMv, fun E hE => ?_, rfl⟩, ?_⟩
              · rcases List.mem_cons.1 hE with rfl | hE
                · omega
                · exact HDS.out E hE
              · rw [hRv.left_eq, HMEAS.out]
                exact HLE.out
            case stop =>
              rintro D c q V hD ⟨⟨rfl, q', hJq⟩, hKFv⟩ hK
              have hKFv' := HKF4.out.trans hKFv
              have hds : ∀ E ∈ ds, E < D := fun E hE => by have := (Array.getElem?_eq_some_iff.1 (HM2.out.2 E hE)).1; omega
              have hMv : Marks (D :: ds) V := (HM2.out.keep HDS.out hKFv').cons hK hds
              have hsv : w4.heap.size ≤ V.heap.size := hKFv.size
              gi_wp2
              exact leaves_own (base := W.heap.size) HJX.out (D :: ds) V hMv (fun E hE => by
                rcases List.mem_cons.1 hE with rfl | hE
                · omega
                · exact HDS.out E hE) hJq (fun w' hs hi => ⟨_, results_none rfl _ _ _, ⟨_, rfl⟩, by omega, .inr ⟨_, hi⟩⟩)
          · have hs3 : w2.heap.size ≤ W3.heap.size := hkf3.size
            gi_wp2
            exact leaves_own (base := W.heap.size) HJX.out ds W3 (HM2.out.keep HDS.out hkf3) HDS.out hJx3 (fun w' hs hi => ⟨_, results_none rfl _ _ _, ⟨_, rfl⟩, by omega, .inr ⟨_, hi⟩⟩)
end Go.Proofs.Ytbflmgpcjfoifaa
