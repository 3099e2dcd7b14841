/- Walks of the reference's groups: Fork. Written by gen_gp11.py. -/
import Derived.Test.YtbflmgpcjfoifaaGp3
import Derived.Test.YtbflmgpcjfoifaaGpP
set_option linter.unusedSimpArgs false
set_option linter.unusedVariables false
namespace Go.Proofs.Ytbflmgpcjfoifaa
open Go.RowKit Go.Sel Go.Sel.Gp

theorem RowI.setg {F : Nat → Prop} {w : World} {q : Q3} {xs : List Int} (h : RowI F w q xs) {lb t : Nat} {cur : Array Value} {fr : Nat × Nat} (hb : w.heap[lb]? = some (.cells cur 76 fr)) (u : Value) : RowI F (w.setCell ⟨lb, t, none⟩ u) q xs :=
  h.keep (fun _ h => h) fun b cur' fr _ hb' => by
    refine Below.heap_setCell _ _ _ _ fun e => ?_
    simp only at e
    subst e
    rw [hb] at hb'
    injection hb' with hb'
    injection hb' with _ h3 _
    exact absurd h3 (by decide)
theorem RowI.below {F F' : Nat → Prop} {w w' : World} {q : Q3} {xs : List Int} (h : RowI F w q xs) (hB : Below w.heap.size w w') (hF : ∀ b, F b → F' b) : RowI F' w' q xs :=
  h.keep hF fun b cur fr _ hb => hB.block b (Array.getElem?_eq_some_iff.1 hb).1

/-- A fork under way: of its rows the first are its own. -/
structure FkI (F : Nat → Prop) (w wr : World) (fb : Nat) (lA : Option Addr) (m c : Nat) (S : List G) (ss : List (Q3 × Q3)) (next : Int) (k2 k3 : Nat) : Prop where
  hx : GRx (Plus F w wr) wr fb lA m c S ss next
  hf : w.heap.size ≤ fb
  hl : ∀ lb, lA = some ⟨lb, 0, none⟩ → w.heap.size ≤ lb
  r1 : ∀ j (h : j < ss.length), j < k2 → RowI (Plus (fun _ => False) w wr) wr ss[j].1 (nthG S j).ps
  r2 : ∀ j (h : j < ss.length), j < k3 → RowI (Plus (fun _ => False) w wr) wr ss[j].2 (nthG S j).ah
  hB : Below w.heap.size w wr
section
variable {F : Nat → Prop} {w wr : World} {fb : Nat} {lA : Option Addr} {m c : Nat} {S : List G} {ss : List (Q3 × Q3)} {next : Int} {k2 k3 : Nat}
theorem plus_mono {F : Nat → Prop} {w a b : World} (h : a.heap.size ≤ b.heap.size) : ∀ k, Plus F w a k → Plus F w b k := fun k hk => hk.imp id fun h' => ⟨h'.1, by omega⟩
theorem FkI.below (h : FkI F w wr fb lA m c S ss next k2 k3) {w' : World} (hB : Below wr.heap.size wr w') : FkI F w w' fb lA m c S ss next k2 k3 :=
  ⟨(h.hx.below hB).mono (plus_mono hB.size) (fun b hb => by
      rcases hb with hb | hb
      · exact Nat.lt_of_lt_of_le (h.hx.flt b (.inl hb)) hB.size
      · exact hb.2),
    h.hf, h.hl, fun j hj hk => (h.r1 j hj hk).below hB (plus_mono hB.size), fun j hj hk => (h.r2 j hj hk).below hB (plus_mono hB.size), below_then h.hB hB⟩
theorem FkI.set1 {k : Nat} (h : FkI F w wr fb lA m c S ss next k k3) {w' : World} (hB : Below wr.heap.size wr w') (hk : k < m) {lb : Nat} (hA : lA = some ⟨lb, 0, none⟩) {q' : Q3} (hq : RowI (Plus (fun _ => False) w w') w' q' (nthG S k).ps) :
    ∃ ss', FkI F w (w'.setCell ⟨lb, k * 4 + 2, none⟩ (sv q')) fb lA m c S ss' next (k + 1) k3 := by
  have h' := h.below hB
  obtain ⟨lb', p, q, e, hlF, hlt, hne, hs, _, _, _, _, _, h1, h2⟩ := h'.hx.get hk
  rw [hA] at e
  injection e with e; injection e with e; subst e
  have hS : S.set k (nthG S k) = S := by rw [nthG_get (by rw [h.hx.len]; exact hk), List.set_getElem_self]
  have hset := h'.hx.set hk (t := 2) (by omega) hA (nthG S k) (q', q) (sv q') (by simp [gv, List.getD_eq_getElem?_getD, hs]) (hq.keep (fun b hb => hb.elim False.elim .inr) fun _ _ _ _ _ => rfl) h2
  rw [hS] at hset
  have hmem : ∃ cur, w'.heap[lb]? = some (.cells cur 76 (0, 0)) := by
    rcases h'.hx.at_ with h0 | ⟨lb2, cur, e, _, hb, _⟩
    · omega
    · rw [hA] at e
      injection e with e; injection e with e; subst e
      exact ⟨cur, hb⟩
  obtain ⟨cur, hb⟩ := hmem
  have hsl := h.hx.slen
  have hk' : k < ss.length := by omega
  refine ⟨ss.set k (q', q), hset.mono (fun b hb => hb.imp id fun h => by simpa using h) (fun b hb => ?_), h.hf, h.hl, fun j hj hjk => ?_, fun j hj hjk => ?_, ?_⟩
  · rcases hb with hb | hb
    · simpa using h'.hx.flt b (.inl hb)
    · exact hb.2
  · have hj' : j < ss.length := by simpa using hj
    by_cases e : k = j
    · subst e
      simp only [List.getElem_set_self]
      exact (hq.setg hb _).keep (fun b hb => hb.imp id fun h => by simpa using h) fun _ _ _ _ _ => rfl
    · simp only [List.getElem_set_ne e]
      exact ((h'.r1 j hj' (by omega)).setg hb _).keep (fun b hb => hb.imp id fun h => by simpa using h) fun _ _ _ _ _ => rfl
  · have hj' : j < ss.length := by simpa using hj
    have hp : (ss.set k (q', q))[j].2 = ss[j].2 := by
      by_cases e : k = j
      · subst e
        simp only [List.getElem_set_self]
        rw [List.getElem?_eq_getElem hk'] at hs
        injection hs with hs
        rw [hs]
      · simp only [List.getElem_set_ne e]
    rw [hp]
    exact ((h'.r2 j hj' hjk).setg hb _).keep (fun b hb => hb.imp id fun h => by simpa using h) fun _ _ _ _ _ => rfl
  · exact h'.hB.setCell (h.hl lb hA) _
theorem FkI.set2 {k : Nat} (h : FkI F w wr fb lA m c S ss next k2 k) {w' : World} (hB : Below wr.heap.size wr w') (hk : k < m) {lb : Nat} (hA : lA = some ⟨lb, 0, none⟩) {q' : Q3} (hq : RowI (Plus (fun _ => False) w w') w' q' (nthG S k).ah) :
    ∃ ss', FkI F w (w'.setCell ⟨lb, k * 4 + 3, none⟩ (sv q')) fb lA m c S ss' next k2 (k + 1) := by
  have h' := h.below hB
  obtain ⟨lb', p, q, e, hlF, hlt, hne, hs, _, _, _, _, _, h1, h2⟩ := h'.hx.get hk
  rw [hA] at e
  injection e with e; injection e with e; subst e
  have hS : S.set k (nthG S k) = S := by rw [nthG_get (by rw [h.hx.len]; exact hk), List.set_getElem_self]
  have hset := h'.hx.set hk (t := 3) (by omega) hA (nthG S k) (p, q') (sv q') (by simp [gv, List.getD_eq_getElem?_getD, hs]) h1 (hq.keep (fun b hb => hb.elim False.elim .inr) fun _ _ _ _ _ => rfl)
  rw [hS] at hset
  have hmem : ∃ cur, w'.heap[lb]? = some (.cells cur 76 (0, 0)) := by
    rcases h'.hx.at_ with h0 | ⟨lb2, cur, e, _, hb, _⟩
    · omega
    · rw [hA] at e
      injection e with e; injection e with e; subst e
      exact ⟨cur, hb⟩
  obtain ⟨cur, hb⟩ := hmem
  have hsl := h.hx.slen
  have hk' : k < ss.length := by omega
  refine ⟨ss.set k (p, q'), hset.mono (fun b hb => hb.imp id fun h => by simpa using h) (fun b hb => ?_), h.hf, h.hl, fun j hj hjk => ?_, fun j hj hjk => ?_, ?_⟩
  · rcases hb with hb | hb
    · simpa using h'.hx.flt b (.inl hb)
    · exact hb.2
  · have hj' : j < ss.length := by simpa using hj
    have hp : (ss.set k (p, q'))[j].1 = ss[j].1 := by
      by_cases e : k = j
      · subst e
        simp only [List.getElem_set_self]
        rw [List.getElem?_eq_getElem hk'] at hs
        injection hs with hs
        rw [hs]
      · simp only [List.getElem_set_ne e]
    rw [hp]
    exact ((h'.r1 j hj' hjk).setg hb _).keep (fun b hb => hb.imp id fun h => by simpa using h) fun _ _ _ _ _ => rfl
  · have hj' : j < ss.length := by simpa using hj
    by_cases e : k = j
    · subst e
      simp only [List.getElem_set_self]
      exact (hq.setg hb _).keep (fun b hb => hb.imp id fun h => by simpa using h) fun _ _ _ _ _ => rfl
    · simp only [List.getElem_set_ne e]
      exact ((h'.r2 j hj' (by omega)).setg hb _).keep (fun b hb => hb.imp id fun h => by simpa using h) fun _ _ _ _ _ => rfl
  · exact h'.hB.setCell (h.hl lb hA) _
theorem FkI.start {rb : Nat} {lA0 : Option Addr} {c0 : Nat} {w2 : World} (h : GRx F w rb lA0 m c0 S ss next) (hB : Below w.heap.size w w2) {v : Value} (ho : w2.ownsRow w.heap.size 76 4 v m (gvs S ss)) :
    ∃ A c', v = .slice A m c' ∧ FkI F w (w2.alloc (.cells #[v, .int .i64 next] 74)) w2.heap.size A m c' S ss next 0 0 := by
  obtain ⟨A, c', rfl, hl, hrd⟩ := rd_ownM (by omega) ho
  have h2 := h.below hB
  have hal := below_al w2 (.cells #[.slice A m c', .int .i64 next] 74)
  refine ⟨A, c', rfl, ⟨?_, hB.size, fun lb e => ?_, fun j _ hk => by omega, fun j _ hk => by omega, below_then hB hal⟩⟩
  · refine ⟨blk11 w2 _, .inr ⟨hB.size, by simp⟩, fun b hb => ?_, h.len, h.slen, hrd.le, hrd.cap, ?_, fun j hj => ?_⟩
    · rcases hb with hb | hb
      · have := h2.flt b hb; simp; omega
      · exact hb.2
    · rcases ho.2 with ⟨_, h0⟩ | ⟨g, cap, cur, e, hb, hh, hn, hc, hsz, ht⟩
      · exact .inl h0
      · right
        injection e with e1 e2 e3
        subst e1
        have hg := (Array.getElem?_eq_some_iff.1 hh).1
        refine ⟨g, cur, rfl, .inr ⟨hb, by simp; omega⟩, (hal.block g hg).trans hh, fun j hj => ?_⟩
        have h1 : (cur.toList.take (m * 4))[j]? = (gvs S ss)[j]? := by rw [ht]
        rw [List.getElem?_take_of_lt hj, Array.getElem?_toList] at h1
        exact h1
    · exact ⟨(h2.rows j hj).1.below hal fun _ h => .inl h, (h2.rows j hj).2.below hal fun _ h => .inl h⟩
  · subst e
    rcases ho.2 with ⟨e, _⟩ | ⟨g, cap, cur, e, hb, _⟩
    · cases e
    · injection e with e1 e2 e3
      injection e1 with e1; injection e1 with e1; subst e1
      exact hb
theorem FkI.done (h : FkI F w wr fb lA m c S ss next m m) : GRx (Plus (fun _ => False) w wr) wr fb lA m c S ss next := by
  have hx := h.hx
  have hs := hx.slen
  refine ⟨hx.hd, .inr ⟨h.hf, hx.lt⟩, fun b hb => hb.elim False.elim (·.2), hx.len, hx.slen, hx.le, hx.cap, ?_, fun j hj => ⟨h.r1 j hj (by omega), h.r2 j hj (by omega)⟩⟩
  rcases hx.at_ with h0 | ⟨lb, cur, e, hf, hb, hc⟩
  · exact .inl h0
  · exact .inr ⟨lb, cur, e, .inr ⟨h.hl lb e, (Array.getElem?_eq_some_iff.1 hb).1⟩, hb, hc⟩
end

set_option maxRecDepth 100000 in
set_option maxHeartbeats 8000000 in
theorem rFork_any (F : Nat → Prop) (w : World) (rb : Nat) (S : List G) (next : Int) (h : GR F w rb S next) (hs : S.length ≤ 1000000) (hp : ∀ j, j < S.length → (nthG S j).ps.length ≤ 1000000) (ha : ∀ j, j < S.length → (nthG S j).ah.length ≤ 1000000) :
    Calls Try.prog 28 #[.pointer (some ⟨rb, 0, none⟩)] w fun e w' => ∃ fb, e = .returned (.pointer (some ⟨fb, 0, none⟩)) ∧ GR (Plus (fun _ => False) w w') w' fb S next ∧ Below w.heap.size w w' := by
  obtain ⟨lA, m, c, ss, h⟩ := h
  have H := Lib.hid h
  have HL := Lib.hid h.len
  have HPB := Lib.hid hp
  have HAB := Lib.hid ha
  have hm : m ≤ 1000000 := by rw [← h.len]; exact hs
  have h0 := h.h0
  have h1 := h.h1
  have hrb := h.lt
  have l1 := h.le
  have l2 := h.cap
  clear hs hp ha h
  go_enter Try.func28, Try.ntmps28
  go_upto_region 3 with (fail)
  have HS0 : At (fun w' : World => w'.cell? ⟨rb, 0, none⟩ = some (.slice lA m c) ∧ w'.cell? ⟨rb, 1, none⟩ = some (.int .i64 next)) w.drew := ⟨h0, h1⟩
  have HD : Hid (GRx F w.drew rb lA m c S ss next) := H.out.below (Sel.below_drewN w 1)
  have HBD : Hid (Below w.heap.size w w.drew) := Sel.below_drewN w 1
  have hrb0 : rb < w.drew.heap.size := hrb
  clear h0 h1
  refine any_start HS0 [1, 2, 3, 4, 6, 7, 8, 9] (by kernel_rfl) ?_
  change wpAnyD _ _ _ _ _ _ 13 (Array.replicate 13 false) _ w.drew
  have HZ : Hid (w.drew.heap.size = w.heap.size) := rfl
  generalize w.drew = w0 at *
  refine any_take 1 rfl (by kernel_rfl) (fun _ _ d _ _ h => by cases d <;> exact h) (by kernel_rfl) HS0 (fun w9 h9 => by obtain ⟨s0, s1⟩ := h9; go_simp; first | done | rfl) (fun K hK => ?_); go_simp; refine hK _ ?_; clear hK K
  refine any_take 2 rfl (by kernel_rfl) (fun _ _ d _ _ h => by cases d <;> exact h) (by kernel_rfl) HS0 (fun w9 h9 => by obtain ⟨s0, s1⟩ := h9; go_simp; first | done | rfl) (fun K hK => ?_); go_simp; refine hK _ ?_; clear hK K
  refine any_take 3 rfl (by kernel_rfl) (fun _ _ d _ _ h => by cases d <;> exact h) (by kernel_rfl) HS0 (fun w9 h9 => by obtain ⟨s0, s1⟩ := h9; go_simp; first | done | rfl) (fun K hK => ?_); go_simp; refine hK _ ?_; clear hK K
  refine any_take 4 rfl (by kernel_rfl) (fun _ _ d _ _ h => by cases d <;> exact h) (by kernel_rfl) HS0 (fun w9 h9 => by obtain ⟨s0, s1⟩ := h9; go_simp; first | done | rfl) (fun K hK => ?_); go_simp; refine hK _ ?_; clear hK K
  refine any_take 6 rfl (by kernel_rfl) (fun _ _ d _ _ h => by cases d <;> exact h) (by kernel_rfl) HS0 (fun w9 h9 => by obtain ⟨s0, s1⟩ := h9; go_simp; first | done | rfl) (fun K hK => ?_); go_simp; refine hK _ ?_; clear hK K
  refine any_take 7 rfl (by kernel_rfl) (fun _ _ d _ _ h => by cases d <;> exact h) (by kernel_rfl) HS0 (fun w9 h9 => by obtain ⟨s0, s1⟩ := h9; go_simp; first | done | rfl) (fun K hK => ?_); go_simp; refine hK _ ?_; clear hK K
  refine any_take 8 rfl (by kernel_rfl) (fun _ _ d _ _ h => by cases d <;> exact h) (by kernel_rfl) HS0 (fun w9 h9 => by obtain ⟨s0, s1⟩ := h9; go_simp; first | done | rfl) (fun K hK => ?_); go_simp; refine hK _ ?_; clear hK K
  refine any_take 9 rfl (by kernel_rfl) (fun _ _ d _ _ h => by cases d <;> exact h) (by kernel_rfl) HS0 (fun w9 h9 => by obtain ⟨s0, s1⟩ := h9; go_simp; first | done | rfl) (fun K hK => ?_); go_simp; refine hK _ ?_; clear hK K
  have HRD : Hid (Rd w0 lA m c (gvs S ss)) := HD.out.rd
  have HGL : Hid ((gvs S ss).length = m * 4) := by show _ = _; rw [gvs_length (by have := HD.out.len; have := HD.out.slen; omega), HD.out.len]
  have HB0 : Hid (Below w0.heap.size w0 w0) := Below.refl _ _
  refine any_one 0 rfl (by kernel_rfl) (by kernel_rfl) (fun K hK => ?_)
  go_simp
  have HB1 : Hid (Below w0.heap.size w0 (w0.alloc (.cells #[] 76))) := HB0.out.alloc HB0.out.size _
  have HE1 : Hid ((w0.alloc (.cells #[] 76)).ownsRow w0.heap.size 76 4 (.slice (some ⟨w0.heap.size, 0, none⟩) 0 0) 0 []) := own_emptyN w0 76 _ _ HB0.out.size
  have hlt1 : w0.heap.size < (w0.alloc (.cells #[] 76)).heap.size := by simp
  generalize w0.alloc (.cells #[] 76) = W1 at *
  have HS1 : At (fun w' : World => w'.cell? ⟨rb, 0, none⟩ = some (.slice lA m c) ∧ w'.cell? ⟨rb, 1, none⟩ = some (.int .i64 next)) W1 := ⟨(HB1.out.cell (p := ⟨rb, 0, none⟩) hrb0).trans HS0.1, (HB1.out.cell (p := ⟨rb, 1, none⟩) hrb0).trans HS0.2⟩
  refine hK _ _ (fun _ => HS1) ?_
  clear hK K
  refine any_one 5 rfl (by kernel_rfl) (by kernel_rfl) (fun K hK => ?_)
  obtain ⟨v1, W2, hrun2, ho2, hg2, hat2⟩ := run_extendN (P := Try.prog) (w := W1) w0.heap.size 72 72 76 (.agg #[.int .i64 0, .int .u8 0, .slice none 0 0, .slice none 0 0]) 4 64 Try.underlying72 infoG rfl (by omega) _ 0 [] HE1.out lA m c (gvs S ss) (HRD.out.below HB1.out) HGL.out (one_gvs _ _) (by simp only [maxLen]; omega) (by omega) HB1.out.size
  rw [Nat.zero_add, List.nil_append] at ho2
  have HB2 : Hid (Below w0.heap.size w0 W2) := below_grown HB1.out hg2 HB1.out.size (own_row HE1.out)
  obtain ⟨A, cc, e, hk⟩ := FkI.start HD.out HB2.out ho2
  refine oper_append (.tmp 7) (.tmp 11) 72 (by kernel_rfl) _ _ _ (by kernel_rfl) (by kernel_rfl) hrun2 ?_
  clear hrun2 ho2 hg2 hat2
  subst e
  have HK := Lib.hid hk
  clear hk
  go_simp
  have HS2 : At (fun w' : World => w'.cell? ⟨rb, 0, none⟩ = some (.slice lA m c) ∧ w'.cell? ⟨rb, 1, none⟩ = some (.int .i64 next)) W2 := ⟨(HB2.out.cell (p := ⟨rb, 0, none⟩) hrb0).trans HS0.1, (HB2.out.cell (p := ⟨rb, 1, none⟩) hrb0).trans HS0.2⟩
  refine hK _ _ (fun _ => HS2) ?_
  clear hK K
  refine any_one 10 rfl (by kernel_rfl) (by kernel_rfl) (fun K hK => ?_); go_simp; refine hK _ _ (fun _ => HS2) ?_; clear hK K
  refine any_one 11 rfl (by kernel_rfl) (by kernel_rfl) (fun K hK => ?_)
  go_simp
  have HB3 : Hid (Below w0.heap.size w0 (W2.alloc (.cells #[.slice A m cc, .int .i64 next] 74))) := HB2.out.alloc HB2.out.size _
  generalize W2.heap.size = fb at *
  generalize W2.alloc (.cells #[.slice A m cc, .int .i64 next] 74) = W3 at *
  have HS3 : At (fun w' : World => w'.cell? ⟨rb, 0, none⟩ = some (.slice lA m c) ∧ w'.cell? ⟨rb, 1, none⟩ = some (.int .i64 next)) W3 := ⟨(HB3.out.cell (p := ⟨rb, 0, none⟩) hrb0).trans HS0.1, (HB3.out.cell (p := ⟨rb, 1, none⟩) hrb0).trans HS0.2⟩
  refine hK _ _ (fun _ => HS3) ?_
  clear hK K
  refine any_one 12 rfl (by kernel_rfl) (by kernel_rfl) (fun K hK => ?_); go_simp; refine hK _ _ (fun _ => HS3) ?_; clear hK K
  refine any_end (by kernel_rfl) ?_
  clear HS0 HS1 HS2 HS3 HB1 HB2 HB3 HE1 HB0 HRD HGL hlt1 l1 l2 H HD hrb0 hrb
  go_wp2
  go_loopw [4] (fun v wr => ∃ k : Nat, k ≤ m ∧ v = .int .i64 k ∧ Hid (∃ s, FkI F w0 wr fb A m cc S s next k k)) (fun v _ => m - (intOf v).toNat)
  case atStart => exact ⟨0, by omega, rfl, _, HK.out⟩
  case round =>
    obtain ⟨k, hk, rfl, HO⟩ := hrel
    obtain ⟨ss, hk1⟩ := HO
    clear HK
    have HK := Lib.hid hk1
    have h0 := hk1.hx.h0
    have l1 := hk1.hx.le
    have l2 := hk1.hx.cap
    clear hk1
    by_cases hlt : k < m
    · have hkS : k < S.length := by rw [HL.out]; exact hlt
      obtain ⟨lb, _, _, rfl, _⟩ := HK.out.hx.get hlt
      clear h0
      obtain ⟨lb2, pp, qq, e, _, hlb, _, _, _, _, c2, c3, hfz, hr2, hr3⟩ := HK.out.hx.get hlt
      injection e with e; injection e with e; subst e
      have h0 := HK.out.hx.h0
      have f2 := hfz (k * 4 + 2)
      obtain ⟨pa, pn, pc⟩ := pp
      have hpl := hr2.1
      have HRD := Lib.hid hr2.rd
      have hxb : (nthG S k).ps.length ≤ 1000000 := HPB.out k hkS
      simp only at hpl HRD
      subst hpl
      simp only [sv] at c2
      have hxs : Hid ((nthG S k).ps = (nthG S k).ps) := rfl
      clear hr2 hr3 hfz hxs c3
      generalize hxs : (nthG S k).ps = xs at c2 HRD hxb
      have HXS := Lib.hid hxs
      clear hxs
      go_upto_region 7 with (fail)
      have HS0 : At (fun w' : World => w'.cell? ⟨fb, 0, none⟩ = some (.slice (some ⟨lb, 0, none⟩) m cc) ∧ w'.cell? ⟨lb, k * 4 + 2, none⟩ = some (.slice pa xs.length pc)) wr.drew := ⟨h0, c2⟩
      have HK0 : Hid (FkI F w0 wr.drew fb (some ⟨lb, 0, none⟩) m cc S ss next k k) := HK.out.below (Sel.below_drewN wr 1)
      have HR0 : Hid (Rd wr.drew pa xs.length pc (iv .i64 xs)) := rd_drewN 1 HRD.out
      have hlb0 : lb < wr.drew.heap.size := hlb
      have hfb0 : fb < wr.drew.heap.size := HK.out.hx.lt
      have f0 : wr.drew.frozen? ⟨lb, k * 4 + 2, none⟩ = false := f2
      clear h0 c2 HRD hlb f2 HK
      refine any_start HS0 [0, 1, 2, 3, 4, 6, 7, 8, 9, 10, 11, 12, 13] (by kernel_rfl) ?_
      change wpAnyD _ _ _ _ _ _ 18 (Array.replicate 18 false) _ wr.drew
      generalize wr.drew = w9 at *
      refine any_take 0 rfl (by kernel_rfl) (fun _ _ d _ _ h => by cases d <;> exact h) (by kernel_rfl) HS0 (fun w9 h9 => by obtain ⟨s0, s1⟩ := h9; go_simp; first | done | rfl) (fun K hK => ?_); go_simp; refine hK _ ?_; clear hK K
      refine any_take 1 rfl (by kernel_rfl) (fun _ _ d _ _ h => by cases d <;> exact h) (by kernel_rfl) HS0 (fun w9 h9 => by obtain ⟨s0, s1⟩ := h9; go_simp; first | done | rfl) (fun K hK => ?_); go_simp; refine hK _ ?_; clear hK K
      refine any_take 2 rfl (by kernel_rfl) (fun _ _ d _ _ h => by cases d <;> exact h) (by kernel_rfl) HS0 (fun w9 h9 => by obtain ⟨s0, s1⟩ := h9; go_simp; first | done | rfl) (fun K hK => ?_); go_simp; refine hK _ ?_; clear hK K
      refine any_take 3 rfl (by kernel_rfl) (fun _ _ d _ _ h => by cases d <;> exact h) (by kernel_rfl) HS0 (fun w9 h9 => by obtain ⟨s0, s1⟩ := h9; go_simp; first | done | rfl) (fun K hK => ?_); go_simp; refine hK _ ?_; clear hK K
      refine any_take 4 rfl (by kernel_rfl) (fun _ _ d _ _ h => by cases d <;> exact h) (by kernel_rfl) HS0 (fun w9 h9 => by obtain ⟨s0, s1⟩ := h9; go_simp; first | done | rfl) (fun K hK => ?_); go_simp; refine hK _ ?_; clear hK K
      refine any_take 6 rfl (by kernel_rfl) (fun _ _ d _ _ h => by cases d <;> exact h) (by kernel_rfl) HS0 (fun w9 h9 => by obtain ⟨s0, s1⟩ := h9; go_simp; first | done | rfl) (fun K hK => ?_); go_simp; refine hK _ ?_; clear hK K
      refine any_take 7 rfl (by kernel_rfl) (fun _ _ d _ _ h => by cases d <;> exact h) (by kernel_rfl) HS0 (fun w9 h9 => by obtain ⟨s0, s1⟩ := h9; go_simp; first | done | rfl) (fun K hK => ?_); go_simp; refine hK _ ?_; clear hK K
      refine any_take 8 rfl (by kernel_rfl) (fun _ _ d _ _ h => by cases d <;> exact h) (by kernel_rfl) HS0 (fun w9 h9 => by obtain ⟨s0, s1⟩ := h9; go_simp; first | done | rfl) (fun K hK => ?_); go_simp; refine hK _ ?_; clear hK K
      refine any_take 9 rfl (by kernel_rfl) (fun _ _ d _ _ h => by cases d <;> exact h) (by kernel_rfl) HS0 (fun w9 h9 => by obtain ⟨s0, s1⟩ := h9; go_simp; first | done | rfl) (fun K hK => ?_); go_simp; refine hK _ ?_; clear hK K
      refine any_take 10 rfl (by kernel_rfl) (fun _ _ d _ _ h => by cases d <;> exact h) (by kernel_rfl) HS0 (fun w9 h9 => by obtain ⟨s0, s1⟩ := h9; go_simp; first | done | rfl) (fun K hK => ?_); go_simp; refine hK _ ?_; clear hK K
      refine any_take 11 rfl (by kernel_rfl) (fun _ _ d _ _ h => by cases d <;> exact h) (by kernel_rfl) HS0 (fun w9 h9 => by obtain ⟨s0, s1⟩ := h9; go_simp; first | done | rfl) (fun K hK => ?_); go_simp; refine hK _ ?_; clear hK K
      refine any_take 12 rfl (by kernel_rfl) (fun _ _ d _ _ h => by cases d <;> exact h) (by kernel_rfl) HS0 (fun w9 h9 => by obtain ⟨s0, s1⟩ := h9; go_simp; first | done | rfl) (fun K hK => ?_); go_simp; refine hK _ ?_; clear hK K
      refine any_take 13 rfl (by kernel_rfl) (fun _ _ d _ _ h => by cases d <;> exact h) (by kernel_rfl) HS0 (fun w9 h9 => by obtain ⟨s0, s1⟩ := h9; go_simp; first | done | rfl) (fun K hK => ?_); go_simp; refine hK _ ?_; clear hK K
      have HB0 : Hid (Below w9.heap.size w9 w9) := Below.refl _ _
      refine any_one 5 rfl (by kernel_rfl) (by kernel_rfl) (fun K hK => ?_)
      go_simp
      have HB1 : Hid (Below w9.heap.size w9 (w9.alloc (.cells #[] 3))) := HB0.out.alloc HB0.out.size _
      have HE1 : Hid ((w9.alloc (.cells #[] 3)).ownsRow w9.heap.size 3 1 (.slice (some ⟨w9.heap.size, 0, none⟩) 0 0) 0 []) := own_empty w9 3 _ HB0.out.size
      have hlt1 : w9.heap.size < (w9.alloc (.cells #[] 3)).heap.size := by simp
      generalize (w9.alloc (.cells #[] 3)) = W1 at *
      have HS1 : At (fun w' : World => w'.cell? ⟨fb, 0, none⟩ = some (.slice (some ⟨lb, 0, none⟩) m cc) ∧ w'.cell? ⟨lb, k * 4 + 2, none⟩ = some (.slice pa xs.length pc)) W1 := ⟨(HB1.out.cell (p := ⟨fb, 0, none⟩) hfb0).trans HS0.1, (HB1.out.cell (p := ⟨lb, k * 4 + 2, none⟩) hlb0).trans HS0.2⟩
      refine hK _ _ (fun _ => HS1) ?_
      clear hK K
      refine any_one 14 rfl (by kernel_rfl) (by kernel_rfl) (fun K hK => ?_)
      obtain ⟨v2, W2, hrun2, ho2, hg2, hat2⟩ := run_extend (P := Try.prog) (w := W1) w9.heap.size 28 28 3 (.int .i64 0) 8 Try.underlying28 infoI rfl _ 0 [] HE1.out pa xs.length pc (iv .i64 xs) (HR0.out.below HB1.out) (by simp) (one_iv _ _) (by simp only [maxLen]; omega) (by omega) HB1.out.size
      rw [Nat.zero_add, List.nil_append] at ho2
      have HB2 : Hid (Below w9.heap.size w9 W2) := below_grown HB1.out hg2 HB1.out.size (own_row HE1.out)
      have HV2 := Lib.hid ho2
      refine oper_append (.tmp 33) (.tmp 41) 28 (by kernel_rfl) _ _ _ (by kernel_rfl) (by kernel_rfl) hrun2 ?_
      clear hrun2 ho2 hg2 hat2
      go_simp
      have HS2 : At (fun w' : World => w'.cell? ⟨fb, 0, none⟩ = some (.slice (some ⟨lb, 0, none⟩) m cc) ∧ w'.cell? ⟨lb, k * 4 + 2, none⟩ = some (.slice pa xs.length pc)) W2 := ⟨(HB2.out.cell (p := ⟨fb, 0, none⟩) hfb0).trans HS0.1, (HB2.out.cell (p := ⟨lb, k * 4 + 2, none⟩) hlb0).trans HS0.2⟩
      refine hK _ _ (fun _ => HS2) ?_
      clear hK K
      refine any_one 15 rfl (by kernel_rfl) (by kernel_rfl) (fun K hK => ?_); go_simp; refine hK _ _ (fun _ => HS2) ?_; clear hK K
      refine any_one 16 rfl (by kernel_rfl) (by kernel_rfl) (fun K hK => ?_); go_simp; refine hK _ _ (fun _ => HS2) ?_; clear hK K
      obtain ⟨A5, c5, rfl, hq⟩ := RowI.made (F := fun _ => False) (w := w0) HV2.out HK0.out.hB.size
      obtain ⟨s5, hk5⟩ := HK0.out.set1 HB2.out hlt rfl (q' := (A5, xs.length, c5)) (by rw [HXS.out]; exact hq)
      have HK5 := Lib.hid hk5
      have f5 : W2.frozen? ⟨lb, k * 4 + 2, none⟩ = false := (HB2.out.frozen (p := ⟨lb, k * 4 + 2, none⟩) hlb0).trans f0
      have k3 := HS2.2
      clear hq hk5 HS0 HS1
      refine any_last 17 rfl (by kernel_rfl) (by kernel_rfl) (by kernel_rfl) (fun K hK => ?_)
      go_simp
      refine hK _ _ ?_
      clear hK K k3 f5 HS2
      refine any_end (by kernel_rfl) ?_
      simp only [sv] at HK5
      generalize W2.setCell ⟨lb, k * 4 + 2, none⟩ (.slice A5 xs.length c5) = W6 at *
      clear HK0 HR0 HB0 HB1 HB2 HE1 HV2 HXS hlb0 hfb0 f0 hlt1 hxb
      have HK := HK5
      clear HK5
      obtain ⟨lb2, pp, qq, e, _, hlb, _, _, _, _, c2, c3, hfz, hr2, hr3⟩ := HK.out.hx.get hlt
      injection e with e; injection e with e; subst e
      have h0 := HK.out.hx.h0
      have f2 := hfz (k * 4 + 3)
      obtain ⟨pa, pn, pc⟩ := qq
      have hpl := hr3.1
      have HRD := Lib.hid hr3.rd
      have hxb : (nthG S k).ah.length ≤ 1000000 := HAB.out k hkS
      simp only at hpl HRD
      subst hpl
      simp only [sv] at c3
      have hxs : Hid ((nthG S k).ah = (nthG S k).ah) := rfl
      clear hr2 hr3 hfz hxs c2
      generalize hxs : (nthG S k).ah = xs at c3 HRD hxb
      have HXS := Lib.hid hxs
      clear hxs
      go_upto_region 8 with (fail)
      have HS0 : At (fun w' : World => w'.cell? ⟨fb, 0, none⟩ = some (.slice (some ⟨lb, 0, none⟩) m cc) ∧ w'.cell? ⟨lb, k * 4 + 3, none⟩ = some (.slice pa xs.length pc)) W6.drew := ⟨h0, c3⟩
      have HK0 : Hid (FkI F w0 W6.drew fb (some ⟨lb, 0, none⟩) m cc S s5 next (k + 1) k) := HK.out.below (Sel.below_drewN W6 1)
      have HR0 : Hid (Rd W6.drew pa xs.length pc (iv .i64 xs)) := rd_drewN 1 HRD.out
      have hlb0 : lb < W6.drew.heap.size := hlb
      have hfb0 : fb < W6.drew.heap.size := HK.out.hx.lt
      have f0 : W6.drew.frozen? ⟨lb, k * 4 + 3, none⟩ = false := f2
      clear h0 c3 HRD hlb f2 HK
      refine any_start HS0 [0, 1, 2, 3, 4, 6, 7, 8, 9, 10, 11, 12, 13] (by kernel_rfl) ?_
      change wpAnyD _ _ _ _ _ _ 18 (Array.replicate 18 false) _ W6.drew
      generalize W6.drew = w9 at *
      refine any_take 0 rfl (by kernel_rfl) (fun _ _ d _ _ h => by cases d <;> exact h) (by kernel_rfl) HS0 (fun w9 h9 => by obtain ⟨s0, s1⟩ := h9; go_simp; first | done | rfl) (fun K hK => ?_); go_simp; refine hK _ ?_; clear hK K
      refine any_take 1 rfl (by kernel_rfl) (fun _ _ d _ _ h => by cases d <;> exact h) (by kernel_rfl) HS0 (fun w9 h9 => by obtain ⟨s0, s1⟩ := h9; go_simp; first | done | rfl) (fun K hK => ?_); go_simp; refine hK _ ?_; clear hK K
      refine any_take 2 rfl (by kernel_rfl) (fun _ _ d _ _ h => by cases d <;> exact h) (by kernel_rfl) HS0 (fun w9 h9 => by obtain ⟨s0, s1⟩ := h9; go_simp; first | done | rfl) (fun K hK => ?_); go_simp; refine hK _ ?_; clear hK K
      refine any_take 3 rfl (by kernel_rfl) (fun _ _ d _ _ h => by cases d <;> exact h) (by kernel_rfl) HS0 (fun w9 h9 => by obtain ⟨s0, s1⟩ := h9; go_simp; first | done | rfl) (fun K hK => ?_); go_simp; refine hK _ ?_; clear hK K
      refine any_take 4 rfl (by kernel_rfl) (fun _ _ d _ _ h => by cases d <;> exact h) (by kernel_rfl) HS0 (fun w9 h9 => by obtain ⟨s0, s1⟩ := h9; go_simp; first | done | rfl) (fun K hK => ?_); go_simp; refine hK _ ?_; clear hK K
      refine any_take 6 rfl (by kernel_rfl) (fun _ _ d _ _ h => by cases d <;> exact h) (by kernel_rfl) HS0 (fun w9 h9 => by obtain ⟨s0, s1⟩ := h9; go_simp; first | done | rfl) (fun K hK => ?_); go_simp; refine hK _ ?_; clear hK K
      refine any_take 7 rfl (by kernel_rfl) (fun _ _ d _ _ h => by cases d <;> exact h) (by kernel_rfl) HS0 (fun w9 h9 => by obtain ⟨s0, s1⟩ := h9; go_simp; first | done | rfl) (fun K hK => ?_); go_simp; refine hK _ ?_; clear hK K
      refine any_take 8 rfl (by kernel_rfl) (fun _ _ d _ _ h => by cases d <;> exact h) (by kernel_rfl) HS0 (fun w9 h9 => by obtain ⟨s0, s1⟩ := h9; go_simp; first | done | rfl) (fun K hK => ?_); go_simp; refine hK _ ?_; clear hK K
      refine any_take 9 rfl (by kernel_rfl) (fun _ _ d _ _ h => by cases d <;> exact h) (by kernel_rfl) HS0 (fun w9 h9 => by obtain ⟨s0, s1⟩ := h9; go_simp; first | done | rfl) (fun K hK => ?_); go_simp; refine hK _ ?_; clear hK K
      refine any_take 10 rfl (by kernel_rfl) (fun _ _ d _ _ h => by cases d <;> exact h) (by kernel_rfl) HS0 (fun w9 h9 => by obtain ⟨s0, s1⟩ := h9; go_simp; first | done | rfl) (fun K hK => ?_); go_simp; refine hK _ ?_; clear hK K
      refine any_take 11 rfl (by kernel_rfl) (fun _ _ d _ _ h => by cases d <;> exact h) (by kernel_rfl) HS0 (fun w9 h9 => by obtain ⟨s0, s1⟩ := h9; go_simp; first | done | rfl) (fun K hK => ?_); go_simp; refine hK _ ?_; clear hK K
      refine any_take 12 rfl (by kernel_rfl) (fun _ _ d _ _ h => by cases d <;> exact h) (by kernel_rfl) HS0 (fun w9 h9 => by obtain ⟨s0, s1⟩ := h9; go_simp; first | done | rfl) (fun K hK => ?_); go_simp; refine hK _ ?_; clear hK K
      refine any_take 13 rfl (by kernel_rfl) (fun _ _ d _ _ h => by cases d <;> exact h) (by kernel_rfl) HS0 (fun w9 h9 => by obtain ⟨s0, s1⟩ := h9; go_simp; first | done | rfl) (fun K hK => ?_); go_simp; refine hK _ ?_; clear hK K
      have HB0 : Hid (Below w9.heap.size w9 w9) := Below.refl _ _
      refine any_one 5 rfl (by kernel_rfl) (by kernel_rfl) (fun K hK => ?_)
      go_simp
      have HB1 : Hid (Below w9.heap.size w9 (w9.alloc (.cells #[] 3))) := HB0.out.alloc HB0.out.size _
      have HE1 : Hid ((w9.alloc (.cells #[] 3)).ownsRow w9.heap.size 3 1 (.slice (some ⟨w9.heap.size, 0, none⟩) 0 0) 0 []) := own_empty w9 3 _ HB0.out.size
      have hlt1 : w9.heap.size < (w9.alloc (.cells #[] 3)).heap.size := by simp
      generalize (w9.alloc (.cells #[] 3)) = W1 at *
      have HS1 : At (fun w' : World => w'.cell? ⟨fb, 0, none⟩ = some (.slice (some ⟨lb, 0, none⟩) m cc) ∧ w'.cell? ⟨lb, k * 4 + 3, none⟩ = some (.slice pa xs.length pc)) W1 := ⟨(HB1.out.cell (p := ⟨fb, 0, none⟩) hfb0).trans HS0.1, (HB1.out.cell (p := ⟨lb, k * 4 + 3, none⟩) hlb0).trans HS0.2⟩
      refine hK _ _ (fun _ => HS1) ?_
      clear hK K
      refine any_one 14 rfl (by kernel_rfl) (by kernel_rfl) (fun K hK => ?_)
      obtain ⟨v2, W2, hrun2, ho2, hg2, hat2⟩ := run_extend (P := Try.prog) (w := W1) w9.heap.size 28 28 3 (.int .i64 0) 8 Try.underlying28 infoI rfl _ 0 [] HE1.out pa xs.length pc (iv .i64 xs) (HR0.out.below HB1.out) (by simp) (one_iv _ _) (by simp only [maxLen]; omega) (by omega) HB1.out.size
      rw [Nat.zero_add, List.nil_append] at ho2
      have HB2 : Hid (Below w9.heap.size w9 W2) := below_grown HB1.out hg2 HB1.out.size (own_row HE1.out)
      have HV2 := Lib.hid ho2
      refine oper_append (.tmp 50) (.tmp 58) 28 (by kernel_rfl) _ _ _ (by kernel_rfl) (by kernel_rfl) hrun2 ?_
      clear hrun2 ho2 hg2 hat2
      go_simp
      have HS2 : At (fun w' : World => w'.cell? ⟨fb, 0, none⟩ = some (.slice (some ⟨lb, 0, none⟩) m cc) ∧ w'.cell? ⟨lb, k * 4 + 3, none⟩ = some (.slice pa xs.length pc)) W2 := ⟨(HB2.out.cell (p := ⟨fb, 0, none⟩) hfb0).trans HS0.1, (HB2.out.cell (p := ⟨lb, k * 4 + 3, none⟩) hlb0).trans HS0.2⟩
      refine hK _ _ (fun _ => HS2) ?_
      clear hK K
      refine any_one 15 rfl (by kernel_rfl) (by kernel_rfl) (fun K hK => ?_); go_simp; refine hK _ _ (fun _ => HS2) ?_; clear hK K
      refine any_one 16 rfl (by kernel_rfl) (by kernel_rfl) (fun K hK => ?_); go_simp; refine hK _ _ (fun _ => HS2) ?_; clear hK K
      obtain ⟨A5, c5, rfl, hq⟩ := RowI.made (F := fun _ => False) (w := w0) HV2.out HK0.out.hB.size
      obtain ⟨s8, hk5⟩ := HK0.out.set2 HB2.out hlt rfl (q' := (A5, xs.length, c5)) (by rw [HXS.out]; exact hq)
      have HK5 := Lib.hid hk5
      have f5 : W2.frozen? ⟨lb, k * 4 + 3, none⟩ = false := (HB2.out.frozen (p := ⟨lb, k * 4 + 3, none⟩) hlb0).trans f0
      have k3 := HS2.2
      clear hq hk5 HS0 HS1
      refine any_last 17 rfl (by kernel_rfl) (by kernel_rfl) (by kernel_rfl) (fun K hK => ?_)
      go_simp
      refine hK _ _ ?_
      clear hK K k3 f5 HS2
      refine any_end (by kernel_rfl) ?_
      simp only [sv] at HK5
      generalize W2.setCell ⟨lb, k * 4 + 3, none⟩ (.slice A5 xs.length c5) = W7 at *
      go_wp2
      go_roundw
      case rel => exact ⟨k + 1, by omega, by go_num, _, HK5.out⟩
      case measure => simp [intOf] <;> omega
    · obtain rfl : k = m := by omega
      go_wp2
      go_ret
      refine ⟨fb, rfl, ⟨_, _, _, _, HK.out.done.mono (fun b hb => hb.imp id fun h => by rw [← HZ.out]; exact h) fun b hb => hb.elim False.elim (·.2)⟩, ?_⟩
      have := HK.out.hB
      exact below_then HBD.out this
end Go.Proofs.Ytbflmgpcjfoifaa
