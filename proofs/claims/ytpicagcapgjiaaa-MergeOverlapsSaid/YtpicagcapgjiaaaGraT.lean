/- For graph's laws: append of a whole slice to a row of the call's own. -/
import Derived.Test.YtpicagcapgjiaaaGraL
set_option linter.unusedSimpArgs false
set_option linter.unusedVariables false
namespace Go.Proofs.Ytpicagcapgjiaaa
open Go.RowKit Go.Sel Go.Sel.Gra Go.Shelf

theorem run_append_nil {P : Program} {w : World} (base : Nat) (t ty e : TypeId) (i : TypeInfo) (size : Nat) (ht : P.underlying t = some (.slice e)) (hi : P.info? e = some i)
    (v : Value) (n : Nat) (xs : List Value) (hown : w.ownsRow base e size v n xs) (c : Nat) :
    (Builtin.append_ #[t, t] ty #[v, .slice none 0 c]).run P w = .ok v w := by
  rcases hown.2 with ⟨rfl, rfl⟩ | ⟨g, cap, cur, rfl, _, _, hnc, _⟩
  · simp [Builtin.append_, run_underlying ht, sizeOf, typeInfo, hi, Builtin.lenOf, Builtin.firstCells]
  · simp [Builtin.append_, run_underlying ht, sizeOf, typeInfo, hi, Builtin.lenOf, Builtin.firstCells, hnc, storeCells]

section
variable {P : Program} {ops : Array Oper} {o : Oper} {a : Act} {Q : Exit → Act → World → Prop}
/-- 'append(s, ys...)'. -/
theorem wpList_cat (W : World) {rest : List Oper} (hgd : o.guard = none) (s x : Operand) (t e : TypeId)
    (ho : o.op = .call { callee := .builtin .append, args := #[s, x], argTypes := #[t, t] }) (base : Nat) (z : Value) (bytes : Nat)
    (ht : P.underlying t = some (.slice e)) (hinfo : (P.info? e).map (fun i => (i.zero, i.size, i.bytes)) = some (some z, 1, bytes)) (hz : z.cells.size = 1)
    (v : Value) (n : Nat) (xs : List Value) (hs : a.eval s = v) (HO : W.ownsRow base e 1 v n xs)
    (A : Option Addr) (m c : Nat) (ys : List Value) (hx : a.eval x = .slice A m c) (hR : Rd W A m c ys) (hm : ys.length = m) (h1 : ∀ u ∈ ys, u.oneCell' = true) (hbase : base ≤ W.heap.size) (hl : n + m ≤ 100000) (hby : bytes ≤ 1000)
    (h : ∀ v' w1, w1.ownsRow base e 1 v' (n + m) (xs ++ ys) → W.grownBy w1 v.ownBlock → wpList P ops Q rest (a.put o.dst v') w1) :
    wpList P ops Q (o :: rest) a W := by
  obtain ⟨i0, hi, hz0, hz1, hz2⟩ := info_parts hinfo
  have hb2 : (n + m) * bytes ≤ 140737488355328 := Nat.le_trans (Nat.mul_le_mul hl hby) (by omega)
  rcases hR.at_ with h0 | ⟨b, off, rfl, hc⟩
  · subst h0
    obtain rfl : m = 0 := by simpa using hm.symm
    cases A with
    | none =>
      refine wpList_plain hgd fun K hK => ?_
      have hrun := run_append_nil (P := P) base t o.type e i0 1 ht hi v n xs HO c
      unfold Oper.wp
      simp [execOp, ho, resolve, invoke, builtin, hs, hx, hrun, Result.andThen]
      exact hK _ _ (h v W (by simpa using HO) (World.grownBy.refl _ _))
    | some ad =>
      refine wpList_append_own W hgd s x t ho base e i0 z 1 bytes ht hi hz0 hz1 hz2 hz (by decide) v n xs hs HO ad 0 c [] hx rfl (by simp) (by simp) (by simp [maxLen]; omega) hb2 hbase fun v' w' h2 h3 _ => h v' w' h2 h3
  · refine wpList_append_own W hgd s x t ho base e i0 z 1 bytes ht hi hz0 hz1 hz2 hz (by decide) v n xs hs HO ⟨b, off, none⟩ m c ys hx (by omega) (fun j u hj => ?_) h1 (by simp [maxLen]; omega) hb2 hbase fun v' w' h2 h3 _ => h v' w' h2 h3
    obtain ⟨hj', rfl⟩ := List.getElem?_eq_some_iff.1 hj
    rw [Addr.add_lit]
    exact hc j hj'
end
theorem own_empty (W : World) (e : TypeId) : (W.alloc (.cells #[] e)).ownsRow W.heap.size e 1 (.slice (some ⟨W.heap.size, 0, none⟩) 0 0) 0 [] :=
  ⟨rfl, .inr ⟨W.heap.size, 0, #[], rfl, Nat.le_refl _, World.alloc_heap_new W _, Nat.le_refl _, by simp [maxLen], rfl, rfl⟩⟩
theorem iv_one (k : IntKind) (xs : List Int) : ∀ u ∈ iv k xs, u.oneCell' = true := ints_oneCell k xs
/-- A row that two were put together in. -/
theorem rd_cat {w : World} {base m : Nat} {e : TypeId} {v : Value} {xs ys : List Int} (h : w.ownsRow base e 1 v m ([] ++ iv .i64 xs ++ iv .i64 ys)) : ∃ A c, v = .slice A m c ∧ (xs ++ ys).length = m ∧ Rd w A m c (iv .i64 (xs ++ ys)) := by
  obtain ⟨A, c, h1, h2, h3⟩ := rd_own h
  refine ⟨A, c, h1, by simpa using h2, ?_⟩
  rw [List.nil_append] at h3
  rw [iv, List.map_append]
  exact h3
end Go.Proofs.Ytpicagcapgjiaaa
