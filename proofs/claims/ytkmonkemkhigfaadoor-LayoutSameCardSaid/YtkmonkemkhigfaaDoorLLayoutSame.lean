/- Proved: whether two inodes are the same is told as the document says, both ways, and unlike right ones have unlike bytes (LayoutSame holds); for every two inodes; the library's tables start as its text lays them. -/
import Derived.Test.YtkmonkemkhigfaaDoorLayA
import Derived.Test.YtkmonkemkhigfaaDoorLay15
set_option linter.unusedSimpArgs false
set_option linter.unusedVariables false
namespace Go.Proofs.YtkmonkemkhigfaaDoor
open Go.ChangeShapes Go.WideShapes Go.ChangeAt Go.RowKit Go.Sel
open Go.ChangeMaps (setBlock shut_map_nil open_string shut_string)
namespace LLayoutSame

theorem contract (H : Type) (enc : TypeId × Value → H) (W : World) (base : Nat) (args : Array Value) (ds gs : List (DataW H)) (before : List MemPlace)
    (hval : ∀ (j : Nat) t v, Tryd.f7.params[j]? = some t → args[j]? = some v → Value.okWide Tryd.prog W .any base t v)
    (hW : DataW.Whole enc Tryd.prog Tryd.f7.params.toList Rows.layoutSameSpec.vars false W args.toList ds gs before) :
    Calls Tryd.prog 7 args W fun e W' => ∃ v, e = .returned v ∧ Rows.layoutSameSpec.post enc Tryd.prog Tryd.f7 false true false false W args v W' := by
  have hW' := hW
  obtain ⟨p, q, hA0, hV, rfl, hfz, hnd⟩ := hW
  have hA : DataW.TrodAll enc Tryd.prog W 0 (fun _ => true) true Tryd.f7.params.toList args.toList ds p := hA0
  rw [Tryd.params7] at hA hval
  obtain ⟨v0, vs0, d0, ds0_, p0, q0, hargs, rfl, rfl, h0, r0⟩ := trodAll_cons hA
  obtain ⟨v1, vs1, d1, ds1_, p1, q1, rfl, rfl, rfl, h1, r1⟩ := trodAll_cons r0
  obtain ⟨rfl, rfl, rfl⟩ := trodAll_nil r1
  obtain rfl : args = #[v0, v1] := by cases args; simp_all
  obtain ⟨rfl, rfl⟩ := trodVars_none hV
  obtain ⟨u00, u01, u02, u03, y0a, y0b, y0c, y0d, fu0, rfl, rfl, rfl, g0a, g0b, g0c, g0d⟩ := Joins.open_agg4 Tryd.underlying45 (by kernel_rfl) (by kernel_rfl) (hval 0 45 v0 rfl rfl) h0
  obtain ⟨i0a, k0a, rfl, w0a⟩ := DataW.trod_int Tryd.underlying42 g0a
  obtain ⟨i0b, k0b, rfl, w0b⟩ := DataW.trod_int Tryd.underlying3 g0b
  obtain ⟨i0c, k0c, rfl, w0c⟩ := DataW.trod_int Tryd.underlying3 g0c
  obtain rfl : u00 = .int .u8 i0a := by simpa using k0a
  obtain rfl : u01 = .int .i64 i0b := by simpa using k0b
  obtain rfl : u02 = .int .i64 i0c := by simpa using k0c
  obtain ⟨A0, n0, c0, xs0, rfl, hl0, hr0, hw0⟩ := read_ints Tryd.underlying43 Tryd.underlying3 (by kernel_rfl) g0d
  have b0a := u8_bounds w0a; have b0b := int_bounds w0b; have b0c := int_bounds w0c
  obtain ⟨u10, u11, u12, u13, y1a, y1b, y1c, y1d, fu1, rfl, rfl, rfl, g1a, g1b, g1c, g1d⟩ := Joins.open_agg4 Tryd.underlying45 (by kernel_rfl) (by kernel_rfl) (hval 1 45 v1 rfl rfl) h1
  obtain ⟨i1a, k1a, rfl, w1a⟩ := DataW.trod_int Tryd.underlying42 g1a
  obtain ⟨i1b, k1b, rfl, w1b⟩ := DataW.trod_int Tryd.underlying3 g1b
  obtain ⟨i1c, k1c, rfl, w1c⟩ := DataW.trod_int Tryd.underlying3 g1c
  obtain rfl : u10 = .int .u8 i1a := by simpa using k1a
  obtain rfl : u11 = .int .i64 i1b := by simpa using k1b
  obtain rfl : u12 = .int .i64 i1c := by simpa using k1c
  obtain ⟨A1, n1, c1, xs1, rfl, hl1, hr1, hw1⟩ := read_ints Tryd.underlying43 Tryd.underlying3 (by kernel_rfl) g1d
  have b1a := u8_bounds w1a; have b1b := int_bounds w1b; have b1c := int_bounds w1c
  refine (law_LayoutSame i0a i0b i0c A0 n0 c0 xs0 i1a i1b i1c A1 n1 c1 xs1 W hr0 hl0 b0a.1 b0a.2 b0b.1 b0b.2 b0c.1 b0c.2 hr1 hl1 b1a.1 b1a.2 b1b.1 b1b.2 b1c.1 b1c.2).mono fun e W' ⟨he, hB⟩ => ?_
  subst he
  exact ⟨_, rfl, law_post laidOut (by kernel_rfl) hW' rfl rfl rfl rfl rfl Tryd.underlying4 hB⟩

theorem reads (os : Os) {H : Type} (enc : TypeId × Value → H) : ∃ places, DataW.whole enc Tryd.prog (((wit os).forCall (fun _ _ => 0) ⟨#[], #[.agg #[.int .u8 0, .int .i64 0, .int .i64 0, .slice none 0 0], .agg #[.int .u8 0, .int .i64 0, .int .i64 0, .slice none 0 0]], []⟩).memory) Tryd.f7.params.toList Rows.layoutSameSpec.vars false (#[.agg #[.int .u8 0, .int .i64 0, .int .i64 0, .slice none 0 0], .agg #[.int .u8 0, .int .i64 0, .int .i64 0, .slice none 0 0]] : Array Value).toList 8 = some ([.agg [.lit (.int .u8 0), .lit (.int .i64 0), .lit (.int .i64 0), .nil], .agg [.lit (.int .u8 0), .lit (.int .i64 0), .lit (.int .i64 0), .nil]], [], places) :=
  ⟨[], by kernel_rfl⟩
set_option maxRecDepth 100000 in
theorem lifted (os : Os) (started : os.Started) (H : Type) (enc : TypeId × Value → H) (F : Stop.Interp) :
    ReturnsInHanded {} Tryd.checked os 7 .any ((OpenSpec.ofChange Rows.layoutSameSpec).preRow enc Tryd.prog Tryd.f7 Rows.layoutSameRow.domain false Rows.layoutSameRow.laid) (((OpenSpec.ofChange Rows.layoutSameSpec).at F).post enc Tryd.prog Tryd.f7 false true false false) := by
  obtain ⟨places, hx⟩ := reads os enc
  refine returnsInHanded_of_row (C := Tryd.checked) (s := (OpenSpec.ofChange Rows.layoutSameSpec)) own started (by kernel_rfl) Tryd.func7
    (witness_row_at (enc := enc) (C := Tryd.checked) false (wit os) #[.agg #[.int .u8 0, .int .i64 0, .int .i64 0, .slice none 0 0], .agg #[.int .u8 0, .int .i64 0, .int .i64 0, .slice none 0 0]] (World.laidAll_os _ _ _) (by kernel_rfl) (by kernel_rfl) (by kernel_rfl)
      (OpenSpec.preRow_of_cond 8 hx (by kernel_rfl) (fun k hk => by cases hk) (by kernel_rfl) (wit_laid os _))) ?_
  intro W base args ds gs before hval hW _ hcond _ hL _ _
  exact contract H enc W base args ds gs before hval hW
theorem said : Rows.LayoutSameSaid :=
  OpenClaim.holds_of_cond 7 Tryd.f7 rfl rfl rfl rfl rfl rfl rfl ⟨rfl, rfl, rfl, rfl, rfl⟩ rfl rfl rfl rfl rfl (by kernel_rfl) Tryd.func7 (by kernel_rfl)
    (of_decide_eq_true (by kernel_rfl)) (by unfold Func.isWrapper; first | (rw [if_pos (by decide +kernel)]; kernel_rfl) | (rw [if_neg (by decide +kernel)]; exact ⟨rfl, rfl⟩))
    (fun os started H enc _ F => by rw [OpenClaim.pre_eq_preRow]; exact lifted os started H enc F)
theorem plain (f : FuncId) (fn : Func) (hf : Tryd.pinned.checked.prog.funcNamed "selvedge/selvedgelaw09.LayoutSame" = some f) (hfn : Tryd.pinned.checked.prog.funcs[f]? = some fn) :
    false = Tryd.pinned.checked.prog.looks [] ∧ ∀ (j : Nat) t, fn.params[j]? = some t → Tryd.pinned.checked.prog.wantsStandIn t = false := by
  obtain rfl : f = 7 := Option.some.inj ((show Tryd.prog.funcNamed "selvedge/selvedgelaw09.LayoutSame" = some 7 by kernel_rfl).symm.trans hf) |>.symm
  obtain rfl : fn = Tryd.f7 := (Option.some.inj (Tryd.func7.symm.trans hfn)).symm
  refine ⟨by kernel_rfl, fun j t ht => ?_⟩
  rw [Tryd.params7] at ht
  have hm : t ∈ [45, 45] := by simpa using Array.mem_of_getElem? ht
  have hall : ([45, 45].all fun u => !Tryd.prog.wantsStandIn u) = true := by kernel_rfl
  exact (show Tryd.prog.wantsStandIn t = false by simpa using List.all_eq_true.1 hall t hm)
/-- The card. -/
theorem holds : Rows.LayoutSameCardSaid :=
  Claim7.holds_tied_plain_at .later [] _ _ _ _ said (fun _ h => by cases h) (by kernel_rfl) (fun _ h => by cases h) layoutSame_row_tie rfl ⟨rfl, rfl⟩ (by kernel_rfl) rfl plain (by kernel_rfl)
end LLayoutSame
end Go.Proofs.YtkmonkemkhigfaaDoor
