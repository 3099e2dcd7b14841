/- Proved: what is read of what was written is it, and what is written of what was read are the bytes, of inodes and entries (LayoutBack holds); for every inode, entry and bytes; the library's tables start as its text lays them. -/
import Derived.Test.YtkmonkemkhigfaaDoorLayA
import Derived.Test.YtkmonkemkhigfaaDoorLay17
set_option linter.unusedSimpArgs false
set_option linter.unusedVariables false
namespace Go.Proofs.YtkmonkemkhigfaaDoor
open Go.ChangeShapes Go.WideShapes Go.ChangeAt Go.RowKit Go.Sel
open Go.ChangeMaps (setBlock shut_map_nil open_string shut_string)
namespace LLayoutBack

theorem contract (H : Type) (enc : TypeId × Value → H) (W : World) (base : Nat) (args : Array Value) (ds gs : List (DataW H)) (before : List MemPlace)
    (hval : ∀ (j : Nat) t v, Tryd.f9.params[j]? = some t → args[j]? = some v → Value.okWide Tryd.prog W .any base t v)
    (hW : DataW.Whole enc Tryd.prog Tryd.f9.params.toList Rows.layoutBackSpec.vars false W args.toList ds gs before) :
    Calls Tryd.prog 9 args W fun e W' => ∃ v, e = .returned v ∧ Rows.layoutBackSpec.post enc Tryd.prog Tryd.f9 false true false false W args v W' := by
  have hW' := hW
  obtain ⟨p, q, hA0, hV, rfl, hfz, hnd⟩ := hW
  have hA : DataW.TrodAll enc Tryd.prog W 0 (fun _ => true) true Tryd.f9.params.toList args.toList ds p := hA0
  rw [Tryd.params9] at hA hval
  obtain ⟨v0, vs0, d0, ds0_, p0, q0, hargs, rfl, rfl, h0, r0⟩ := trodAll_cons hA
  obtain ⟨v1, vs1, d1, ds1_, p1, q1, rfl, rfl, rfl, h1, r1⟩ := trodAll_cons r0
  obtain ⟨v2, vs2, d2, ds2_, p2, q2, rfl, rfl, rfl, h2, r2⟩ := trodAll_cons r1
  obtain ⟨rfl, rfl, rfl⟩ := trodAll_nil r2
  obtain rfl : args = #[v0, v1, v2] := by cases args; simp_all
  obtain ⟨rfl, rfl⟩ := trodVars_none hV
  obtain ⟨u00, u01, u02, u03, y0a, y0b, y0c, y0d, fu0, rfl, rfl, rfl, g0a, g0b, g0c, g0d⟩ := Joins.open_agg4 Tryd.underlying45 (by kernel_rfl) (by kernel_rfl) (hval 0 45 v0 rfl rfl) h0
  obtain ⟨i0a, k0a, rfl, w0a⟩ := DataW.trod_int Tryd.underlying42 g0a
  obtain ⟨i0b, k0b, rfl, w0b⟩ := DataW.trod_int Tryd.underlying3 g0b
  obtain ⟨i0c, k0c, rfl, w0c⟩ := DataW.trod_int Tryd.underlying3 g0c
  obtain rfl : u00 = .int .u8 i0a := by simpa using k0a
  obtain rfl : u01 = .int .i64 i0b := by simpa using k0b
  obtain rfl : u02 = .int .i64 i0c := by simpa using k0c
  obtain ⟨A0, n0, c0, xs0, rfl, hl0, hr0, hw0⟩ := read_ints Tryd.underlying43 Tryd.underlying3 (by kernel_rfl) g0d
  have b0a := u8_bounds w0a; have b0b := int_bounds w0b; have b0c := int_bounds w0c
  obtain ⟨u1, t1, y1a, y1b, fu1, rfl, rfl, rfl, g1a, g1b⟩ := Joins.open_agg2 Tryd.underlying33 (by kernel_rfl) (by kernel_rfl) (hval 1 33 v1 rfl rfl) h1
  obtain ⟨s1, k1a, rfl, sz1⟩ := DataW.trod_string Tryd.underlying9 g1a
  obtain ⟨a1, k1b, rfl, w1⟩ := DataW.trod_int Tryd.underlying3 g1b
  obtain rfl : u1 = .string s1 := by simpa using k1a
  obtain rfl : t1 = .int .i64 a1 := by simpa using k1b
  have b1 := int_bounds w1
  unfold maxLen at sz1
  obtain ⟨A2, n2, c2, rfl⟩ := okWide_slice Tryd.underlying22 (hval 2 22 v2 rfl rfl)
  obtain ⟨fu2, f2⟩ := h2
  obtain ⟨z2, l2, m2, xs2, e2, hl2, hr2, hw2⟩ := read_ints Tryd.underlying22 Tryd.underlying5 (by kernel_rfl) f2
  injection e2 with e2a e2b e2c; subst e2a e2b e2c
  have by2 : AllByte xs2 := fun x hx => u8_bounds (hw2 x hx)
  refine (law_LayoutBack i0a i0b i0c A0 n0 c0 xs0 s1 a1 A2 n2 c2 xs2 W hr0 hl0 b0a.1 b0a.2 b0b.1 b0b.2 b0c.1 b0c.2 sz1 b1.1 b1.2 hr2 hl2 by2).mono fun e W' ⟨he, hB⟩ => ?_
  subst he
  exact ⟨_, rfl, law_post laidOut (by kernel_rfl) hW' rfl rfl rfl rfl rfl Tryd.underlying4 hB⟩

theorem reads (os : Os) {H : Type} (enc : TypeId × Value → H) : ∃ places, DataW.whole enc Tryd.prog (((wit os).forCall (fun _ _ => 0) ⟨#[], #[.agg #[.int .u8 0, .int .i64 0, .int .i64 0, .slice none 0 0], .agg #[.string ByteArray.empty, .int .i64 0], .slice none 0 0], []⟩).memory) Tryd.f9.params.toList Rows.layoutBackSpec.vars false (#[.agg #[.int .u8 0, .int .i64 0, .int .i64 0, .slice none 0 0], .agg #[.string ByteArray.empty, .int .i64 0], .slice none 0 0] : Array Value).toList 8 = some ([.agg [.lit (.int .u8 0), .lit (.int .i64 0), .lit (.int .i64 0), .nil], .agg [.lit (.string []), .lit (.int .i64 0)], .nil], [], places) :=
  ⟨[], by kernel_rfl⟩
set_option maxRecDepth 100000 in
theorem lifted (os : Os) (started : os.Started) (H : Type) (enc : TypeId × Value → H) (F : Stop.Interp) :
    ReturnsInHanded {} Tryd.checked os 9 .any ((OpenSpec.ofChange Rows.layoutBackSpec).preRow enc Tryd.prog Tryd.f9 Rows.layoutBackRow.domain false Rows.layoutBackRow.laid) (((OpenSpec.ofChange Rows.layoutBackSpec).at F).post enc Tryd.prog Tryd.f9 false true false false) := by
  obtain ⟨places, hx⟩ := reads os enc
  refine returnsInHanded_of_row (C := Tryd.checked) (s := (OpenSpec.ofChange Rows.layoutBackSpec)) own started (by kernel_rfl) Tryd.func9
    (witness_row_at (enc := enc) (C := Tryd.checked) false (wit os) #[.agg #[.int .u8 0, .int .i64 0, .int .i64 0, .slice none 0 0], .agg #[.string ByteArray.empty, .int .i64 0], .slice none 0 0] (World.laidAll_os _ _ _) (by kernel_rfl) (by kernel_rfl) (by kernel_rfl)
      (OpenSpec.preRow_of_cond 8 hx (by kernel_rfl) (fun k hk => by cases hk) (by kernel_rfl) (wit_laid os _))) ?_
  intro W base args ds gs before hval hW _ hcond _ hL _ _
  exact contract H enc W base args ds gs before hval hW
theorem said : Rows.LayoutBackSaid :=
  OpenClaim.holds_of_cond 9 Tryd.f9 rfl rfl rfl rfl rfl rfl rfl ⟨rfl, rfl, rfl, rfl, rfl⟩ rfl rfl rfl rfl rfl (by kernel_rfl) Tryd.func9 (by kernel_rfl)
    (of_decide_eq_true (by kernel_rfl)) (by unfold Func.isWrapper; first | (rw [if_pos (by decide +kernel)]; kernel_rfl) | (rw [if_neg (by decide +kernel)]; exact ⟨rfl, rfl⟩))
    (fun os started H enc _ F => by rw [OpenClaim.pre_eq_preRow]; exact lifted os started H enc F)
theorem plain (f : FuncId) (fn : Func) (hf : Tryd.pinned.checked.prog.funcNamed "selvedge/selvedgelaw09.LayoutBack" = some f) (hfn : Tryd.pinned.checked.prog.funcs[f]? = some fn) :
    false = Tryd.pinned.checked.prog.looks [] ∧ ∀ (j : Nat) t, fn.params[j]? = some t → Tryd.pinned.checked.prog.wantsStandIn t = false := by
  obtain rfl : f = 9 := Option.some.inj ((show Tryd.prog.funcNamed "selvedge/selvedgelaw09.LayoutBack" = some 9 by kernel_rfl).symm.trans hf) |>.symm
  obtain rfl : fn = Tryd.f9 := (Option.some.inj (Tryd.func9.symm.trans hfn)).symm
  refine ⟨by kernel_rfl, fun j t ht => ?_⟩
  rw [Tryd.params9] at ht
  have hm : t ∈ [45, 33, 22] := by simpa using Array.mem_of_getElem? ht
  have hall : ([45, 33, 22].all fun u => !Tryd.prog.wantsStandIn u) = true := by kernel_rfl
  exact (show Tryd.prog.wantsStandIn t = false by simpa using List.all_eq_true.1 hall t hm)
/-- The card. -/
theorem holds : Rows.LayoutBackCardSaid :=
  Claim7.holds_tied_plain_at .later [] _ _ _ _ said (fun _ h => by cases h) (by kernel_rfl) (fun _ h => by cases h) layoutBack_row_tie rfl ⟨rfl, rfl⟩ (by kernel_rfl) rfl plain (by kernel_rfl)
end LLayoutBack
end Go.Proofs.YtkmonkemkhigfaaDoor
