/- Walks of big: Patches; Put, answered in all cases. -/
import Derived.Test.YtcgfoaihfncppaaKBgF
import Derived.Test.YtcgfoaihfncppaaProg
import Derived.Test.YtcgfoaihfncppaaKSel7
import Derived.Test.YtcgfoaihfncppaaKSel
import Derived.Ground.SlgmProg
import Derived.Shelf.SortM.Plain
import Derived.Shelf.SortM.SortNone
import Derived.Test.YtcgfoaihfncppaaKBgO
set_option linter.unusedSimpArgs false
set_option linter.unusedVariables false
namespace Go.Proofs.Ytcgfoaihfncppaa
open Go.RowKit Go.Sel Go.Sel.Gra Go.Sel.Bg Go.Sel.Mer Go.Shelf

def patBoxes (A : Option Addr) (n c : Nat) (t : List Int) (k b : Int) (Af : Option Addr) (nf cf : Nat) : List Obj :=
  [.cells #[.slice A n c] 33, .cells (iv .i64 t).toArray 36, .cells #[.int .i64 k] 3, .cells #[.int .i64 b] 3, .cells #[.slice Af nf cf] 23, .cells #[.slice none 0 0] 51]
def patCap (s : Nat) : Array Value := #[.pointer (some ⟨s, 0, none⟩), .pointer (some ⟨s + 1, 0, none⟩), .pointer (some ⟨s + 1 + 1, 0, none⟩), .pointer (some ⟨s + 1 + 1 + 1, 0, none⟩), .pointer (some ⟨s + 1 + 1 + 1 + 1, 0, none⟩), .pointer (some ⟨s + 1 + 1 + 1 + 1 + 1, 0, none⟩)]
theorem Pat_att (A : Option Addr) (n c : Nat) (t : List Int) (k b : Int) (Af : Option Addr) (nf cf : Nat) (t' : List Int) (L : List It) (m : Nat) (u : Int) (ht : t.length = 8) (ht' : t'.length = 8) (w : World)
    (hP : ∀ W, Below w.heap.size w W → Calls Try.prog 31 #[.slice A n c, bigV t, .int .i64 k, .int .i64 b, .slice Af nf cf] W fun e w' => ∃ Ai ci, e = .returned (.agg (putC t' (.slice Ai m ci) u)) ∧ PI W.heap.size w' (.slice Ai m ci) m L ∧ Below W.heap.size W w')
    (W : World) (hW0 : W = allocs w (patBoxes A n c t k b Af nf cf)) :
    Calls Try.prog 29 #[.func (.func 41) #[] (patCap w.heap.size)] W fun e w' => e = .returned (.int .i64 0) ∧ Below w.heap.size w w' ∧
      ∃ Ai ci, w'.heap[w.heap.size + 1 + 1 + 1 + 1 + 1]? = some (.cells #[.slice Ai m ci] 51 (0, 0)) ∧ ∃ B, w.heap.size ≤ B ∧ PI B w' (.slice Ai m ci) m L := by
  have hsz : W.heap.size = w.heap.size + 6 := by rw [hW0, allocs_size]; rfl
  have hBW : Below w.heap.size w W := hW0 ▸ allocs_below _ w
  have hat : ∀ i (h : i < (patBoxes A n c t k b Af nf cf).length), (W.alloc (.cells #[.int .i64 0] 24)).heap[w.heap.size + i]? = some (patBoxes A n c t k b Af nf cf)[i] := fun i h => by
    have h1 := allocs_at (patBoxes A n c t k b Af nf cf) w i h
    rw [← hW0] at h1
    exact blk_below h1 (below_al W _) (by rw [hsz]; simp [patBoxes] at h; omega)
  have hBV : Below w.heap.size w (W.alloc (.cells #[.int .i64 0] 24)) := hBW.alloc (by omega) _
  have g0 : (W.alloc (.cells #[.int .i64 0] 24)).heap[w.heap.size]? = _ := hat 0 (by simp [patBoxes])
  have g1 := hat 1 (by simp [patBoxes])
  have g2 := hat 2 (by simp [patBoxes])
  have g3 := hat 3 (by simp [patBoxes])
  have g4 := hat 4 (by simp [patBoxes])
  have g5 := hat 5 (by simp [patBoxes])
  have h5 := Patches1_ok A n c t k b Af nf cf t' L m u ht ht' (W.alloc (.cells #[.int .i64 0] 24)) w.heap.size (w.heap.size + 1) (w.heap.size + 2) (w.heap.size + 3) (w.heap.size + 4) (w.heap.size + 5)
    (by rw [blk_cell g0]; rfl) g1 g2 g3 (by rw [blk_cell g4]; rfl) g5 (hP _ hBV)
  refine (attempt_ok 41 (patCap w.heap.size) (fun _ _ => by simp [go_sem]) W (· = w.heap.size + 5) (fun w' => ∃ Ai ci, w'.heap[w.heap.size + 5]? = some (.cells #[.slice Ai m ci] 51 (0, 0)) ∧ ∃ B, w.heap.size ≤ B ∧ PI B w' (.slice Ai m ci) m L) (fun _ h => by omega) (h5.mono ?_)).mono ?_
  · rintro e w' ⟨rfl, hF, Ai, ci, h8, h9⟩
    exact ⟨rfl, hF, Ai, ci, h8, _, hBV.size, h9⟩
  · rintro e w' ⟨rfl, hF, hb⟩
    exact ⟨rfl, hBW.trans (hF.below (B := w.heap.size) hBW.size (fun _ h => by omega)), hb⟩
theorem Pat_attno (A : Option Addr) (n c : Nat) (t : List Int) (k b : Int) (Af : Option Addr) (nf cf : Nat) (why : Int) (ht : t.length = 8) (w : World)
    (hP : ∀ W, Below w.heap.size w W → Calls Try.prog 31 #[.slice A n c, bigV t, .int .i64 k, .int .i64 b, .slice Af nf cf] W fun e w' => e = .panicked (gives why) ∧ Below W.heap.size W w')
    (W : World) (hW0 : W = allocs w (patBoxes A n c t k b Af nf cf)) :
    Calls Try.prog 29 #[.func (.func 41) #[] (patCap w.heap.size)] W fun e w' => e = .returned (.int .i64 why) ∧ Below w.heap.size w w' ∧ w'.heap[w.heap.size + 1 + 1 + 1 + 1 + 1]? = some (.cells #[.slice none 0 0] 51 (0, 0)) := by
  have hsz : W.heap.size = w.heap.size + 6 := by rw [hW0, allocs_size]; rfl
  have hBW : Below w.heap.size w W := hW0 ▸ allocs_below _ w
  have hat : ∀ i (h : i < (patBoxes A n c t k b Af nf cf).length), (W.alloc (.cells #[.int .i64 0] 24)).heap[w.heap.size + i]? = some (patBoxes A n c t k b Af nf cf)[i] := fun i h => by
    have h1 := allocs_at (patBoxes A n c t k b Af nf cf) w i h
    rw [← hW0] at h1
    exact blk_below h1 (below_al W _) (by rw [hsz]; simp [patBoxes] at h; omega)
  have hBV : Below w.heap.size w (W.alloc (.cells #[.int .i64 0] 24)) := hBW.alloc (by omega) _
  have g0 : (W.alloc (.cells #[.int .i64 0] 24)).heap[w.heap.size]? = _ := hat 0 (by simp [patBoxes])
  have g1 := hat 1 (by simp [patBoxes])
  have g2 := hat 2 (by simp [patBoxes])
  have g3 := hat 3 (by simp [patBoxes])
  have g4 := hat 4 (by simp [patBoxes])
  have h5 := Patches1_no A n c t k b Af nf cf why ht (W.alloc (.cells #[.int .i64 0] 24)) w.heap.size (w.heap.size + 1) (w.heap.size + 2) (w.heap.size + 3) (w.heap.size + 4) (.pointer (some ⟨w.heap.size + 5, 0, none⟩))
    (by rw [blk_cell g0]; rfl) g1 g2 g3 (by rw [blk_cell g4]; rfl) (hP _ hBV)
  have q5 := allocs_at (patBoxes A n c t k b Af nf cf) w 5 (by simp [patBoxes])
  rw [← hW0] at q5
  refine (attempt_no 41 (patCap w.heap.size) (fun _ _ => by simp [go_sem]) why W (fun _ => False) (fun _ h => h.elim) (h5.mono ?_)).mono ?_
  · rintro e w' ⟨rfl, hF⟩
    exact ⟨rfl, fr_of_below hF _⟩
  · rintro e w' ⟨rfl, hF⟩
    exact ⟨rfl, hBW.trans (hF.below (B := w.heap.size) hBW.size (fun _ h => h.elim)), (hF.block _ (Array.getElem?_eq_some_iff.1 q5).1 (fun h => h)).trans q5⟩
set_option maxRecDepth 100000 in
set_option maxHeartbeats 2000000 in
theorem Patches_ok (A : Option Addr) (n c : Nat) (t : List Int) (k b : Int) (Af : Option Addr) (nf cf : Nat) (t' : List Int) (L : List It) (m : Nat) (u : Int) (ht : t.length = 8) (ht' : t'.length = 8) (w : World)
    (hP : ∀ W, Below w.heap.size w W → Calls Try.prog 31 #[.slice A n c, bigV t, .int .i64 k, .int .i64 b, .slice Af nf cf] W fun e w' => ∃ Ai ci, e = .returned (.agg (putC t' (.slice Ai m ci) u)) ∧ PI W.heap.size w' (.slice Ai m ci) m L ∧ Below W.heap.size W w') :
    Calls Try.prog 21 #[.slice A n c, bigV t, .int .i64 k, .int .i64 b, .slice Af nf cf] w fun e w' => (∃ Ai ci, e = .returned (.tuple #[.slice Ai m ci, .int .i64 0]) ∧ ∃ B, w.heap.size ≤ B ∧ PI B w' (.slice Ai m ci) m L) ∧ Below w.heap.size w w' := by
  have HX := Lib.hid (Pat_att A n c t k b Af nf cf t' L m u ht ht' w hP)
  have hmf : ∀ (fn : Fn) (first cap : Array Value) (w : World), (Instr.makeFunc fn first cap).run Try.prog w = .ok (.func fn first cap) w := fun _ _ _ _ => rfl
  clear hP ht'
  obtain ⟨a0, a1, a2, a3, a4, a5, a6, a7, rfl⟩ := len8 ht
  simp only [bigV, patCap, patBoxes, allocs, iv, List.map_cons, List.map_nil] at HX ⊢
  clear ht
  go_enter Try.func21, Try.ntmps21
  go_wp2_with (go_at_call 29; refine (HX.out _ rfl).mono ?_; rintro e w2 ⟨rfl, hB, Ai, ci, hb5, B, hBB, hpi⟩; have HB := Lib.hid hB; have H5 := Lib.hid hb5; have HPI := Lib.hid hpi; have e5 := blk_cell hb5 0; have z5 := blk_free hb5 0; simp only [List.getElem?_toArray, List.getElem?_cons_zero] at e5; clear hB hb5 hpi)
  rw [setCell_same H5.out]
  refine bodyPost_ret (v := .tuple #[.slice Ai m ci, .int .i64 0]) ?_ rfl ?_
  · simp [results, Try.results21, go_sem, e5]
  · exact ⟨⟨Ai, ci, rfl, B, hBB, HPI.out⟩, HB.out⟩
set_option maxRecDepth 100000 in
set_option maxHeartbeats 2000000 in
theorem Patches_no (A : Option Addr) (n c : Nat) (t : List Int) (k b : Int) (Af : Option Addr) (nf cf : Nat) (why : Int) (ht : t.length = 8) (w : World)
    (hP : ∀ W, Below w.heap.size w W → Calls Try.prog 31 #[.slice A n c, bigV t, .int .i64 k, .int .i64 b, .slice Af nf cf] W fun e w' => e = .panicked (gives why) ∧ Below W.heap.size W w') :
    Calls Try.prog 21 #[.slice A n c, bigV t, .int .i64 k, .int .i64 b, .slice Af nf cf] w fun e w' => e = .returned (.tuple #[.slice none 0 0, .int .i64 why]) ∧ Below w.heap.size w w' := by
  have HX := Lib.hid (Pat_attno A n c t k b Af nf cf why ht w hP)
  have hmf : ∀ (fn : Fn) (first cap : Array Value) (w : World), (Instr.makeFunc fn first cap).run Try.prog w = .ok (.func fn first cap) w := fun _ _ _ _ => rfl
  clear hP
  obtain ⟨a0, a1, a2, a3, a4, a5, a6, a7, rfl⟩ := len8 ht
  simp only [bigV, patCap, patBoxes, allocs, iv, List.map_cons, List.map_nil] at HX ⊢
  clear ht
  go_enter Try.func21, Try.ntmps21
  go_wp2_with (go_at_call 29; refine (HX.out _ rfl).mono ?_; rintro e w2 ⟨rfl, hB, hb5⟩; have HB := Lib.hid hB; have H5 := Lib.hid hb5; have e5 := blk_cell hb5 0; have z5 := blk_free hb5 0; simp only [List.getElem?_toArray, List.getElem?_cons_zero] at e5; clear hB hb5)
  rw [setCell_same H5.out]
  refine bodyPost_ret (v := .tuple #[.slice none 0 0, .int .i64 why]) ?_ rfl ?_
  · simp [results, Try.results21, go_sem, e5]
  · exact ⟨rfl, HB.out⟩
/-- Put, where it is refused. -/
theorem Put_fail (A : Option Addr) (n c : Nat) (D : List (List Int)) (t : List Int) (k : Nat) (b : Int) (Af : Option Addr) (nf cf : Nat) (F : List Int) (ht : t.length = 8) (w : World) (hD : Bp w A n c D) (hR : Rt D t) (hF : Rd w Af nf cf (iv .i64 F)) (hlF : F.length = nf) (hO : RgPut n k b F) (hE : errL D t k b F ≠ 0) :
    Calls Try.prog 13 #[.slice A n c, bigV t, .int .i64 (k : Int), .int .i64 b, .slice Af nf cf] w fun e w' => e = .returned (.tuple #[.slice none 0 0, bigV zB, .int .i64 0, .int .i64 (errL D t k b F)]) ∧ Below w.heap.size w w' :=
  Put_bad A n c D t k b Af nf cf (errL D t k b F) ht w fun W hB => plan_no A n c D t k b Af nf cf F ht W (hD.below hB) hR (hF.below hB) hlF hO hE
theorem Patches_fail (A : Option Addr) (n c : Nat) (D : List (List Int)) (t : List Int) (k : Nat) (b : Int) (Af : Option Addr) (nf cf : Nat) (F : List Int) (ht : t.length = 8) (w : World) (hD : Bp w A n c D) (hR : Rt D t) (hF : Rd w Af nf cf (iv .i64 F)) (hlF : F.length = nf) (hO : RgPut n k b F) (hE : errL D t k b F ≠ 0) :
    Calls Try.prog 21 #[.slice A n c, bigV t, .int .i64 (k : Int), .int .i64 b, .slice Af nf cf] w fun e w' => e = .returned (.tuple #[.slice none 0 0, .int .i64 (errL D t k b F)]) ∧ Below w.heap.size w w' :=
  Patches_no A n c t k b Af nf cf (errL D t k b F) ht w fun W hB => plan_no A n c D t k b Af nf cf F ht W (hD.below hB) hR (hF.below hB) hlF hO hE
/-- Patches, where it is asked rightly. -/
theorem Patches_any (A : Option Addr) (n c : Nat) (D : List (List Int)) (t : List Int) (k : Nat) (b : Int) (Af : Option Addr) (nf cf : Nat) (F : List Int) (hF2 : 2 ≤ F.length) (ht : t.length = 8) (w : World) (hD : Bp w A n c D) (hR : Rt D t) (hF : Rd w Af nf cf (iv .i64 F)) (hlF : F.length = nf) (hO : OkPut D t n k b F) :
    Calls Try.prog 21 #[.slice A n c, bigV t, .int .i64 (k : Int), .int .i64 b, .slice Af nf cf] w fun e w' => (∃ Ai ci, e = .returned (.tuple #[.slice Ai (planL D t k b F).length ci, .int .i64 0]) ∧ Ip w' Ai (planL D t k b F).length ci (planL D t k b F)) ∧ Below w.heap.size w w' := by
  refine (Patches_ok A n c t k b Af nf cf (putL D t k b F).2.1 (planL D t k b F) (planL D t k b F).length ((putL D t k b F).2.2 : Nat) ht ((putL_len D t k b F).2.1.trans ht) w
    (fun W hB => plan_any A n c D t k b Af nf cf F hF2 ht W (hD.below hB) hR (hF.below hB) hlF hO)).mono ?_
  rintro e w' ⟨⟨Ai, ci, rfl, B, hBB, ss, h1, h2, h3, h4⟩, hB⟩
  obtain ⟨A2, c2, e2, _, hr⟩ := rd_ownN (by omega) h1
  cases e2
  exact ⟨⟨_, _, rfl, ss, rfl, h3, hr, h4⟩, hB⟩
end Go.Proofs.Ytcgfoaihfncppaa
/- slices.Sort laid at this program: plain words of the shelf's own maker (numbers of this seat), then its contract at a row of the call's own. -/
set_option linter.unusedSimpArgs false
set_option linter.unusedVariables false
namespace Go.Proofs.Ytcgfoaihfncppaa
open Go.RowKit Go.Sel Go.Sel.Gra Go.Shelf

def Try.laysM6_ren : Go.Shelf.Ren := ⟨fun | 5 => 64 | 8 => 81 | 7 => 80 | 19 => 97 | 20 => 98 | 10 => 88 | 11 => 89 | 12 => 90 | 13 => 91 | 14 => 92 | 15 => 93 | 16 => 94 | 17 => 95 | 18 => 96 | 30 => 100 | 31 => 101 | 32 => 102 | 33 => 103 | 34 => 104 | 35 => 105 | 40 => 106 | n => n, fun | 23 => 23 | 25 => 3 | 3 => 3 | 32 => 118 | 22 => 23 | 0 => 0 | 44 => 134 | 46 => 136 | 4 => 4 | 36 => 126 | 35 => 125 | 41 => 131 | 5 => 5 | 9 => 9 | 53 => 137 | 57 => 141 | 63 => 143 | 64 => 144 | n => n, fun | n => n⟩
theorem Try.laysM6 : Go.Proofs.SlLaysM.n5 Try.prog Try.laysM6_ren := {
  mixed := by kernel_rfl
  f5 := ⟨Try.f64.name, by decide, Try.func64.trans (congrArg some (by kernel_rfl))⟩
  f7 := ⟨Try.f80.name, by decide, Try.func80.trans (congrArg some (by kernel_rfl))⟩
  f8 := Try.func81.trans (congrArg some (by kernel_rfl))
  f10 := ⟨Try.f88.name, by decide, Try.func88.trans (congrArg some (by kernel_rfl))⟩
  f11 := ⟨Try.f89.name, by decide, Try.func89.trans (congrArg some (by kernel_rfl))⟩
  f12 := ⟨Try.f90.name, by decide, Try.func90.trans (congrArg some (by kernel_rfl))⟩
  f13 := ⟨Try.f91.name, by decide, Try.func91.trans (congrArg some (by kernel_rfl))⟩
  f14 := ⟨Try.f92.name, by decide, Try.func92.trans (congrArg some (by kernel_rfl))⟩
  f15 := ⟨Try.f93.name, by decide, Try.func93.trans (congrArg some (by kernel_rfl))⟩
  f16 := ⟨Try.f94.name, by decide, Try.func94.trans (congrArg some (by kernel_rfl))⟩
  f17 := ⟨Try.f95.name, by decide, Try.func95.trans (congrArg some (by kernel_rfl))⟩
  f18 := ⟨Try.f96.name, by decide, Try.func96.trans (congrArg some (by kernel_rfl))⟩
  f19 := Try.func97.trans (congrArg some (by kernel_rfl))
  f20 := Try.func98.trans (congrArg some (by kernel_rfl))
  f30 := ⟨Try.f100.name, by decide, Try.func100.trans (congrArg some (by kernel_rfl))⟩
  f31 := Try.func101.trans (congrArg some (by kernel_rfl))
  f32 := Try.func102.trans (congrArg some (by kernel_rfl))
  f33 := ⟨Try.f103.name, by decide, Try.func103.trans (congrArg some (by kernel_rfl))⟩
  f34 := ⟨Try.f104.name, by decide, Try.func104.trans (congrArg some (by kernel_rfl))⟩
  f35 := ⟨Try.f105.name, by decide, Try.func105.trans (congrArg some (by kernel_rfl))⟩
  f40 := ⟨Try.f106.name, by decide, Try.func106.trans (congrArg some (by kernel_rfl))⟩
  t0 := Try.underlying0
  a0 := Try.isAgg0
  z0 := Try.sizeOf0
  v0 := Try.zeroValue0
  t3 := Try.underlying3
  a3 := Try.isAgg3
  z3 := Try.sizeOf3
  v3 := Try.zeroValue3
  t4 := Try.underlying4
  a4 := Try.isAgg4
  z4 := Try.sizeOf4
  v4 := Try.zeroValue4
  t5 := Try.underlying5
  a5 := Try.isAgg5
  z5 := Try.sizeOf5
  v5 := Try.zeroValue5
  t9 := Try.underlying9
  a9 := Try.isAgg9
  z9 := Try.sizeOf9
  v9 := Try.zeroValue9
  t22 := Try.underlying23
  a22 := Try.isAgg23
  z22 := Try.sizeOf23
  v22 := Try.zeroValue23
  t23 := Try.underlying23
  a23 := Try.isAgg23
  z23 := Try.sizeOf23
  v23 := Try.zeroValue23
  t25 := Try.underlying3
  a25 := Try.isAgg3
  z25 := Try.sizeOf3
  v25 := Try.zeroValue3
  t32 := Try.underlying118
  a32 := Try.isAgg118
  z32 := Try.sizeOf118
  v32 := Try.zeroValue118
  t35 := Try.underlying125
  a35 := Try.isAgg125
  z35 := Try.sizeOf125
  v35 := Try.zeroValue125
  t36 := Try.underlying126
  a36 := Try.isAgg126
  z36 := Try.sizeOf126
  v36 := Try.zeroValue126
  t41 := Try.underlying131
  a41 := Try.isAgg131
  z41 := Try.sizeOf131
  v41 := Try.zeroValue131
  t44 := Try.underlying134
  a44 := Try.isAgg134
  z44 := Try.sizeOf134
  v44 := Try.zeroValue134
  t46 := Try.underlying136
  a46 := Try.isAgg136
  z46 := Try.sizeOf136
  v46 := Try.zeroValue136
  t53 := Try.underlying137
  a53 := Try.isAgg137
  z53 := Try.sizeOf137
  v53 := Try.zeroValue137
  t57 := Try.underlying141
  a57 := Try.isAgg141
  z57 := Try.sizeOf141
  v57 := Try.zeroValue141
  t63 := Try.underlying143
  a63 := Try.isAgg143
  z63 := Try.sizeOf143
  v63 := Try.zeroValue143
  t64 := Try.underlying144
  a64 := Try.isAgg144
  z64 := Try.sizeOf144
  v64 := Try.zeroValue144 }

theorem putCells_take' (d : Array Int) (cs : Array Value) (h : d.size ≤ cs.size) : (Go.Sort.putCells (Value.int .i64) 0 d cs).toList.take d.size = iv .i64 d.toList := by
  apply List.ext_getElem?
  intro i
  by_cases hi : i < d.size
  · have hi2 : i < cs.size := by omega
    rw [List.getElem?_take_of_lt hi]
    simp [Go.Sort.putCells, iv, hi, hi2]
  · rw [List.getElem?_eq_none (by simp; omega), List.getElem?_eq_none (by simp [iv]; omega)]

theorem SortP_any (xs : List Int) (hl : xs.length ≤ 1000) (v : Value) (base : Nat) (W : World) (ho : W.ownsRow base 3 1 v xs.length (iv .i64 xs)) :
    Calls Try.prog 64 #[v] W fun e W' => e = .returned (.tuple #[]) ∧ W'.ownsRow base 3 1 v xs.length (iv .i64 (xs.mergeSort fun x y => decide (x ≤ y))) ∧ Fr (fun k => v.ownBlock = some k) W W' := by
  rcases ho.2 with ⟨rfl, h0⟩ | ⟨g, cap, cur, rfl, hb, hg, hn, hc, hs, ht⟩
  · refine (AnyM.slices_Sort_int_none Try.laysM6 none 0 W).mono ?_
    rintro e W' ⟨rfl, rfl⟩
    have : xs = [] := List.eq_nil_of_length_eq_zero h0
    subst this
    refine ⟨rfl, ?_, Fr.refl _ _⟩
    simp at ho ⊢; exact ho
  · have hlt : g < W.heap.size := (Array.getElem?_eq_some_iff.1 hg).1
    have hH : Go.Sort.Holds (Value.int .i64) W g 0 xs.toArray := fun j hj => by
      have hj' : j < xs.length := by simpa using hj
      refine ⟨?_, by rw [Nat.zero_add]; exact blk_free hg j⟩
      rw [Nat.zero_add, blk_cell hg j]
      have h1 : (cur.toList.take (xs.length * 1))[j]? = (iv .i64 xs)[j]? := by rw [ht]
      rw [Nat.mul_one, List.getElem?_take_of_lt hj'] at h1
      rw [← Array.getElem?_toList, h1]
      simp [iv, hj']
    refine (AnyM.slices_Sort_int Try.laysM6 g 0 cap xs W hH hlt (by omega)).mono ?_
    rintro e W' ⟨rfl, m, os, rfl⟩
    have hsz : (xs.mergeSort fun x y => decide (x ≤ y)).length = xs.length := List.length_mergeSort _
    refine ⟨rfl, ⟨by simp [iv], .inr ⟨g, cap, Go.Sort.putCells (Value.int .i64) 0 (xs.mergeSort fun x y => decide (x ≤ y)).toArray cur, rfl, hb, ?_, hn, hc, by simpa [Go.Sort.putCells] using hs, ?_⟩⟩, ?_⟩
    · have h1 : (W.heap.modify g (Go.Sort.onCells (Go.Sort.putCells (Value.int .i64) 0 (xs.mergeSort fun x y => decide (x ≤ y)).toArray)))[g]? = some (.cells (Go.Sort.putCells (Value.int .i64) 0 (xs.mergeSort fun x y => decide (x ≤ y)).toArray cur) 3 (0, 0)) := by
        rw [Array.getElem?_modify, if_pos rfl, hg]; rfl
      show (W.heap.modify g _ ++ os)[g]? = _
      rw [Array.getElem?_append_left (by rw [Array.size_modify]; exact hlt)]
      exact h1
    · have := putCells_take' (xs.mergeSort fun x y => decide (x ≤ y)).toArray cur (by simp [hsz]; omega)
      rw [Nat.mul_one]
      simpa [hsz] using this
    · refine ⟨rfl, rfl, rfl, ?_, fun k hk hne => ?_⟩
      · show W.heap.size ≤ (W.heap.modify g _ ++ os).size
        simp
      · have hkg : g ≠ k := fun e => hne (by rw [← e]; rfl)
        show (W.heap.modify g _ ++ os)[k]? = _
        rw [Array.getElem?_append_left (by rw [Array.size_modify]; exact hk), Array.getElem?_modify, if_neg hkg]

end Go.Proofs.Ytcgfoaihfncppaa
/- Walks of big: order. -/
set_option linter.unusedSimpArgs false
set_option linter.unusedVariables false
namespace Go.Proofs.Ytcgfoaihfncppaa
open Go.RowKit Go.Sel Go.Sel.Gra Go.Sel.Bg Go.Sel.Mer Go.Shelf

/-- 'make([]int, 0, n)'. -/
theorem mkCap (n : Nat) (hn : n ≤ 1000) (w : World) : (Instr.makeSlice 23 (.int .i64 0) (.int .i64 (n : Int))).run Try.prog w = .ok (.slice (some ⟨w.heap.size, 0, none⟩) 0 n) (w.alloc (.cells (Array.replicate n (.int .i64 0)) 3)) := by
  obtain ⟨i, hi, h1, h2, h3⟩ := info_parts infoInt8
  have := run_make (P := Try.prog) w 23 3 i (.int .i64 0) Try.underlying23 hi h1 .i64 .i64 0 n (by omega) (by omega) (by rw [h3]; omega) (by omega)
  rw [this]
  have e' : madeCells (Value.int .i64 0).cells (n * i.size) = Array.replicate n (Value.int .i64 0) := by
    rw [h2, Nat.mul_one]
    apply Array.toList_inj.1
    simp [madeCells, Value.cells, Nat.mod_one, List.map_const']
  simp only [Int.toNat_natCast]
  rw [e']
  rfl
theorem own_cap (n : Nat) (hn : n ≤ 1000) (w : World) (base : Nat) (hb : base ≤ w.heap.size) : (w.alloc (.cells (Array.replicate n (.int .i64 0)) 3)).ownsRow base 3 1 (.slice (some ⟨w.heap.size, 0, none⟩) 0 n) 0 [] :=
  ⟨rfl, .inr ⟨w.heap.size, n, _, rfl, hb, blk11 w _, Nat.zero_le _, by simp [maxLen]; omega, by simp, by simp⟩⟩

set_option maxRecDepth 100000 in
set_option maxHeartbeats 4000000 in
theorem order_any (vb mp : Nat) (l : List (Int × Value)) (D : List (List Int)) (t : List Int) (w : World) (hc : w.cell? ⟨vb, 9, none⟩ = some (.map (some mp))) (hm : IMap w mp l) (hp : PlS D t 1096 l) (hR : Rt D t) :
    Calls Try.prog 43 #[.pointer (some ⟨vb, 0, none⟩)] w fun e w' => ∃ A c, e = .returned (.slice A (plL D t).length c) ∧ w'.ownsRow w.heap.size 3 1 (.slice A (plL D t).length c) (plL D t).length (iv .i64 (plL D t)) ∧ Below w.heap.size w w' := by
  have hkeys := keys_plL hp hR
  have hnd := hm.nodup
  have hpl : l.length = (plL D t).length := by
    have h1 := (List.perm_ext_iff_of_nodup hnd (plL_nodup D t)).2 hkeys
    have := h1.length_eq
    simpa using this
  have h96 : l.length ≤ 96 := by rw [hpl]; exact plL_len hR
  have HM := Lib.hid hm
  have HK := Lib.hid hkeys
  have HND := Lib.hid hnd
  have HPL := Lib.hid hpl
  have H96 := Lib.hid h96
  have hml := hm.lt
  have hlen := hm.len (P := Try.prog) Try.underlying80 3
  have hmk := mkCap l.length (by omega)
  have hvb := World.block_lt_of_cell? w _ hc
  simp only at hvb
  clear hkeys hnd hpl hm hp hR h96
  go_enter Try.func43, Try.ntmps43
  go_upto_region 2 with (fail)
  have HB1 := Lib.hid (below_al w (.cells (Array.replicate l.length (.int .i64 0)) 3))
  have HM1 := Lib.hid (HM.out.below HB1.out hml)
  have HO1 := Lib.hid (own_cap l.length (Nat.le_trans H96.out (by omega)) w w.heap.size (Nat.le_refl _))
  have hc1 := keep_cell hc HB1.out
  clear hc hmk hlen
  generalize w.alloc (.cells (Array.replicate l.length (.int .i64 0)) 3) = W1 at *
  go_wp2_with (at_range; refine wpList_range_i rfl _ _ rfl Try.underlying80 rfl HM1.out ?_; intro w0 hrg hB0 hlt0; have HRG := Lib.hid hrg; have HB0 := Lib.hid (HB1.out.trans (hB0.mono HB1.out.size)); have HO0 := Lib.hid (own_below HO1.out hB0 (Nat.le_refl _)); clear hrg hB0)
  have hsz1 := HB1.out.size
  clear hc1
  go_frame
  go_loopw [3, 4] (fun v _ wr => ∃ (left : List (Int × Value)) (acc : List Int) (A : Option Addr) (c : Nat), v = .slice A acc.length c ∧ Hid (IRng wr mp W1.heap.size l left) ∧ Hid (wr.ownsRow w.heap.size 3 1 (.slice A acc.length c) acc.length (iv .i64 acc)) ∧ Hid ((acc ++ left.map (·.1)).Perm (l.map (·.1))) ∧ Hid (Below w.heap.size w wr)) (fun _ _ wr => wr.rangeLeft mp W1.heap.size)
  case atStart => exact ⟨l, [], _, _, rfl, HRG, HO0, List.Perm.refl _, HB0⟩
  case round =>
    clear HRG HO0 HB0 HM1 HO1
    obtain ⟨left, acc, A, c, rfl, HR, HO, HP, HB⟩ := hrel
    have HMEAS : Hid (wr.rangeLeft mp W1.heap.size = left.length) := HR.out.left_eq
    have hrne : Hid (∀ j, Value.ownBlock (.slice A acc.length c) = some j → j ≠ W1.heap.size ∧ j ≠ mp) := Lib.hid fun j hj => by
      obtain ⟨cur, hcur⟩ := own_block HO.out j hj
      obtain ⟨es, clock, since, seen, c0, h1, h2, _⟩ := HR.out.it
      constructor
      · intro e; rw [e, h2] at hcur; cases hcur
      · intro e; rw [e, h1] at hcur; cases hcur
    have HAL : Hid (acc.length ≤ 96) := Lib.hid (by
      have := HP.out.length_eq
      have := H96.out
      simp at *
      omega)
    go_wp2_with (at_next; refine wpList_next_i rfl _ rfl rfl HR.out ?_ ?_)
    · intro hnil
      have HNIL := Lib.hid hnil
      clear hnil
      have hacc : acc.length = (plL D t).length := by
        have := HP.out.length_eq
        rw [HNIL.out] at this
        simp at this
        rw [this]; exact HPL.out
      have hsort : acc.mergeSort (fun x y => decide (x ≤ y)) = plL D t := by
        have := HP.out
        rw [HNIL.out] at this
        exact sorted_rises (by simpa using this) HND.out (plL_rises D t) HK.out
      have HS := Lib.hid (SortP_any acc (Nat.le_trans HAL.out (by omega)) _ _ wr HO.out)
      rw [hsort, hacc] at HS
      have HACC := Lib.hid hacc
      clear hsort hacc
      go_wp2_with (go_at_call 64; rw [HACC.out]; refine HS.out.mono ?_; rintro e w2 ⟨rfl, ho, hF⟩; have HO2 := Lib.hid ho; have HF2 := Lib.hid hF; clear ho hF)
      have hlow := own_row HO.out
      go_ret
      exact ⟨A, c, rfl, HO2.out, HB.out.trans (HF2.out.below (B := w.heap.size) HB.out.size (fun k h => hlow k (by rw [HACC.out]; exact h)))⟩
    · intro l1 pk pv l2 w3 e hr hf hs3 hen
      have HR3 := Lib.hid hr
      have HLE := Lib.hid e
      have hrn : W1.heap.size ≠ W1.heap.size ∨ True := .inr trivial
      have HO3 : Hid (w3.ownsRow w.heap.size 3 1 (.slice A acc.length c) acc.length (iv .i64 acc)) := Lib.hid (own_same HO.out (fun j hj => hf.block j (HO.out.lt j hj).2 (fun e => (hrne.out j hj).1 e)))
      have HB3 : Hid (Below w.heap.size w w3) := Lib.hid (HB.out.trans (hf.below (B := w.heap.size) HB.out.size (fun k h => by omega)))
      have hsw := HB3.out.size
      have hal := HAL.out
      clear hr hf e hs3
      go_wp2_with (at_builtin; refine wpList_push w3 rfl _ _ 23 3 rfl w.heap.size (.int .i64 0) 8 Try.underlying23 infoInt8 rfl (by omega) (.slice A acc.length c) acc.length _ (.int .i64 pk) rfl rfl rfl HO3.out (by omega) (by omega) rfl ?_; intro g cap w1 ho hg hat hlt1; have HO4 := Lib.hid ho; have HG := Lib.hid hg; clear ho hg)
      have HR4 : Hid (IRng w1 mp W1.heap.size l (l1 ++ l2)) := Lib.hid (HR3.out.same (HG.out.block mp HR3.out.map.lt (fun e => (hrne.out mp e.symm).2 rfl)) (HG.out.block _ HR3.out.lt (fun e => (hrne.out _ e.symm).1 rfl)))
      have HMEAS4 : Hid (w1.rangeLeft mp W1.heap.size = (l1 ++ l2).length) := HR4.out.left_eq
      go_roundw
      case rel => exact ⟨l1 ++ l2, acc ++ [pk], some ⟨g, 0, none⟩, cap, by simp, HR4, by
        show World.ownsRow _ _ _ _ _ _ _
        simpa [iv] using HO4.out, by
        show List.Perm _ _
        have h := HP.out
        rw [HLE.out] at h
        refine List.Perm.trans ?_ h
        simp only [List.map_append, List.map_cons, List.append_assoc, List.cons_append, List.nil_append]
        refine List.Perm.append_left _ ?_
        exact (List.perm_middle).symm, below_grown HB3.out HG.out hsw (fun j hj => by have := own_row HO3.out j hj; omega)⟩
      case measure => rw [HMEAS4.out, HMEAS.out, HLE.out]; simp
end Go.Proofs.Ytcgfoaihfncppaa
