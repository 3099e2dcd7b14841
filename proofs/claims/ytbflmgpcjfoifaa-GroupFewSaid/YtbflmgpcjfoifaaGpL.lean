/- What this program calls of packages maps and slices, laid at this program: plain words of the shelf's own maker (numbers of this seat, group), and contracts over them. -/
import Derived.Test.YtbflmgpcjfoifaaProg
import Derived.Test.YtbflmgpcjfoifaaSort
import Derived.Test.YtbflmgpcjfoifaaMap1
import Derived.Test.YtbflmgpcjfoifaaGp9
import Derived.Ground.GgzProg
import Derived.Ground.SlmcProg
import Derived.Ground.SlgnProg
import Derived.Shelf.SlIterI.Nil
import Derived.Shelf.SlMaps.Clone
import Derived.Shelf.SlicesE.Index
set_option linter.unusedSimpArgs false
set_option linter.unusedVariables false
namespace Go.Proofs.Ytbflmgpcjfoifaa
open Go.RowKit Go.Maps Go.Sort Go.Shelf Go.Sel Go.Sel.Gp


def Try.keysA_ren : Go.Shelf.Ren := ⟨fun | 7 => 35 | 10 => 56 | n => n, fun | 23 => 52 | 26 => 3 | 3 => 4 | 28 => 54 | 0 => 0 | 27 => 53 | 33 => 77 | 4 => 4 | n => n, fun | n => n⟩
theorem Try.keysA : Go.Proofs.SlLaysZI.n7 Try.prog Try.keysA_ren := {
  mixed := by kernel_rfl
  f7 := ⟨Try.f35.name, by decide, Try.func35.trans (congrArg some (by kernel_rfl))⟩
  f10 := ⟨Try.f56.name, by decide, Try.func56.trans (congrArg some (by kernel_rfl))⟩
  t0 := Try.underlying0
  a0 := Try.isAgg0
  z0 := Try.sizeOf0
  v0 := Try.zeroValue0
  t4 := Try.underlying4
  a4 := Try.isAgg4
  z4 := Try.sizeOf4
  v4 := Try.zeroValue4
  t23 := Try.underlying52
  a23 := Try.isAgg52
  z23 := Try.sizeOf52
  v23 := Try.zeroValue52
  t26 := Try.underlying3
  a26 := Try.isAgg3
  z26 := Try.sizeOf3
  v26 := Try.zeroValue3
  t27 := Try.underlying53
  a27 := Try.isAgg53
  z27 := Try.sizeOf53
  v27 := Try.zeroValue53
  t28 := Try.underlying54
  a28 := Try.isAgg54
  z28 := Try.sizeOf54
  v28 := Try.zeroValue54
  t33 := Try.underlying77
  a33 := Try.isAgg77
  z33 := Try.sizeOf77
  v33 := Try.zeroValue77
}

def Try.keysB_ren : Go.Shelf.Ren := ⟨fun | 7 => 63 | 10 => 69 | n => n, fun | 23 => 64 | 26 => 3 | 3 => 58 | 28 => 54 | 0 => 0 | 27 => 53 | 33 => 77 | 4 => 4 | n => n, fun | n => n⟩
theorem Try.keysB : Go.Proofs.SlLaysZI.n7 Try.prog Try.keysB_ren := {
  mixed := by kernel_rfl
  f7 := ⟨Try.f63.name, by decide, Try.func63.trans (congrArg some (by kernel_rfl))⟩
  f10 := ⟨Try.f69.name, by decide, Try.func69.trans (congrArg some (by kernel_rfl))⟩
  t0 := Try.underlying0
  a0 := Try.isAgg0
  z0 := Try.sizeOf0
  v0 := Try.zeroValue0
  t4 := Try.underlying4
  a4 := Try.isAgg4
  z4 := Try.sizeOf4
  v4 := Try.zeroValue4
  t23 := Try.underlying64
  a23 := Try.isAgg64
  z23 := Try.sizeOf64
  v23 := Try.zeroValue64
  t26 := Try.underlying3
  a26 := Try.isAgg3
  z26 := Try.sizeOf3
  v26 := Try.zeroValue3
  t27 := Try.underlying53
  a27 := Try.isAgg53
  z27 := Try.sizeOf53
  v27 := Try.zeroValue53
  t28 := Try.underlying54
  a28 := Try.isAgg54
  z28 := Try.sizeOf54
  v28 := Try.zeroValue54
  t33 := Try.underlying77
  a33 := Try.isAgg77
  z33 := Try.sizeOf77
  v33 := Try.zeroValue77
}

def Try.sortedA_ren : Go.Shelf.Ren := ⟨fun | 6 => 34 | 8 => 54 | 9 => 55 | 11 => 65 | 13 => 67 | 12 => 66 | 23 => 79 | 24 => 80 | 14 => 70 | 15 => 71 | 16 => 72 | 17 => 73 | 18 => 74 | 19 => 75 | 20 => 76 | 21 => 77 | 22 => 78 | 25 => 81 | 26 => 82 | 27 => 83 | 28 => 84 | 29 => 85 | 30 => 86 | 31 => 87 | n => n, fun | 26 => 3 | 28 => 54 | 24 => 28 | 0 => 0 | 3 => 3 | 37 => 92 | 48 => 104 | 50 => 106 | 4 => 4 | 40 => 96 | 39 => 95 | 45 => 101 | 5 => 5 | 9 => 9 | 51 => 107 | 55 => 111 | 57 => 113 | 58 => 114 | 33 => 77 | n => n, fun | n => n⟩
theorem Try.sortedA : Go.Proofs.SlLaysZI.n6 Try.prog Try.sortedA_ren := {
  mixed := by kernel_rfl
  f6 := ⟨Try.f34.name, by decide, Try.func34.trans (congrArg some (by kernel_rfl))⟩
  f8 := ⟨Try.f54.name, by decide, Try.func54.trans (congrArg some (by kernel_rfl))⟩
  f11 := ⟨Try.f65.name, by decide, Try.func65.trans (congrArg some (by kernel_rfl))⟩
  t0 := Try.underlying0
  a0 := Try.isAgg0
  z0 := Try.sizeOf0
  v0 := Try.zeroValue0
  t24 := Try.underlying28
  a24 := Try.isAgg28
  z24 := Try.sizeOf28
  v24 := Try.zeroValue28
  t26 := Try.underlying3
  a26 := Try.isAgg3
  z26 := Try.sizeOf3
  v26 := Try.zeroValue3
  t28 := Try.underlying54
  a28 := Try.isAgg54
  z28 := Try.sizeOf54
  v28 := Try.zeroValue54
  i26 := by kernel_rfl
}

def Try.cloneA_ren : Go.Shelf.Ren := ⟨fun | 5 => 52 | 7 => 64 | n => n, fun | 23 => 52 | 25 => 3 | 3 => 4 | 4 => 4 | 20 => 20 | n => n, fun | n => n⟩
theorem Try.cloneA : Go.Proofs.SlLaysW.n5 Try.prog Try.cloneA_ren := {
  mixed := by kernel_rfl
  f5 := ⟨Try.f52.name, by decide, Try.func52.trans (congrArg some (by kernel_rfl))⟩
  f7 := Try.func64.trans (congrArg some (by kernel_rfl))
  t4 := Try.underlying4
  a4 := Try.isAgg4
  z4 := Try.sizeOf4
  v4 := Try.zeroValue4
  t20 := Try.underlying20
  a20 := Try.isAgg20
  z20 := Try.sizeOf20
  v20 := Try.zeroValue20
  t23 := Try.underlying52
  a23 := Try.isAgg52
  z23 := Try.sizeOf52
  v23 := Try.zeroValue52
}

def Try.containsA_ren : Go.Shelf.Ren := ⟨fun | 31 => 61 | 29 => 68 | n => n, fun | 22 => 84 | 23 => 31 | 4 => 4 | 3 => 3 | 0 => 0 | n => n, fun | n => n⟩
theorem Try.containsA : Go.Proofs.SlLaysE.n31 Try.prog Try.containsA_ren := {
  mixed := by kernel_rfl
  f29 := ⟨Try.f68.name, by decide, Try.func68.trans (congrArg some (by kernel_rfl))⟩
  f31 := ⟨Try.f61.name, by decide, Try.func61.trans (congrArg some (by kernel_rfl))⟩
  t0 := Try.underlying0
  a0 := Try.isAgg0
  z0 := Try.sizeOf0
  v0 := Try.zeroValue0
  t3 := Try.underlying3
  a3 := Try.isAgg3
  z3 := Try.sizeOf3
  v3 := Try.zeroValue3
  t4 := Try.underlying4
  a4 := Try.isAgg4
  z4 := Try.sizeOf4
  v4 := Try.zeroValue4
  t22 := Try.underlying84
  a22 := Try.isAgg84
  z22 := Try.sizeOf84
  v22 := Try.zeroValue84
  a23 := Try.isAgg31
  z23 := Try.sizeOf31
}
/-- slices.Sort's two contracts at this program, at the fence that asks nothing. -/
theorem Try.sortsA (m : Nat) : AnyZI.SortsIn Try.prog Try.sortedA_ren Fence.wide m :=
  ⟨fun blk off cap ss W hH hblk hsz => callsIn_wide.2 (AnyM.slices_Sort_int Try.laysM6 blk off cap ss W hH hblk hsz),
   fun p cap W => callsIn_wide.2 (AnyM.slices_Sort_int_none Try.laysM6 p cap W)⟩

theorem keysA_any (mb : Option Nat) (w : World) : Calls Try.prog 35 #[.map mb] w fun e w' => e = .returned (.func (.func 56) #[] #[.pointer (some ⟨w.heap.size, 0, none⟩)]) ∧ w' = w.alloc (.cells #[.map mb] 52) :=
  (callsIn_wide (n := 6)).1 (AnyZI.keys_in Try.keysA Fence.wide 6 trivial rfl mb w)
theorem keysB_any (mb : Option Nat) (w : World) : Calls Try.prog 63 #[.map mb] w fun e w' => e = .returned (.func (.func 69) #[] #[.pointer (some ⟨w.heap.size, 0, none⟩)]) ∧ w' = w.alloc (.cells #[.map mb] 64) :=
  (callsIn_wide (n := 6)).1 (AnyZI.keys_in Try.keysB Fence.wide 6 trivial rfl mb w)

set_option maxHeartbeats 1000000 in
/-- 'slices.Sorted(maps.Keys(m))', m a set: its members, rising. -/
theorem sortedA_any (w : World) (b : Nat) (l : List (Int × Value)) (ps : List Int) (h : IMap w b l) (hw : ∀ p ∈ l, (Lit.int .i64 p.1).wf = true) (h3 : ps.Pairwise (· < ·)) (h4 : ∀ x, x ∈ l.map (·.1) ↔ x ∈ ps) (hl : l.length ≤ 1000000) :
    Calls Try.prog 34 #[.func (.func 56) #[] #[.pointer (some ⟨w.heap.size, 0, none⟩)]] (w.alloc (.cells #[.map (some b)] 52)) fun e w' => (∃ v, e = .returned v ∧ Sl w' v ps) ∧ Below w.heap.size w w' := by
  refine (callsIn_wide (n := 6)).1 ?_
  have hbl := h.lt
  have hB := below_al w (.cells #[.map (some b)] 52)
  obtain ⟨D, hown, hperm, hsz, _⟩ := (h.below hB hbl).owns (P := Try.prog) (kt := 3) (H := Unit) (R := fun _ => some (.nil, [])) Try.underlying3 hw (fun _ _ => ⟨_, rfl⟩) (by simp only [maxLen]; omega)
  have hseq : SeqGives Fence.wide 3 Try.prog 56 #[.pointer (some ⟨w.heap.size, 0, none⟩)] encZ (fun ss => ss.Perm (intKeys D)) (Maps.size D) (w.alloc (.cells #[.map (some b)] 52)) :=
    AnyZI.keys_gives (ρ := Try.keysA_ren) { Try.keysA with } Fence.wide _ trivial rfl (by omega) w.heap.size b l.length D _ (by simp) (by simp) hown
  have cS := AnyZI.sorted_in Try.sortedA Fence.wide 6 trivial trivial trivial trivial rfl (by omega) (Try.sortsA _) (enters_of Try.func55 (by kernel_rfl) rfl) 56 #[.pointer (some ⟨w.heap.size, 0, none⟩)] trivial (enters_of Try.func56 (by kernel_rfl) rfl) _ _ (by rw [hsz]; simp only [maxLen]; omega) (by rw [hsz]; omega) _ hseq
  change CallsIn _ _ Try.prog 34 _ _ _ at cS
  refine cS.mono ?_
  rintro e w' ⟨v, ss, rfl, hS, hrow, _, hb⟩
  have hps : ss.mergeSort (fun x y => decide (x ≤ y)) = ps := sorted_rises (hS.trans hperm) h.nodup h3 h4
  rw [hps] at hrow
  exact ⟨⟨v, rfl, Sl.own hrow⟩, below_then hB hb⟩
set_option maxHeartbeats 1000000 in
/-- 'slices.Sorted(maps.Keys(m))', m the groups. -/
theorem sortedB_any (w : World) (b : Nat) (l : List (Int × Value)) (ps : List Int) (h : IMap w b l) (hw : ∀ p ∈ l, (Lit.int .i64 p.1).wf = true) (h3 : ps.Pairwise (· < ·)) (h4 : ∀ x, x ∈ l.map (·.1) ↔ x ∈ ps) (hl : l.length ≤ 1000000) :
    Calls Try.prog 34 #[.func (.func 69) #[] #[.pointer (some ⟨w.heap.size, 0, none⟩)]] (w.alloc (.cells #[.map (some b)] 64)) fun e w' => (∃ v, e = .returned v ∧ Sl w' v ps) ∧ Below w.heap.size w w' := by
  refine (callsIn_wide (n := 6)).1 ?_
  have hbl := h.lt
  have hB := below_al w (.cells #[.map (some b)] 64)
  obtain ⟨D, hown, hperm, hsz, _⟩ := (h.below hB hbl).owns (P := Try.prog) (kt := 3) (H := Unit) (R := fun _ => some (.nil, [])) Try.underlying3 hw (fun _ _ => ⟨_, rfl⟩) (by simp only [maxLen]; omega)
  have hseq : SeqGives Fence.wide 3 Try.prog 69 #[.pointer (some ⟨w.heap.size, 0, none⟩)] encZ (fun ss => ss.Perm (intKeys D)) (Maps.size D) (w.alloc (.cells #[.map (some b)] 64)) :=
    AnyZI.keys_gives (ρ := Try.keysB_ren) { Try.keysB with } Fence.wide _ trivial rfl (by omega) w.heap.size b l.length D _ (by simp) (by simp) hown
  have cS := AnyZI.sorted_in Try.sortedA Fence.wide 6 trivial trivial trivial trivial rfl (by omega) (Try.sortsA _) (enters_of Try.func55 (by kernel_rfl) rfl) 69 #[.pointer (some ⟨w.heap.size, 0, none⟩)] trivial (enters_of Try.func69 (by kernel_rfl) rfl) _ _ (by rw [hsz]; simp only [maxLen]; omega) (by rw [hsz]; omega) _ hseq
  change CallsIn _ _ Try.prog 34 _ _ _ at cS
  refine cS.mono ?_
  rintro e w' ⟨v, ss, rfl, hS, hrow, _, hb⟩
  have hps : ss.mergeSort (fun x y => decide (x ≤ y)) = ps := sorted_rises (hS.trans hperm) h.nodup h3 h4
  rw [hps] at hrow
  exact ⟨⟨v, rfl, Sl.own hrow⟩, below_then hB hb⟩
/-- maps.Clone. -/
theorem cloneA_any (w : World) (b : Nat) (l : List (Int × Value)) (h : IMap w b l) : Calls Try.prog 52 #[.map (some b)] w fun e w' => e = .returned (.map (some w.heap.size)) ∧ IMap w' w.heap.size l ∧ Below w.heap.size w w' := by
  obtain ⟨es, clock, hb, hr⟩ := h.is
  have c := AnyW.maps_Clone Try.cloneA b es clock w hb
  change Calls Try.prog 52 _ _ _ at c
  refine c.mono fun e w' ⟨he, hw⟩ => ?_
  subst hw
  exact ⟨he, ⟨h.nodup, es, clock, blk11 w _, hr⟩, below_al w _⟩
/-- slices.Contains of a state. -/
theorem containsA_any (b off n c : Nat) (zs : List Int) (x : Int) (w : World) (hz : zs.length = n) (hn : n ≤ 1000) (hc : ∀ j (h : j < zs.length), w.cell? ⟨b, off + j, none⟩ = some (.int .u8 zs[j])) :
    Calls Try.prog 61 #[.slice (some ⟨b, off, none⟩) n c, .int .u8 x] w fun e w' => e = .returned (.bool (decide (x ∈ zs))) ∧ w' = w := by
  have c1 := AnyE.slices_Contains Try.containsA (Value.int .u8) (fun x y => x == y) (EqlAt.int _ _ .u8) b off n c zs x w (by omega) (by omega) (fun j hj => by rw [hc j hj, List.getElem!_eq_getElem?_getD, List.getElem?_eq_getElem hj]; rfl)
  change Calls Try.prog 61 _ _ _ at c1
  refine c1.mono fun e w' ⟨he, hw⟩ => ⟨?_, hw⟩
  rw [he, List.take_of_length_le (by omega)]
  have : (zs.any fun y => x == y) = decide (x ∈ zs) := by
    rw [Bool.eq_iff_iff, List.any_eq_true, decide_eq_true_eq]
    constructor
    · rintro ⟨y, hy, e⟩
      have : x = y := by simpa using e
      rw [this]; exact hy
    · intro h
      exact ⟨x, h, by simp⟩
  rw [this]
end Go.Proofs.Ytbflmgpcjfoifaa
