/- slices.Sort of numbers, laid from the kit's shelf (lay-shelf.mjs, lay-plain.mjs), and what it leaves. -/
import Derived.Shelf.SlGeneric
import Derived.Shelf.SortG.AssemblyIn
import Derived.Sort.EveryDepth
import Derived.Sort.OwnSortedInts
import Derived.Ground.SlgnProg
import Derived.Test.YthdfkpinaidkkaaProg
import Derived.Test.YthdfkpinaidkkaaEdges
namespace Go.Proofs
open Go.Shelf
def Try.sort70_ren : Go.Shelf.Ren := ⟨fun | 53 => 70 | 64 => 86 | 63 => 85 | 78 => 99 | 79 => 100 | 70 => 90 | 71 => 91 | 72 => 92 | 73 => 93 | 74 => 94 | 75 => 95 | 59 => 96 | 76 => 97 | 77 => 98 | 88 => 102 | 89 => 103 | 90 => 104 | 91 => 105 | 92 => 106 | 68 => 107 | 96 => 108 | n => n, fun | 22 => 42 | 23 => 2 | 3 => 3 | 51 => 90 | 0 => 0 | 67 => 69 | 69 => 104 | 4 => 4 | 61 => 96 | 60 => 95 | 44 => 101 | 5 => 5 | 9 => 9 | 75 => 106 | 79 => 110 | 83 => 112 | 84 => 113 | n => n, fun | n => n⟩
theorem Try.sort70 : Go.Proofs.SlLaysN.n53 Try.prog Try.sort70_ren := {
  mixed := by kernel_rfl
  f53 := ⟨Try.f70.name, by decide, Try.func70.trans (congrArg some (by kernel_rfl))⟩
  f59 := ⟨Try.f96.name, by decide, Try.func96.trans (congrArg some (by kernel_rfl))⟩
  f63 := ⟨Try.f85.name, by decide, Try.func85.trans (congrArg some (by kernel_rfl))⟩
  f64 := Try.func86.trans (congrArg some (by kernel_rfl))
  f68 := ⟨Try.f107.name, by decide, Try.func107.trans (congrArg some (by kernel_rfl))⟩
  f70 := ⟨Try.f90.name, by decide, Try.func90.trans (congrArg some (by kernel_rfl))⟩
  f71 := ⟨Try.f91.name, by decide, Try.func91.trans (congrArg some (by kernel_rfl))⟩
  f72 := ⟨Try.f92.name, by decide, Try.func92.trans (congrArg some (by kernel_rfl))⟩
  f73 := ⟨Try.f93.name, by decide, Try.func93.trans (congrArg some (by kernel_rfl))⟩
  f74 := ⟨Try.f94.name, by decide, Try.func94.trans (congrArg some (by kernel_rfl))⟩
  f75 := ⟨Try.f95.name, by decide, Try.func95.trans (congrArg some (by kernel_rfl))⟩
  f76 := ⟨Try.f97.name, by decide, Try.func97.trans (congrArg some (by kernel_rfl))⟩
  f77 := ⟨Try.f98.name, by decide, Try.func98.trans (congrArg some (by kernel_rfl))⟩
  f78 := Try.func99.trans (congrArg some (by kernel_rfl))
  f79 := Try.func100.trans (congrArg some (by kernel_rfl))
  f88 := ⟨Try.f102.name, by decide, Try.func102.trans (congrArg some (by kernel_rfl))⟩
  f89 := Try.func103.trans (congrArg some (by kernel_rfl))
  f90 := Try.func104.trans (congrArg some (by kernel_rfl))
  f91 := ⟨Try.f105.name, by decide, Try.func105.trans (congrArg some (by kernel_rfl))⟩
  f92 := ⟨Try.f106.name, by decide, Try.func106.trans (congrArg some (by kernel_rfl))⟩
  f96 := ⟨Try.f108.name, by decide, Try.func108.trans (congrArg some (by kernel_rfl))⟩
  t0 := Try.underlying0
  a0 := Try.isAgg0
  z0 := Try.sizeOf0
  v0 := Try.zeroValue0
  t3 := Try.underlying3
  a3 := Try.isAgg3
  z3 := Try.sizeOf3
  v3 := Try.zeroValue3
  t4 := Try.underlying4
  a4 := Try.isAgg4
  z4 := Try.sizeOf4
  v4 := Try.zeroValue4
  t5 := Try.underlying5
  a5 := Try.isAgg5
  z5 := Try.sizeOf5
  v5 := Try.zeroValue5
  t9 := Try.underlying9
  a9 := Try.isAgg9
  z9 := Try.sizeOf9
  v9 := Try.zeroValue9
  t22 := Try.underlying42
  a22 := Try.isAgg42
  z22 := Try.sizeOf42
  v22 := Try.zeroValue42
  t23 := Try.underlying2
  a23 := Try.isAgg2
  z23 := Try.sizeOf2
  v23 := Try.zeroValue2
  t44 := Try.underlying101
  a44 := Try.isAgg101
  z44 := Try.sizeOf101
  v44 := Try.zeroValue101
  t51 := Try.underlying90
  a51 := Try.isAgg90
  z51 := Try.sizeOf90
  v51 := Try.zeroValue90
  t60 := Try.underlying95
  a60 := Try.isAgg95
  z60 := Try.sizeOf95
  v60 := Try.zeroValue95
  t61 := Try.underlying96
  a61 := Try.isAgg96
  z61 := Try.sizeOf96
  v61 := Try.zeroValue96
  t67 := Try.underlying69
  a67 := Try.isAgg69
  z67 := Try.sizeOf69
  v67 := Try.zeroValue69
  t69 := Try.underlying104
  a69 := Try.isAgg104
  z69 := Try.sizeOf104
  v69 := Try.zeroValue104
  t75 := Try.underlying106
  a75 := Try.isAgg106
  z75 := Try.sizeOf106
  v75 := Try.zeroValue106
  t79 := Try.underlying110
  a79 := Try.isAgg110
  z79 := Try.sizeOf110
  v79 := Try.zeroValue110
  t83 := Try.underlying112
  a83 := Try.isAgg112
  z83 := Try.sizeOf112
  v83 := Try.zeroValue112
  t84 := Try.underlying113
  a84 := Try.isAgg113
  z84 := Try.sizeOf113
  v84 := Try.zeroValue113 }
end Go.Proofs
namespace Go.Proofs.Ythdfkpinaidkkaa
open Go.RowKit
theorem sort_any (B : Nat) (zs : List Int) (g cap : Nat) (w : World) (ho : Own 2 w B (.slice (some ⟨g, 0, none⟩) zs.length cap) (zs.map (.int .i64))) (hm : zs.length ≤ 1048576) :
    Calls Try.prog 70 #[.slice (some ⟨g, 0, none⟩) zs.length cap] w fun e w' => e = .returned (.tuple #[]) ∧ Own 2 w' B (.slice (some ⟨g, 0, none⟩) zs.length cap) ((zs.mergeSort fun x y => decide (x ≤ y)).map (.int .i64)) ∧ w.grownBy w' (some g) := by
  rcases ho.form with ⟨h0, _⟩ | ⟨g', cap', spare, hv, hg, hh, hc, hmx⟩
  · cases h0
  · obtain ⟨rfl, rfl⟩ : g = g' ∧ cap = cap' := by
      injection hv with e1 e2 e3
      injection e1 with e1
      injection e1 with e1
      exact ⟨e1, e3⟩
    have hl : (zs.map (Value.int .i64)).length = zs.length := List.length_map _
    have hH : Go.Sort.Holds (Value.int .i64) w g 0 zs.toArray := holds_of_blockI hh (by simp)
    have h := calls_of_every_depth fun D => AnySG.slices_Sort_int_in Try.sort70 D g 0 cap zs w hH (ho.lt g rfl) (by omega)
    refine Calls.mono h ?_
    rintro e w' ⟨rfl, n, os, rfl⟩
    have hlen : (zs.mergeSort fun x y => decide (x ≤ y)).length = zs.length := List.length_mergeSort _
    refine ⟨rfl, ?_, grownBy_sortedI _⟩
    have := ownsRow_sortedI (n := n) (os := os) (ss := zs) hlen hg hh (by rw [hl] at hc; omega) hmx (by simp only [List.size_toArray, List.length_append]; omega)
    unfold Own
    rw [List.length_map, hlen]
    exact this
end Go.Proofs.Ythdfkpinaidkkaa
