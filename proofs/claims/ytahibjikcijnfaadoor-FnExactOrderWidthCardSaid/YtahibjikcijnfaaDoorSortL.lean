/- slices.Sort of numbers, laid from the kit's shelf (lay-shelf.mjs, lay-plain.mjs), and what it leaves. -/
import Derived.Shelf.SlGeneric
import Derived.Shelf.SortG.AssemblyIn
import Derived.Sort.EveryDepth
import Derived.Sort.OwnSortedInts
import Derived.Ground.SlgnProg
import Derived.Test.YtahibjikcijnfaaDoorProg
import Derived.Test.YtahibjikcijnfaaDoorEdges
namespace Go.Proofs
open Go.Shelf
def Tryd.sort70_ren : Go.Shelf.Ren := ⟨fun | 53 => 154 | 64 => 142 | 63 => 177 | 78 => 173 | 79 => 174 | 70 => 184 | 71 => 185 | 72 => 186 | 73 => 187 | 74 => 188 | 75 => 189 | 59 => 190 | 76 => 191 | 77 => 192 | 88 => 195 | 89 => 180 | 90 => 181 | 91 => 196 | 92 => 197 | 68 => 198 | 96 => 199 | n => n, fun | 22 => 25 | 23 => 2 | 3 => 3 | 51 => 110 | 0 => 0 | 67 => 69 | 69 => 54 | 4 => 4 | 61 => 150 | 60 => 149 | 44 => 135 | 5 => 5 | 9 => 9 | 75 => 161 | 79 => 165 | 83 => 173 | 84 => 174 | n => n, fun | n => n⟩
theorem Tryd.sort70 : Go.Proofs.SlLaysN.n53 Tryd.prog Tryd.sort70_ren := {
  mixed := by kernel_rfl
  f53 := ⟨Tryd.f154.name, by decide, Tryd.func154.trans (congrArg some (by kernel_rfl))⟩
  f59 := ⟨Tryd.f190.name, by decide, Tryd.func190.trans (congrArg some (by kernel_rfl))⟩
  f63 := ⟨Tryd.f177.name, by decide, Tryd.func177.trans (congrArg some (by kernel_rfl))⟩
  f64 := Tryd.func142.trans (congrArg some (by kernel_rfl))
  f68 := ⟨Tryd.f198.name, by decide, Tryd.func198.trans (congrArg some (by kernel_rfl))⟩
  f70 := ⟨Tryd.f184.name, by decide, Tryd.func184.trans (congrArg some (by kernel_rfl))⟩
  f71 := ⟨Tryd.f185.name, by decide, Tryd.func185.trans (congrArg some (by kernel_rfl))⟩
  f72 := ⟨Tryd.f186.name, by decide, Tryd.func186.trans (congrArg some (by kernel_rfl))⟩
  f73 := ⟨Tryd.f187.name, by decide, Tryd.func187.trans (congrArg some (by kernel_rfl))⟩
  f74 := ⟨Tryd.f188.name, by decide, Tryd.func188.trans (congrArg some (by kernel_rfl))⟩
  f75 := ⟨Tryd.f189.name, by decide, Tryd.func189.trans (congrArg some (by kernel_rfl))⟩
  f76 := ⟨Tryd.f191.name, by decide, Tryd.func191.trans (congrArg some (by kernel_rfl))⟩
  f77 := ⟨Tryd.f192.name, by decide, Tryd.func192.trans (congrArg some (by kernel_rfl))⟩
  f78 := Tryd.func173.trans (congrArg some (by kernel_rfl))
  f79 := Tryd.func174.trans (congrArg some (by kernel_rfl))
  f88 := ⟨Tryd.f195.name, by decide, Tryd.func195.trans (congrArg some (by kernel_rfl))⟩
  f89 := Tryd.func180.trans (congrArg some (by kernel_rfl))
  f90 := Tryd.func181.trans (congrArg some (by kernel_rfl))
  f91 := ⟨Tryd.f196.name, by decide, Tryd.func196.trans (congrArg some (by kernel_rfl))⟩
  f92 := ⟨Tryd.f197.name, by decide, Tryd.func197.trans (congrArg some (by kernel_rfl))⟩
  f96 := ⟨Tryd.f199.name, by decide, Tryd.func199.trans (congrArg some (by kernel_rfl))⟩
  t0 := Tryd.underlying0
  a0 := Tryd.isAgg0
  z0 := Tryd.sizeOf0
  v0 := Tryd.zeroValue0
  t3 := Tryd.underlying3
  a3 := Tryd.isAgg3
  z3 := Tryd.sizeOf3
  v3 := Tryd.zeroValue3
  t4 := Tryd.underlying4
  a4 := Tryd.isAgg4
  z4 := Tryd.sizeOf4
  v4 := Tryd.zeroValue4
  t5 := Tryd.underlying5
  a5 := Tryd.isAgg5
  z5 := Tryd.sizeOf5
  v5 := Tryd.zeroValue5
  t9 := Tryd.underlying9
  a9 := Tryd.isAgg9
  z9 := Tryd.sizeOf9
  v9 := Tryd.zeroValue9
  t22 := Tryd.underlying25
  a22 := Tryd.isAgg25
  z22 := Tryd.sizeOf25
  v22 := Tryd.zeroValue25
  t23 := Tryd.underlying2
  a23 := Tryd.isAgg2
  z23 := Tryd.sizeOf2
  v23 := Tryd.zeroValue2
  t44 := Tryd.underlying135
  a44 := Tryd.isAgg135
  z44 := Tryd.sizeOf135
  v44 := Tryd.zeroValue135
  t51 := Tryd.underlying110
  a51 := Tryd.isAgg110
  z51 := Tryd.sizeOf110
  v51 := Tryd.zeroValue110
  t60 := Tryd.underlying149
  a60 := Tryd.isAgg149
  z60 := Tryd.sizeOf149
  v60 := Tryd.zeroValue149
  t61 := Tryd.underlying150
  a61 := Tryd.isAgg150
  z61 := Tryd.sizeOf150
  v61 := Tryd.zeroValue150
  t67 := Tryd.underlying69
  a67 := Tryd.isAgg69
  z67 := Tryd.sizeOf69
  v67 := Tryd.zeroValue69
  t69 := Tryd.underlying54
  a69 := Tryd.isAgg54
  z69 := Tryd.sizeOf54
  v69 := Tryd.zeroValue54
  t75 := Tryd.underlying161
  a75 := Tryd.isAgg161
  z75 := Tryd.sizeOf161
  v75 := Tryd.zeroValue161
  t79 := Tryd.underlying165
  a79 := Tryd.isAgg165
  z79 := Tryd.sizeOf165
  v79 := Tryd.zeroValue165
  t83 := Tryd.underlying173
  a83 := Tryd.isAgg173
  z83 := Tryd.sizeOf173
  v83 := Tryd.zeroValue173
  t84 := Tryd.underlying174
  a84 := Tryd.isAgg174
  z84 := Tryd.sizeOf174
  v84 := Tryd.zeroValue174 }
end Go.Proofs
namespace Go.Proofs.YtahibjikcijnfaaDoor
open Go.RowKit
theorem sort_any (B : Nat) (zs : List Int) (g cap : Nat) (w : World) (ho : Own 2 w B (.slice (some ⟨g, 0, none⟩) zs.length cap) (zs.map (.int .i64))) (hm : zs.length ≤ 1048576) :
    Calls Tryd.prog 154 #[.slice (some ⟨g, 0, none⟩) zs.length cap] w fun e w' => e = .returned (.tuple #[]) ∧ Own 2 w' B (.slice (some ⟨g, 0, none⟩) zs.length cap) ((zs.mergeSort fun x y => decide (x ≤ y)).map (.int .i64)) ∧ w.grownBy w' (some g) := by
  rcases ho.form with ⟨h0, _⟩ | ⟨g', cap', spare, hv, hg, hh, hc, hmx⟩
  · cases h0
  · obtain ⟨rfl, rfl⟩ : g = g' ∧ cap = cap' := by
      injection hv with e1 e2 e3
      injection e1 with e1
      injection e1 with e1
      exact ⟨e1, e3⟩
    have hl : (zs.map (Value.int .i64)).length = zs.length := List.length_map _
    have hH : Go.Sort.Holds (Value.int .i64) w g 0 zs.toArray := holds_of_blockI hh (by simp)
    have h := calls_of_every_depth fun D => AnySG.slices_Sort_int_in Tryd.sort70 D g 0 cap zs w hH (ho.lt g rfl) (by omega)
    refine Calls.mono h ?_
    rintro e w' ⟨rfl, n, os, rfl⟩
    have hlen : (zs.mergeSort fun x y => decide (x ≤ y)).length = zs.length := List.length_mergeSort _
    refine ⟨rfl, ?_, grownBy_sortedI _⟩
    have := ownsRow_sortedI (n := n) (os := os) (ss := zs) hlen hg hh (by rw [hl] at hc; omega) hmx (by simp only [List.size_toArray, List.length_append]; omega)
    unfold Own
    rw [List.length_map, hlen]
    exact this
end Go.Proofs.YtahibjikcijnfaaDoor
