/- slices.SortFunc and slices.Contains at arrows, laid from the kit's shelf (lay-plain.mjs), and what the sort leaves. -/
import Derived.Shelf.SlSortCmp.WholeK
import Derived.Shelf.SlicesQ.Contains
import Derived.Shelf.SlGeneric
import Derived.Ground.SlsfProg
import Derived.Ground.SlgqProg
import Derived.Sort.LotA
import Derived.Test.YtggjmnihnjdoaaaDoorProg
import Derived.Test.YtggjmnihnjdoaaaDoorArr
namespace Go.Proofs
open Go.Shelf
def Tryd.sortA_ren : Go.Shelf.Ren := ⟨fun | 6 => 78 | 15 => 128 | 14 => 127 | 28 => 160 | 29 => 161 | 20 => 152 | 21 => 153 | 22 => 154 | 23 => 155 | 24 => 156 | 25 => 157 | 26 => 158 | 27 => 159 | 46 => 169 | 47 => 170 | 48 => 171 | 49 => 172 | 50 => 173 | 57 => 176 | n => n, fun | 22 => 76 | 24 => 78 | 25 => 85 | 3 => 3 | 39 => 102 | 0 => 0 | 53 => 88 | 55 => 50 | 4 => 4 | 46 => 141 | 45 => 140 | 50 => 123 | 5 => 5 | 9 => 9 | 66 => 153 | 70 => 157 | 76 => 162 | 77 => 163 | n => n, fun | n => n⟩
theorem Tryd.sortA : Go.Proofs.SlLaysF0.n6 Tryd.prog Tryd.sortA_ren := {
  mixed := by kernel_rfl
  f6 := ⟨Tryd.f78.name, by decide, Tryd.func78.trans (congrArg some (by kernel_rfl))⟩
  f14 := ⟨Tryd.f127.name, by decide, Tryd.func127.trans (congrArg some (by kernel_rfl))⟩
  f15 := Tryd.func128.trans (congrArg some (by kernel_rfl))
  f20 := ⟨Tryd.f152.name, by decide, Tryd.func152.trans (congrArg some (by kernel_rfl))⟩
  f21 := ⟨Tryd.f153.name, by decide, Tryd.func153.trans (congrArg some (by kernel_rfl))⟩
  f22 := ⟨Tryd.f154.name, by decide, Tryd.func154.trans (congrArg some (by kernel_rfl))⟩
  f23 := ⟨Tryd.f155.name, by decide, Tryd.func155.trans (congrArg some (by kernel_rfl))⟩
  f24 := ⟨Tryd.f156.name, by decide, Tryd.func156.trans (congrArg some (by kernel_rfl))⟩
  f25 := ⟨Tryd.f157.name, by decide, Tryd.func157.trans (congrArg some (by kernel_rfl))⟩
  f26 := ⟨Tryd.f158.name, by decide, Tryd.func158.trans (congrArg some (by kernel_rfl))⟩
  f27 := ⟨Tryd.f159.name, by decide, Tryd.func159.trans (congrArg some (by kernel_rfl))⟩
  f28 := Tryd.func160.trans (congrArg some (by kernel_rfl))
  f29 := Tryd.func161.trans (congrArg some (by kernel_rfl))
  f46 := ⟨Tryd.f169.name, by decide, Tryd.func169.trans (congrArg some (by kernel_rfl))⟩
  f47 := Tryd.func170.trans (congrArg some (by kernel_rfl))
  f48 := Tryd.func171.trans (congrArg some (by kernel_rfl))
  f49 := ⟨Tryd.f172.name, by decide, Tryd.func172.trans (congrArg some (by kernel_rfl))⟩
  f50 := ⟨Tryd.f173.name, by decide, Tryd.func173.trans (congrArg some (by kernel_rfl))⟩
  f57 := ⟨Tryd.f176.name, by decide, Tryd.func176.trans (congrArg some (by kernel_rfl))⟩
  t0 := Tryd.underlying0
  a0 := Tryd.isAgg0
  z0 := Tryd.sizeOf0
  v0 := Tryd.zeroValue0
  t3 := Tryd.underlying3
  a3 := Tryd.isAgg3
  z3 := Tryd.sizeOf3
  v3 := Tryd.zeroValue3
  t4 := Tryd.underlying4
  a4 := Tryd.isAgg4
  z4 := Tryd.sizeOf4
  v4 := Tryd.zeroValue4
  t5 := Tryd.underlying5
  a5 := Tryd.isAgg5
  z5 := Tryd.sizeOf5
  v5 := Tryd.zeroValue5
  t9 := Tryd.underlying9
  a9 := Tryd.isAgg9
  z9 := Tryd.sizeOf9
  v9 := Tryd.zeroValue9
  t22 := Tryd.underlying76
  a22 := Tryd.isAgg76
  z22 := Tryd.sizeOf76
  v22 := Tryd.zeroValue76
  t25 := Tryd.underlying85
  a25 := Tryd.isAgg85
  z25 := Tryd.sizeOf85
  v25 := Tryd.zeroValue85
  t39 := Tryd.underlying102
  a39 := Tryd.isAgg102
  z39 := Tryd.sizeOf102
  v39 := Tryd.zeroValue102
  t45 := Tryd.underlying140
  a45 := Tryd.isAgg140
  z45 := Tryd.sizeOf140
  v45 := Tryd.zeroValue140
  t46 := Tryd.underlying141
  a46 := Tryd.isAgg141
  z46 := Tryd.sizeOf141
  v46 := Tryd.zeroValue141
  t50 := Tryd.underlying123
  a50 := Tryd.isAgg123
  z50 := Tryd.sizeOf123
  v50 := Tryd.zeroValue123
  t53 := Tryd.underlying88
  a53 := Tryd.isAgg88
  z53 := Tryd.sizeOf88
  v53 := Tryd.zeroValue88
  t55 := Tryd.underlying50
  a55 := Tryd.isAgg50
  z55 := Tryd.sizeOf50
  v55 := Tryd.zeroValue50
  t66 := Tryd.underlying153
  a66 := Tryd.isAgg153
  z66 := Tryd.sizeOf153
  v66 := Tryd.zeroValue153
  t70 := Tryd.underlying157
  a70 := Tryd.isAgg157
  z70 := Tryd.sizeOf157
  v70 := Tryd.zeroValue157
  t76 := Tryd.underlying162
  a76 := Tryd.isAgg162
  z76 := Tryd.sizeOf162
  v76 := Tryd.zeroValue162
  t77 := Tryd.underlying163
  a77 := Tryd.isAgg163
  z77 := Tryd.sizeOf163
  v77 := Tryd.zeroValue163 }
def Tryd.containsA_ren : Go.Shelf.Ren := ⟨fun | 7 => 73 | 6 => 126 | n => n, fun | 22 => 76 | 24 => 78 | 4 => 4 | 0 => 0 | 3 => 3 | n => n, fun | n => n⟩
theorem Tryd.containsA : Go.Proofs.SlLaysQ.n7 Tryd.prog Tryd.containsA_ren := {
  mixed := by kernel_rfl
  f6 := ⟨Tryd.f126.name, by decide, Tryd.func126.trans (congrArg some (by kernel_rfl))⟩
  f7 := ⟨Tryd.f73.name, by decide, Tryd.func73.trans (congrArg some (by kernel_rfl))⟩
  t0 := Tryd.underlying0
  a0 := Tryd.isAgg0
  z0 := Tryd.sizeOf0
  v0 := Tryd.zeroValue0
  t3 := Tryd.underlying3
  a3 := Tryd.isAgg3
  z3 := Tryd.sizeOf3
  v3 := Tryd.zeroValue3
  t4 := Tryd.underlying4
  a4 := Tryd.isAgg4
  z4 := Tryd.sizeOf4
  v4 := Tryd.zeroValue4
  t22 := Tryd.underlying76
  a22 := Tryd.isAgg76
  z22 := Tryd.sizeOf76
  v22 := Tryd.zeroValue76 }
end Go.Proofs
namespace Go.Proofs.YtggjmnihnjdoaaaDoor
open Go.RowKit Go.Sort
def encF (x : Fin 256) : List Value := encA x.val
def cfA (x y : Fin 256) : Int := if x.val / 16 = y.val / 16 then ((x.val % 16 : Nat) : Int) - ((y.val % 16 : Nat) : Int) else ((x.val / 16 : Nat) : Int) - ((y.val / 16 : Nat) : Int)
theorem cfA_lt (x y : Fin 256) : ltOf cfA x y = decide (x.val < y.val) := by
  unfold ltOf cfA
  have hx := x.isLt
  have hy := y.isLt
  split
  · congr 1; apply propext; omega
  · congr 1; apply propext; omega
theorem swoA : SWO (ltOf cfA) where
  irrefl x := by rw [cfA_lt]; simp
  trans x y z := by rw [cfA_lt, cfA_lt, cfA_lt]; simp only [decide_eq_true_eq]; omega
  ntrans x y z := by rw [cfA_lt, cfA_lt, cfA_lt]; simp only [decide_eq_false_iff_not]; omega
set_option maxHeartbeats 2000000 in
/-- compareArrows: two blocks are laid. -/
theorem compareArrows_w (p q : Nat) (hp : p < 256) (hq : q < 256) (W : World) : Calls Tryd.prog 79 #[.agg #[.int .i64 (p / 16 : Nat), .int .i64 (p % 16 : Nat)], .agg #[.int .i64 (q / 16 : Nat), .int .i64 (q % 16 : Nat)]] W fun e w' => e = .returned (.int .i64 (if p / 16 = q / 16 then ((p % 16 : Nat) : Int) - ((q % 16 : Nat) : Int) else ((p / 16 : Nat) : Int) - ((q / 16 : Nat) : Int))) ∧ ∃ n os', w' = grow (W.drewN n) os' := by
  have h1 : p / 16 < 16 := by omega
  have h2 : p % 16 < 16 := by omega
  have h3 : q / 16 < 16 := by omega
  have h4 : q % 16 < 16 := by omega
  generalize p / 16 = a at *
  generalize p % 16 = b at *
  generalize q / 16 = c at *
  generalize q % 16 = d at *
  have w1 := IntWalk.i64_in ((a : Int) - c) (by omega)
  have w2 := IntWalk.i64_in ((b : Int) - d) (by omega)
  go_enter Tryd.func79, Tryd.ntmps79
  by_cases he : a = c
  · subst he
    go_wp2
    go_ret
    refine ⟨by simp, 0, _, by rw [alloc_eq_grow, alloc_eq_grow, grow_grow]; rfl⟩
  · have hne : ((a : Int) == (c : Int)) = false := by rw [beq_eq_false_iff_ne]; omega
    have hne' : ((a : Int) != (c : Int)) = true := by rw [bne_iff_ne]; omega
    go_wp2
    go_ret
    refine ⟨by simp, 0, _, by rw [alloc_eq_grow, alloc_eq_grow, grow_grow]; rfl⟩
theorem cmpA (blk off size : Nat) (w : World) : CmpLays Tryd.prog 79 #[] encF 2 cfA blk off size w :=
  fun _ _ _ _ x y => by
    have h := compareArrows_w x.val y.val x.isLt y.isLt (sortWorldK encF 2 w blk off (by assumption) (by assumption) (by assumption))
    exact h
theorem flatF (d : Array (Fin 256)) : flatK encF 2 d = (flA (d.toList.map (·.val))).toArray := by
  refine ext_get! (by simp [flA_length]) fun t ht => ?_
  have ht' : t < d.size * 2 := by simpa using ht
  rw [get_flatK _ _ _ _ ht']
  have hl : t / 2 < (d.toList.map (·.val)).length := by simp; omega
  have hd : d[t / 2]! = d[t / 2]'(by simpa using hl) := getElem!_pos d (t / 2) (by simpa using hl)
  have hg := flA_get (d.toList.map (·.val)) (t / 2) hl
  rw [hd]
  have he : (d.toList.map (·.val))[t / 2] = (d[t / 2]'(by simpa using hl)).val := by simp
  rw [he] at hg
  rcases Nat.mod_two_eq_zero_or_one t with h | h
  · have h' : t / 2 * 2 = t := by omega
    rw [h'] at hg
    rw [h]
    simp only [List.getElem!_toArray, List.getElem!_eq_getElem?_getD, hg.1]
    simp [encF, encA]
  · have h' : t / 2 * 2 + 1 = t := by omega
    rw [h'] at hg
    rw [h]
    simp only [List.getElem!_toArray, List.getElem!_eq_getElem?_getD, hg.2]
    simp [encF, encA]
theorem mapF {L : List Nat} (h : ∀ y ∈ L, y < 256) : (L.map (Fin.ofNat 256)).map (·.val) = L := by
  rw [List.map_map]
  conv => rhs; rw [← List.map_id L]
  apply List.map_congr_left
  intro y hy
  simp [Fin.ofNat, Nat.mod_eq_of_lt (h y hy)]
theorem holds_of_blockV {w : World} {g : Nat} {cur : Array Value} {e : TypeId} {xs : List Value} (hb : w.heap[g]? = some (.cells cur e (0, 0))) (ht : cur.toList.take xs.length = xs) : Holds id w g 0 xs.toArray := by
  intro j hj
  have hj' : j < xs.length := by simpa using hj
  refine ⟨?_, by simp [World.frozen?, hb]⟩
  have h1 : (cur.toList.take xs.length)[j]? = xs[j]? := by rw [ht]
  rw [List.getElem?_take_of_lt hj'] at h1
  simp only [World.cell?, hb, Nat.zero_add]
  simp only [Option.isSome_none, Bool.false_eq_true, if_false]
  rw [← Array.getElem?_toList, h1]
  simp [hj']
theorem heap_sortedV {w : World} {g n : Nat} {os : Array Obj} {cur : Array Value} {e : TypeId} {fr : Nat × Nat} (d : Array Value) (hb : w.heap[g]? = some (.cells cur e fr)) :
    (grow (putRow id (Sort.ahead w n) g 0 d) os).heap[g]? = some (.cells (putCells id 0 d cur) e fr) := by
  have hg : g < w.heap.size := (Array.getElem?_eq_some_iff.1 hb).1
  rw [heap_grow_old _ _ (by simpa using hg)]
  simp [putRow, mapBlock, Sort.ahead, Array.getElem?_modify, hb, onCells]
theorem grownBy_sortedV {w : World} {g n : Nat} {os : Array Obj} (d : Array Value) : w.grownBy (grow (putRow id (Sort.ahead w n) g 0 d) os) (some g) := by
  refine ⟨rfl, rfl, rfl, by simp, fun k hk hne => ?_⟩
  rw [heap_grow_old _ _ (by simpa using hk)]
  have : g ≠ k := fun e => hne (by rw [e])
  simp [putRow, mapBlock, Sort.ahead, Array.getElem?_modify, this]
theorem take_putCellsV (cur : Array Value) (ts : List Value) (h : ts.length ≤ cur.size) : (putCells id 0 ts.toArray cur).toList.take ts.length = ts := by
  apply List.ext_getElem?
  intro j
  by_cases hj : j < ts.length
  · rw [List.getElem?_take_of_lt hj, Array.getElem?_toList]
    simp [putCells, hj, show j < cur.size by omega]
  · rw [List.getElem?_take_eq_none (by omega), List.getElem?_eq_none (by omega)]
theorem sortA_any (B : Nat) (L : List Nat) (hL : ∀ y ∈ L, y < 256) (hln : L.length < 1000000) (g cap : Nat) (w : World) (ho : OwnA w B (.slice (some ⟨g, 0, none⟩) L.length cap) L) :
    Calls Tryd.prog 78 #[.slice (some ⟨g, 0, none⟩) L.length cap, .func (.func 79) #[] #[]] w fun e w' => e = .returned (.tuple #[]) ∧ ∃ L', L'.Perm L ∧ L'.Pairwise (· ≤ ·) ∧ OwnA w' B (.slice (some ⟨g, 0, none⟩) L.length cap) L' ∧ w.grownBy w' (some g) := by
  rcases ho.form with ⟨h0, _⟩ | ⟨g', cap', cur, hv, hg, hh, hc, hmx, hsz, htk⟩
  · cases h0
  · obtain ⟨rfl, rfl⟩ : g = g' ∧ cap = cap' := by
      injection hv with e1 e2 e3
      injection e1 with e1
      injection e1 with e1
      exact ⟨e1, e3⟩
    obtain ⟨d, hd⟩ : ∃ d : Array (Fin 256), d = (L.map (Fin.ofNat 256)).toArray := ⟨_, rfl⟩
    have hdl : d.toList.map (·.val) = L := by rw [hd]; exact mapF hL
    have hds : d.size = L.length := by rw [hd]; simp
    have hH : HoldsK encF 2 w g 0 d := by
      unfold HoldsK
      rw [flatF, hdl]
      exact holds_of_blockV hh (by rw [flA_length]; exact htk)
    have eg : ∀ args w, (callFunc 79 args).run Tryd.prog w = .ok (.enter 79 args) w := enters_of Tryd.func79 (by kernel_rfl) rfl
    have hc := AnyQ.slices_SortFunc Tryd.sortA 2 Tryd.isAgg78 Tryd.sizeOf78 encF (fun _ => rfl) (fun x v hv => by simp [encF, encA] at hv; rcases hv with rfl | rfl <;> rfl) cfA swoA 79 #[] g 0 cap d w eg (cmpA g 0 d.size w) hH (ho.lt g rfl) (by rw [hds]; omega)
    rw [hds] at hc
    refine Calls.mono hc ?_
    rintro e w' ⟨rfl, d', n, os, hP, hS, rfl⟩
    have hl' : d'.size = L.length := hP.1.trans hds
    refine ⟨rfl, d'.toList.map (·.val), ?_, ?_, ?_, ?_⟩
    · have h2 := hP.2.2
      rw [← hds] at h2
      have e1 : d'.extract 0 d.size = d' := by rw [← hP.1]; exact Array.extract_size
      rw [e1, Array.extract_size] at h2
      rw [← hdl]
      exact h2.map _
    · rw [List.pairwise_map, List.pairwise_iff_getElem]
      intro i j hi hj hij
      have hi' : i < d'.size := by simpa using hi
      have hj' : j < d'.size := by simpa using hj
      have := hS i j (Nat.zero_le _) hij (by omega)
      rw [cfA_lt, getElem!_pos d' i hi', getElem!_pos d' j hj'] at this
      simp only [decide_eq_false_iff_not] at this
      simp only [Array.getElem_toList]
      omega
    · have hlen : (d'.toList.map (·.val)).length = L.length := by simp [hl']
      have hfl : (flA (d'.toList.map (·.val))).length = L.length * 2 := by rw [flA_length, hlen]
      have hb' : (sortWorldK encF 2 w g 0 n d' os).heap[g]? = some (.cells (putCells id 0 (flA (d'.toList.map (·.val))).toArray cur) 78 (0, 0)) := by
        unfold sortWorldK putRowK
        rw [flatF]
        exact heap_sortedV _ hh
      have := OwnA.of_block (L := d'.toList.map (·.val)) (cap := cap) hg hb' (by rw [hlen]; exact ‹L.length ≤ cap›) hmx (by simp [putCells, hsz]) (by rw [hlen, ← hfl]; exact take_putCellsV cur _ (by rw [hfl]; omega))
      rw [hlen] at this
      exact this
    · unfold sortWorldK putRowK
      exact grownBy_sortedV _
end Go.Proofs.YtggjmnihnjdoaaaDoor
