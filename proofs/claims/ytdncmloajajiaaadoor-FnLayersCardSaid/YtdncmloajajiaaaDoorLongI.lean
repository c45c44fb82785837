/- The longest list that begins with a vertex: the reference's. · The longest lists: the program's. -/
import Derived.Test.YtdncmloajajiaaaDoorLongM
import Derived.Test.YtdncmloajajiaaaDoorTrans
import Derived.Test.YtdncmloajajiaaaDoorQuiet
import Derived.Test.YtdncmloajajiaaaDoorMem3
import Derived.Test.YtdncmloajajiaaaDoorBag
import Derived.Test.YtdncmloajajiaaaDoorCode2
import Derived.Test.YtdncmloajajiaaaDoorReach
import Derived.Deep.RegionLaw
import Derived.Deep.AppendLies
namespace Go.Proofs.YtdncmloajajiaaaDoor
open Go.RowKit
section
def li (l : List Nat) : List Int := l.map fun i : Nat => (i : Int)
theorem li_length (l : List Nat) : (li l).length = l.length := List.length_map _
section
theorem rows_dag {n : Nat} {up : List (List Int)} (hi : ∀ l ∈ up, Inc n l) (hn : n ≤ 16) (v : Nat) (hv : v < up.length) : up[v] = mems ((up.map maskL).getD v 0) := by
  rw [getD_in (by rw [List.length_map]; exact hv), List.getElem_map, mems_maskL (n := (n : Int)) (hi _ (List.getElem_mem hv)) (by omega)]
theorem bestV2_17 {n : Nat} {F : List Nat} (h : Dag n F) (k : Nat) : (bestV2 F k).length ≤ 17 := by
  unfold bestV2
  rcases bestOf_mem ((List.range k).map (longN F)) with h1 | h1
  · rw [h1]; simp
  · obtain ⟨u, _, h2⟩ := List.mem_map.1 h1
    rw [← h2]; exact longN_17 h u
end
end
section
section
set_option maxHeartbeats 1000000 in
theorem cmp_gt (x y : Int) (w : World) (h : y < x) : Calls Tryd.prog 102 #[.int .i64 x, .int .i64 y] w fun e w' => e = .returned (.int .i64 1) ∧ w = w' := by
  have h1 : (x != x) = false := by simp
  have h2 : (y != y) = false := by simp
  have h3 : ¬ x < y := by omega
  go_enter Tryd.func102, Tryd.ntmps102
  go_wp2
  go_ret
  exact ⟨rfl, rfl⟩
set_option maxHeartbeats 2000000 in
theorem compare_gt (a : Option Addr) (x : List Int) (c : Nat) (b : Option Addr) (y : List Int) (d : Nat) (w : World) (hx : Rd (Value.int .i64) w a x) (hy : Rd (Value.int .i64) w b y) (h0 : 0 < x.length) (h1 : 0 < y.length) (h : y[0] < x[0]) :
    Calls Tryd.prog 95 #[.slice a x.length c, .slice b y.length d] w fun e w' => e = .returned (.int .i64 1) ∧ w = w' := by
  obtain ⟨ab, ao, rfl, ca⟩ := hx 0 h0
  obtain ⟨bb, bo, rfl, cb⟩ := hy 0 h1
  have h0i : (0 : Int) < (x.length : Int) := by omega
  have h1i : ¬ (0 : Int) ≥ (y.length : Int) := by omega
  rw [Nat.add_zero] at ca cb
  generalize x[0] = p at *
  generalize y[0] = q at *
  clear hx hy
  go_enter Tryd.func95, Tryd.ntmps95
  go_wp2
  go_loopw [5, 6, 7, 8, 11] (fun _ _ _ _ i wr => i = .int .i64 0 ∧ wr = w) (fun _ _ _ _ _ _ => 0)
  case atStart => exact ⟨rfl, rfl⟩
  case round =>
    obtain ⟨rfl, rfl⟩ := hrel
    go_wp2_with (first | (go_at_call 102; refine (cmp_gt p q _ h).mono ?_; rintro e w' ⟨rfl, rfl⟩))
    all_goals go_wp2
    all_goals (go_ret; exact ⟨rfl, rfl⟩)
set_option maxHeartbeats 2000000 in
theorem isBetter_b (a : Option Addr) (x : List Int) (n c : Nat) (b : Option Addr) (y : List Int) (m d : Nat) (w : World) (r : Bool) (hxn : x.length = n) (hym : y.length = m) (hr : decide (m < n) = r) (hx : Rd (Value.int .i64) w a x) (hy : Rd (Value.int .i64) w b y) (h : x.length = y.length → ∃ (h0 : 0 < x.length) (h1 : 0 < y.length), y[0] < x[0]) :
    Calls Tryd.prog 77 #[.slice a n c, .slice b m d] w fun e w' => e = .returned (.bool r) ∧ w = w' := by
  subst hxn; subst hym
  have HR := hid hr
  clear hr
  by_cases he : x.length = y.length
  · obtain ⟨h0, h1, h2⟩ := h he
    have hne : ((x.length : Int) != (y.length : Int)) = false := by simp [he]
    have HF := hid (show (false : Bool) = r by rw [← HR.out, he]; simp)
    have HX := hid hx; have HY := hid hy
    clear hx hy h he
    go_enter Tryd.func77, Tryd.ntmps77
    go_wp2_with (first | (go_at_call 95; refine (compare_gt a x c b y d _ HX.out HY.out h0 h1 h2).mono ?_; rintro e w' ⟨rfl, rfl⟩))
    go_wp2
    go_ret
    exact ⟨ret_bool HF.out, rfl⟩
  · have hne : ((x.length : Int) != (y.length : Int)) = true := by simp; omega
    clear h hx hy
    generalize x.length = p at *
    generalize y.length = q at *
    by_cases hg : q < p
    · have hgi : (p : Int) > (q : Int) := by omega
      have HF := hid (show (true : Bool) = r by rw [← HR.out]; simp [hg])
      clear hg
      go_enter Tryd.func77, Tryd.ntmps77
      go_wp2
      go_ret
      exact ⟨ret_bool HF.out, rfl⟩
    · have hgi : ¬ (p : Int) > (q : Int) := by omega
      have HF := hid (show (false : Bool) = r by rw [← HR.out]; simp; omega)
      clear hg
      go_enter Tryd.func77, Tryd.ntmps77
      go_wp2
      go_ret
      exact ⟨ret_bool HF.out, rfl⟩
end
section
theorem eql_nilL (a : Option Addr) (l c : Nat) (w : World) : (binOp .eql 62 (.slice a l c) (.slice none 0 0)).run Tryd.prog w = .ok (.bool a.isNone) w := by
  simp only [binOp]
  simp [run_equal_slice_nil w 62 3 a l c Tryd.underlying62]
theorem memsN_sorted (S : Nat) : (memsN S).Pairwise (· < ·) := (List.pairwise_lt_range).filter _
theorem heads_of {n : Nat} {F : List Nat} (h : Dag n F) {l : List Nat} {u : Nat} (hl : ∀ x ∈ l, x < u) (he : (li (longN F u)).length = (li (bestOf (l.map (longN F)))).length) :
    ∃ (h0 : 0 < (li (longN F u)).length) (h1 : 0 < (li (bestOf (l.map (longN F)))).length), (li (bestOf (l.map (longN F))))[0] < (li (longN F u))[0] := by
  obtain ⟨t, ht⟩ := longN_head h u
  rcases best_head h hl with h1 | ⟨x, _, hx, h1⟩
  · rw [ht, h1] at he; simp [li] at he
  · have hx' := hx
    refine ⟨by rw [ht]; simp [li], by rw [h1]; simp [li], ?_⟩
    simp only [ht, h1, li, List.map_cons, List.getElem_cons_zero]
    omega
theorem heads_K {n : Nat} {F : List Nat} (h : Dag n F) (v j : Nat) (hj : j < (memsN (F.getD v 0)).length) (he : (li (longN F (memsN (F.getD v 0))[j])).length = (li (bestK F v j)).length) :
    ∃ (h0 : 0 < (li (longN F (memsN (F.getD v 0))[j])).length) (h1 : 0 < (li (bestK F v j)).length), (li (bestK F v j))[0] < (li (longN F (memsN (F.getD v 0))[j]))[0] := by
  refine heads_of h (l := (memsN (F.getD v 0)).take j) ?_ he
  intro x hx
  obtain ⟨i, hi, rfl⟩ := List.mem_iff_getElem.1 hx
  rw [List.length_take] at hi
  rw [List.getElem_take]
  exact List.pairwise_iff_getElem.1 (memsN_sorted _) i j (by omega) hj (by omega)
theorem heads_V {n : Nat} {F : List Nat} (h : Dag n F) (k : Nat) (he : (li (longN F k)).length = (li (bestV2 F k)).length) :
    ∃ (h0 : 0 < (li (longN F k)).length) (h1 : 0 < (li (bestV2 F k)).length), (li (bestV2 F k))[0] < (li (longN F k))[0] :=
  heads_of h (l := List.range k) (fun _ hx => List.mem_range.1 hx) he
theorem drewH (w : World) : w.drew.heap = w.heap := rfl
theorem belowD {B : Nat} {a W : World} (h : Below B a W) : Below B a W.drew := h.trans (Drawn.below (a := W) (b := W.drew) ⟨1, rfl⟩ B)
theorem blkN (w : World) (o : Obj) (g : Nat) (h : g = w.heap.size) : (w.alloc o).heap[g]? = some o := by subst h; show (w.heap.push o)[w.heap.size]? = some o; simp
theorem own_blk {b o n c k : Nat} (h : (Value.slice (some ⟨b, o, none⟩) n c).ownBlock = some k) : b = k := by
  simpa [Value.ownBlock] using h
theorem own_one (e : TypeId) (W : World) (B g : Nat) (u : Value) (hB : B ≤ g) (h : W.heap[g]? = some (.cells #[u] e (0, 0))) : Own e W B (.slice (some ⟨g, 0, none⟩) 1 1) [u] :=
  Own.of_block (xs := [u]) (spare := []) hB (by simpa using h) rfl (by unfold maxLen; omega)
theorem ownI_rd {w : World} {B n c : Nat} {a : Option Addr} {zs : List Int} (h : Own 3 w B (.slice a n c) (zs.map (.int .i64))) : Rd (Value.int .i64) w a zs := by
  obtain ⟨a', c', h1, h2, _⟩ := h.rd
  obtain ⟨rfl, _, rfl⟩ := slice_inj h1
  exact h2
theorem own_some {w : World} {B : Nat} {v : Value} {xs : List Value} {zs : List Nat} {l : List Nat} (he : xs = (li zs).map (Value.int .i64)) (hl : zs.length = l.length + 1) (h : Own 3 w B v xs) :
    ∃ g c, v = .slice (some ⟨g, 0, none⟩) zs.length c ∧ Own 3 w B (.slice (some ⟨g, 0, none⟩) zs.length c) ((li zs).map (.int .i64)) := by
  subst he
  rcases h.form with ⟨h1, h2⟩ | ⟨g, c, sp, h1, _⟩
  · have := congrArg List.length h2
    rw [List.length_map, li_length, List.length_nil] at this
    omega
  · rw [List.length_map, li_length] at h1
    exact ⟨g, c, h1, by rw [← h1]; exact h⟩
/-- Vertex i's list is known. -/
def KD (F : List Nat) (B : Nat) (w : World) (ps : List Row) (i : Nat) : Prop :=
  ∃ g c, ps[i]? = some ⟨some ⟨g, 0, none⟩, li (longN F i), c⟩ ∧ Own 3 w B (.slice (some ⟨g, 0, none⟩) (longN F i).length c) ((li (longN F i)).map (.int .i64))
def KAll (F : List Nat) (B n : Nat) (w : World) (ps : List Row) : Prop := ps.length = n ∧ ∀ i, i < n → ps[i]? = some ⟨none, [], 0⟩ ∨ KD F B w ps i
theorem KD.keptS {F : List Nat} {B B' i kb n c : Nat} {w w' : World} {ps : List Row} {xs : List Value} (h : KD F B w ps i) (ho : Own 62 w B' (.slice (some ⟨kb, 0, none⟩) n c) xs) (hk : Kept (fun g => g = kb) w w') : KD F B w' ps i := by
  obtain ⟨g, c, h1, h2⟩ := h
  refine ⟨g, c, h1, h2.keptS hk (fun g' hg e => ?_)⟩
  rcases h2.ne ho (by decide) with h3 | h3
  · rw [h3] at hg; cases hg
  · exact h3 (by rw [hg, e]; rfl)
theorem KAll.keptS {F : List Nat} {B B' kb n m c : Nat} {w w' : World} {ps : List Row} {xs : List Value} (h : KAll F B n w ps) (ho : Own 62 w B' (.slice (some ⟨kb, 0, none⟩) m c) xs) (hk : Kept (fun g => g = kb) w w') : KAll F B n w' ps :=
  ⟨h.1, fun i hi => (h.2 i hi).imp id fun h => h.keptS ho hk⟩
theorem KD.past {F : List Nat} {B B' i : Nat} {w w' : World} {ps : List Row} (h : KD F B w ps i) (hb : Below B' w w') (hB : w.heap.size ≤ B') : KD F B w' ps i := by
  obtain ⟨g, c, h1, h2⟩ := h
  exact ⟨g, c, h1, h2.past hb hB⟩
theorem KAll.past {F : List Nat} {B B' n : Nat} {w w' : World} {ps : List Row} (h : KAll F B n w ps) (hb : Below B' w w') (hB : w.heap.size ≤ B') : KAll F B n w' ps :=
  ⟨h.1, fun i hi => (h.2 i hi).imp id fun h => h.past hb hB⟩
theorem KAll.set {F : List Nat} {B n g c v : Nat} {w : World} {ps : List Row} (h : KAll F B n w ps) (hv : v < n) (hx : Own 3 w B (.slice (some ⟨g, 0, none⟩) (longN F v).length c) ((li (longN F v)).map (.int .i64))) :
    KAll F B n w (ps.set v ⟨some ⟨g, 0, none⟩, li (longN F v), c⟩) ∧ (∀ i, KD F B w ps i → KD F B w (ps.set v ⟨some ⟨g, 0, none⟩, li (longN F v), c⟩) i) ∧ KD F B w (ps.set v ⟨some ⟨g, 0, none⟩, li (longN F v), c⟩) v := by
  have hvp : v < ps.length := by rw [h.1]; exact hv
  have h3 : KD F B w (ps.set v ⟨some ⟨g, 0, none⟩, li (longN F v), c⟩) v := ⟨g, c, by simp [hvp], hx⟩
  have h2 : ∀ i, KD F B w ps i → KD F B w (ps.set v ⟨some ⟨g, 0, none⟩, li (longN F v), c⟩) i := by
    intro i hi
    by_cases he : v = i
    · subst he; exact h3
    · obtain ⟨g', c', h4, h5⟩ := hi
      exact ⟨g', c', by rw [List.getElem?_set_ne he]; exact h4, h5⟩
  refine ⟨⟨by rw [List.length_set]; exact h.1, fun i hi => ?_⟩, h2, h3⟩
  by_cases he : v = i
  · subst he; exact .inr h3
  · rcases h.2 i hi with h4 | h4
    · exact .inl (by rw [List.getElem?_set_ne he]; exact h4)
    · exact .inr (h2 i h4)
/-- What the closure leaves. -/
def FromPost (F : List Nat) (B kb n : Nat) (w : World) (ps : List Row) (v : Nat) (e : Ending) (w' : World) : Prop :=
  ∃ ps' g c, e = .returned (.slice (some ⟨g, 0, none⟩) (longN F v).length c) ∧ Own 3 w' B (.slice (some ⟨g, 0, none⟩) (longN F v).length c) ((li (longN F v)).map (.int .i64)) ∧ Own 62 w' B (.slice (some ⟨kb, 0, none⟩) n n) (ps'.map Row.val) ∧ KAll F B n w' ps' ∧ (∀ i, KD F B w ps i → KD F B w' ps' i) ∧ KD F B w' ps' v ∧ Kept (fun g => g = kb) w w'
theorem step_app {P : Program} {ops : Array Oper} {o : Oper} {a : Act} {K : Act → World → Prop} {Q : Exit → Act → World → Prop} {E : Prop} {t e : TypeId} {z : Value} (hT : SliceT P t e z) (W : World) (hg : o.guard = none) (s x : Operand) (hop : o.op = .call { callee := .builtin .append, args := #[s, x], argTypes := #[t, t] })
    {α : Type} (f : α → Value) (B : Nat) (v : Value) (xs : List Value) (hs : a.eval s = v) (hown : Own e W B v xs) (b off n c : Nat) (zs : List α) (hx : a.eval x = .slice (some ⟨b, off, none⟩) n c) (hzn : zs.length = n) (hr : Rd f W (some ⟨b, off, none⟩) zs)
    (hf : ∀ y ∈ zs, (f y).oneCell' = true) (hn : xs.length + n ≤ 1099511627776) (hB : B ≤ W.heap.size)
    (hK : ∀ v' w', Own e w' B v' (xs ++ zs.map f) → W.grownBy w' v.ownBlock → K (a.put o.dst v') w') :
    if Region.wanted o (yielded ops a.tmps) = true then Oper.wp P o a W K Q else E := by
  subst hzn
  have hw : Region.wanted o (yielded ops a.tmps) = true := by simp [Region.wanted, hg]
  rw [if_pos hw]
  obtain ⟨ht, bytes, hby, hi0, hz⟩ := hT
  obtain ⟨i, hi, hz0, hz1, hz2⟩ := info_parts hi0
  refine wp_append_own W s x t hop B e i z 1 bytes ht hi hz0 hz1 hz2 (by rw [hz]; rfl) (by decide) v xs.length xs hs hown ⟨b, off, none⟩ zs.length c (zs.map f) hx (by simp) (fun j u hj => ?_) (fun u hu => ?_) (by unfold maxLen; omega) ?_ hB fun v' w' h1 h2 _ => hK v' w' (by simpa [Own] using h1) h2
  · have hj' : j < zs.length := by
      rcases Nat.lt_or_ge j zs.length with h | h
      · exact h
      · simp [List.getElem?_eq_none h] at hj
    obtain ⟨b', off', hbo, hc⟩ := hr j hj'
    cases hbo
    have : u = f zs[j] := by simpa [List.getElem?_eq_getElem hj'] using hj.symm
    rw [this, ← hc]
    by_cases hj0 : j = 0
    · subst hj0; simp [Addr.add]
    · simp [Addr.add, hj0]
  · obtain ⟨y, hy, rfl⟩ := List.mem_map.1 hu
    exact hf y hy
  · exact Nat.le_trans (Nat.mul_le_mul_left _ hby) (by omega)
set_option maxRecDepth 100000 in
set_option maxHeartbeats 4000000 in
theorem from_any {n : Nat} {F : List Nat} (hD : Dag n F) (W0 : World) (hT : TabOk W0) (fa : Option Addr) (fcap : Nat) (hF : Rd maskF W0 fa F) (kb kc fc rc : Nat) (hkb : W0.heap.size ≤ kb) (hne : kc ≠ kb ∧ fc ≠ kb ∧ rc ≠ kb) :
    ∀ (k v : Nat) (w : World) (ps : List Row), rkN F v < k → v < n → Below W0.heap.size W0 w → w.cell? ⟨kc, 0, none⟩ = some (.slice (some ⟨kb, 0, none⟩) n n) → w.cell? ⟨fc, 0, none⟩ = some (.slice fa n fcap) →
      w.cell? ⟨rc, 0, none⟩ = some (.func (.func 78) #[] #[.pointer (some ⟨kc, 0, none⟩), .pointer (some ⟨fc, 0, none⟩), .pointer (some ⟨rc, 0, none⟩)]) →
      Own 62 w W0.heap.size (.slice (some ⟨kb, 0, none⟩) n n) (ps.map Row.val) → KAll F W0.heap.size n w ps →
      Calls Tryd.prog 78 #[.int .i64 v, .pointer (some ⟨kc, 0, none⟩), .pointer (some ⟨fc, 0, none⟩), .pointer (some ⟨rc, 0, none⟩)] w (FromPost F W0.heap.size kb n w ps v) := by
  have RT := hid hT; have RF := hid hF; have HD := hid hD
  clear hT hF hD
  intro k
  induction k with
  | zero => intro v w ps h; omega
  | succ k ih =>
    intro v w ps hk hv hb ck cf cr ho hall
    have IH := hid ih
    have OK := hid ho; have KA := hid hall; have B0 := hid hb
    clear ih ho hall hb
    have h16 := HD.out.le
    have hvi : (v : Int) < (n : Int) := by omega
    have hpl : ps.length = n := KA.out.1
    have cv := OK.out.cell v (by rw [List.length_map, hpl]; exact hv)
    rw [List.getElem_map] at cv
    have hvp : v < ps.length := by omega
    have hgv : ps[v]? = some ps[v] := List.getElem?_eq_getElem hvp
    rcases KA.out.2 v hv with hnil | hkd
    · have hpv : ps[v] = ⟨none, [], 0⟩ := by rw [hgv] at hnil; injection hnil
      rw [hpv] at cv
      have hen := eql_nilL none 0 0 w
      have cv2 : w.cell? ⟨kb, v, none⟩ = some (.slice none 0 0) := cv
      clear cv hgv hnil hpv
      have HPL := hid hpl
      clear hpl hvp
      have hF32 := HD.out.lt32 v
      have hvF : v < F.length := by rw [HD.out.len]; exact hv
      obtain ⟨fb, fo, rfl, cm0⟩ := RF.out v hvF
      have hb1 := alloc_below w (.cells #[] 3)
      have HW1 := hid (show Own 3 (w.alloc (.cells #[] 3)) w.heap.size (.slice (some ⟨w.heap.size, 0, none⟩) 0 0) ((li (bestK F v 0)).map (.int .i64)) from own_new 3 w [] (by decide))
      have cf1 := cellB hb1 cf (Nat.le_refl _)
      have cm1 := cellB (B0.out.trans (hb1.mono B0.out.size)) cm0 (Nat.le_refl _)
      have HM := hid (show F[v] = F.getD v 0 from (getD_in hvF).symm)
      rw [HM.out] at cm1
      unfold maskF at cm1
      have hszw := B0.out.size
      have hkbw : kb < w.heap.size := OK.out.lt kb rfl
      have hvFi : (v : Int) < (n : Int) := hvi
      have hml := mems_len (F.getD v 0)
      have HLMN := hid (mems_lenN (F.getD v 0))
      clear cm0 hvF HM
      have CK := hid ck; have CR := hid cr; have CF := hid cf
      have B1 := hid (B0.out.trans (hb1.mono B0.out.size))
      have OK1 := hid (OK.out.past hb1 (Nat.le_refl _))
      have KA1 := hid (KA.out.past hb1 (Nat.le_refl _))
      have HB1 := hid hb1
      have hsz1 := hb1.size
      clear cf hb1
      go_enter Tryd.func78, Tryd.ntmps78
      go_wp2_with fail
      generalize w.alloc (.cells #[] 3) = w1 at *
      refine (list_any (F.getD v 0) w1 (RT.out.below B1.out (Nat.le_refl _)) hF32).mono ?_
      rintro e w2 ⟨lv, rfl, hown, hb⟩
      obtain ⟨la, lc, rfl, hlr, _, _, _, hlb⟩ := hown.rd
      have RL := hid hlr; have HLB := hid hlb
      have B2 := hid (B1.out.trans (hb.mono B1.out.size))
      have OK2 := hid (OK1.out.past hb (Nat.le_refl _))
      have KA2 := hid (KA1.out.past hb (Nat.le_refl _))
      have HW2 := hid ((HW1.out.past hb (Nat.le_refl _)).base (B' := W0.heap.size) hszw)
      have HKM2 := hid (fun i (h : KD F W0.heap.size w ps i) => (h.past HB1.out (Nat.le_refl _)).past hb (Nat.le_refl _))
      have K2 := hid ((Kept.of_below (fun g => g = kb) HB1.out).trans (Kept.of_below _ hb))
      have hsz2 := hb.size
      clear hown hlr hlb hb OK1 KA1 HW1 B1 cf1 cm1
      go_wp2
      go_loopw [6, 8, 9, 22] (fun bv _ _ x wr => ∃ (j g cap : Nat) (pq : List Row), j ≤ (mems (F.getD v 0)).length ∧ x = .int .i64 j ∧ bv = .slice (some ⟨g, 0, none⟩) (bestK F v j).length cap ∧ Own 3 wr W0.heap.size (.slice (some ⟨g, 0, none⟩) (bestK F v j).length cap) ((li (bestK F v j)).map (.int .i64)) ∧ Own 62 wr W0.heap.size (.slice (some ⟨kb, 0, none⟩) n n) (pq.map Row.val) ∧ KAll F W0.heap.size n wr pq ∧ (∀ i, KD F W0.heap.size w ps i → KD F W0.heap.size wr pq i) ∧ Kept (fun g => g = kb) w2 wr) (fun _ _ _ x _ => (mems (F.getD v 0)).length - (intOf x).toNat)
      case atStart => exact ⟨0, _, _, ps, Nat.zero_le _, rfl, rfl, HW2.out, OK2.out, KA2.out, HKM2.out, Kept.refl _ _⟩
      case round =>
        clear OK KA OK2 KA2 HW2 HKM2
        obtain ⟨j, g, cap, pq, hj, rfl, rfl, hob, hok, hka, hkm, hkp⟩ := hrel
        have OB := hid hob; have OK := hid hok; have KA := hid hka; have HKM := hid hkm; have KP := hid hkp
        have HK := hid (K2.out.trans hkp)
        have BL := hid (B2.out.trans (Kept.below1 hkp hkb B2.out.size))
        have ckr := cellK HK.out CK.out (by simp only; exact hne.1)
        have cfr := cellK HK.out CF.out (by simp only; exact hne.2.1)
        have crr := cellK HK.out CR.out (by simp only; exact hne.2.2)
        clear hob hok hka hkm hkp
        have h17j := bestK_17 HD.out v j
        by_cases hlt : j < (mems (F.getD v 0)).length
        · have hltN : j < (memsN (F.getD v 0)).length := by rw [← HLMN.out]; exact hlt
          clear HLMN
          obtain ⟨lb', lo', hla, cl⟩ := RL.out j hlt
          have hlb := (HLB.out lb' lo' hla).1
          have hlbk : lb' ≠ kb := by omega
          have cl2 := cellK KP.out cl (by simp only; exact hlbk)
          have hatl := at_slice tIntsL hla (mems (F.getD v 0)).length lc j hlt
          have hki : (j : Int) < ((mems (F.getD v 0)).length : Int) := by omega
          rw [memsN_get hlt] at cl2
          have hmem := List.getElem_mem hltN
          have hbt : bt F v ((memsN (F.getD v 0))[j]) = true := (memsN_mem (by omega)).1 hmem
          have hrk := HD.out.rk hbt
          have hun := memsN_under HD.out hmem
          have HSU := hid (bestK_succ F v j hltN)
          have HHD := hid (heads_K HD.out v j hltN)
          have hl17 := longN_17 HD.out ((memsN (F.getD v 0))[j])
          clear cl hmem hbt hlb hlbk
          generalize (memsN (F.getD v 0))[j] = u at *
          go_wp2_with fail
          refine (IH.out u wr pq (by omega) hun BL.out ckr cfr crr OK.out KA.out).mono ?_
          rintro e w3 ⟨pq', gx, cx, rfl, hox, hok', hka', hkm', hkd', hk'⟩
          have OX := hid hox; have OK' := hid hok'; have KA' := hid hka'
          have HKM' := hid (fun i h => hkm' i (HKM.out i h))
          have KP' := hid (KP.out.trans hk')
          have OB' := hid (OB.out.keptS hk' (fun g' hg e => by
            rcases OB.out.ne OK.out (by decide) with h1 | h1
            · rw [h1] at hg; cases hg
            · exact h1 (by rw [hg, e]; rfl)))
          clear hox hok' hka' hkm' hkd' hk' OB OK KA HKM KP HK BL ckr cfr crr cl2 hatl hla
          have HRX := hid (ownI_rd OX.out)
          have HRB := hid (ownI_rd OB'.out)
          by_cases hgt : (bestK F v j).length < (longN F u).length
          · have HS2 := hid (show bestK F v (j + 1) = longN F u by rw [HSU.out]; unfold lgr; rw [if_pos hgt])
            have HR := hid (show decide ((bestK F v j).length < (longN F u).length) = true by simpa using hgt)
            clear hgt HSU
            generalize hL : (longN F u).length = L at *
            generalize hM : (bestK F v j).length = M at *
            have HL := hid hL; have HMM := hid hM
            clear hL hM
            go_wp2_with fail
            refine (isBetter_b _ (li (longN F u)) L cx _ (li (bestK F v j)) M cap _ true (by rw [li_length]; exact HL.out) (by rw [li_length]; exact HMM.out) HR.out HRX.out HRB.out HHD.out).mono ?_
            rintro e w4 ⟨rfl, rfl⟩
            go_wp2
            go_roundw
            case rel => exact ⟨j + 1, gx, cx, pq', by omega, by go_num, by rw [HS2.out, HL.out], by rw [HS2.out, HL.out]; exact OX.out, OK'.out, KA'.out, HKM'.out, KP'.out⟩
            case measure => simp [intOf]; omega
          · have HS2 := hid (show bestK F v (j + 1) = bestK F v j by rw [HSU.out]; unfold lgr; rw [if_neg hgt])
            have HR := hid (show decide ((bestK F v j).length < (longN F u).length) = false by simpa using hgt)
            clear hgt HSU
            generalize hL : (longN F u).length = L at *
            generalize hM : (bestK F v j).length = M at *
            have HL := hid hL; have HMM := hid hM
            clear hL hM
            go_wp2_with fail
            refine (isBetter_b _ (li (longN F u)) L cx _ (li (bestK F v j)) M cap _ false (by rw [li_length]; exact HL.out) (by rw [li_length]; exact HMM.out) HR.out HRX.out HRB.out HHD.out).mono ?_
            rintro e w4 ⟨rfl, rfl⟩
            go_wp2
            go_roundw
            case rel => exact ⟨j + 1, g, cap, pq', by omega, by go_num, by rw [HS2.out, HMM.out], by rw [HS2.out, HMM.out]; exact OB'.out, OK'.out, KA'.out, HKM'.out, KP'.out⟩
            case measure => simp [intOf]; omega
        · obtain rfl : j = (mems (F.getD v 0)).length := by omega
          have HALL := hid (bestK_all HD.out v)
          rw [← HLMN.out] at HALL
          clear HLMN
          have HRB := hid (ownI_rd OB.out)
          have HKW := hid (show W0.heap.size ≤ wr.heap.size from BL.out.size)
          have HE := hid (show [Value.int .i64 (v : Int)] ++ (li (bestK F v (mems (F.getD v 0)).length)).map (Value.int .i64) = (li (longN F v)).map (.int .i64) by rw [← HALL.out]; rfl)
          have HLL := hid (show (longN F v).length = (bestK F v (mems (F.getD v 0)).length).length + 1 by rw [← HALL.out]; rfl)
          have hpql : pq.length = n := KA.out.1
          have HPQ := hid (show v < (pq.map Row.val).length by rw [List.length_map, hpql]; exact hv)
          clear hpql cfr crr
          generalize hbb : bestK F v (mems (F.getD v 0)).length = bb at *
          have HBB := hid hbb
          clear hbb
          have hlib := li_length bb
          have HLIB := hid hlib
          clear hlib
          have q0 : wr.drew.cell? ⟨kc, 0, none⟩ = some (.slice (some ⟨kb, 0, none⟩) n n) := ckr
          have q1 : (wr.alloc (.cells #[.int .i64 (v : Int)] 3)).cell? ⟨kc, 0, none⟩ = some (.slice (some ⟨kb, 0, none⟩) n n) := cellB (alloc_below wr _) ckr (Nat.le_refl _)
          have q2 : (wr.alloc (.cells #[.int .i64 (v : Int)] 3)).drew.cell? ⟨kc, 0, none⟩ = some (.slice (some ⟨kb, 0, none⟩) n n) := q1
          have q3 : (wr.drew.alloc (.cells #[.int .i64 (v : Int)] 3)).cell? ⟨kc, 0, none⟩ = some (.slice (some ⟨kb, 0, none⟩) n n) := q1
          go_wp2_with fail
          go_region_law ((first | (refine step_app tIntsL _ rfl _ _ rfl (Value.int .i64) W0.heap.size _ [.int .i64 (v : Int)] rfl (own_one _ _ _ _ _ HKW.out (by exact blkN _ _ _ rfl)) g 0 _ _ (li bb) rfl HLIB.out (HRB.out.below (B := wr.heap.size) (by repeat (first | exact Below.refl _ _ | refine belowD ?_ | refine Below.alloc ?_ (Nat.le_refl _) _)) (Nat.le_refl _)) (fun y _ => rfl) (by show 1 + _ ≤ _; omega) (Nat.le_trans HKW.out (Below.size (B := wr.heap.size) (w := wr) (by repeat (first | exact Below.refl _ _ | refine belowD ?_ | refine Below.alloc ?_ (Nat.le_refl _) _)))) ?_; intro v' w5 h1 h2; have HB5 : Below wr.heap.size wr w5 := Below.trans (b := _) (by repeat (first | exact Below.refl _ _ | refine belowD ?_ | refine Below.alloc ?_ (Nat.le_refl _) _)) (grown_below h2 (Below.size (B := wr.heap.size) (w := wr) (by repeat (first | exact Below.refl _ _ | refine belowD ?_ | refine Below.alloc ?_ (Nat.le_refl _) _))) (fun k hk => Nat.le_of_eq (own_blk hk))); obtain ⟨g5, c5, rfl, hox⟩ := own_some HE.out HLL.out h1; have ck5 := cellB HB5 ckr (Nat.le_refl _); have OK5 := hid (OK.out.past HB5 (Nat.le_refl _)); have hfr5 := OK5.out.free v; have co5 := OK5.out.cell v HPQ.out)))
          all_goals (
            have HRV := hid (show Row.val ⟨some ⟨g5, 0, none⟩, li (longN F v), c5⟩ = .slice (some ⟨g5, 0, none⟩) (longN F v).length c5 by unfold Row.val; simp only [li_length])
            have K5 := hid (Kept.setCell (S := fun g => g = kb) (Kept.of_below (fun g => g = kb) HB5) (p := ⟨kb, v, none⟩) rfl (.slice (some ⟨g5, 0, none⟩) (longN F v).length c5))
            have ck6 := cellK K5.out ckr (by simp only; exact hne.1)
            have hst := OK5.out.store v HPQ.out (Row.val ⟨some ⟨g5, 0, none⟩, li (longN F v), c5⟩)
            rw [← List.map_set, HRV.out] at hst
            have cv6 := hst.cell v (by rw [List.length_map, List.length_set]; simpa using HPQ.out)
            rw [List.getElem_map, List.getElem_set_self, HRV.out] at cv6
            have OK6 := hid hst
            have OX6 := hid (hox.setCell_other ⟨kb, v, none⟩ (.slice (some ⟨g5, 0, none⟩) (longN F v).length c5) (by simpa [Value.ownBlock] using hox.ne OK5.out (by decide)))
            have KS := hid (KAll.set (KA.out.keptS OK.out K5.out) hv OX6.out)
            have HKM6 := hid (fun i h => KS.out.2.1 i ((HKM.out i h).keptS OK.out K5.out))
            have KF := hid (K2.out.trans (KP.out.trans K5.out))
            clear hst hox HB5 q0 q1 q2 q3 ck5 hfr5 co5 ckr OK5
            go_wp2
            go_ret
            exact ⟨_, g5, c5, rfl, OX6.out, OK6.out, KS.out.1, HKM6.out, KS.out.2.2, KF.out⟩)
    · obtain ⟨g, c, h1, h2⟩ := hkd
      have hpv : ps[v] = ⟨some ⟨g, 0, none⟩, li (longN F v), c⟩ := by rw [hgv] at h1; injection h1
      rw [hpv] at cv
      have cv2 : w.cell? ⟨kb, v, none⟩ = some (.slice (some ⟨g, 0, none⟩) (longN F v).length c) := by rw [← li_length]; exact cv
      have hen := eql_nilL (some ⟨g, 0, none⟩) (longN F v).length c w
      have OX := hid h2
      have HKD := hid (show KD F W0.heap.size w ps v from ⟨g, c, h1, h2⟩)
      clear cv hgv hpv h1 h2 hpl hvp
      generalize hL : (longN F v).length = L at *
      have HL := hid hL
      clear hL
      go_enter Tryd.func78, Tryd.ntmps78
      go_wp2
      go_ret
      exact ⟨ps, g, c, by rw [HL.out]; rfl, by rw [HL.out]; exact OX.out, OK.out, KA.out, fun i h => h, HKD.out, Kept.refl _ _⟩
end
section
theorem tRowsInt : SliceT Tryd.prog 64 62 (.slice none 0 0) := ⟨Tryd.underlying64, 24, by decide, by kernel_rfl, rfl⟩
theorem run_store_func {P : Program} {w : World} (a : Addr) (m : Mode) (f : Fn) (b c : Array Value) : (store a (.func f b c) m).run P w = stored P w a (.func f b c) m := run_store P w a _ m rfl
attribute [local go_sem] run_store_func
theorem rows_ok {F : List Nat} {B n : Nat} {w : World} {ps : List Row} (hl : ps.length = n) (h : ∀ j, j < n → KD F B w ps j) : ∀ r ∈ ps, r.ok w := by
  intro r hr
  obtain ⟨j, hj, rfl⟩ := List.mem_iff_getElem.1 hr
  obtain ⟨g, c, h1, h2⟩ := h j (by omega)
  rw [List.getElem?_eq_getElem hj] at h1
  injection h1 with h1
  rw [h1]
  obtain ⟨a', c', e1, h3, h4, h5, h6, _⟩ := h2.rd
  rw [li_length] at e1
  obtain ⟨rfl, _, rfl⟩ := slice_inj e1
  exact ⟨h3, h4, h5, h6⟩
theorem nums_of {F : List Nat} {B n : Nat} {w : World} {ps : List Row} (hl : ps.length = n) (h : ∀ j, j < n → KD F B w ps j) : nums ps = (List.range n).map (fun v => li (longN F v)) := by
  apply List.ext_getElem
  · rw [nums_length, List.length_map, List.length_range, hl]
  · intro j h1 h2
    have hj : j < ps.length := by rw [nums_length] at h1; exact h1
    obtain ⟨g, c, h3, _⟩ := h j (by omega)
    rw [List.getElem?_eq_getElem hj] at h3
    injection h3 with h3
    simp [nums, h3]
theorem three_new (wm : World) (x z : Value) (t1 t2 : TypeId) (W : World) (hW : W = (wm.alloc (.cells #[x] t1)).alloc (.cells #[z] t2)) :
    W.cell? ⟨wm.heap.size, 0, none⟩ = some x ∧ W.cell? ⟨wm.heap.size + 1, 0, none⟩ = some z ∧ Below wm.heap.size wm W := by
  subst hW
  have h1 := own_one t1 (wm.alloc (.cells #[x] t1)) 0 wm.heap.size x (Nat.zero_le _) (blkN _ _ _ rfl)
  have h2 := own_one t2 ((wm.alloc (.cells #[x] t1)).alloc (.cells #[z] t2)) 0 (wm.heap.size + 1) z (Nat.zero_le _) (blkN _ _ _ (by simp))
  have hb : Below wm.heap.size wm ((wm.alloc (.cells #[x] t1)).alloc (.cells #[z] t2)) := Below.alloc (alloc_below wm _) (by simp) _
  have c1 : (wm.alloc (.cells #[x] t1)).cell? ⟨wm.heap.size, 0, none⟩ = some x := h1.cell 0 (by simp)
  exact ⟨cellB (alloc_below (wm.alloc (.cells #[x] t1)) (.cells #[z] t2)) c1 (Nat.le_refl _), h2.cell 0 (by simp), hb⟩
set_option maxRecDepth 100000 in
set_option maxHeartbeats 4000000 in
theorem longestLists_any {n : Nat} {F : List Nat} (hD : Dag n F) (fa : Option Addr) (fcap : Nat) (w : World) (hF : Rd maskF w fa F) (hT : TabOk w) :
    Calls Tryd.prog 38 #[.slice fa n fcap] w fun e w' => ∃ va vc ps, e = .returned (.slice va n vc) ∧ RdM w' va ps ∧ nums ps = (List.range n).map (fun v => li (longN F v)) ∧ Own 62 w' w.heap.size (.slice va n vc) (ps.map Row.val) ∧ Below w.heap.size w w' := by
  have RT := hid hT; have RF := hid hF; have HD := hid hD
  have h16 := hD.le
  clear hT hF hD
  have hb0 := alloc_below w (.cells #[.slice fa n fcap] 66)
  have hc0 : (w.alloc (.cells #[.slice fa n fcap] 66)).cell? ⟨w.heap.size, 0, none⟩ = some (.slice fa n fcap) := by simp
  have hz0 : (w.alloc (.cells #[.slice fa n fcap] 66)).heap.size = w.heap.size + 1 := by simp
  have HB0 := hid hb0; have HC0 := hid hc0; have HZ0 := hid hz0
  clear hb0 hc0 hz0
  go_enter Tryd.func38, Tryd.ntmps38
  go_wp2_with (at_make; refine law_make tRowsInt _ rfl _ _ rfl n _ _ rfl rfl (by omega) ?_; intro wm hown hb hsz; have h3 := three_new wm (.slice (some ⟨w.heap.size + 1, 0, none⟩) n n) (.func (.func 78) #[] #[.pointer (some ⟨wm.heap.size, 0, none⟩), .pointer (some ⟨w.heap.size, 0, none⟩), .pointer (some ⟨wm.heap.size + 1, 0, none⟩)]) 64 93 _ rfl; have hcf := cellB h3.2.2 (cellB hb HC0.out (Nat.le_refl _)) (Nat.le_refl _))
  obtain ⟨ckz, crz, hbz⟩ := h3
  obtain ⟨wz, hwz⟩ : ∃ z, z = (wm.alloc (.cells #[.slice (some ⟨w.heap.size + 1, 0, none⟩) n n] 64)).alloc (.cells #[.func (.func 78) #[] #[.pointer (some ⟨wm.heap.size, 0, none⟩), .pointer (some ⟨w.heap.size, 0, none⟩), .pointer (some ⟨wm.heap.size + 1, 0, none⟩)]] 93) := ⟨_, rfl⟩
  rw [← hwz] at ckz crz hbz hcf ⊢
  clear hwz
  rw [HZ0.out] at hown hb hsz
  have OK := hid (show Own 62 wz w.heap.size (.slice (some ⟨w.heap.size + 1, 0, none⟩) n n) ((List.replicate n (⟨none, [], 0⟩ : Row)).map Row.val) by
    rw [List.map_replicate]; exact (hown.past hbz (Nat.le_refl _)).base (Nat.le_succ _))
  have hszm : w.heap.size + 1 < wm.heap.size := by have h2 := hown.lt (w.heap.size + 1) rfl; exact h2
  have BZ := hid ((HB0.out.trans (hb.mono (Nat.le_succ _))).trans (hbz.mono (by omega)))
  have KA := hid (show KAll F w.heap.size n wz (List.replicate n (⟨none, [], 0⟩ : Row)) from ⟨by simp, fun i hi => .inl (by simp [hi])⟩)
  have CK := hid ckz; have CF := hid hcf; have CR := hid crz
  have HD16 := hid HD.out.rk16
  clear hown hb hsz hbz ckz hcf crz
  go_wp2
  go_loopw [5, 12] (fun _ x wr => ∃ (i : Nat) (ps : List Row), i ≤ n ∧ x = .int .i64 i ∧ Own 62 wr w.heap.size (.slice (some ⟨w.heap.size + 1, 0, none⟩) n n) (ps.map Row.val) ∧ KAll F w.heap.size n wr ps ∧ (∀ j, j < i → KD F w.heap.size wr ps j) ∧ Kept (fun g => g = w.heap.size + 1) wz wr) (fun _ x _ => n - (intOf x).toNat)
  case atStart => exact ⟨0, _, Nat.zero_le _, rfl, OK.out, KA.out, fun j hj => absurd hj (Nat.not_lt_zero j), Kept.refl _ _⟩
  case round =>
    clear OK KA
    obtain ⟨i, ps, hi, rfl, ho, hka, hdn, hkp⟩ := hrel
    have OK := hid ho; have KA := hid hka; have DN := hid hdn; have KP := hid hkp
    have BL := hid (BZ.out.trans (Kept.below1 hkp (Nat.le_succ _) BZ.out.size))
    have ckr := cellK hkp CK.out (by simp only; omega)
    have cfr := cellK hkp CF.out (by simp only; omega)
    have crr := cellK hkp CR.out (by simp only; omega)
    clear ho hka hdn hkp
    by_cases hlt : i < n
    · have hii : (i : Int) < (n : Int) := by omega
      have hrk := HD16.out i
      go_wp2_with fail
      refine (from_any HD.out w RT.out fa fcap RF.out (w.heap.size + 1) wm.heap.size w.heap.size (wm.heap.size + 1) (Nat.le_succ _) ⟨by omega, by omega, by omega⟩ 17 i wr ps (by omega) hlt BL.out ckr cfr crr OK.out KA.out).mono ?_
      rintro e w3 ⟨ps', gx, cx, rfl, hox, hok', hka', hkm', hkd', hk'⟩
      have OK' := hid hok'; have KA' := hid hka'
      have DN' := hid (show ∀ j, j < i + 1 → KD F w.heap.size w3 ps' j from fun j hj => by
        rcases Nat.lt_or_eq_of_le (show j ≤ i by omega) with h | rfl
        · exact hkm' j (DN.out j h)
        · exact hkd')
      have KP' := hid (KP.out.trans hk')
      clear hox hok' hka' hkm' hkd' hk' OK KA DN KP BL ckr cfr crr
      go_wp2
      go_roundw
      case rel => exact ⟨i + 1, ps', by omega, by go_num, OK'.out, KA'.out, DN'.out, KP'.out⟩
      case measure => simp [intOf]; omega
    · obtain rfl : i = n := by omega
      obtain ⟨va, vc, hv, hrd, _⟩ := Own.rd (f := Row.val) OK.out
      injection hv with e1 e2 e3
      subst e1; subst e3
      clear e2
      have HR := hid (show RdM wr (some ⟨w.heap.size + 1, 0, none⟩) ps from ⟨hrd, rows_ok KA.out.1 DN.out⟩)
      have HN := hid (show nums ps = (List.range i).map (fun v => li (longN F v)) from nums_of KA.out.1 DN.out)
      have OKF := hid OK.out
      clear hrd OK KA DN
      go_wp2
      go_ret
      exact ⟨_, _, ps, rfl, HR.out, HN.out, OKF.out, BL.out⟩
end
section
set_option maxRecDepth 100000 in
set_option maxHeartbeats 4000000 in
theorem bestList_any {n : Nat} {F : List Nat} (hD : Dag n F) (va : Option Addr) (vc : Nat) (ps : List Row) (w : World) (hr : RdM w va ps) (hn : nums ps = (List.range n).map (fun v => li (longN F v))) :
    Calls Tryd.prog 37 #[.slice va n vc] w fun e w' => ∃ r : Row, e = .returned (.slice r.a r.z.length r.c) ∧ r.z = li (bestV2 F n) ∧ r.ok w' ∧ Below w.heap.size w w' := by
  have RP := hid hr
  have HPL := hid (show ps.length = n by have h := congrArg List.length hn; rwa [nums_length, List.length_map, List.length_range] at h)
  have HPZ := hid (show ∀ v (hv : v < ps.length), ps[v].z = li (longN F v) by
    intro v hv
    have h : (nums ps)[v]'(by rw [nums_length]; exact hv) = ((List.range n).map (fun v => li (longN F v)))[v]'(by rw [List.length_map, List.length_range, ← HPL.out]; exact hv) := by simp [hn]
    simpa [nums] using h)
  have HD := hid hD
  have h16 := hD.le
  clear hr hn hD
  have hb := alloc_below w (.cells #[] 3)
  have HO := hid (show (⟨some ⟨w.heap.size, 0, none⟩, li (bestV2 F 0), 0⟩ : Row).ok (w.alloc (.cells #[] 3)) from ⟨Rd.nil _ _ _, Nat.le_refl _, Nat.zero_le _, fun h => by cases h⟩)
  have RP1 := hid (RP.out.below hb (Nat.le_refl _))
  have B1 := hid hb
  clear hb RP
  go_enter Tryd.func37, Tryd.ntmps37
  go_wp2
  generalize w.alloc (.cells #[] 3) = w1 at *
  go_loopw [3, 5, 9] (fun b _ x wr => ∃ (k : Nat) (r : Row), k ≤ n ∧ x = .int .i64 k ∧ b = .slice r.a r.z.length r.c ∧ r.z = li (bestV2 F k) ∧ r.ok wr ∧ Below w1.heap.size w1 wr) (fun _ _ x _ => n - (intOf x).toNat)
  case atStart => exact ⟨0, ⟨some ⟨w.heap.size, 0, none⟩, li (bestV2 F 0), 0⟩, Nat.zero_le _, rfl, rfl, rfl, HO.out, Below.refl _ _⟩
  case round =>
    clear HO
    obtain ⟨k, r, hk, rfl, rfl, hz, hok, hd⟩ := hrel
    have RP := hid (RP1.out.below hd (Nat.le_refl _))
    have BL := hid hd; have HRZ := hid hz; have ROK := hid hok
    clear hd hz hok
    by_cases hlt : k < n
    · have hki : (k : Int) < (n : Int) := by omega
      have hltP : k < ps.length := by rw [HPL.out]; exact hlt
      obtain ⟨lb, lo, rfl, cl, hqok⟩ := RP.out.at k hltP
      have HQZ := hid (HPZ.out k hltP)
      have HSU := hid (bestV2_succ F k)
      have HHD := hid (heads_V HD.out k)
      have QOK := hid hqok
      clear hqok
      generalize ps[k] = q at *
      by_cases hgt : (bestV2 F k).length < (longN F k).length
      · have HS2 := hid (show q.z = li (bestV2 F (k + 1)) by rw [HQZ.out, HSU.out]; unfold lgr; rw [if_pos hgt])
        have HR := hid (show decide (r.z.length < q.z.length) = true by rw [HRZ.out, HQZ.out, li_length, li_length]; simpa using hgt)
        clear hgt HSU
        go_wp2_with fail
        refine (isBetter_b q.a q.z q.z.length q.c r.a r.z r.z.length r.c _ true rfl rfl HR.out QOK.out.1 ROK.out.1 (by rw [HQZ.out, HRZ.out]; exact HHD.out)).mono ?_
        rintro e w4 ⟨rfl, rfl⟩
        go_wp2
        go_roundw
        case rel => exact ⟨k + 1, q, by omega, by go_num, rfl, HS2.out, QOK.out, BL.out⟩
        case measure => simp [intOf]; omega
      · have HS2 := hid (show r.z = li (bestV2 F (k + 1)) by rw [HRZ.out, HSU.out]; unfold lgr; rw [if_neg hgt])
        have HR := hid (show decide (r.z.length < q.z.length) = false by rw [HRZ.out, HQZ.out, li_length, li_length]; simpa using hgt)
        clear hgt HSU
        go_wp2_with fail
        refine (isBetter_b q.a q.z q.z.length q.c r.a r.z r.z.length r.c _ false rfl rfl HR.out QOK.out.1 ROK.out.1 (by rw [HQZ.out, HRZ.out]; exact HHD.out)).mono ?_
        rintro e w4 ⟨rfl, rfl⟩
        go_wp2
        go_roundw
        case rel => exact ⟨k + 1, r, by omega, by go_num, rfl, HS2.out, ROK.out, BL.out⟩
        case measure => simp [intOf]; omega
    · obtain rfl : k = n := by omega
      have BF := hid (B1.out.trans (BL.out.mono B1.out.size))
      go_wp2
      go_ret
      exact ⟨r, rfl, HRZ.out, ROK.out, BF.out⟩
set_option maxRecDepth 100000 in
set_option maxHeartbeats 4000000 in
theorem implLongestUp_any (a : Option Addr) (rs : List Row) (c : Nat) (a' : Option Addr) (qs : List Row) (c' : Nat) (w : World) (r : List Int) (hx : longestL (nums rs) (nums qs) = r) (hr : RdM w a rs) (hn : Small rs) (hq : RdM w a' qs) (hm : Small qs) (hT : TabOk w) :
    Calls Tryd.prog 10 #[.agg #[.slice a rs.length c], .slice a' qs.length c'] w (RetOwn 2 (r.map (.int .i64)) w) := by
  have RA := hid hr; have RQ := hid hq; have HX := hid hx; have RT := hid hT; clear hr hq hx hT
  obtain ⟨w0, hw0⟩ : ∃ w0, w0 = (w.alloc (.cells #[.slice a rs.length c] 29)) := ⟨_, rfl⟩
  have B0 := hid (show Below w.heap.size w w0 by rw [hw0]; exact ((Below.refl _ _).alloc (Nat.le_refl _) _))
  have c0 : w0.cell? ⟨w.heap.size, 0, none⟩ = some (.slice a rs.length c) := by rw [hw0]; simp [go_sem]
  replace RA := hid (RA.out.below B0.out (Nat.le_refl _))
  replace RQ := hid (RQ.out.below B0.out (Nat.le_refl _))
  replace RT := hid (RT.out.below B0.out (Nat.le_refl _))
  have HW := hid hw0; clear hw0
  by_cases ht : TransP (nums rs) (nums qs)
  · have h2 := hid (show decide (TransP (nums rs) (nums qs)) = true by simpa using ht)
    have hdag := dag_of ht
    have hi := up_iff.1 ht.1
    have hql : qs.length = rs.length := by have := hi.len; rwa [nums_length, nums_length] at this
    have h16 : rs.length ≤ 16 := by have := hi.ok.le; rwa [nums_length] at this
    rw [nums_length, ← hql] at hdag
    have HD := hid hdag
    have hq16 : qs.length ≤ 16 := by omega
    have HQV := hid (show ∀ r ∈ qs, ∀ v ∈ r.z, 0 ≤ v ∧ v < 16 from fun r hr v hv => by
      have := (hi.inc r.z (List.mem_map_of_mem hr)).1 v hv
      have := hi.ok.le
      omega)
    have HFIN := hid (show li (bestV2 ((nums qs).map maskL) qs.length) = r by rw [← HX.out]; unfold longestL; rw [if_pos ht, nums_length, hql]; rfl)
    have h17 := bestV2_17 hdag qs.length
    clear ht hdag hi HX hql
    go_enter Tryd.func10, Tryd.ntmps10
    go_wp2_with fail
    rw [← HW.out]
    go_wp2_with fail
    refine (implTransitiveIn_b a rs c a' qs c' _ _ h2.out RA.out hn RQ.out hm RT.out).mono ?_
    rintro e w1 ⟨rfl, hb⟩
    replace RA := hid (RA.out.below hb (Nat.le_refl _))
    replace RQ := hid (RQ.out.below hb (Nat.le_refl _))
    replace RT := hid (RT.out.below hb (Nat.le_refl _))
    replace B0 := hid (bon B0.out hb)
    replace c0 := cellB hb c0 (Nat.le_refl _)
    clear hb
    go_wp2_with fail
    refine (bagMasks_any a' qs c' _ hq16 HQV.out RQ.out hm).mono ?_
    rintro e w2 ⟨v, rfl, hown, hb⟩
    replace RA := hid (RA.out.below hb (Nat.le_refl _))
    replace RQ := hid (RQ.out.below hb (Nat.le_refl _))
    replace RT := hid (RT.out.below hb (Nat.le_refl _))
    replace B0 := hid (bon B0.out hb)
    replace c0 := cellB hb c0 (Nat.le_refl _)
    clear hb
    obtain ⟨sa, sc, rfl, hsr, _, _, _, _⟩ := Own.rd (f := netF) hown
    have RS := hid hsr.masks; clear hown hsr
    rw [nums_length]
    generalize (nums qs).map maskL = F at *
    go_wp2_with fail
    refine (longestLists_any HD.out sa sc _ RS.out RT.out).mono ?_
    rintro e w5 ⟨va, vc, ps, rfl, hrp, hnp, _, hb⟩
    have RP := hid hrp; have HNP := hid hnp
    replace B0 := hid (bon B0.out hb)
    clear hb
    clear hrp hnp
    go_wp2_with fail
    refine (bestList_any HD.out va vc ps _ RP.out HNP.out).mono ?_
    rintro e w6 ⟨⟨qa, qz, qc⟩, rfl, hqz, hqok, hb⟩
    replace hqz : qz = li (bestV2 F qs.length) := hqz
    have RZ := hid (show Rd (Value.int .i64) w6 qa qz from hqok.1)
    have HLZ := hid (show qz.length ≤ 1048576 by rw [hqz, li_length]; omega)
    have HZ := hid (show qz = r by rw [hqz]; exact HFIN.out)
    replace B0 := hid (bon B0.out hb)
    clear hb
    clear hqz hqok
    go_wp2_with fail
    refine (wide_any qa qz qc _ RZ.out HLZ.out).mono ?_
    rintro e w7 ⟨v, rfl, hown, hb⟩
    have hs6 := B0.out.size
    have OF := hid (show Own 2 w7 w.heap.size v (r.map (.int .i64)) by rw [← HZ.out]; exact hown.base hs6)
    replace B0 := hid (bon B0.out hb)
    clear hb
    clear hown
    go_wp2
    go_ret
    exact ⟨_, rfl, OF.out, B0.out⟩
  · have h2 := hid (show decide (TransP (nums rs) (nums qs)) = false by simpa using ht)
    have HFIN := hid (show [] = r by rw [← HX.out]; unfold longestL; rw [if_neg ht])
    clear ht HX
    go_enter Tryd.func10, Tryd.ntmps10
    go_wp2_with fail
    rw [← HW.out]
    go_wp2_with fail
    refine (implTransitiveIn_b a rs c a' qs c' _ _ h2.out RA.out hn RQ.out hm RT.out).mono ?_
    rintro e w3 ⟨rfl, hb⟩
    replace RA := hid (RA.out.below hb (Nat.le_refl _))
    replace RQ := hid (RQ.out.below hb (Nat.le_refl _))
    replace RT := hid (RT.out.below hb (Nat.le_refl _))
    replace B0 := hid (bon B0.out hb)
    replace c0 := cellB hb c0 (Nat.le_refl _)
    clear hb
    go_wp2
    go_ret
    exact ⟨_, rfl, by rw [← HFIN.out]; exact Own.nil _ _ _, B0.out⟩
end
theorem longest_small (g up : List (List Int)) : (longestL g up).length ≤ 1048576 := by
  unfold longestL
  by_cases h : TransP g up
  · rw [if_pos h, List.length_map]
    have := bestV2_17 (dag_of h) g.length
    omega
  · rw [if_neg h]; exact Nat.zero_le _
theorem layers_small (g up : List (List Int)) : (layersL g up).length ≤ 1048576 := by
  unfold layersL
  by_cases h : TransP g up
  · rw [if_pos h, List.length_map, List.length_range]
    have := (dag_of h).le
    omega
  · rw [if_neg h]; exact Nat.zero_le _
end
end Go.Proofs.YtdncmloajajiaaaDoor
