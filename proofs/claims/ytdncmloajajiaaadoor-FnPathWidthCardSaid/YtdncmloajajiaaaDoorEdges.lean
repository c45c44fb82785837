/- Lists and graphs are compared: the reference's l1Same, l1SameGraph, SameGraph, the library's Equal, EqualFunc, the program's SameGraph. · The edges of a graph: the reference's and the program's. -/
import Derived.Test.YtdncmloajajiaaaDoorSetOk
import Derived.Test.YtdncmloajajiaaaDoorBag
import Derived.Test.YtdncmloajajiaaaDoorMem3
namespace Go.Proofs.YtdncmloajajiaaaDoor
open Go.RowKit
section

set_option maxHeartbeats 1000000 in
theorem l1Same_any (a a' : Option Addr) (zs ys : List Int) (c c' : Nat) (w : World) (hr : Rd (Value.int .i64) w a zs) (hr' : Rd (Value.int .i64) w a' ys) (hn : zs.length ≤ 16777216) (hn' : ys.length ≤ 16777216) :
    Calls Tryd.prog 93 #[.slice a zs.length c, .slice a' ys.length c'] w fun e w' => e = .returned (.bool (decide (zs = ys))) ∧ Drawn w w' := by
  have HR := hid hr; have HR' := hid hr'; clear hr hr'
  by_cases hl : zs.length = ys.length
  · have hl1 : ((zs.length : Int) != (ys.length : Int)) = false := by simp [hl]
    have HL := hid hl; clear hl
    go_enter Tryd.func93, Tryd.ntmps93
    go_wp2
    go_loopw [5] (fun i wr => ∃ k : Nat, k ≤ zs.length ∧ i = .int .i64 k ∧ zs.take k = ys.take k ∧ Drawn w wr) (fun i _ => zs.length - (intOf i).toNat)
    case atStart => exact ⟨0, Nat.zero_le _, rfl, rfl, Drawn.refl _⟩
    case round =>
      obtain ⟨k, hk, rfl, ht, hd⟩ := hrel
      have HD := hid hd; clear hd
      have HT := hid ht; clear ht
      by_cases hlt : k < zs.length
      · have hlt' : k < ys.length := by have := HL.out; omega
        obtain ⟨b, o, rfl, hc⟩ := HR.out.drawn HD.out k hlt
        obtain ⟨b', o', rfl, hc'⟩ := HR'.out.drawn HD.out k hlt'
        have hi1 : (k : Int) < (zs.length : Int) := by omega
        have hi2 : (k : Int) < (ys.length : Int) := by omega
        have HS := hid (List.take_succ_eq_append_getElem hlt); have HS' := hid (List.take_succ_eq_append_getElem hlt')
        have HG := hid (fun h : zs = ys => (by subst h; rfl : zs[k] = ys[k]))
        generalize zs[k] = x at *
        generalize ys[k] = y at *
        by_cases he : x = y
        · subst he
          have hb : (x != x) = false := by simp
          go_wp2
          go_quiet (fail)
          go_wp2
          go_roundw
          case rel => exact ⟨k + 1, by omega, by go_num, by rw [HS.out, HS'.out, HT.out], HD.out.n _⟩
          case measure => simp [intOf]; omega
        · have hb : (x != y) = true := by simpa using he
          have HE := hid he; clear he
          go_wp2
          go_quiet (fail)
          go_wp2
          go_ret
          exact ⟨ret_bool (by symm; rw [decide_eq_false_iff_not]; exact fun h => HE.out (HG.out h)), HD.out.n _⟩
      · go_wp2
        go_ret
        refine ⟨ret_bool (by symm; rw [decide_eq_true_iff]; have := HT.out; rwa [List.take_of_length_le (by omega), List.take_of_length_le (by have := HL.out; omega)] at this), HD.out⟩
  · have hl1 : ((zs.length : Int) != (ys.length : Int)) = true := by simp only [bne_iff_ne, ne_eq]; omega
    have HL := hid hl; clear hl
    go_enter Tryd.func93, Tryd.ntmps93
    go_wp2
    go_ret
    exact ⟨ret_bool (by symm; rw [decide_eq_false_iff_not]; exact fun h => HL.out (by rw [h])), Drawn.refl _⟩

theorem l1Same_b (a a' : Option Addr) (zs ys : List Int) (c c' : Nat) (w : World) (b : Bool) (hb : decide (zs = ys) = b) (hr : Rd (Value.int .i64) w a zs) (hr' : Rd (Value.int .i64) w a' ys) (hn : zs.length ≤ 16777216) (hn' : ys.length ≤ 16777216) :
    Calls Tryd.prog 93 #[.slice a zs.length c, .slice a' ys.length c'] w fun e w' => e = .returned (.bool b) ∧ Drawn w w' := by
  subst hb; exact l1Same_any _ _ _ _ _ _ _ hr hr' hn hn'
theorem nums_at {rs : List Row} {qs : List Row} (h : nums rs = nums qs) : rs.length = qs.length := by simpa [nums] using congrArg List.length h
def SameP (g g' : List (List Int)) : Prop := GOk g ∧ GOk g' ∧ g = g'
noncomputable instance (g g' : List (List Int)) : Decidable (SameP g g') := Classical.propDecidable _
end
section

theorem rows_push {eo ei : TypeId} (hne : ei ≠ eo) {W w' : World} {B : Nat} {v v' : Value} {rs' : List Row} {r : Row} (ho : Own eo W B v (rs'.map Row.val)) (hi : Inner ei W B (rs' ++ [r]))
    (ho' : Own eo w' B v' (rs'.map Row.val ++ [r.val])) (hg : W.grownBy w' v.ownBlock) : OwnM eo ei w' B v' (rs' ++ [r]) := ⟨by simpa using ho', hi.kept_outer ho hne hg⟩
theorem nums_push (ps : List Row) (r : Row) : nums (ps ++ [r]) = nums ps ++ [r.z] := by simp [nums]
theorem own_new (e : TypeId) (w : World) (xs : List Value) (h : xs.length ≤ maxLen) : Own e (w.alloc (.cells xs.toArray e)) w.heap.size (.slice (some ⟨w.heap.size, 0, none⟩) xs.length xs.length) xs :=
  Own.of_block (spare := []) (Nat.le_refl _) (by rw [List.append_nil]; exact heap_alloc_new w _) (by simp) h
def rowEdges (u : Int) (r : List Int) : List (List Int) := (r.filter fun v => decide (u < v)).map fun v => [u, v]
def edgesL (g : List (List Int)) : List (List Int) := (List.range g.length).flatMap fun u : Nat => rowEdges u (row g u)
/-- The edges of the first k rows. -/
def edgesTo (g : List (List Int)) (k : Nat) : List (List Int) := (List.range k).flatMap fun u : Nat => rowEdges u (row g u)
theorem edgesTo_succ (g : List (List Int)) (k : Nat) : edgesTo g (k + 1) = edgesTo g k ++ rowEdges k (row g k) := by simp [edgesTo, List.range_succ]
theorem rowEdges_succ (u : Int) (r : List Int) (j : Nat) (h : j < r.length) : rowEdges u (r.take (j + 1)) = rowEdges u (r.take j) ++ if u < r[j] then [[u, r[j]]] else [] := by
  rw [List.take_succ_eq_append_getElem h]
  simp only [rowEdges, List.filter_append, List.map_append]
  by_cases hh : u < r[j] <;> simp [List.filter, hh]
theorem rowEdges_len (u : Int) (r : List Int) : (rowEdges u r).length ≤ r.length := by simp [rowEdges]; exact List.length_filter_le _ _
theorem edgesTo_len (g : List (List Int)) (k : Nat) (h : ∀ v : Nat, v < k → (row g v).length ≤ 16) : (edgesTo g k).length ≤ 16 * k := by
  induction k with
  | zero => simp [edgesTo]
  | succ k ih =>
    rw [edgesTo_succ, List.length_append]
    have := ih (fun v hv => h v (by omega))
    have := rowEdges_len k (row g k)
    have := h k (by omega)
    omega
theorem gok_row_len {g : List (List Int)} (h : GOk g) (v : Nat) (hv : v < g.length) : (row g v).length ≤ 16 := by
  have := inc_length (h.inc v hv) (by omega)
  have := h.le
  omega
set_option maxHeartbeats 4000000 in
theorem l1Edges_any (a : Option Addr) (rs : List Row) (c : Nat) (w : World) (hg : GOk (nums rs)) (hr : RdM w a rs) :
    Calls Tryd.prog 55 #[.agg #[.slice a rs.length c]] w (RetOwnM 33 2 (edgesL (nums rs)) w) := by
  have h16 : rs.length ≤ 16 := by have := hg.le; rwa [nums_length] at this
  have HLEN := hid (fun k (hk : k ≤ rs.length) => edgesTo_len (nums rs) k (fun v hv => gok_row_len hg v (by rw [nums_length]; omega)))
  have HRL := hid (fun v (hv : v < (nums rs).length) => gok_row_len hg v hv)
  have HR := hid hr; clear hr hg
  obtain ⟨w0, hw0⟩ : ∃ w0, w0 = w.alloc (.cells #[.slice a rs.length c] 29) := ⟨_, rfl⟩
  have HS0 := hid (show w0.heap.size = w.heap.size + 1 by rw [hw0]; simp)
  have B0 := hid (show Below w.heap.size w w0 by rw [hw0]; exact alloc_below _ _)
  have HC0 := hid (show w0.cell? ⟨w.heap.size, 0, none⟩ = some (.slice a rs.length c) by rw [hw0]; simp [go_sem])
  have HO := hid (show Own 33 (w0.alloc (.cells #[] 33)) w0.heap.size (.slice (some ⟨w.heap.size + 1, 0, none⟩) 0 0) [] by
    have := own_new 33 w0 [] (by decide); rwa [HS0.out] at this ⊢)
  have HW := hid hw0; clear hw0
  go_enter Tryd.func55, Tryd.ntmps55
  go_wp2
  rw [← HW.out]
  go_loopw [3, 4, 5] (fun o i _ wr => ∃ k qs, k ≤ rs.length ∧ i = .int .i64 (k : Nat) ∧ OwnM 33 2 wr w0.heap.size o qs ∧ nums qs = edgesTo (nums rs) k ∧ Below w0.heap.size w0 wr) (fun _ i _ _ => rs.length - (intOf i).toNat)
  case atStart => exact ⟨0, [], Nat.zero_le _, rfl, ⟨HO.out, Inner.nil _ _ _⟩, rfl, alloc_below _ _⟩
  case round =>
    obtain ⟨k, qs, hk, rfl, ho, hq, hb⟩ := hrel
    have HQ := hid hq; have HOM := hid ho; have HB := hid hb
    have hcg := cellB hb HC0.out (Nat.le_refl _); clear hq ho hb
    have HL := hid (HLEN.out k hk)
    go_wp2_with fail
    refine (l1Size_any a rs c wr (by omega)).mono ?_
    rintro e w1 ⟨rfl, hb1⟩
    have HOM1 := hid (HOM.out.past hb1 (Nat.le_refl _)); have HB1 := hid (HB.out.trans (hb1.mono HB.out.size)); clear hb1 hcg
    by_cases hlt : k < rs.length
    · obtain ⟨b', off, rfl, hc, hok⟩ := (HR.out.below B0.out (Nat.le_refl _)).at k hlt
      have HCC := hid hc
      have HK0 := hid hok.1; clear hok hc
      have hz := HRL.out k (by rw [nums_length]; exact hlt)
      have HRW := hid (row_rs rs k hlt)
      rw [HRW.out] at hz
      have HSUC := hid (edgesTo_succ (nums rs) k)
      have hi1 : (k : Int) < (rs.length : Int) := by omega
      generalize rs[k] = r at *
      go_wp2
      go_loopw [3, 5] (fun o i wr => ∃ j qs, j ≤ r.z.length ∧ i = .int .i64 (j : Nat) ∧ OwnM 33 2 wr w0.heap.size o qs ∧ nums qs = edgesTo (nums rs) k ++ rowEdges k (r.z.take j) ∧ Below w0.heap.size w0 wr) (fun _ i _ => r.z.length - (intOf i).toNat)
      case atStart => exact ⟨0, qs, Nat.zero_le _, rfl, HOM1.out, by rw [HQ.out]; simp [rowEdges], HB1.out⟩
      case round =>
        obtain ⟨j, ps, hj, rfl, ho2, hq2, hb2⟩ := hrel
        have HQ2 := hid hq2; have HOM2 := hid ho2; have HB2 := hid hb2; clear hq2 ho2 hb2
        have hc2 := cellB HB2.out HCC.out (Nat.le_refl _)
        have hcg2 := cellB HB2.out HC0.out (Nat.le_refl _)
        by_cases hlj : j < r.z.length
        · obtain ⟨b2, o2, ha2, hc3⟩ := (HK0.out.below HB2.out (Nat.le_refl _)) j hlj
          have hat := at_slice tI64 ha2 r.z.length r.c j hlj
          have HE := hid (rowEdges_succ k r.z j hlj)
          have HA2 := hid ha2; clear ha2
          generalize r.z[j] = y at *
          by_cases hy : (k : Int) < y
          · have hpl : ps.length ≤ 300 := by
              have h1 := congrArg List.length HQ2.out
              rw [nums_length, List.length_append] at h1
              have h2 := HL.out; have h3 := rowEdges_len k (r.z.take j); rw [List.length_take] at h3
              omega
            have hBs := HB2.out.size
            have HOA := hid (HOM2.out.outer.past (alloc_below wr (.cells #[.int .i64 k, .int .i64 y] 2)) (Nat.le_refl _))
            go_wp2_with (at_builtin; refine law_push tRows _ rfl _ _ rfl w0.heap.size _ (ps.map Row.val) rfl HOA.out _ _ rfl ?c0 rfl ?c1 ?c2 ?_)
            case c0 => simp
            case c1 => simp; omega
            case c2 => simp; omega
            intro v' w' h1 h2
            have HN := hid (HOM2.out.inner.snoc (alloc_below wr (.cells #[.int .i64 k, .int .i64 y] 2)) hBs ⟨some ⟨wr.heap.size, 0, none⟩, [(k : Int), y], 2⟩ (own_new 2 wr [.int .i64 k, .int .i64 y] (by simp [maxLen])))
            have HP := hid (rows_push (by decide) HOA.out HN.out h1 h2)
            have HBB := hid ((HB2.out.trans ((alloc_below wr (.cells #[.int .i64 k, .int .i64 y] 2)).mono hBs)).trans (grown_below h2 (by simp; omega) (fun g hg => HOA.out.ge g hg)))
            clear h1 h2 HOA HN HOM2 HB2 hc2 hcg2 hc3
            go_wp2
            go_roundw
            case rel =>
              refine ⟨j + 1, _, by omega, by go_num, HP.out, ?_, HBB.out⟩
              rw [HE.out, if_pos hy, nums_push, HQ2.out, List.append_assoc]
            case measure => simp [intOf]; omega
          · go_wp2
            go_roundw
            case rel => exact ⟨j + 1, ps, by omega, by go_num, HOM2.out, by rw [HE.out, if_neg (by omega), HQ2.out]; simp, HB2.out⟩
            case measure => simp [intOf]; omega
        · go_wp2
          go_roundw
          case rel =>
            refine ⟨k + 1, ps, by omega, by go_num, HOM2.out, ?_, HB2.out⟩
            rw [HQ2.out, HSUC.out, HRW.out, List.take_of_length_le (by omega)]
          case measure => simp [intOf]; omega
    · go_wp2
      go_ret
      obtain rfl : k = rs.length := by omega
      exact ⟨_, qs, rfl, by rw [HQ.out]; simp [edgesTo, edgesL, nums_length], HOM1.out.base (by have := HS0.out; omega), B0.out.trans (HB1.out.mono (by have := HS0.out; omega))⟩
/-- What EdgesOf answers. -/
noncomputable def edgesOr (g : List (List Int)) : List (List Int) := open Classical in if GOk g then edgesL g else []
theorem ownM_nil (eo ei : TypeId) (w : World) (B : Nat) : OwnM eo ei w B (.slice none 0 0) [] := ⟨Own.nil _ _ _, Inner.nil _ _ _⟩
set_option maxHeartbeats 1000000 in
theorem specEdgesOf_any (a : Option Addr) (rs : List Row) (c : Nat) (w : World) (hr : RdM w a rs) (hn : Small rs) :
    Calls Tryd.prog 21 #[.agg #[.slice a rs.length c]] w (RetOwnM 33 2 (edgesOr (nums rs)) w) := by
  have HR := hid hr; clear hr
  have B0 := hid (alloc_below w (.cells #[.slice a rs.length c] 29))
  have hc0 : (w.alloc (.cells #[.slice a rs.length c] 29)).cell? ⟨w.heap.size, 0, none⟩ = some (.slice a rs.length c) := by simp [go_sem]
  by_cases hg : GOk (nums rs)
  · have h1 := hid (show decide (GOk (nums rs)) = true by simpa using hg)
    have HG := hid hg; clear hg
    have HE := hid (show edgesOr (nums rs) = edgesL (nums rs) by unfold edgesOr; rw [if_pos HG.out])
    go_enter Tryd.func21, Tryd.ntmps21
    go_wp2_with fail
    refine (specGraphOk_b a rs c _ true h1.out (HR.out.below B0.out (Nat.le_refl _)) hn).mono ?_
    rintro e w1 ⟨rfl, hb⟩
    have hc1 := cellB hb hc0 (Nat.le_refl _)
    have B1 := hid (B0.out.trans (hb.mono (by simp))); clear hb hc0
    go_wp2_with fail
    refine (l1Edges_any a rs c _ HG.out (HR.out.below B1.out (Nat.le_refl _))).mono ?_
    rintro e w2 ⟨v, qs, rfl, hq, ho, hb⟩
    have HQ := hid hq; have HO := hid ho; have HB := hid hb; clear hq ho hb hc1
    go_wp2
    go_ret
    exact ⟨v, qs, rfl, by rw [HE.out, HQ.out], HO.out.base B1.out.size, B1.out.trans (HB.out.mono B1.out.size)⟩
  · have h1 := hid (show decide (GOk (nums rs)) = false by simpa using hg)
    have HE := hid (show edgesOr (nums rs) = [] by unfold edgesOr; rw [if_neg hg])
    clear hg
    go_enter Tryd.func21, Tryd.ntmps21
    go_wp2_with fail
    refine (specGraphOk_b a rs c _ false h1.out (HR.out.below B0.out (Nat.le_refl _)) hn).mono ?_
    rintro e w1 ⟨rfl, hb⟩
    have B1 := hid (B0.out.trans (hb.mono (by simp))); clear hb hc0
    go_wp2
    go_ret
    exact ⟨_, [], rfl, by rw [HE.out]; rfl, ⟨(own_new 33 w1 [] (by decide)).base B1.out.size, Inner.nil _ _ _⟩, B1.out.trans ((alloc_below _ _).mono B1.out.size)⟩
end
end Go.Proofs.YtdncmloajajiaaaDoor
