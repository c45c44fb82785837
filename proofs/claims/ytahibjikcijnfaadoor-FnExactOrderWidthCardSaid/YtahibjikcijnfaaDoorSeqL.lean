/- slices.Sorted(slices.Values(x)) of numbers: the iterator, what gathers it, and the sort. -/
import Derived.RangeFuncNested
import Derived.RangeFuncBound
import Derived.RangeFuncCalls
import Derived.RangeFuncLeaves
import Derived.RangeFuncBox
import Derived.Maps.AppendAt
import Derived.Shelf.Abstract
import Derived.WalkKit
import Derived.OwnWalkIn
import Derived.TacticsInMore
import Derived.LoopNIn
import Derived.LoopIn
import Derived.Shelf.SortG.SortNone
import Derived.Test.YtahibjikcijnfaaDoorSortL
namespace Go.Proofs.YtahibjikcijnfaaDoor
open Go.RowKit Go.Shelf
attribute [local go_sem] Oper.semAt_some
theorem infoE : (Tryd.prog.info? 2).map (fun i => (i.zero, i.size, i.bytes)) = some (some (.int .i64 0), 1, 8) := by kernel_rfl
theorem take_snoc {α : Type} (zs : List α) (k : Nat) (h : k < zs.length) : zs.take k ++ [zs[k]] = zs.take (k + 1) := (List.take_append_getElem h)

set_option maxRecDepth 100000 in
set_option maxHeartbeats 2000000 in
theorem vals1_in (F : Fence) (n : Nat) (hv : F.fn 155) (hro : F.round = none) (hn : 1 ≤ n) (l Bs n₀ cap : Nat) (a : Option Addr) (zs : List Int) (hl : zs.length ≤ 1048576) (hb : ∀ b o, a = some ⟨b, o, none⟩ → b < n₀) (J Jx : List Int → World → Prop)
    (hY : ∀ pre x W, J pre W → pre.length < zs.length → YieldAt F (n - 1) Tryd.prog l #[.int .i64 x] W fun e W' =>
      (e = .returned (.bool true) ∧ J (pre ++ [x]) W' ∧ Below n₀ W W') ∨ (e = .returned (.bool false) ∧ Jx (pre ++ [x]) W'))
    (W : World) (hBs : W.cell? ⟨Bs, 0, none⟩ = some (.slice a zs.length cap)) (hc : Rd (Value.int .i64) W a zs) (h0 : J [] W) :
    CallsIn F n Tryd.prog 155 #[.func (.yield l) #[] #[], .pointer (some ⟨Bs, 0, none⟩)] W fun e W' => (∃ v, e = .returned v) ∧
      ((∃ ys, ys = zs ∧ J ys W') ∨ (∃ pre, pre <+: zs ∧ Jx pre W')) := by
  refine callsIn_of_wp Tryd.func155 rfl hv ?_ hro
  simp only [Tryd.ntmps155, List.size_toArray, List.length_cons, List.length_nil, Nat.reduceAdd, Nat.reduceSub, Array.replicate_succ, Array.replicate_zero, List.push_toArray, List.append_toArray, List.nil_append, List.cons_append]
  gi_wp2
  gi_loopw [7] (fun i wr => ∃ k : Nat, k ≤ zs.length ∧ i = .int .i64 k ∧ J (zs.take k) wr ∧ Below n₀ W wr)
    (fun i _ => zs.length - (intOf i).toNat)
  case atStart => exact ⟨0, Nat.zero_le _, rfl, by simpa using h0, Below.refl _ _⟩
  case round =>
    obtain ⟨k, hk, rfl, hJs, hnx⟩ := hrel
    by_cases hlt : k < zs.length
    · obtain ⟨b, o, rfl, hcx⟩ := hc.le hnx hb k hlt
      obtain ⟨fn, tmps, assign, body, hy, hR⟩ := hY _ zs[k] wr hJs (by rw [List.length_take]; omega)
      gi_wp2
      refine hR.mono ?_
      rintro e W3 (⟨rfl, hJ3, hk3⟩ | ⟨rfl, hJx3⟩)
      · gi_wp2
        go_roundw
        case rel => exact ⟨k + 1, by omega, by simp, by rw [← take_snoc zs k hlt]; exact hJ3, hnx.trans hk3⟩
        case measure => simp [intOf]; omega
      · gi_wp2
        refine bodyPost_ret (results_none rfl _ _ _) rfl ?_
        exact ⟨⟨_, rfl⟩, .inr ⟨_, by rw [take_snoc zs k hlt]; exact List.take_prefix _ _, hJx3⟩⟩
    · obtain rfl : k = zs.length := by omega
      gi_wp2
      go_end0
      exact ⟨⟨_, rfl⟩, .inl ⟨_, rfl, by simpa using hJs⟩⟩

set_option maxHeartbeats 1000000 in
theorem vals_in (F : Fence) (n : Nat) (hv : F.fn 124) (hro : F.round = none) (a : Option Addr) (len cap : Nat) (w : World) :
    CallsIn F n Tryd.prog 124 #[.slice a len cap] w fun e w' => e = .returned (.func (.func 155) #[] #[.pointer (some ⟨w.heap.size, 0, none⟩)]) ∧ w' = w.alloc (.cells #[.slice a len cap] 25) := by
  refine callsIn_of_wp Tryd.func124 rfl hv ?_ hro
  simp only [Tryd.ntmps124, List.size_toArray, List.length_cons, List.length_nil, Nat.reduceAdd, Nat.reduceSub, Array.replicate_succ, Array.replicate_zero, List.push_toArray, List.append_toArray, List.nil_append, List.cons_append]
  gi_wp2
  go_ret
  exact ⟨rfl, rfl⟩

theorem vals_stops (F : Fence) (n : Nat) (hv : F.fn 155) (hro : F.round = none) (hn : 1 ≤ n) (Bs n₀ cap : Nat) (a : Option Addr) (zs : List Int) (hl : zs.length ≤ 1048576) (hb : ∀ b o, a = some ⟨b, o, none⟩ → b < n₀) (w : World) (hBs : Bs < w.heap.size) (hn₀ : n₀ ≤ w.heap.size)
    (hc : w.cell? ⟨Bs, 0, none⟩ = some (.slice a zs.length cap)) (hr : Rd (Value.int .i64) w a zs) :
    SeqStopsK F n Tryd.prog 155 #[.pointer (some ⟨Bs, 0, none⟩)] (fun x : Int => #[Value.int .i64 x]) (Below n₀) (fun ys => ys = zs) (fun pre => pre <+: zs) zs.length w := fun l J Jx W hW _ _ hY h0 =>
  vals1_in F n hv hro hn l Bs n₀ cap a zs hl hb J Jx hY W ((hW.cell (p := ⟨Bs, 0, none⟩) hBs).trans hc) (hr.le (hW.mono hn₀) hb) h0

set_option maxRecDepth 100000 in
set_option maxHeartbeats 2000000 in
/-- slices.AppendSeq(nil, slices.Values(x)). -/
theorem appSeq_in (F : Fence) (n : Nat) (ha : F.fn 176) (hv : F.fn 155) (hro : F.round = none) (hn : 3 ≤ n) (Bs cap : Nat) (a : Option Addr) (zs : List Int) (hl : zs.length ≤ 1048576) (w : World) (hBs : Bs < w.heap.size)
    (hb : ∀ b o, a = some ⟨b, o, none⟩ → b < w.heap.size) (hc : w.cell? ⟨Bs, 0, none⟩ = some (.slice a zs.length cap)) (hr : Rd (Value.int .i64) w a zs) :
    CallsIn F n Tryd.prog 176 #[.slice none 0 0, .func (.func 155) #[] #[.pointer (some ⟨Bs, 0, none⟩)]] w fun e W' => ∃ v, e = .returned v ∧ W'.ownsRow w.heap.size 2 1 v zs.length (zs.map (Value.int .i64)) ∧ Below w.heap.size w W' := by
  have h1 : 1 ≤ n := by omega
  have hml : maxLen = 1048576 ∨ True := .inr trivial
  obtain ⟨i0, hi, hz0, hz1, hz2⟩ := info_parts infoE
  refine callsIn_of_wp_marks Tryd.func176 rfl ha ?_ hro
  simp only [Tryd.ntmps176, List.size_toArray, List.length_cons, List.length_nil, Nat.reduceAdd, Nat.reduceSub, Array.replicate_succ, Array.replicate_zero, List.push_toArray, List.append_toArray, List.nil_append, List.cons_append]
  gi_wp2
  have bO := Boxed.new w 25 (.slice none 0 0)
  have hB0 : Below w.heap.size w (w.alloc (.cells #[.slice none 0 0] 25)) := (Below.refl _ w).alloc (Nat.le_refl _) _
  refine wpIn_rangeFunc_ownG hro h1 (gf := 155) (lb := #[.pointer (some ⟨Bs, 0, none⟩)]) rfl hv (enters_of Tryd.func155 (by kernel_rfl) rfl)
    (vals_stops F (n - 1) hv hro (by omega) Bs w.heap.size cap a zs hl hb _ (by simp; omega) (by simp) ((hB0.cell (p := ⟨Bs, 0, none⟩) hBs).trans hc) (hr.below hB0 (Nat.le_refl _))) belowK_t (belowK_b (by simp)) (Below.refl _ _) (fun _ => rfl)
    (fun pre W => (∃ v, Boxed W w.heap.size 25 v ∧ W.ownsRow w.heap.size 2 1 v pre.length (pre.map (Value.int .i64)) ∧ (v = .slice none 0 0 ↔ pre = [])) ∧ Below w.heap.size w W)
    (fun _ _ _ => False)
    (OwnFrom.and (Own.from (holdsRow_own w.heap.size w.heap.size 25 2 1 (fun pre => pre.length) (fun pre => pre.map (Value.int .i64)) (fun pre v => v = .slice none 0 0 ↔ pre = [])) _) (ownFrom_below (Nat.le_refl _) (by simp)))
    (fun _ _ _ _ _ hs _ _ => hs)
    ⟨⟨_, bO, World.ownsRow_nil _ _ _ _, by simp⟩, hB0⟩
    (fun x => { tmps := #[.slice none 0 0, .func (.func 155) #[] #[.pointer (some ⟨Bs, 0, none⟩)], .pointer (some ⟨w.heap.size, 0, none⟩), undef, .slice none 0 0, .int .i64 x, .func (.func 155) #[] #[.pointer (some ⟨Bs, 0, none⟩)], .int .i64 x, undef, undef, undef, undef, undef], defers := [] }) ?assign ?body ?done ?stop
  case assign =>
    intro l x W K hK
    gi_wp2
    exact hK
  case body =>
    rintro l pre x W ⟨⟨v, hv, hrow, hnil⟩, hB⟩ hlt
    have hc := hv.cell
    gi_wp2_with (gi_at_builtin; refine wpListIn_append_own _ rfl _ _ 25 rfl w.heap.size 2 i0 (.int .i64 0) 1 8 Tryd.underlying25 hi hz0 hz1 hz2 rfl (by decide) _ _ _ rfl (hrow.alloc _) ⟨W.heap.size, 0, none⟩ 1 1 [.int .i64 x] rfl rfl (cell_one_new _ _ _) (by simp [Value.oneCell']) (by simp only [maxLen]; omega) (by omega) (by have := hB.size; simp; omega) ?_; intro v' w1 hown' hgrow _; obtain ⟨g', cap', rfl⟩ := ownsRow_succ hown'; obtain ⟨hv1, hv2, hr2, hk2, hb2⟩ := hv.appended (by decide) hrow hB.size (Nat.le_refl _) hown' hgrow; have hc1 := hv1.cell; have hf1 := hv1.frozen)
    exact ⟨hk2.from _, hb2, ⟨_, hv2, by simpa using hr2, by simp⟩, hB.trans hb2⟩
  case done =>
    rintro D ys W hD rfl ⟨⟨v, hv, hrow, hnil⟩, hB⟩ hK
    have hc := hv.cell
    gi_wp2
    refine ⟨by simp, .inl ⟨_, _, rfl, run_takeDeferred hK, ?_⟩⟩
    exact ⟨_, results_tmp rfl _ _ _, v, rfl, ownsRow_putObj hrow _ hK rfl, hB.trans (belowK_b (w := w) (Nat.le_refl _) W D _ _ (by simp at hD; omega) hK rfl rfl)⟩
  case stop =>
    rintro D c pre W _ _ h _
    exact h.elim
theorem collect_any (Bs cap : Nat) (a : Option Addr) (zs : List Int) (hl : zs.length ≤ 1048576) (w : World) (hBs : Bs < w.heap.size)
    (hb : ∀ b o, a = some ⟨b, o, none⟩ → b < w.heap.size) (hc : w.cell? ⟨Bs, 0, none⟩ = some (.slice a zs.length cap)) (hr : Rd (Value.int .i64) w a zs) :
    Calls Tryd.prog 153 #[.func (.func 155) #[] #[.pointer (some ⟨Bs, 0, none⟩)]] w fun e W' => ∃ v, e = .returned v ∧ Own 2 W' w.heap.size v (zs.map (Value.int .i64)) ∧ Below w.heap.size w W' := by
  have HA := (callsIn_wide (n := 3)).1 (appSeq_in Fence.wide 3 trivial trivial rfl (Nat.le_refl _) Bs cap a zs hl w hBs hb hc hr)
  go_enter Tryd.func153, Tryd.ntmps153
  go_wp2_with (go_at_call 176; refine HA.mono ?_; rintro e w' ⟨v, rfl, ho, hbl⟩)
  go_ret
  exact ⟨v, rfl, by simpa [Own] using ho, hbl⟩
theorem sorted_any (Bs cap : Nat) (a : Option Addr) (zs : List Int) (hl : zs.length ≤ 1048576) (w : World) (hBs : Bs < w.heap.size)
    (hb : ∀ b o, a = some ⟨b, o, none⟩ → b < w.heap.size) (hc : w.cell? ⟨Bs, 0, none⟩ = some (.slice a zs.length cap)) (hr : Rd (Value.int .i64) w a zs) :
    Calls Tryd.prog 123 #[.func (.func 155) #[] #[.pointer (some ⟨Bs, 0, none⟩)]] w fun e W' => ∃ v, e = .returned v ∧ Own 2 W' w.heap.size v ((zs.mergeSort fun x y => decide (x ≤ y)).map (.int .i64)) ∧ Below w.heap.size w W' := by
  have HC := hid (collect_any Bs cap a zs hl w hBs hb hc hr)
  clear hc hr
  go_enter Tryd.func123, Tryd.ntmps123
  go_wp2_with (go_at_call 153; refine HC.out.mono ?_; rintro e w1 ⟨v, rfl, ho, hbl⟩)
  rcases ho.form with ⟨rfl, h0⟩ | ⟨g, sc, spare, rfl, hg, hh, hcp, hmx⟩
  · have hz : zs = [] := by simpa using h0
    subst hz
    have HN := AnyG.slices_Sort_int_none Tryd.sort70 none 0 w1
    go_wp2_with (go_at_call 154; refine HN.mono ?_; rintro e w2 ⟨rfl, rfl⟩)
    go_ret
    exact ⟨_, rfl, by simpa using Own.nil _ _ _, hbl⟩
  · have hlz : (zs.map (Value.int .i64)).length = zs.length := List.length_map _
    rw [hlz]
    have HS := sort_any w.heap.size zs g sc w1 (by rw [hlz] at ho; exact ho) hl
    go_wp2_with (go_at_call 154; refine HS.mono ?_; rintro e w2 ⟨rfl, ho2, hg2⟩)
    go_ret
    exact ⟨_, rfl, ho2, hbl.grown hg2 hbl.size (fun k e => by cases e; exact hg)⟩
end Go.Proofs.YtahibjikcijnfaaDoor
