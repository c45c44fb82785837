/- The width of bags: the reference's and the program's. -/
import Derived.Test.YtnlcmbelpdnffaaFn
namespace Go.Proofs.Ytnlcmbelpdnffaa
open Go.RowKit

/-- The length of the longest row. -/
def topLen (rs : List Row) : Nat := rs.foldl (fun m r => max m r.z.length) 0
theorem topLen_snoc (A : List Row) (r : Row) : topLen (A ++ [r]) = max (topLen A) r.z.length := by simp [topLen]
theorem topLen_take (rs : List Row) (k : Nat) (h : k < rs.length) : topLen (rs.take (k + 1)) = max (topLen (rs.take k)) rs[k].z.length := by
  rw [List.take_succ_eq_append_getElem h, topLen_snoc]
def widthOf (rs : List Row) : Int := if rs.length ≤ 16 then (topLen rs : Int) - 1 else -1
def anyLong (rs : List Row) : Bool := rs.any fun r => decide (16 < r.z.length)
def bagsWidth (rs : List Row) : Int := if anyLong rs then -1 else widthOf rs
theorem topLen_nums (rs : List Row) : topLen rs = (nums rs).foldl (fun m z => max m z.length) 0 := by simp [topLen, nums, List.foldl_map]
theorem anyLong_nums (rs : List Row) : anyLong rs = (nums rs).any fun z => decide (16 < z.length) := by simp [anyLong, nums, Function.comp_def]
theorem widthOf_congr {rs qs : List Row} (h : nums rs = nums qs) : widthOf rs = widthOf qs := by
  have hl : rs.length = qs.length := by simpa [nums] using congrArg List.length h
  unfold widthOf; rw [hl, topLen_nums, topLen_nums, h]
theorem bagsWidth_congr {rs qs : List Row} (h : nums rs = nums qs) : bagsWidth rs = bagsWidth qs := by
  unfold bagsWidth; rw [anyLong_nums, anyLong_nums, h, widthOf_congr h]
theorem l1Max_any (a b : Int) (w : World) : Calls Try.prog 49 #[.int .i64 a, .int .i64 b] w fun e w' => e = .returned (.int .i64 (max a b)) ∧ w = w' := by
  by_cases h : b < a
  · have e : max a b = a := by omega
    have E := hid e; clear e
    go_enter Try.func49, Try.ntmps49
    go_wp2
    go_ret
    exact ⟨ret_int E.out.symm, rfl⟩
  · have e : max a b = b := by omega
    have E := hid e; clear e
    go_enter Try.func49, Try.ntmps49
    go_wp2
    go_ret
    exact ⟨ret_int E.out.symm, rfl⟩
set_option maxHeartbeats 1000000 in
theorem specBagsWidth_any (a : Option Addr) (rs : List Row) (c : Nat) (w : World) (hr : RdM w a rs) (hn : Small rs) :
    Calls Try.prog 15 #[.slice a rs.length c] w fun e w' => e = .returned (.int .i64 (bagsWidth rs)) ∧ w = w' := by
  have HR := hid hr; have hn1 := hn.1; have HN := hid hn; clear hr hn
  by_cases hl : 16 < rs.length
  · have e : bagsWidth rs = -1 := by unfold bagsWidth widthOf; split <;> first | rfl | (rw [if_neg (by omega)])
    have E := hid e; clear e
    go_enter Try.func15, Try.ntmps15
    go_wp2
    go_ret
    exact ⟨ret_int E.out.symm, rfl⟩
  · go_enter Try.func15, Try.ntmps15
    go_wp2
    go_loop [3, 4] (fun m i => ∃ k : Nat, k ≤ rs.length ∧ i = .int .i64 k ∧ m = .int .i64 ((topLen (rs.take k) : Int) - 1) ∧ anyLong (rs.take k) = false ∧ topLen (rs.take k) ≤ 16) (fun _ i => rs.length - (intOf i).toNat)
    case atStart => exact ⟨0, Nat.zero_le _, rfl, rfl, rfl, by simp [topLen]⟩
    case round =>
      obtain ⟨k, hk, rfl, rfl, ha, ht⟩ := hrel
      have HA := hid ha; clear ha
      by_cases hlt : k < rs.length
      · obtain ⟨b, o, rfl, hc, _⟩ := HR.out.at k hlt
        have HT := hid (topLen_take rs k hlt)
        have HS := hid (List.take_succ_eq_append_getElem hlt)
        have HM := hid (List.getElem_mem hlt)
        have hz := HN.out.2 _ (List.getElem_mem hlt)
        generalize rs[k] = r at *
        by_cases hb : 16 < r.z.length
        · go_wp2
          go_ret
          refine ⟨ret_int ?_, rfl⟩
          unfold bagsWidth
          rw [if_pos (show anyLong rs = true from List.any_eq_true.2 ⟨r, HM.out, by simpa using hb⟩)]
        · go_wp2_with (go_at_call 49; refine (l1Max_any _ _ _).mono ?_; rintro e w' ⟨rfl, rfl⟩)
          go_round
          case rel =>
            refine ⟨k + 1, by omega, by go_num, ?_, ?_, ?_⟩
            · rw [HT.out]; simp; omega
            · have := HA.out
              unfold anyLong at this ⊢
              rw [HS.out, List.any_append, this]; simp; omega
            · rw [HT.out]; omega
          case measure => simp [intOf]; omega
      · obtain rfl : k = rs.length := by omega
        go_wp2
        go_ret
        have := HA.out
        rw [List.take_length] at this
        refine ⟨ret_int ?_, rfl⟩
        unfold bagsWidth widthOf
        rw [if_neg (by rw [this]; simp), if_pos (by omega)]
set_option maxHeartbeats 1000000 in
theorem largestBag_any (a : Option Addr) (rs : List Row) (c : Nat) (w : World) (hr : RdM w a rs) (hn : Small rs) :
    Calls Try.prog 52 #[.slice a rs.length c] w fun e w' => e = .returned (.int .i64 (widthOf rs)) ∧ w = w' := by
  have HR := hid hr; have hn1 := hn.1; have HN := hid hn; clear hr hn
  by_cases h0 : rs.length < 1
  · have e : widthOf rs = -1 := by
      obtain rfl : rs = [] := List.eq_nil_of_length_eq_zero (by omega)
      rfl
    have E := hid e; clear e
    go_enter Try.func52, Try.ntmps52
    go_wp2
    go_ret
    exact ⟨ret_int E.out.symm, rfl⟩
  · by_cases hl : 16 < rs.length
    · have e : widthOf rs = -1 := by unfold widthOf; rw [if_neg (by omega)]
      have E := hid e; clear e
      go_enter Try.func52, Try.ntmps52
      go_wp2
      go_ret
      exact ⟨ret_int E.out.symm, rfl⟩
    · go_enter Try.func52, Try.ntmps52
      go_wp2
      go_loop [3, 5, 16] (fun m _ i => ∃ k : Nat, k ≤ rs.length ∧ i = .int .i64 k ∧ m = .int .i64 (topLen (rs.take k) : Int) ∧ topLen (rs.take k) ≤ 1048576) (fun _ _ i => rs.length - (intOf i).toNat)
      case atStart => exact ⟨0, Nat.zero_le _, rfl, rfl, by simp [topLen]⟩
      case round =>
        obtain ⟨k, hk, rfl, rfl, ht⟩ := hrel
        by_cases hlt : k < rs.length
        · obtain ⟨b, o, rfl, hc, _⟩ := HR.out.at k hlt
          have HT := hid (topLen_take rs k hlt)
          have hz := HN.out.2 _ (List.getElem_mem hlt)
          generalize rs[k] = r at *
          go_wp2
          go_round
          case rel => exact ⟨k + 1, by omega, by go_num, by rw [HT.out]; simp; split <;> omega, by rw [HT.out]; omega⟩
          case measure => simp [intOf]; omega
        · obtain rfl : k = rs.length := by omega
          rw [List.take_length] at ht
          go_wp2
          go_ret
          exact ⟨ret_int (by unfold widthOf; rw [if_pos (by omega)]), rfl⟩

theorem bagsTest_any (r : Row) (w : World) (hz : r.z.length ≤ 1048576) : Calls Try.prog 51 #[.slice r.a r.z.length r.c] w fun e w' => e = .returned (.bool (decide (16 < r.z.length))) ∧ w = w' := by
  go_enter Try.func51, Try.ntmps51
  go_wp2
  go_ret
  exact ⟨ret_bool (by simp; omega), rfl⟩
set_option maxHeartbeats 1000000 in
theorem implBagsWidth_any (a : Option Addr) (rs : List Row) (c : Nat) (w : World) (hr : RdM w a rs) (hn : Small rs) :
    Calls Try.prog 17 #[.slice a rs.length c] w fun e w' => e = .returned (.int .i64 (bagsWidth rs)) ∧ Below w.heap.size w w' := by
  have HR := hid hr; have hn1 := hn.1; have HN := hid hn; clear hr hn
  have HF : Hid (Tests Try.prog 51 #[] (fun r => decide (16 < r.z.length)) rs w) := fun r hr w1 _ =>
    (bagsTest_any r w1 (HN.out.2 r hr)).mono fun e w' ⟨he, hw⟩ => ⟨he, by rw [hw]; exact Below.refl _ _⟩
  have HE := hid (enters_of Try.func51 (by kernel_rfl) (by kernel_rfl))
  cases ha : anyLong rs
  all_goals
    have HA := hid ha; clear ha
    go_enter Try.func17, Try.ntmps17
    go_wp2_with fail
    refine (containsRows_any a rs c _ _ _ _ HR.out hn1 HE.out HF.out).mono ?_
    rintro e w2 ⟨rfl, hb2⟩
    have HB := hid hb2; clear hb2
    rw [show (rs.any fun r => decide (16 < r.z.length)) = _ from HA.out]
  · go_wp2_with (go_at_call 52; refine (largestBag_any _ _ _ _ (HR.out.below HB.out (Nat.le_refl _)) HN.out).mono ?_; rintro e w' ⟨rfl, rfl⟩)
    go_ret
    exact ⟨ret_int (by unfold bagsWidth; rw [HA.out]; rfl), HB.out⟩
  · go_wp2
    go_ret
    exact ⟨ret_int (by unfold bagsWidth; rw [HA.out]; rfl), HB.out⟩
end Go.Proofs.Ytnlcmbelpdnffaa
