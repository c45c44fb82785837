/- The width of bags: the reference's and the program's. -/
import Derived.Test.YtahibjikcijnfaaDoorFn
namespace Go.Proofs.YtahibjikcijnfaaDoor
open Go.RowKit

/-- The length of the longest row. -/
def topLen (rs : List Row) : Nat := rs.foldl (fun m r => max m r.z.length) 0
theorem topLen_snoc (A : List Row) (r : Row) : topLen (A ++ [r]) = max (topLen A) r.z.length := by simp [topLen]
theorem topLen_take (rs : List Row) (k : Nat) (h : k < rs.length) : topLen (rs.take (k + 1)) = max (topLen (rs.take k)) rs[k].z.length := by
  rw [List.take_succ_eq_append_getElem h, topLen_snoc]
def widthOf (rs : List Row) : Int := if rs.length ≤ 16 then (topLen rs : Int) - 1 else -1
def anyLong (rs : List Row) : Bool := rs.any fun r => decide (16 < r.z.length)
def bagsWidth (rs : List Row) : Int := if anyLong rs then -1 else widthOf rs
theorem topLen_nums (rs : List Row) : topLen rs = (nums rs).foldl (fun m z => max m z.length) 0 := by simp [topLen, nums, List.foldl_map]
theorem anyLong_nums (rs : List Row) : anyLong rs = (nums rs).any fun z => decide (16 < z.length) := by simp [anyLong, nums, Function.comp_def]
theorem widthOf_congr {rs qs : List Row} (h : nums rs = nums qs) : widthOf rs = widthOf qs := by
  have hl : rs.length = qs.length := by simpa [nums] using congrArg List.length h
  unfold widthOf; rw [hl, topLen_nums, topLen_nums, h]
theorem bagsWidth_congr {rs qs : List Row} (h : nums rs = nums qs) : bagsWidth rs = bagsWidth qs := by
  unfold bagsWidth; rw [anyLong_nums, anyLong_nums, h, widthOf_congr h]
theorem l1Max_any (a b : Int) (w : World) : Calls Tryd.prog 64 #[.int .i64 a, .int .i64 b] w fun e w' => e = .returned (.int .i64 (max a b)) ∧ w = w' := by
  by_cases h : b < a
  · have e : max a b = a := by omega
    have E := hid e; clear e
    go_enter Tryd.func64, Tryd.ntmps64
    go_wp2
    go_ret
    exact ⟨ret_int E.out.symm, rfl⟩
  · have e : max a b = b := by omega
    have E := hid e; clear e
    go_enter Tryd.func64, Tryd.ntmps64
    go_wp2
    go_ret
    exact ⟨ret_int E.out.symm, rfl⟩
end Go.Proofs.YtahibjikcijnfaaDoor
