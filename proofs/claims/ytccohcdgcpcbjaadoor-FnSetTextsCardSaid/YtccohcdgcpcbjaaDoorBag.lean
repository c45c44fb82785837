/- slices.IndexFunc, slices.ContainsFunc over rows of numbers, at whatever test. · The width of bags: the reference's and the program's. -/
import Derived.Test.YtccohcdgcpcbjaaDoorMem
namespace Go.Proofs.YtccohcdgcpcbjaaDoor
open Go.RowKit
section

/-- A function of the program that is called by its value is entered. -/
def Enters (P : Program) (F : FuncId) : Prop := ∀ (args : Array Value) (w : World), (callFunc F args).run P w = .ok (.enter F args) w
theorem enters_of {P : Program} {F : FuncId} {fn : Func} (h : P.funcs[F]? = some fn) (hn : (fn.name == "runtime.NumGoroutine") = false) (hb : fn.body.isNone = false) : Enters P F := by
  intro args w
  have hn' : ¬ fn.name = "runtime.NumGoroutine" := by simpa using hn
  have hb' : ¬ fn.body = none := by intro h; rw [h] at hb; cases hb
  simp [callFunc, program, Sem.run, Sem.run_bind, h, hn', hb']
/-- What is asked of the test: it answers p of each row, in whatever world has only grown. -/
def Tests (P : Program) (F : FuncId) (caps : Array Value) (p : Row → Bool) (rs : List Row) (w : World) : Prop :=
  ∀ r ∈ rs, ∀ w1, Below w.heap.size w w1 → Calls P F (#[.slice r.a r.z.length r.c] ++ caps) w1 fun e w2 => e = .returned (.bool (p r)) ∧ Below w1.heap.size w1 w2
def IdxPost (p : Row → Bool) (rs : List Row) (w : World) (e : Ending) (w' : World) : Prop := ∃ x : Int, e = .returned (.int .i64 x) ∧ decide (0 ≤ x) = rs.any p ∧ Below w.heap.size w w'
end
section

/-- The length of the longest row. -/
def topLen (rs : List Row) : Nat := rs.foldl (fun m r => max m r.z.length) 0
theorem topLen_snoc (A : List Row) (r : Row) : topLen (A ++ [r]) = max (topLen A) r.z.length := by simp [topLen]
theorem topLen_take (rs : List Row) (k : Nat) (h : k < rs.length) : topLen (rs.take (k + 1)) = max (topLen (rs.take k)) rs[k].z.length := by
  rw [List.take_succ_eq_append_getElem h, topLen_snoc]
def widthOf (rs : List Row) : Int := if rs.length ≤ 16 then (topLen rs : Int) - 1 else -1
def anyLong (rs : List Row) : Bool := rs.any fun r => decide (16 < r.z.length)
def bagsWidth (rs : List Row) : Int := if anyLong rs then -1 else widthOf rs
theorem topLen_nums (rs : List Row) : topLen rs = (nums rs).foldl (fun m z => max m z.length) 0 := by simp [topLen, nums, List.foldl_map]
theorem anyLong_nums (rs : List Row) : anyLong rs = (nums rs).any fun z => decide (16 < z.length) := by simp [anyLong, nums, Function.comp_def]
theorem widthOf_congr {rs qs : List Row} (h : nums rs = nums qs) : widthOf rs = widthOf qs := by
  have hl : rs.length = qs.length := by simpa [nums] using congrArg List.length h
  unfold widthOf; rw [hl, topLen_nums, topLen_nums, h]
theorem bagsWidth_congr {rs qs : List Row} (h : nums rs = nums qs) : bagsWidth rs = bagsWidth qs := by
  unfold bagsWidth; rw [anyLong_nums, anyLong_nums, h, widthOf_congr h]
end
end Go.Proofs.YtccohcdgcpcbjaaDoor
