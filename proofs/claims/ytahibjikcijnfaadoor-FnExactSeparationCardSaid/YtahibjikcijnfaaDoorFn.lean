/- slices.IndexFunc, slices.ContainsFunc over rows of numbers, at whatever test. -/
import Derived.Test.YtahibjikcijnfaaDoorBase
namespace Go.Proofs.YtahibjikcijnfaaDoor
open Go.RowKit

/-- A function of the program that is called by its value is entered. -/
def Enters (P : Program) (F : FuncId) : Prop := ∀ (args : Array Value) (w : World), (callFunc F args).run P w = .ok (.enter F args) w
theorem enters_of {P : Program} {F : FuncId} {fn : Func} (h : P.funcs[F]? = some fn) (hn : (fn.name == "runtime.NumGoroutine") = false) (hb : fn.body.isNone = false) : Enters P F := by
  intro args w
  have hn' : ¬ fn.name = "runtime.NumGoroutine" := by simpa using hn
  have hb' : ¬ fn.body = none := by intro h; rw [h] at hb; cases hb
  simp [callFunc, program, Sem.run, Sem.run_bind, h, hn', hb']
/-- What is asked of the test: it answers p of each row, in whatever world has only grown. -/
def Tests (P : Program) (F : FuncId) (caps : Array Value) (p : Row → Bool) (rs : List Row) (w : World) : Prop :=
  ∀ r ∈ rs, ∀ w1, Below w.heap.size w w1 → Calls P F (#[.slice r.a r.z.length r.c] ++ caps) w1 fun e w2 => e = .returned (.bool (p r)) ∧ Below w1.heap.size w1 w2
def IdxPost (p : Row → Bool) (rs : List Row) (w : World) (e : Ending) (w' : World) : Prop := ∃ x : Int, e = .returned (.int .i64 x) ∧ decide (0 ≤ x) = rs.any p ∧ Below w.heap.size w w'
end Go.Proofs.YtahibjikcijnfaaDoor
