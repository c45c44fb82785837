/- The tree width by the reference: TreeWidth. -/
import Derived.Test.YtdncmloajajiaaaDoorTwE
namespace Go.Proofs.YtdncmloajajiaaaDoor
open Go.RowKit
section
set_option maxRecDepth 100000 in
set_option maxHeartbeats 4000000 in
theorem specTreeWidth_any (a : Option Addr) (rs : List Row) (c : Nat) (A : List Nat) (n : Nat) (w : World) (hA : GA n A) (hq : nums rs = A.map mems) (hn : rs.length = n) (hr : RdM w a rs) (hs : Small rs) (h10 : n ≤ 10) :
    Calls Tryd.prog 26 #[.agg #[.slice a n c]] w (TwPost A n w) := by
  have RA := hid hr; have HQ := hid hq; have HN := hid hn; have HS := hid hs; have HGA := hid hA
  clear hr hq hn hs hA
  obtain ⟨w0, hw0⟩ : ∃ w0, w0 = (w.alloc (.cells #[.slice a n c] 29)) := ⟨_, rfl⟩
  have B0 := hid (show Below w.heap.size w w0 by rw [hw0]; exact ((Below.refl _ _).alloc (Nat.le_refl _) _))
  have c0 : w0.cell? ⟨w.heap.size, 0, none⟩ = some (.slice a n c) := by rw [hw0]; simp [go_sem]
  replace RA := hid (RA.out.below B0.out (Nat.le_refl _))
  have HW := hid hw0; clear hw0
  have hb := alloc_below w0 (.cells #[] 2)
  have RA1 := hid (RA.out.below hb (Nat.le_refl _))
  have B1 := hid (bon B0.out hb)
  clear hb
  go_enter Tryd.func26, Tryd.ntmps26
  go_wp2_with fail
  rw [← HW.out]
  refine (specWidthFrom_none a rs c A n _ 0 _ HGA.out HQ.out HN.out RA1.out HS.out h10).mono ?_
  rintro e w1 ⟨rfl, hb⟩
  have B2 := hid (bon B1.out hb)
  clear hb
  go_wp2
  go_ret
  exact ⟨rfl, B2.out⟩
end
end Go.Proofs.YtdncmloajajiaaaDoor
