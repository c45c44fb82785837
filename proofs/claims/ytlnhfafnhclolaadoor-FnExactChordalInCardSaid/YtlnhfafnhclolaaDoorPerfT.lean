/- ChordalIn: the reference's. -/
import Derived.Test.YtlnhfafnhclolaaDoorPerfS
namespace Go.Proofs.YtlnhfafnhclolaaDoor
open Go.RowKit
theorem perfL_small (g : List (List Int)) : ((perfL g).getD []).length ≤ 1048576 := by
  by_cases hg : GOk g
  · rw [perfL_ok hg]
    cases h : perfR (g.map maskL) g.length (2 ^ g.length - 1) with
    | none => simp
    | some l =>
      have h1 := perfR_len h
      have := hg.le
      show (castL l).length ≤ _
      rw [castL_len]; omega
  · rw [perfL_no hg]; simp
set_option maxHeartbeats 1000000 in
theorem specChordalIn_b (a : Option Addr) (rs : List Row) (c : Nat) (w : World) (b : Bool) (hx : (perfL (nums rs)).isSome = b) (hr : RdM w a rs) (hn : Small rs) :
    Calls Tryd.prog 33 #[.agg #[.slice a rs.length c]] w fun e w' => e = .returned (.bool b) ∧ Below w.heap.size w w' := by
  have RA := hid hr; have HX := hid hx; clear hr hx
  obtain ⟨w0, hw0⟩ : ∃ w0, w0 = (w.alloc (.cells #[.slice a rs.length c] 28)) := ⟨_, rfl⟩
  have B0 := hid (show Below w.heap.size w w0 by rw [hw0]; exact ((Below.refl _ _).alloc (Nat.le_refl _) _))
  have c0 : w0.cell? ⟨w.heap.size, 0, none⟩ = some (.slice a rs.length c) := by rw [hw0]; simp [go_sem]
  replace RA := hid (RA.out.below B0.out (Nat.le_refl _))
  have HW := hid hw0; clear hw0
  go_enter Tryd.func33, Tryd.ntmps33
  go_wp2_with fail
  rw [← HW.out]
  refine (specPerfectOrder_any a rs c _ _ b rfl HX.out RA.out hn).mono ?_
  rintro e w1 ⟨v, rfl, hown, hb⟩
  have B1 := hid (bon B0.out hb); clear hb hown
  go_wp2
  go_ret
  exact ⟨rfl, B1.out⟩
end Go.Proofs.YtlnhfafnhclolaaDoor
