/- FnExactBagsWidth: the walk of the law. -/
import Derived.Test.YtnlcmbelpdnffaaGr
import Derived.Test.YtnlcmbelpdnffaaBag
namespace Go.Proofs.Ytnlcmbelpdnffaa
open Go.RowKit

set_option maxHeartbeats 2000000 in
theorem lawBagsWidth_any (a : Option Addr) (rs : List Row) (c : Nat) (w : World) (hr : RdM w a rs) (hl : rs.length ≤ c ∧ c ≤ maxLen ∧ (a = none → c = 0)) :
    Calls Try.prog 4 #[.slice a rs.length c] w fun e w' => e = .returned (.bool true) ∧ Below w.heap.size w w' := by
  have HR := hid hr; clear hr
  have hn : rs.length ≤ maxLen := Nat.le_trans hl.1 hl.2.1
  clear hl
  by_cases h : sz2 rs 1048576 < 0
  · go_enter Try.func4, Try.ntmps4
    go_wp2_with (go_at_call 14; refine (sz2_any a rs c 1048576 w hn HR.out (by decide) (by decide)).mono ?_; rintro e w' ⟨rfl, rfl⟩)
    go_ret
    exact ⟨rfl, Below.refl _ _⟩
  · have HS := hid (sz2_small rs 1048576 (by decide) (by decide) (by omega)).1
    go_enter Try.func4, Try.ntmps4
    go_wp2_with (go_at_call 14; refine (sz2_any a rs c 1048576 w hn HR.out (by decide) (by decide)).mono ?_; rintro e w' ⟨rfl, rfl⟩)
    refine (to2_cp a rs c w HR.out HS.out).mono ?_
    rintro e w1 ⟨a1, rs1, c1, rfl, C1⟩
    have K1 := hid C1; clear C1
    go_wp2_with fail
    refine (specBagsWidth_any a1 rs1 c1 w1 K1.out.rd K1.out.small).mono ?_
    rintro e w2 ⟨rfl, rfl⟩
    go_wp2_with fail
    refine (to2_cp a rs c _ (HR.out.below K1.out.below (Nat.le_refl _)) HS.out).mono ?_
    rintro e w2 ⟨a2, rs2, c2, rfl, C2⟩
    have K2 := hid C2; clear C2
    go_wp2_with fail
    refine (implBagsWidth_any a2 rs2 c2 w2 K2.out.rd K2.out.small).mono ?_
    rintro e w3 ⟨rfl, hb3⟩
    have B3 := hid ((K1.out.below.trans (K2.out.below.mono K1.out.below.size)).trans (hb3.mono (K1.out.below.trans (K2.out.below.mono K1.out.below.size)).size))
    have R3 := hid (K2.out.rd.below hb3 (Nat.le_refl _)); clear hb3
    have he : (bagsWidth rs2 != bagsWidth rs1) = false := by rw [bagsWidth_congr (K2.out.nums.trans K1.out.nums.symm)]; simp
    go_wp2_with fail
    refine (to2_cp a rs c _ (HR.out.below B3.out (Nat.le_refl _)) HS.out).mono ?_
    rintro e w4 ⟨a4, rs4, c4, rfl, C4⟩
    have K4 := hid C4; clear C4
    go_wp2_with fail
    refine (eq2_b a2 a4 rs2 rs4 c2 c4 w4 true (by rw [K2.out.nums, K4.out.nums]; simp) (R3.out.below K4.out.below (Nat.le_refl _)) K4.out.rd K2.out.small K4.out.small).mono ?_
    rintro e w5 ⟨rfl, hd⟩
    have B5 := hid ((B3.out.trans (K4.out.below.mono B3.out.size)).trans (hd.below _)); clear hd
    go_wp2
    go_ret
    exact ⟨rfl, B5.out⟩
end Go.Proofs.Ytnlcmbelpdnffaa
