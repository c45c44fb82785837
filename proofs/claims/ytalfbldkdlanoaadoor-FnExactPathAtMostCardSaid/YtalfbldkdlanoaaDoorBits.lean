/- The program's sets of vertices: one bit for each. -/
import Derived.Test.YtalfbldkdlanoaaDoorBase
import Derived.Test.YtalfbldkdlanoaaDoorMask
namespace Go.Proofs.YtalfbldkdlanoaaDoor
open Go.RowKit
theorem pow_lt32 (v : Nat) (hv : v < 32) : 2 ^ v < 4294967296 := Nat.pow_lt_pow_right (by decide) (show v < 32 from hv)
theorem one_any (v : Nat) (w : World) (hv : v < 32) : Calls Tryd.prog 117 #[.int .i64 v] w fun e w' => e = .returned (.int .u32 ((2 ^ v : Nat) : Int)) ∧ w = w' := by
  go_enter Tryd.func117, Tryd.ntmps117
  go_wp2
  go_ret
  refine ⟨ret_int ?_, rfl⟩
  have h := pow_lt32 v hv
  have e : (2 : Int) ^ v = ((2 ^ v : Nat) : Int) := by simp
  rw [e]; clear e; generalize (2 ^ v : Nat) = p at h ⊢; omega
theorem has_b (m v : Nat) (w : World) (b : Bool) (hb : m.testBit v = b) (hm : m < 4294967296) (hv : v < 32) : Calls Tryd.prog 160 #[.int .u32 m, .int .i64 v] w fun e w' => e = .returned (.bool b) ∧ w = w' := by
  have HB := hid hb; clear hb
  go_enter Tryd.func160, Tryd.ntmps160
  go_wp2
  go_ret
  refine ⟨ret_bool ?_, rfl⟩
  have e : (m : Int) / 2 ^ v = ((m / 2 ^ v : Nat) : Int) := by simp
  have hl : m / 2 ^ v < 4294967296 := Nat.lt_of_le_of_lt (Nat.div_le_self _ _) hm
  rw [e, show (1 : Int) = ((1 : Nat) : Int) from rfl, u32_and_nat _ _ hl (by decide), nat_mask1, ← HB.out, Nat.testBit_eq_decide_div_mod_eq]
  rw [Bool.eq_iff_iff]; simp; omega
end Go.Proofs.YtalfbldkdlanoaaDoor
