/- The program's sets of vertices: one bit for each. · math/bits.OnesCount32. -/
import Derived.Test.YtggjmnihnjdoaaaDoorBase
import Derived.Test.YtggjmnihnjdoaaaDoorMask
import Derived.Lib.BitFns
import Derived.Deep.Light
namespace Go.Proofs.YtggjmnihnjdoaaaDoor
open Go.RowKit
section
theorem pow_lt32 (v : Nat) (hv : v < 32) : 2 ^ v < 4294967296 := Nat.pow_lt_pow_right (by decide) (show v < 32 from hv)
theorem one_any (v : Nat) (w : World) (hv : v < 32) : Calls Tryd.prog 100 #[.int .i64 v] w fun e w' => e = .returned (.int .u32 ((2 ^ v : Nat) : Int)) ∧ w = w' := by
  go_enter Tryd.func100, Tryd.ntmps100
  go_wp2
  go_ret
  refine ⟨ret_int ?_, rfl⟩
  have h := pow_lt32 v hv
  have e : (2 : Int) ^ v = ((2 ^ v : Nat) : Int) := by simp
  rw [e]; clear e; generalize (2 ^ v : Nat) = p at h ⊢; omega
theorem has_b (m v : Nat) (w : World) (b : Bool) (hb : m.testBit v = b) (hm : m < 4294967296) (hv : v < 32) : Calls Tryd.prog 164 #[.int .u32 m, .int .i64 v] w fun e w' => e = .returned (.bool b) ∧ w = w' := by
  have HB := hid hb; clear hb
  go_enter Tryd.func164, Tryd.ntmps164
  go_wp2
  go_ret
  refine ⟨ret_bool ?_, rfl⟩
  have e : (m : Int) / 2 ^ v = ((m / 2 ^ v : Nat) : Int) := by simp
  have hl : m / 2 ^ v < 4294967296 := Nat.lt_of_le_of_lt (Nat.div_le_self _ _) hm
  rw [e, show (1 : Int) = ((1 : Nat) : Int) from rfl, u32_and_nat _ _ hl (by decide), nat_mask1, ← HB.out, Nat.testBit_eq_decide_div_mod_eq]
  rw [Bool.eq_iff_iff]; simp; omega
end
section
/-- How many of the n lowest bits are set. -/
def pcN : Nat → Nat → Nat
  | 0, _ => 0
  | n + 1, m => m % 2 + pcN n (m / 2)

theorem pcN_add : ∀ (a b m : Nat), pcN (a + b) m = pcN a m + pcN b (m / 2 ^ a)
  | 0, b, m => by simp [pcN]
  | a + 1, b, m => by
    rw [show a + 1 + b = (a + b) + 1 by omega, pcN, pcN_add a b (m / 2), pcN, Nat.div_div_eq_div_mul, Nat.pow_succ, Nat.mul_comm 2, Nat.add_assoc]
theorem pcN_mod : ∀ (n m : Nat), pcN n m = pcN n (m % 2 ^ n)
  | 0, m => rfl
  | n + 1, m => by
    rw [pcN, pcN, pcN_mod n (m / 2), pcN_mod n (m % 2 ^ (n + 1) / 2)]
    congr 1
    · rw [Nat.pow_succ, Nat.mul_comm, Nat.mod_mul_right_mod]
    · rw [Nat.pow_succ, Nat.mul_comm, Nat.mod_mul_right_div_self, Nat.mod_mod]
theorem pcN_le : ∀ (n m : Nat), pcN n m ≤ n
  | 0, m => Nat.le_refl _
  | n + 1, m => by have := pcN_le n (m / 2); rw [pcN]; omega
theorem pcN_filter : ∀ (n m : Nat), pcN n m = ((List.range n).filter fun i => m.testBit i).length
  | 0, m => rfl
  | n + 1, m => by
    rw [pcN, pcN_filter n (m / 2), List.range_succ_eq_map, List.filter_cons, List.filter_map]
    have e : ((fun i => m.testBit i) ∘ Nat.succ) = fun i => (m / 2).testBit i := by
      funext i; simp [Nat.testBit_succ]
    rw [e]
    have h0 : m.testBit 0 = decide (m % 2 = 1) := by simp
    by_cases h : m % 2 = 1
    · rw [if_pos (by rw [h0]; simpa using h)]; simp; omega
    · rw [if_neg (by rw [h0]; simpa using h)]; simp; omega
theorem pop8_pcF : ∀ n : Fin 256, Lib.pop8 (n.val : Int) = (pcN 8 n.val : Int) := by decide +kernel
theorem pop8_pc (n : Nat) (h : n < 256) : Lib.pop8 (n : Int) = (pcN 8 n : Int) := pop8_pcF ⟨n, h⟩
theorem and255 (x : Nat) (hx : x < 4294967296) : bits .and .u32 (x : Int) 255 = ((x % 256 : Nat) : Int) := by
  rw [show (255 : Int) = ((255 : Nat) : Int) from rfl, u32_and_nat _ _ hx (by decide), show (255 : Nat) = 2 ^ 8 - 1 from rfl, Nat.and_two_pow_sub_one_eq_mod]
set_option maxRecDepth 100000 in
set_option maxHeartbeats 8000000 in
theorem onesCount_any (m : Nat) (w : World) (hm : m < 65536) : Calls Tryd.prog 163 #[.int .u32 m] w fun e w' => e = .returned (.int .i64 (pcN 16 m : Nat)) ∧ Drawn w w' := by
  have happ : ∀ (a : UInt8) (l k : List UInt8), (a :: l).append k = a :: l.append k := fun _ _ _ => rfl
  have hnil : ∀ (bs : List UInt8), [].append bs = bs := fun _ => rfl
  have a1 : bits .and .u32 ((m : Int) / 65536) 255 = (m : Int) / 65536 % 256 := by have := and255 (m / 65536) (by omega); simpa using this
  have a2 : bits .and .u32 ((m : Int) / 256) 255 = (m : Int) / 256 % 256 := by have := and255 (m / 256) (by omega); simpa using this
  have a3 : bits .and .u32 (m : Int) 255 = (m : Int) % 256 := by have := and255 m (by omega); simpa using this
  have h1 : (0 : Int) ≤ (m : Int) / 16777216 := by omega
  have h2 : (m : Int) / 16777216 ≤ 255 := by omega
  go_enter Tryd.func163, Tryd.ntmps163
  go_wp2
  go_quiet (fail)
  go_wp2
  go_ret
  refine ⟨ret_int ?_, ⟨nq, rfl⟩⟩
  have e0 : (m : Int) / 16777216 = ((0 : Nat) : Int) := by omega
  have e1 : (m : Int) / 65536 % 256 = ((0 : Nat) : Int) := by omega
  have e2 : (m : Int) / 256 % 256 = ((m / 256 % 256 : Nat) : Int) := by omega
  have e3 : (m : Int) % 256 = ((m % 256 : Nat) : Int) := by omega
  rw [e0, e1, e2, e3, pop8_pc 0 (by decide), pop8_pc _ (Nat.mod_lt _ (by decide)), pop8_pc _ (Nat.mod_lt _ (by decide)), show (16 : Nat) = 8 + 8 from rfl, pcN_add, pcN_mod 8 m, pcN_mod 8 (m / 2 ^ 8)]
  have l1 := pcN_le 8 (m % 2 ^ 8)
  have l2 := pcN_le 8 (m / 2 ^ 8 % 2 ^ 8)
  rw [show (256 : Nat) = 2 ^ 8 from rfl]
  generalize pcN 8 (m % 2 ^ 8) = x at *
  generalize pcN 8 (m / 2 ^ 8 % 2 ^ 8) = y at *
  have e4 : pcN 8 0 = 0 := rfl
  rw [e4]
  omega
theorem size_any (m : Nat) (w : World) (hm : m < 65536) : Calls Tryd.prog 132 #[.int .u32 m] w fun e w' => e = .returned (.int .i64 (pcN 16 m : Nat)) ∧ Drawn w w' := by
  go_enter Tryd.func132, Tryd.ntmps132
  go_wp2_with fail
  refine (onesCount_any m _ hm).mono ?_
  rintro e w2 ⟨rfl, hd⟩
  go_wp2
  go_ret
  exact ⟨rfl, hd⟩
end
end Go.Proofs.YtggjmnihnjdoaaaDoor
