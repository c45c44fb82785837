/- WaysIn: the reference's, and the program's helpers. -/
import Derived.Test.YthdfkpinaidkkaaWays
namespace Go.Proofs.Ythdfkpinaidkkaa
open Go.RowKit

set_option maxHeartbeats 4000000 in
theorem linkTest_any (a : Option Addr) (zs : List Int) (c n : Nat) (g : Nat) (w : World) (hz : Rd (Value.int .i64) w a zs) (hm : zs.length ≤ 1048576) (hn : n ≤ 16) (hc : w.cell? ⟨g, 0, none⟩ = some (.int .i64 n)) :
    Calls Try.prog 88 #[.slice a zs.length c, .pointer (some ⟨g, 0, none⟩)] w fun e w' => e = .returned (.bool (!decide (zs.length = 2 ∧ Inc n zs))) ∧ Below w.heap.size w w' := by
  have RZ := hid hz; clear hz
  by_cases h2 : zs.length = 2
  · have hd2 : ((zs.length : Int) != 2) = false := by rw [h2]; rfl
    obtain ⟨bi, hbi⟩ : ∃ bi, decide (Inc n zs) = bi := ⟨_, rfl⟩
    have HI := hid hbi
    have HR := hid (show (!decide (zs.length = 2 ∧ Inc n zs)) = !bi by rw [← hbi]; simp [h2])
    rw [HR.out]
    clear hbi h2
    go_enter Try.func88, Try.ntmps88
    go_wp2_with fail
    refine (increasing_b _ _ _ _ _ bi HI.out RZ.out (by omega) (by omega) (by omega)).mono ?_
    rintro e w2 ⟨rfl, rfl⟩
    go_wp2
    go_ret
    exact ⟨rfl, Below.refl _ _⟩
  · have hd2 : ((zs.length : Int) != 2) = true := by simp; omega
    have HR := hid (show (!decide (zs.length = 2 ∧ Inc n zs)) = true by simp [h2])
    rw [HR.out]
    clear h2
    go_enter Try.func88, Try.ntmps88
    go_wp2
    go_ret
    exact ⟨rfl, Below.refl _ _⟩

set_option maxHeartbeats 4000000 in
theorem goodLinks_b (b : Option Addr) (qs : List Row) (d : Nat) (n : Nat) (w : World) (r : Bool) (hb : decide (∀ l ∈ nums qs, l.length = 2 ∧ Inc n l) = r) (hn : n ≤ 16) (hq : RdM w b qs) (hm : Small qs) :
    Calls Try.prog 74 #[.slice b qs.length d, .int .i64 n] w fun e w' => e = .returned (.bool r) ∧ Below w.heap.size w w' := by
  have RQ := hid hq; have HB := hid hb; clear hq hb
  obtain ⟨w0, hw0⟩ : ∃ w0, w0 = (w.alloc (.cells #[.int .i64 n] 3)) := ⟨_, rfl⟩
  have B0 := hid (show Below w.heap.size w w0 by rw [hw0]; exact ((Below.refl _ _).alloc (Nat.le_refl _) _))
  have c0 : w0.cell? ⟨w.heap.size, 0, none⟩ = some (.int .i64 n) := by rw [hw0]; simp [go_sem]
  replace RQ := hid (RQ.out.below B0.out (Nat.le_refl _))
  have HW := hid hw0; clear hw0
  have HC := hid c0
  have HE := hid (enters_of Try.func88 (by kernel_rfl) (by kernel_rfl))
  have HT : Hid (Tests Try.prog 88 #[.pointer (some ⟨w.heap.size, 0, none⟩)] (fun q => !decide (q.z.length = 2 ∧ Inc n q.z)) qs w0) := fun q hq w1 hw1 =>
    linkTest_any q.a q.z q.c n w.heap.size w1 ((RQ.out.row q hq).1.below hw1 (Nat.le_refl _)) (hm.2 q hq) hn (cellB hw1 HC.out (Nat.le_refl _))
  have HR := hid (show (!qs.any fun q => !decide (q.z.length = 2 ∧ Inc n q.z)) = r by
    rw [← HB.out, Bool.eq_iff_iff]
    simp [nums])
  clear c0
  go_enter Try.func74, Try.ntmps74
  go_wp2_with fail
  rw [← HW.out]
  refine (containsRows_any b qs d w0 _ _ _ RQ.out hm.1 HE.out HT.out).mono ?_
  rintro e w2 ⟨rfl, hb⟩
  have B2 := hid (bon B0.out hb); clear hb
  go_wp2
  go_ret
  exact ⟨ret_bool (by rw [← HR.out]; simp), B2.out⟩

set_option maxHeartbeats 4000000 in
theorem canCount_b (a : Option Addr) (rs : List Row) (c : Nat) (b : Option Addr) (qs : List Row) (d : Nat) (w : World) (r : Bool) (hb : decide (FormP rs.length (nums qs)) = r) (hn : rs.length ≤ 1048576) (hq : RdM w b qs) (hm : Small qs) :
    Calls Try.prog 50 #[.agg #[.slice a rs.length c, .slice b qs.length d]] w fun e w' => e = .returned (.bool r) ∧ Below w.heap.size w w' := by
  have RQ := hid hq; have HB := hid hb; clear hq hb
  have hm1 := hm.1
  obtain ⟨w0, hw0⟩ : ∃ w0, w0 = (w.alloc (.cells #[.slice a rs.length c, .slice b qs.length d] 35)) := ⟨_, rfl⟩
  have B0 := hid (show Below w.heap.size w w0 by rw [hw0]; exact ((Below.refl _ _).alloc (Nat.le_refl _) _))
  have c0 : w0.cell? ⟨w.heap.size, 0, none⟩ = some (.slice a rs.length c) := by rw [hw0]; simp [go_sem]
  have c0a : w0.cell? ⟨w.heap.size, 1, none⟩ = some (.slice b qs.length d) := by rw [hw0]; simp [go_sem]
  replace RQ := hid (RQ.out.below B0.out (Nat.le_refl _))
  have HW := hid hw0; clear hw0
  by_cases h1 : 1 ≤ rs.length
  · have d1 : decide ((1 : Int) ≤ (rs.length : Int)) = true := by rw [decide_eq_true_iff]; omega
    have d1n : decide (1 ≤ rs.length) = true := by rw [decide_eq_true_iff]; omega
    by_cases h2 : rs.length ≤ 16
    · have d2 : decide ((rs.length : Int) ≤ 16) = true := by rw [decide_eq_true_iff]; omega
      have d2n : decide (rs.length ≤ 16) = true := by rw [decide_eq_true_iff]; omega
      by_cases h3 : qs.length ≤ 16
      · have d3 : decide ((qs.length : Int) ≤ 16) = true := by rw [decide_eq_true_iff]; omega
        have d3n : decide (qs.length ≤ 16) = true := by rw [decide_eq_true_iff]; omega
        have HR := hid (show decide (∀ l ∈ nums qs, l.length = 2 ∧ Inc rs.length l) = r by
          rw [← HB.out]; congr 1; apply propext
          exact ⟨fun h => ⟨h1, h2, by rw [nums_length]; exact h3, h⟩, fun h => h.row⟩)
        clear h1 h3
        go_enter Try.func50, Try.ntmps50
        go_wp2_with fail
        rw [← HW.out]
        go_wp2_with fail
        refine (goodLinks_b b qs d rs.length _ r HR.out h2 RQ.out hm).mono ?_
        rintro e w1 ⟨rfl, hb⟩
        replace RQ := hid (RQ.out.below hb (Nat.le_refl _))
        replace B0 := hid (bon B0.out hb)
        replace c0 := cellB hb c0 (Nat.le_refl _)
        replace c0a := cellB hb c0a (Nat.le_refl _)
        clear hb
        go_wp2
        go_ret
        exact ⟨rfl, B0.out⟩
      · have d3 : decide ((qs.length : Int) ≤ 16) = false := by rw [decide_eq_false_iff_not]; omega
        have d3n : decide (qs.length ≤ 16) = false := by rw [decide_eq_false_iff_not]; omega
        have HFIN := hid (show ¬ FormP rs.length (nums qs) from fun h => h3 (by have := h.few; rwa [nums_length] at this))
        clear h3
        go_enter Try.func50, Try.ntmps50
        go_wp2
        go_ret
        exact ⟨ret_bool (dec_f HB.out HFIN.out), by rw [← HW.out]; exact B0.out⟩
    · have d2 : decide ((rs.length : Int) ≤ 16) = false := by rw [decide_eq_false_iff_not]; omega
      have d2n : decide (rs.length ≤ 16) = false := by rw [decide_eq_false_iff_not]; omega
      have HFIN := hid (show ¬ FormP rs.length (nums qs) from fun h => h2 h.le)
      clear h2
      go_enter Try.func50, Try.ntmps50
      go_wp2
      go_ret
      exact ⟨ret_bool (dec_f HB.out HFIN.out), by rw [← HW.out]; exact B0.out⟩
  · have d1 : decide ((1 : Int) ≤ (rs.length : Int)) = false := by rw [decide_eq_false_iff_not]; omega
    have d1n : decide (1 ≤ rs.length) = false := by rw [decide_eq_false_iff_not]; omega
    have HFIN := hid (show ¬ FormP rs.length (nums qs) from fun h => h1 h.one)
    clear h1
    go_enter Try.func50, Try.ntmps50
    go_wp2
    go_ret
    exact ⟨ret_bool (dec_f HB.out HFIN.out), by rw [← HW.out]; exact B0.out⟩
end Go.Proofs.Ythdfkpinaidkkaa
