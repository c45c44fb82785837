/- EdgeIn: the reference's and the program's. -/
import Derived.Test.YtdncmloajajiaaaDoorSetOk
namespace Go.Proofs.YtdncmloajajiaaaDoor
open Go.RowKit
set_option maxHeartbeats 2000000 in
theorem specEdgeIn_b (a : Option Addr) (rs : List Row) (c : Nat) (u v : Int) (w : World) (b : Bool) (hb : decide (EdgeP (nums rs) u v) = b) (hr : RdM w a rs) (hn : Small rs) (_hu : I64 u) (_hv : I64 v) :
    Calls Tryd.prog 13 #[.agg #[.slice a rs.length c], .int .i64 u, .int .i64 v] w fun e w' => e = .returned (.bool b) ∧ Below w.heap.size w w' := by
  have HR := hid hr; have HB := hid hb; clear hr hb _hu _hv
  have B0 := hid (alloc_below w (.cells #[.slice a rs.length c] 29))
  have hc0 : (w.alloc (.cells #[.slice a rs.length c] 29)).cell? ⟨w.heap.size, 0, none⟩ = some (.slice a rs.length c) := by simp [go_sem]
  by_cases hg : GOk (nums rs)
  · have h1 := hid (show decide (GOk (nums rs)) = true by simpa using hg)
    have HG := hid hg; clear hg
    by_cases hu : 0 ≤ u ∧ u < rs.length
    · have h2 := hid (show decide (0 ≤ u ∧ u < rs.length) = true by simpa using hu)
      obtain ⟨hu0, hu1⟩ := hu
      have HU0 := hid hu0; have HU1 := hid hu1; clear hu0 hu1
      by_cases hv : 0 ≤ v ∧ v < rs.length
      · have h3 := hid (show decide (0 ≤ v ∧ v < rs.length) = true by simpa using hv)
        clear hv
        have h4 := hid (show decide (v ∈ row (nums rs) u) = b by
          rw [← HB.out]; unfold EdgeP VertP; simp only [HG.out, true_and, nums_length]
          have := HU0.out; have := HU1.out; simp [this, HU0.out])
        go_enter Tryd.func13, Tryd.ntmps13
        go_wp2_with fail
        refine (specGraphOk_b a rs c _ true h1.out (HR.out.below B0.out (Nat.le_refl _)) hn).mono ?_
        rintro e w1 ⟨rfl, hb⟩
        have hc1 := cellB hb hc0 (Nat.le_refl _)
        have B1 := hid (B0.out.trans (hb.mono (by simp))); clear hb hc0
        go_wp2_with fail
        refine (l1There_b a rs c u _ true h2.out hn.1).mono ?_
        rintro e w2 ⟨rfl, hb⟩
        have hc2 := cellB hb hc1 (Nat.le_refl _)
        have B2 := hid (B1.out.trans (hb.mono B1.out.size)); clear hb hc1
        go_wp2_with fail
        refine (l1There_b a rs c v _ true h3.out hn.1).mono ?_
        rintro e w3 ⟨rfl, hb⟩
        have hc3 := cellB hb hc2 (Nat.le_refl _)
        have B3 := hid (B2.out.trans (hb.mono B2.out.size)); clear hb hc2
        go_wp2_with fail
        refine (l1Edge_b a rs c u v _ b HU0.out HU1.out h4.out (HR.out.below B3.out (Nat.le_refl _)) hn).mono ?_
        rintro e w4 ⟨rfl, hb⟩
        have B4 := hid (B3.out.trans (hb.mono B3.out.size)); clear hb hc3
        go_wp2
        go_ret
        exact ⟨rfl, B4.out⟩
      · have h3 := hid (show decide (0 ≤ v ∧ v < rs.length) = false by simpa using hv)
        have HV := hid hv; clear hv
        go_enter Tryd.func13, Tryd.ntmps13
        go_wp2_with fail
        refine (specGraphOk_b a rs c _ true h1.out (HR.out.below B0.out (Nat.le_refl _)) hn).mono ?_
        rintro e w1 ⟨rfl, hb⟩
        have hc1 := cellB hb hc0 (Nat.le_refl _)
        have B1 := hid (B0.out.trans (hb.mono (by simp))); clear hb hc0
        go_wp2_with fail
        refine (l1There_b a rs c u _ true h2.out hn.1).mono ?_
        rintro e w2 ⟨rfl, hb⟩
        have hc2 := cellB hb hc1 (Nat.le_refl _)
        have B2 := hid (B1.out.trans (hb.mono B1.out.size)); clear hb hc1
        go_wp2_with fail
        refine (l1There_b a rs c v _ false h3.out hn.1).mono ?_
        rintro e w3 ⟨rfl, hb⟩
        have B3 := hid (B2.out.trans (hb.mono B2.out.size)); clear hb hc2
        go_wp2
        go_ret
        refine ⟨ret_bool (dec_f HB.out fun h => HV.out ?_), B3.out⟩
        have := row_mem HG.out h.1.2.1 h.1.2.2 h.2
        rwa [nums_length] at this
    · have h2 := hid (show decide (0 ≤ u ∧ u < rs.length) = false by simpa using hu)
      have HU := hid hu; clear hu
      go_enter Tryd.func13, Tryd.ntmps13
      go_wp2_with fail
      refine (specGraphOk_b a rs c _ true h1.out (HR.out.below B0.out (Nat.le_refl _)) hn).mono ?_
      rintro e w1 ⟨rfl, hb⟩
      have hc1 := cellB hb hc0 (Nat.le_refl _)
      have B1 := hid (B0.out.trans (hb.mono (by simp))); clear hb hc0
      go_wp2_with fail
      refine (l1There_b a rs c u _ false h2.out hn.1).mono ?_
      rintro e w2 ⟨rfl, hb⟩
      have B2 := hid (B1.out.trans (hb.mono B1.out.size)); clear hb hc1
      go_wp2
      go_ret
      exact ⟨ret_bool (dec_f HB.out fun h => HU.out (by have := h.1.2; rwa [nums_length] at this)), B2.out⟩
  · have h1 := hid (show decide (GOk (nums rs)) = false by simpa using hg)
    have HG := hid hg; clear hg
    go_enter Tryd.func13, Tryd.ntmps13
    go_wp2_with fail
    refine (specGraphOk_b a rs c _ false h1.out (HR.out.below B0.out (Nat.le_refl _)) hn).mono ?_
    rintro e w1 ⟨rfl, hb⟩
    have B1 := hid (B0.out.trans (hb.mono (by simp))); clear hb hc0
    go_wp2
    go_ret
    exact ⟨ret_bool (dec_f HB.out fun h => HG.out h.1.1), B1.out⟩
end Go.Proofs.YtdncmloajajiaaaDoor
