/- FnExactWidthOf: the walk of the law. -/
import Derived.Test.YtnlcmbelpdnffaaDec
import Derived.Deep.RegionWith
namespace Go.Proofs.Ytnlcmbelpdnffaa
open Go.RowKit
set_option maxHeartbeats 2000000 in
theorem lawWidthOf_any (a : Option Addr) (rs : List Row) (c : Nat) (b : Option Addr) (qs : List Row) (d : Nat) (w : World) (hr : RdM w a rs) (hl : rs.length ≤ c ∧ c ≤ maxLen ∧ (a = none → c = 0)) (hq : RdM w b qs) (hl' : qs.length ≤ d ∧ d ≤ maxLen ∧ (b = none → d = 0)) :
    Calls Try.prog 5 #[.agg #[.slice a rs.length c, .slice b qs.length d]] w fun e w' => e = .returned (.bool true) ∧ Below w.heap.size w w' := by
  have HR := hid hr; have HQ := hid hq; clear hr hq
  have hn : rs.length ≤ maxLen := Nat.le_trans hl.1 hl.2.1
  have hm : qs.length ≤ maxLen := Nat.le_trans hl'.1 hl'.2.1
  clear hl hl'
  by_cases h : szD rs qs 1048576 < 0
  · go_enter Try.func5, Try.ntmps5
    go_wp2_with fail
    have B0 := hid (alloc_below w (.cells #[.slice a rs.length c, .slice b qs.length d] 30))
    refine (szD_any a rs c b qs d 1048576 _ hn hm (HR.out.below B0.out (Nat.le_refl _)) (HQ.out.below B0.out (Nat.le_refl _)) (by decide) (by decide)).mono ?_
    rintro e w1 ⟨rfl, hb⟩
    have B1 := hid (B0.out.trans (hb.mono (by simp))); clear hb
    go_wp2
    go_ret
    exact ⟨rfl, B1.out⟩
  · have HS := hid (szD_small rs qs 1048576 (by decide) (by decide) h)
    have HSR := HS.out.1.1; have HSQ := HS.out.2.1
    go_enter Try.func5, Try.ntmps5
    go_wp2_with fail
    have B0 := hid (alloc_below w (.cells #[.slice a rs.length c, .slice b qs.length d] 30))
    refine (szD_any a rs c b qs d 1048576 _ hn hm (HR.out.below B0.out (Nat.le_refl _)) (HQ.out.below B0.out (Nat.le_refl _)) (by decide) (by decide)).mono ?_
    rintro e w1 ⟨rfl, hb⟩
    have hc0 : w1.cell? ⟨w.heap.size, 0, none⟩ = some (.slice a rs.length c) := (hb.cell (by simp)).trans (by simp [go_sem])
    have hc1 : w1.cell? ⟨w.heap.size, 1, none⟩ = some (.slice b qs.length d) := (hb.cell (by simp)).trans (by simp [go_sem])
    have B1 := hid (B0.out.trans (hb.mono (by simp))); clear hb
    go_wp2_with fail
    refine (toD_cp a rs c b qs d w1 (HR.out.below B1.out (Nat.le_refl _)) HSR (HQ.out.below B1.out (Nat.le_refl _)) HSQ).mono ?_
    rintro e w2 ⟨a2, rs2, c2, b2, qs2, d2, rfl, C2⟩
    have hc20 := cellB C2.below hc0 (Nat.le_refl _)
    have hc21 := cellB C2.below hc1 (Nat.le_refl _)
    have K2 := hid C2; clear C2 hc0 hc1
    have B2 := hid (B1.out.trans (K2.out.below.mono B1.out.size))
    go_wp2_with fail
    refine (specWidthOf_any a2 b2 rs2 _ c2 d2 w2 K2.out.rd K2.out.small).mono ?_
    rintro e w3 ⟨rfl, hb⟩
    have hc30 := cellB hb hc20 (Nat.le_refl _)
    have hc31 := cellB hb hc21 (Nat.le_refl _)
    have B3 := hid (B2.out.trans (hb.mono B2.out.size)); clear hb hc20 hc21
    go_wp2_with fail
    refine (toD_cp a rs c b qs d w3 (HR.out.below B3.out (Nat.le_refl _)) HSR (HQ.out.below B3.out (Nat.le_refl _)) HSQ).mono ?_
    rintro e w4 ⟨a4, rs4, c4, b4, qs4, d4, rfl, C4⟩
    have hc40 := cellB C4.below hc30 (Nat.le_refl _)
    have hc41 := cellB C4.below hc31 (Nat.le_refl _)
    have hlt4 := World.block_lt_of_cell? _ _ hc40
    have K4 := hid C4; clear C4 hc30 hc31
    have B4 := hid (B3.out.trans (K4.out.below.mono B3.out.size))
    go_wp2_with fail
    have hx0 : (w4.alloc (.cells #[.slice a4 rs4.length c4, .slice b4 qs4.length d4] 33)).cell? ⟨w4.heap.size, 0, none⟩ = some (.slice a4 rs4.length c4) := by simp [go_sem]
    have hx1 : (w4.alloc (.cells #[.slice a4 rs4.length c4, .slice b4 qs4.length d4] 33)).cell? ⟨w4.heap.size, 1, none⟩ = some (.slice b4 qs4.length d4) := by simp [go_sem]
    have hA := alloc_below w4 (.cells #[.slice a4 rs4.length c4, .slice b4 qs4.length d4] 33)
    refine (implWidthOf_any a4 b4 rs4 _ c4 d4 _ (K4.out.rd.below hA (Nat.le_refl _)) K4.out.small).mono ?_
    rintro e w5 ⟨rfl, hb⟩
    have hc50 := cellB hb (cellB hA hc40 (Nat.le_refl _)) (Nat.le_refl _)
    have hc51 := cellB hb (cellB hA hc41 (Nat.le_refl _)) (Nat.le_refl _)
    have hx50 := cellB hb hx0 (Nat.le_refl _)
    have hx51 := cellB hb hx1 (Nat.le_refl _)
    have hAb := hA.trans (hb.mono (by simp))
    have R5 := hid (K4.out.rd.below hAb (Nat.le_refl _))
    have Q5 := hid (K4.out.rd2.below hAb (Nat.le_refl _))
    have B5 := hid (B4.out.trans (hAb.mono B4.out.size)); clear hb hA hAb hx0 hx1 hc40 hc41
    have he : (widthOf rs4 != widthOf rs2) = false := by rw [widthOf_congr (K4.out.nums.trans K2.out.nums.symm)]; simp
    generalize w4.heap.size = g at *
    go_wp2_with fail
    have hrd := HR.out.below B5.out.drew (Nat.le_refl _)
    have hqd := HQ.out.below B5.out.drew (Nat.le_refl _)
    have HRD := hid hrd; have HQD := hid hqd; clear hrd hqd
    have R5d := hid (R5.out.drawn ⟨1, rfl⟩); have Q5d := hid (Q5.out.drawn ⟨1, rfl⟩)
    have B5d := hid B5.out.drew
    go_region_with (first
      | (go_at_call 21; refine (toD_cp a rs c b qs d _ HRD.out HSR HQD.out HSQ).mono ?_; rintro e w6 ⟨a6, rs6, c6, b6, qs6, d6, rfl, C6⟩; have hx60 := cellB C6.below (show w5.drew.cell? ⟨g, 0, none⟩ = some (.slice a4 rs4.length c4) from hx50) (Nat.le_refl _); have hx61 := cellB C6.below (show w5.drew.cell? ⟨g, 1, none⟩ = some (.slice b4 qs4.length d4) from hx51) (Nat.le_refl _); have K6 := hid C6; clear C6)
      | (go_at_call 23; refine (eqD_t a4 a6 b4 b6 rs4 rs6 qs4 qs6 c4 c6 d4 d6 w6 (K4.out.nums.trans K6.out.nums.symm) (K4.out.nums2.trans K6.out.nums2.symm) (R5d.out.below K6.out.below (Nat.le_refl _)) K6.out.rd (Q5d.out.below K6.out.below (Nat.le_refl _)) K6.out.rd2 K4.out.small K6.out.small K4.out.small2 K6.out.small2).mono ?_; rintro e w7 ⟨rfl, hb7⟩; have B7 := hid ((B5d.out.trans (K6.out.below.mono B5d.out.size)).trans (hb7.mono ((B5d.out.trans (K6.out.below.mono B5d.out.size)).size))); clear hb7))
    all_goals
      go_wp2
      go_ret
      exact ⟨rfl, B7.out⟩
end Go.Proofs.Ytnlcmbelpdnffaa
