/- FnExactOddChainOk: the walk of the law (written by wip/mklaw2.py). -/
import Derived.Test.YtggjmnihnjdoaaaDoorGr
import Derived.Test.YtggjmnihnjdoaaaDoorOcS
import Derived.Test.YtggjmnihnjdoaaaDoorOcI
import Derived.Test.YtggjmnihnjdoaaaDoorBag
import Derived.Deep.RegionHeld3
import Derived.Deep.RegionWith
import Derived.MapKept
namespace Go.Proofs.YtggjmnihnjdoaaaDoor
open Go.RowKit
set_option maxHeartbeats 8000000 in
theorem lawOddChainOk_any (a0 : Option Addr) (rs0 : List Row) (c0 : Nat) (a1 : Option Addr) (rs1 : List Row) (c1 : Nat) (w : World) (hr0 : RdM w a0 rs0) (hl0 : rs0.length ≤ c0 ∧ c0 ≤ maxLen ∧ (a0 = none → c0 = 0)) (hr1 : RdM w a1 rs1) (hl1 : rs1.length ≤ c1 ∧ c1 ≤ maxLen ∧ (a1 = none → c1 = 0)) (hT : TabOk w) :
    Calls Tryd.prog 3 #[.agg #[.slice a0 rs0.length c0], .slice a1 rs1.length c1] w fun e w' => e = .returned (.bool true) ∧ Below w.heap.size w w' := by
  have HTAB := hid hT; clear hT
  have HR0 := hid hr0; clear hr0
  have hn0 : rs0.length ≤ maxLen := Nat.le_trans hl0.1 hl0.2.1; clear hl0
  have HR1 := hid hr1; clear hr1
  have hn1 : rs1.length ≤ maxLen := Nat.le_trans hl1.1 hl1.2.1; clear hl1
  obtain ⟨res0, hres⟩ : ∃ r : Bool, decide (OcP (nums rs0) (nums rs1)) = r := ⟨_, rfl⟩
  have HRES0 := hid hres; clear hres
  by_cases h0 : (sz2 rs0 1048576) < 0
  · go_enter Tryd.func3, Tryd.ntmps3
    have B0 := hid (alloc_below w (.cells #[.slice a0 rs0.length c0] 24))
    have hc0_0_0 : (w.alloc (.cells #[.slice a0 rs0.length c0] 24)).cell? ⟨w.heap.size, 0, none⟩ = some (.slice a0 rs0.length c0) := by simp [go_sem]
    go_wp2_with fail
    refine (szG_any a0 rs0 c0 1048576 _ hn0 (HR0.out.below B0.out (Nat.le_refl _)) (by decide) (by decide)).mono ?_
    rintro e v1 ⟨rfl, hb⟩
    have hc1_a0_0 := cellB hb hc0_0_0 (Nat.le_refl _)
    have B1 := hid (B0.out.trans (hb.mono B0.out.size))
    have z1 : w.heap.size + 1 ≤ v1.heap.size := by have := hb.size; simpa using this
    clear hb hc0_0_0
    go_wp2
    go_ret
    exact ⟨rfl, B1.out⟩
  · have HS0 := hid (sz2_small rs0 1048576 (by decide) (by decide) (by omega)).1
    have p1 : 0 ≤ (sz2 rs0 1048576) := by omega
    have q1 : (sz2 rs0 1048576) ≤ 1048576 := sz2_le rs0 1048576 (by decide) (by decide)
    by_cases h1 : (sz2 rs1 (sz2 rs0 1048576)) < 0
    · go_enter Tryd.func3, Tryd.ntmps3
      have B0 := hid (alloc_below w (.cells #[.slice a0 rs0.length c0] 24))
      have hc0_0_0 : (w.alloc (.cells #[.slice a0 rs0.length c0] 24)).cell? ⟨w.heap.size, 0, none⟩ = some (.slice a0 rs0.length c0) := by simp [go_sem]
      go_wp2_with fail
      refine (szG_any a0 rs0 c0 1048576 _ hn0 (HR0.out.below B0.out (Nat.le_refl _)) (by decide) (by decide)).mono ?_
      rintro e v1 ⟨rfl, hb⟩
      have hc1_a0_0 := cellB hb hc0_0_0 (Nat.le_refl _)
      have B1 := hid (B0.out.trans (hb.mono B0.out.size))
      have z1 : w.heap.size + 1 ≤ v1.heap.size := by have := hb.size; simpa using this
      clear hb hc0_0_0
      go_wp2_with fail
      refine (sz2_any a1 rs1 c1 (sz2 rs0 1048576) _ hn1 (HR1.out.below B1.out (Nat.le_refl _)) p1 q1).mono ?_
      rintro e w' ⟨rfl, rfl⟩
      go_wp2
      go_ret
      exact ⟨rfl, B1.out⟩
    · have HS1 := hid (sz2_small rs1 (sz2 rs0 1048576) p1 q1 (by omega)).1
      go_enter Tryd.func3, Tryd.ntmps3
      have B0 := hid (alloc_below w (.cells #[.slice a0 rs0.length c0] 24))
      have hc0_0_0 : (w.alloc (.cells #[.slice a0 rs0.length c0] 24)).cell? ⟨w.heap.size, 0, none⟩ = some (.slice a0 rs0.length c0) := by simp [go_sem]
      go_wp2_with fail
      refine (szG_any a0 rs0 c0 1048576 _ hn0 (HR0.out.below B0.out (Nat.le_refl _)) (by decide) (by decide)).mono ?_
      rintro e v1 ⟨rfl, hb⟩
      have hc1_a0_0 := cellB hb hc0_0_0 (Nat.le_refl _)
      have B1 := hid (B0.out.trans (hb.mono B0.out.size))
      have z1 : w.heap.size + 1 ≤ v1.heap.size := by have := hb.size; simpa using this
      clear hb hc0_0_0
      go_wp2_with fail
      refine (sz2_any a1 rs1 c1 (sz2 rs0 1048576) _ hn1 (HR1.out.below B1.out (Nat.le_refl _)) p1 q1).mono ?_
      rintro e w' ⟨rfl, rfl⟩
      go_wp2_with fail
      refine (toG_cp a0 rs0 c0 _ (HR0.out.below B1.out (Nat.le_refl _)) HS0.out).mono ?_
      rintro e v2 ⟨a0s, rs0s, c0s, rfl, C⟩
      have K0s := hid C; clear C
      have hc2_a0_0 := cellB K0s.out.below hc1_a0_0 (Nat.le_refl _)
      have B2 := hid (B1.out.trans (K0s.out.below.mono B1.out.size))
      have z2 : v1.heap.size ≤ v2.heap.size := by have := K0s.out.below.size; simpa using this
      clear hc1_a0_0
      have OO_0s := hid K0s.out.own
      have KB_0s := hid (blocks_ge OO_0s.out.blocks (B' := v1.heap.size) (by simp))
      go_wp2_with fail
      refine (to2_cp a1 rs1 c1 _ (HR1.out.below B2.out (Nat.le_refl _)) HS1.out).mono ?_
      rintro e v3 ⟨a1s, rs1s, c1s, rfl, C⟩
      have K1s := hid C; clear C
      have hc3_a0_0 := cellB K1s.out.below hc2_a0_0 (Nat.le_refl _)
      have O3_0s := hid (OO_0s.out.past K1s.out.below (Nat.le_refl _))
      have B3 := hid (B2.out.trans (K1s.out.below.mono B2.out.size))
      have z3 : v2.heap.size ≤ v3.heap.size := by have := K1s.out.below.size; simpa using this
      clear hc2_a0_0 OO_0s
      have OO_1s := hid K1s.out.own
      have KB_1s := hid (blocks_ge OO_1s.out.blocks (B' := v2.heap.size) (by simp))
      go_wp2_with fail
      refine (specOddChainOk_b a0s rs0s c0s a1s rs1s c1s _ res0 (by rw [K0s.out.nums, K1s.out.nums]; exact HRES0.out) (OwnM.rdm O3_0s.out) K0s.out.small (OwnM.rdm OO_1s.out) K1s.out.small).mono ?_
      rintro e v4 ⟨rfl, hb⟩
      have hc4_a0_0 := cellB hb hc3_a0_0 (Nat.le_refl _)
      have O4_0s := hid (O3_0s.out.past hb (Nat.le_refl _))
      have O4_1s := hid (OO_1s.out.past hb (Nat.le_refl _))
      have B4 := hid (B3.out.trans (hb.mono B3.out.size))
      have z4 : v3.heap.size ≤ v4.heap.size := by have := hb.size; simpa using this
      clear hb hc3_a0_0 O3_0s OO_1s
      go_wp2_with fail
      refine (toG_cp a0 rs0 c0 _ (HR0.out.below B4.out (Nat.le_refl _)) HS0.out).mono ?_
      rintro e v5 ⟨a0i, rs0i, c0i, rfl, C⟩
      have K0i := hid C; clear C
      have hc5_a0_0 := cellB K0i.out.below hc4_a0_0 (Nat.le_refl _)
      have B5 := hid (B4.out.trans (K0i.out.below.mono B4.out.size))
      have z5 : v4.heap.size ≤ v5.heap.size := by have := K0i.out.below.size; simpa using this
      clear hc4_a0_0
      have OO_0i := hid K0i.out.own
      have KB_0i := hid (blocks_ge OO_0i.out.blocks (B' := v4.heap.size) (by simp))
      have hA := alloc_below v5 (.cells #[.slice a0i rs0i.length c0i] 28)
      have hxn0 : (v5.alloc (.cells #[.slice a0i rs0i.length c0i] 28)).cell? ⟨v5.heap.size, 0, none⟩ = some (.slice a0i rs0i.length c0i) := by simp [go_sem]
      have hc6_a0_0 := cellB hA hc5_a0_0 (Nat.le_refl _)
      have O6_0i := hid (OO_0i.out.past hA (Nat.le_refl _))
      have B6 := hid (B5.out.trans (hA.mono B5.out.size))
      clear hA hc5_a0_0 OO_0i
      have hx6_0_0 := hxn0; clear hxn0
      go_wp2_with fail
      refine (to2_cp a1 rs1 c1 _ (HR1.out.below B6.out (Nat.le_refl _)) HS1.out).mono ?_
      rintro e v7 ⟨a1i, rs1i, c1i, rfl, C⟩
      have K1i := hid C; clear C
      have hc7_a0_0 := cellB K1i.out.below hc6_a0_0 (Nat.le_refl _)
      have hc7_x0_0 := cellB K1i.out.below hx6_0_0 (Nat.le_refl _)
      have O7_0i := hid (O6_0i.out.past K1i.out.below (Nat.le_refl _))
      have B7 := hid (B6.out.trans (K1i.out.below.mono B6.out.size))
      have z7 : v5.heap.size + 1 ≤ v7.heap.size := by have := K1i.out.below.size; simpa using this
      clear hc6_a0_0 hx6_0_0 O6_0i
      have OO_1i := hid K1i.out.own
      have KB_1i := hid (blocks_ge OO_1i.out.blocks (B' := v5.heap.size + 1) (by simp))
      go_wp2_with fail
      refine (implOddChainOk_b a0i rs0i c0i a1i rs1i c1i _ res0 (by rw [K0i.out.nums, K1i.out.nums]; exact HRES0.out) (OwnM.rdm O7_0i.out) K0i.out.small (OwnM.rdm OO_1i.out) K1i.out.small (HTAB.out.below B7.out (Nat.le_refl _))).mono ?_
      rintro e v8 ⟨rfl, hb⟩
      have hc8_a0_0 := cellB hb hc7_a0_0 (Nat.le_refl _)
      have hc8_x0_0 := cellB hb hc7_x0_0 (Nat.le_refl _)
      have O8_0i := hid (O7_0i.out.past hb (Nat.le_refl _))
      have O8_1i := hid (OO_1i.out.past hb (Nat.le_refl _))
      have B8 := hid (B7.out.trans (hb.mono B7.out.size))
      have z8 : v7.heap.size ≤ v8.heap.size := by have := hb.size; simpa using this
      clear hb hc7_a0_0 hc7_x0_0 O7_0i OO_1i
      have hne0 : (res0 != res0) = false := by cases res0 <;> rfl
      go_wp2_with fail
      have hrd := hid ((HR0.out.below B8.out (Nat.le_refl _)).drawn (⟨1, rfl⟩ : Drawn v8 v8.drew))
      have f0 : v8.drew.cell? ⟨w.heap.size, 0, none⟩ = some (.slice a0 rs0.length c0) := hc8_a0_0
      have f1 : v8.drew.cell? ⟨v5.heap.size, 0, none⟩ = some (.slice a0i rs0i.length c0i) := hc8_x0_0
      have BD := hid B8.out.drew
      have M_0i := hid (O8_0i.out.past (Drawn.below (⟨1, rfl⟩ : Drawn v8 v8.drew) v8.heap.size) (Nat.le_refl _))
      have M_1i := hid (O8_1i.out.past (Drawn.below (⟨1, rfl⟩ : Drawn v8 v8.drew) v8.heap.size) (Nat.le_refl _))
      go_region_held3 (fun w' => w'.cell? ⟨w.heap.size, 0, none⟩ = some (.slice a0 rs0.length c0) ∧ w'.cell? ⟨v5.heap.size, 0, none⟩ = some (.slice a0i rs0i.length c0i)) (first | exact ⟨f0, f1⟩ | exact ⟨g0, g1⟩ | exact ⟨hc10_a0_0, hc10_x0_0⟩) ((first | (go_at_call 17; refine (toG_cp a0 rs0 c0 _ hrd.out HS0.out).mono ?_; rintro e v9 ⟨a0e, rs0e, c0e, rfl, C⟩; have g0 := cellB C.below f0 (Nat.le_refl _); have g1 := cellB C.below f1 (Nat.le_refl _); have BE := hid (BD.out.trans (C.below.mono BD.out.size)); have N_0i := hid (M_0i.out.past C.below (Nat.le_refl _)); have N_1i := hid (M_1i.out.past C.below (Nat.le_refl _)); have ze : v8.heap.size ≤ v9.heap.size := C.below.size; have KE := hid C; clear C) | (go_at_call 20; refine (eqG_any a0i a0e rs0i rs0e c0i c0e v9 true (by rw [K0i.out.nums, KE.out.nums]; simp) (OwnM.rdm N_0i.out) KE.out.rd K0i.out.small KE.out.small).mono ?_; rintro e v10 ⟨rfl, hb⟩; have hc10_a0_0 := cellB hb g0 (Nat.le_refl _); have hc10_x0_0 := cellB hb g1 (Nat.le_refl _); have B10 := hid (BE.out.trans (hb.mono BE.out.size)); have O10_0i := hid (N_0i.out.past hb (Nat.le_refl _)); have O10_1i := hid (N_1i.out.past hb (Nat.le_refl _)); have z10 : v8.heap.size ≤ v10.heap.size := Nat.le_trans ze hb.size; clear hb)))
      clear hrd BD BE ze KE  f0 g0 f1 g1 M_0i N_0i M_1i N_1i
      clear hc8_a0_0 hc8_x0_0 O8_0i O8_1i
      go_wp2_with fail
      refine (to2_cp a1 rs1 c1 _ (HR1.out.below B10.out (Nat.le_refl _)) HS1.out).mono ?_
      rintro e v11 ⟨a1e, rs1e, c1e, rfl, C⟩
      have K1e := hid C; clear C
      have hc11_a0_0 := cellB K1e.out.below hc10_a0_0 (Nat.le_refl _)
      have hc11_x0_0 := cellB K1e.out.below hc10_x0_0 (Nat.le_refl _)
      have O11_0i := hid (O10_0i.out.past K1e.out.below (Nat.le_refl _))
      have O11_1i := hid (O10_1i.out.past K1e.out.below (Nat.le_refl _))
      have B11 := hid (B10.out.trans (K1e.out.below.mono B10.out.size))
      have z11 : v10.heap.size ≤ v11.heap.size := by have := K1e.out.below.size; simpa using this
      clear hc10_a0_0 hc10_x0_0 O10_0i O10_1i
      have OO_1e := hid K1e.out.own
      have KB_1e := hid (blocks_ge OO_1e.out.blocks (B' := v10.heap.size) (by simp))
      go_wp2_with fail
      refine (eq2_b a1i a1e rs1i rs1e c1i c1e _ true (by rw [K1i.out.nums, K1e.out.nums]; simp) (OwnM.rdm O11_1i.out) (OwnM.rdm OO_1e.out) K1i.out.small K1e.out.small).mono ?_
      rintro e v12 ⟨rfl, hd⟩
      have hb := hd.below v11.heap.size
      have hc12_a0_0 := cellB hb hc11_a0_0 (Nat.le_refl _)
      have hc12_x0_0 := cellB hb hc11_x0_0 (Nat.le_refl _)
      have O12_0i := hid (O11_0i.out.past hb (Nat.le_refl _))
      have O12_1i := hid (O11_1i.out.past hb (Nat.le_refl _))
      have B12 := hid (B11.out.trans (hb.mono B11.out.size))
      have z12 : v11.heap.size ≤ v12.heap.size := by have := hb.size; simpa using this
      clear hd hb hc11_a0_0 hc11_x0_0 O11_0i O11_1i
      go_wp2
      go_ret
      exact ⟨rfl, B12.out⟩
end Go.Proofs.YtggjmnihnjdoaaaDoor
