/- FnExactLayersUp: the walk of the law (written by wip/mklaw2.py). -/
import Derived.Test.YtahibjikcijnfaaDoorGr
import Derived.Test.YtahibjikcijnfaaDoorLupI
import Derived.Test.YtahibjikcijnfaaDoorLupS
import Derived.Test.YtahibjikcijnfaaDoorBag
import Derived.Deep.RegionHeld3
import Derived.Deep.RegionWith
import Derived.MapKept
namespace Go.Proofs.YtahibjikcijnfaaDoor
open Go.RowKit
set_option maxHeartbeats 8000000 in
theorem lawLayersUp_any (a0 : Option Addr) (rs0 : List Row) (c0 : Nat) (a1 : Option Addr) (rs1 : List Row) (c1 : Nat) (w : World) (hr0 : RdM w a0 rs0) (hl0 : rs0.length ≤ c0 ∧ c0 ≤ maxLen ∧ (a0 = none → c0 = 0)) (hr1 : RdM w a1 rs1) (hl1 : rs1.length ≤ c1 ∧ c1 ≤ maxLen ∧ (a1 = none → c1 = 0)) (hT : TabOk w) :
    Calls Tryd.prog 7 #[.agg #[.slice a0 rs0.length c0], .slice a1 rs1.length c1] w fun e w' => e = .returned (.bool true) ∧ Below w.heap.size w w' := by
  have HTAB := hid hT; clear hT
  have HR0 := hid hr0; clear hr0
  have hn0 : rs0.length ≤ maxLen := Nat.le_trans hl0.1 hl0.2.1; clear hl0
  have HR1 := hid hr1; clear hr1
  have hn1 : rs1.length ≤ maxLen := Nat.le_trans hl1.1 hl1.2.1; clear hl1
  obtain ⟨res0, hres⟩ : ∃ r : List Int, layersL (nums rs0) (nums rs1) = r := ⟨_, rfl⟩
  have HRES0 := hid hres; clear hres
  by_cases h0 : (sz2 rs0 1048576) < 0
  · go_enter Tryd.func7, Tryd.ntmps7
    have B0 := hid (alloc_below w (.cells #[.slice a0 rs0.length c0] 24))
    have hc0_0_0 : (w.alloc (.cells #[.slice a0 rs0.length c0] 24)).cell? ⟨w.heap.size, 0, none⟩ = some (.slice a0 rs0.length c0) := by simp [go_sem]
    go_wp2_with fail
    refine (szG_any a0 rs0 c0 1048576 _ hn0 (HR0.out.below B0.out (Nat.le_refl _)) (by decide) (by decide)).mono ?_
    rintro e v1 ⟨rfl, hb⟩
    have hc1_a0_0 := cellB hb hc0_0_0 (Nat.le_refl _)
    have B1 := hid (B0.out.trans (hb.mono B0.out.size))
    have z1 : w.heap.size + 1 ≤ v1.heap.size := by have := hb.size; simpa using this
    clear hb hc0_0_0
    go_wp2
    go_ret
    exact ⟨rfl, B1.out⟩
  · have HS0 := hid (sz2_small rs0 1048576 (by decide) (by decide) (by omega)).1
    have p1 : 0 ≤ (sz2 rs0 1048576) := by omega
    have q1 : (sz2 rs0 1048576) ≤ 1048576 := sz2_le rs0 1048576 (by decide) (by decide)
    by_cases h1 : (sz2 rs1 (sz2 rs0 1048576)) < 0
    · go_enter Tryd.func7, Tryd.ntmps7
      have B0 := hid (alloc_below w (.cells #[.slice a0 rs0.length c0] 24))
      have hc0_0_0 : (w.alloc (.cells #[.slice a0 rs0.length c0] 24)).cell? ⟨w.heap.size, 0, none⟩ = some (.slice a0 rs0.length c0) := by simp [go_sem]
      go_wp2_with fail
      refine (szG_any a0 rs0 c0 1048576 _ hn0 (HR0.out.below B0.out (Nat.le_refl _)) (by decide) (by decide)).mono ?_
      rintro e v1 ⟨rfl, hb⟩
      have hc1_a0_0 := cellB hb hc0_0_0 (Nat.le_refl _)
      have B1 := hid (B0.out.trans (hb.mono B0.out.size))
      have z1 : w.heap.size + 1 ≤ v1.heap.size := by have := hb.size; simpa using this
      clear hb hc0_0_0
      go_wp2_with fail
      refine (sz2_any a1 rs1 c1 (sz2 rs0 1048576) _ hn1 (HR1.out.below B1.out (Nat.le_refl _)) p1 q1).mono ?_
      rintro e w' ⟨rfl, rfl⟩
      go_wp2
      go_ret
      exact ⟨rfl, B1.out⟩
    · have HS1 := hid (sz2_small rs1 (sz2 rs0 1048576) p1 q1 (by omega)).1
      have SM0 := hid (show res0.length ≤ 1048576 by rw [← HRES0.out]; exact (layers_small (nums rs0) (nums rs1)))
      go_enter Tryd.func7, Tryd.ntmps7
      have B0 := hid (alloc_below w (.cells #[.slice a0 rs0.length c0] 24))
      have hc0_0_0 : (w.alloc (.cells #[.slice a0 rs0.length c0] 24)).cell? ⟨w.heap.size, 0, none⟩ = some (.slice a0 rs0.length c0) := by simp [go_sem]
      go_wp2_with fail
      refine (szG_any a0 rs0 c0 1048576 _ hn0 (HR0.out.below B0.out (Nat.le_refl _)) (by decide) (by decide)).mono ?_
      rintro e v1 ⟨rfl, hb⟩
      have hc1_a0_0 := cellB hb hc0_0_0 (Nat.le_refl _)
      have B1 := hid (B0.out.trans (hb.mono B0.out.size))
      have z1 : w.heap.size + 1 ≤ v1.heap.size := by have := hb.size; simpa using this
      clear hb hc0_0_0
      go_wp2_with fail
      refine (sz2_any a1 rs1 c1 (sz2 rs0 1048576) _ hn1 (HR1.out.below B1.out (Nat.le_refl _)) p1 q1).mono ?_
      rintro e w' ⟨rfl, rfl⟩
      go_wp2_with fail
      refine (toG_cp a0 rs0 c0 _ (HR0.out.below B1.out (Nat.le_refl _)) HS0.out).mono ?_
      rintro e v2 ⟨a0s, rs0s, c0s, rfl, C⟩
      have K0s := hid C; clear C
      have hc2_a0_0 := cellB K0s.out.below hc1_a0_0 (Nat.le_refl _)
      have B2 := hid (B1.out.trans (K0s.out.below.mono B1.out.size))
      have z2 : v1.heap.size ≤ v2.heap.size := by have := K0s.out.below.size; simpa using this
      clear hc1_a0_0
      have OO_0s := hid K0s.out.own
      have KB_0s := hid (blocks_ge OO_0s.out.blocks (B' := v1.heap.size) (by simp))
      go_wp2_with fail
      refine (to2_cp a1 rs1 c1 _ (HR1.out.below B2.out (Nat.le_refl _)) HS1.out).mono ?_
      rintro e v3 ⟨a1s, rs1s, c1s, rfl, C⟩
      have K1s := hid C; clear C
      have hc3_a0_0 := cellB K1s.out.below hc2_a0_0 (Nat.le_refl _)
      have O3_0s := hid (OO_0s.out.past K1s.out.below (Nat.le_refl _))
      have B3 := hid (B2.out.trans (K1s.out.below.mono B2.out.size))
      have z3 : v2.heap.size ≤ v3.heap.size := by have := K1s.out.below.size; simpa using this
      clear hc2_a0_0 OO_0s
      have OO_1s := hid K1s.out.own
      have KB_1s := hid (blocks_ge OO_1s.out.blocks (B' := v2.heap.size) (by simp))
      go_wp2_with fail
      refine (specLayersUp_any a0s rs0s c0s a1s rs1s c1s _ res0 (by rw [K0s.out.nums, K1s.out.nums]; exact HRES0.out) (OwnM.rdm O3_0s.out) K0s.out.small (OwnM.rdm OO_1s.out) K1s.out.small).mono ?_
      rintro e v4 ⟨y0, rfl, ho0, hb⟩
      have hc4_a0_0 := cellB hb hc3_a0_0 (Nat.le_refl _)
      have O4_0s := hid (O3_0s.out.past hb (Nat.le_refl _))
      have O4_1s := hid (OO_1s.out.past hb (Nat.le_refl _))
      have B4 := hid (B3.out.trans (hb.mono B3.out.size))
      have z4 : v3.heap.size ≤ v4.heap.size := by have := hb.size; simpa using this
      have OO_u0 := hid ho0; clear ho0
      have KB_u0 := hid (blocksL_ge (ownL_blocks OO_u0.out) (B' := v3.heap.size) (by simp))
      obtain ⟨au0, cu0, rfl, _⟩ := OO_u0.out.rd
      clear hb hc3_a0_0 O3_0s OO_1s
      go_wp2_with fail
      refine (toG_cp a0 rs0 c0 _ (HR0.out.below B4.out (Nat.le_refl _)) HS0.out).mono ?_
      rintro e v5 ⟨a0i, rs0i, c0i, rfl, C⟩
      have K0i := hid C; clear C
      have hc5_a0_0 := cellB K0i.out.below hc4_a0_0 (Nat.le_refl _)
      have O5_u0 := hid (OO_u0.out.past K0i.out.below (Nat.le_refl _))
      have B5 := hid (B4.out.trans (K0i.out.below.mono B4.out.size))
      have z5 : v4.heap.size ≤ v5.heap.size := by have := K0i.out.below.size; simpa using this
      clear hc4_a0_0 OO_u0
      have OO_0i := hid K0i.out.own
      have KB_0i := hid (blocks_ge OO_0i.out.blocks (B' := v4.heap.size) (by simp))
      have hA := alloc_below v5 (.cells #[.slice a0i rs0i.length c0i] 28)
      have hxn0 : (v5.alloc (.cells #[.slice a0i rs0i.length c0i] 28)).cell? ⟨v5.heap.size, 0, none⟩ = some (.slice a0i rs0i.length c0i) := by simp [go_sem]
      have hc6_a0_0 := cellB hA hc5_a0_0 (Nat.le_refl _)
      have O6_u0 := hid (O5_u0.out.past hA (Nat.le_refl _))
      have O6_0i := hid (OO_0i.out.past hA (Nat.le_refl _))
      have B6 := hid (B5.out.trans (hA.mono B5.out.size))
      clear hA hc5_a0_0 O5_u0 OO_0i
      have hx6_0_0 := hxn0; clear hxn0
      go_wp2_with fail
      refine (to2_cp a1 rs1 c1 _ (HR1.out.below B6.out (Nat.le_refl _)) HS1.out).mono ?_
      rintro e v7 ⟨a1i, rs1i, c1i, rfl, C⟩
      have K1i := hid C; clear C
      have hc7_a0_0 := cellB K1i.out.below hc6_a0_0 (Nat.le_refl _)
      have hc7_x0_0 := cellB K1i.out.below hx6_0_0 (Nat.le_refl _)
      have O7_u0 := hid (O6_u0.out.past K1i.out.below (Nat.le_refl _))
      have O7_0i := hid (O6_0i.out.past K1i.out.below (Nat.le_refl _))
      have B7 := hid (B6.out.trans (K1i.out.below.mono B6.out.size))
      have z7 : v5.heap.size + 1 ≤ v7.heap.size := by have := K1i.out.below.size; simpa using this
      clear hc6_a0_0 hx6_0_0 O6_u0 O6_0i
      have OO_1i := hid K1i.out.own
      have KB_1i := hid (blocks_ge OO_1i.out.blocks (B' := v5.heap.size + 1) (by simp))
      go_wp2_with fail
      refine (implLayersUp_any a0i rs0i c0i a1i rs1i c1i _ res0 (by rw [K0i.out.nums, K1i.out.nums]; exact HRES0.out) (OwnM.rdm O7_0i.out) K0i.out.small (OwnM.rdm OO_1i.out) K1i.out.small (HTAB.out.below B7.out (Nat.le_refl _))).mono ?_
      rintro e v8 ⟨y0, rfl, ho0, hb⟩
      have hc8_a0_0 := cellB hb hc7_a0_0 (Nat.le_refl _)
      have hc8_x0_0 := cellB hb hc7_x0_0 (Nat.le_refl _)
      have O8_u0 := hid (O7_u0.out.past hb (Nat.le_refl _))
      have O8_0i := hid (O7_0i.out.past hb (Nat.le_refl _))
      have O8_1i := hid (OO_1i.out.past hb (Nat.le_refl _))
      have B8 := hid (B7.out.trans (hb.mono B7.out.size))
      have z8 : v7.heap.size ≤ v8.heap.size := by have := hb.size; simpa using this
      have OO_g0 := hid ho0; clear ho0
      have KB_g0 := hid (blocksL_ge (ownL_blocks OO_g0.out) (B' := v7.heap.size) (by simp))
      obtain ⟨ag0, cg0, rfl, _⟩ := OO_g0.out.rd
      clear hb hc7_a0_0 hc7_x0_0 O7_u0 O7_0i OO_1i
      go_wp2_with fail
      refine (eq1_b ag0 au0 res0 res0 cg0 cu0 _ true (by simp) (ownL_rd OO_g0.out) (ownL_rd O8_u0.out) (Nat.le_trans SM0.out (by decide)) (Nat.le_trans SM0.out (by decide))).mono ?_
      rintro e v9 ⟨rfl, hd⟩
      have hb := hd.below v8.heap.size
      have hc9_a0_0 := cellB hb hc8_a0_0 (Nat.le_refl _)
      have hc9_x0_0 := cellB hb hc8_x0_0 (Nat.le_refl _)
      have O9_u0 := hid (O8_u0.out.past hb (Nat.le_refl _))
      have O9_0i := hid (O8_0i.out.past hb (Nat.le_refl _))
      have O9_1i := hid (O8_1i.out.past hb (Nat.le_refl _))
      have O9_g0 := hid (OO_g0.out.past hb (Nat.le_refl _))
      have B9 := hid (B8.out.trans (hb.mono B8.out.size))
      have z9 : v8.heap.size ≤ v9.heap.size := by have := hb.size; simpa using this
      clear hd hb hc8_a0_0 hc8_x0_0 O8_u0 O8_0i O8_1i OO_g0
      go_wp2_with fail
      have hrd := hid ((HR0.out.below B9.out (Nat.le_refl _)).drawn (⟨1, rfl⟩ : Drawn v9 v9.drew))
      have f0 : v9.drew.cell? ⟨w.heap.size, 0, none⟩ = some (.slice a0 rs0.length c0) := hc9_a0_0
      have f1 : v9.drew.cell? ⟨v5.heap.size, 0, none⟩ = some (.slice a0i rs0i.length c0i) := hc9_x0_0
      have BD := hid B9.out.drew
      have M_u0 := hid (O9_u0.out.past (Drawn.below (⟨1, rfl⟩ : Drawn v9 v9.drew) v9.heap.size) (Nat.le_refl _))
      have M_0i := hid (O9_0i.out.past (Drawn.below (⟨1, rfl⟩ : Drawn v9 v9.drew) v9.heap.size) (Nat.le_refl _))
      have M_1i := hid (O9_1i.out.past (Drawn.below (⟨1, rfl⟩ : Drawn v9 v9.drew) v9.heap.size) (Nat.le_refl _))
      have M_g0 := hid (O9_g0.out.past (Drawn.below (⟨1, rfl⟩ : Drawn v9 v9.drew) v9.heap.size) (Nat.le_refl _))
      go_region_held3 (fun w' => w'.cell? ⟨w.heap.size, 0, none⟩ = some (.slice a0 rs0.length c0) ∧ w'.cell? ⟨v5.heap.size, 0, none⟩ = some (.slice a0i rs0i.length c0i)) (first | exact ⟨f0, f1⟩ | exact ⟨g0, g1⟩ | exact ⟨hc11_a0_0, hc11_x0_0⟩) ((first | (go_at_call 17; refine (toG_cp a0 rs0 c0 _ hrd.out HS0.out).mono ?_; rintro e v10 ⟨a0e, rs0e, c0e, rfl, C⟩; have g0 := cellB C.below f0 (Nat.le_refl _); have g1 := cellB C.below f1 (Nat.le_refl _); have BE := hid (BD.out.trans (C.below.mono BD.out.size)); have N_u0 := hid (M_u0.out.past C.below (Nat.le_refl _)); have N_0i := hid (M_0i.out.past C.below (Nat.le_refl _)); have N_1i := hid (M_1i.out.past C.below (Nat.le_refl _)); have N_g0 := hid (M_g0.out.past C.below (Nat.le_refl _)); have ze : v9.heap.size ≤ v10.heap.size := C.below.size; have KE := hid C; clear C) | (go_at_call 20; refine (eqG_any a0i a0e rs0i rs0e c0i c0e v10 true (by rw [K0i.out.nums, KE.out.nums]; simp) (OwnM.rdm N_0i.out) KE.out.rd K0i.out.small KE.out.small).mono ?_; rintro e v11 ⟨rfl, hb⟩; have hc11_a0_0 := cellB hb g0 (Nat.le_refl _); have hc11_x0_0 := cellB hb g1 (Nat.le_refl _); have B11 := hid (BE.out.trans (hb.mono BE.out.size)); have O11_u0 := hid (N_u0.out.past hb (Nat.le_refl _)); have O11_0i := hid (N_0i.out.past hb (Nat.le_refl _)); have O11_1i := hid (N_1i.out.past hb (Nat.le_refl _)); have O11_g0 := hid (N_g0.out.past hb (Nat.le_refl _)); have z11 : v9.heap.size ≤ v11.heap.size := Nat.le_trans ze hb.size; clear hb)))
      clear hrd BD BE ze KE  f0 g0 f1 g1 M_u0 N_u0 M_0i N_0i M_1i N_1i M_g0 N_g0
      clear hc9_a0_0 hc9_x0_0 O9_u0 O9_0i O9_1i O9_g0
      go_wp2_with fail
      refine (to2_cp a1 rs1 c1 _ (HR1.out.below B11.out (Nat.le_refl _)) HS1.out).mono ?_
      rintro e v12 ⟨a1e, rs1e, c1e, rfl, C⟩
      have K1e := hid C; clear C
      have hc12_a0_0 := cellB K1e.out.below hc11_a0_0 (Nat.le_refl _)
      have hc12_x0_0 := cellB K1e.out.below hc11_x0_0 (Nat.le_refl _)
      have O12_u0 := hid (O11_u0.out.past K1e.out.below (Nat.le_refl _))
      have O12_0i := hid (O11_0i.out.past K1e.out.below (Nat.le_refl _))
      have O12_1i := hid (O11_1i.out.past K1e.out.below (Nat.le_refl _))
      have O12_g0 := hid (O11_g0.out.past K1e.out.below (Nat.le_refl _))
      have B12 := hid (B11.out.trans (K1e.out.below.mono B11.out.size))
      have z12 : v11.heap.size ≤ v12.heap.size := by have := K1e.out.below.size; simpa using this
      clear hc11_a0_0 hc11_x0_0 O11_u0 O11_0i O11_1i O11_g0
      have OO_1e := hid K1e.out.own
      have KB_1e := hid (blocks_ge OO_1e.out.blocks (B' := v11.heap.size) (by simp))
      go_wp2_with fail
      refine (eq2_b a1i a1e rs1i rs1e c1i c1e _ true (by rw [K1i.out.nums, K1e.out.nums]; simp) (OwnM.rdm O12_1i.out) (OwnM.rdm OO_1e.out) K1i.out.small K1e.out.small).mono ?_
      rintro e v13 ⟨rfl, hd⟩
      have hb := hd.below v12.heap.size
      have hc13_a0_0 := cellB hb hc12_a0_0 (Nat.le_refl _)
      have hc13_x0_0 := cellB hb hc12_x0_0 (Nat.le_refl _)
      have O13_u0 := hid (O12_u0.out.past hb (Nat.le_refl _))
      have O13_0i := hid (O12_0i.out.past hb (Nat.le_refl _))
      have O13_1i := hid (O12_1i.out.past hb (Nat.le_refl _))
      have O13_g0 := hid (O12_g0.out.past hb (Nat.le_refl _))
      have B13 := hid (B12.out.trans (hb.mono B12.out.size))
      have z13 : v12.heap.size ≤ v13.heap.size := by have := hb.size; simpa using this
      clear hd hb hc12_a0_0 hc12_x0_0 O12_u0 O12_0i O12_1i O12_g0
      have kl0 : 0 ≤ (1 : Int) ∧ (1 : Int) ≤ 1024 + 0 * 1099511627776 := by decide
      have kt0 : total rs0i ≤ 1099511627776 := small_total K0i.out.small
      go_wp2_with fail
      refine (markG_any a0i rs0i c0i _ (1 : Int) _ (fun g => v4.heap.size ≤ g ∧ g < v5.heap.size) O13_0i.out KB_0i.out (small_len K0i.out.small) (small_total K0i.out.small) kl0.1 (by have := kl0.2; omega)).mono ?_
      rintro e v14 ⟨rfl, hom, hk⟩
      have hc14_a0_0 := cellK hk hc13_a0_0 (by intro hh; simp only at hh; omega)
      have hc14_x0_0 := cellK hk hc13_x0_0 (by intro hh; simp only at hh; omega)
      have O14_u0 := hid (O13_u0.out.keptS hk (fun g hg hh => by have := KB_u0.out g hg; omega))
      have O14_1i := hid (O13_1i.out.keptS hk (KB_1i.out.mono (fun g hg hh => by omega)))
      have O14_g0 := hid (O13_g0.out.keptS hk (fun g hg hh => by have := KB_g0.out g hg; omega))
      have B14 := hid (B13.out.trans (hk.below w.heap.size B13.out.size (fun k hk hh => by omega)))
      have z14 : v13.heap.size ≤ v14.heap.size := by have := hk.size; simpa using this
      have OM_0i := hid hom; clear hom hk hc13_a0_0 hc13_x0_0 O13_u0 O13_1i O13_g0 O13_0i
      have kl1 : 0 ≤ ((1 : Int) + (total rs0i : Int)) ∧ ((1 : Int) + (total rs0i : Int)) ≤ 1024 + 1 * 1099511627776 := by have := kl0; have := kt0; omega
      have kt1 : total rs1i ≤ 1099511627776 := small_total K1i.out.small
      go_wp2_with fail
      refine (mark2_any a1i rs1i c1i _ ((1 : Int) + (total rs0i : Int)) _ (fun g => v5.heap.size + 1 ≤ g ∧ g < v7.heap.size) O14_1i.out KB_1i.out (small_len K1i.out.small) (small_total K1i.out.small) kl1.1 (by have := kl1.2; omega)).mono ?_
      rintro e v15 ⟨rfl, hom, hk⟩
      have hc15_a0_0 := cellK hk hc14_a0_0 (by intro hh; simp only at hh; omega)
      have hc15_x0_0 := cellK hk hc14_x0_0 (by intro hh; simp only at hh; omega)
      have O15_u0 := hid (O14_u0.out.keptS hk (fun g hg hh => by have := KB_u0.out g hg; omega))
      have O15_g0 := hid (O14_g0.out.keptS hk (fun g hg hh => by have := KB_g0.out g hg; omega))
      have B15 := hid (B14.out.trans (hk.below w.heap.size B14.out.size (fun k hk hh => by omega)))
      have z15 : v14.heap.size ≤ v15.heap.size := by have := hk.size; simpa using this
      have OM_1i := hid hom; clear hom hk hc14_a0_0 hc14_x0_0 O14_u0 O14_g0 O14_1i
      have kneg : ¬ (((1 : Int) + (total rs0i : Int)) + (total rs1i : Int)) < 0 := by have := kl1; omega
      go_wp2_with fail
      refine (eq1_b ag0 au0 res0 res0 cg0 cu0 _ true (by simp) (ownL_rd O15_g0.out) (ownL_rd O15_u0.out) (Nat.le_trans SM0.out (by decide)) (Nat.le_trans SM0.out (by decide))).mono ?_
      rintro e v16 ⟨rfl, hd⟩
      have hb := hd.below v15.heap.size
      have hc16_a0_0 := cellB hb hc15_a0_0 (Nat.le_refl _)
      have hc16_x0_0 := cellB hb hc15_x0_0 (Nat.le_refl _)
      have O16_u0 := hid (O15_u0.out.past hb (Nat.le_refl _))
      have O16_g0 := hid (O15_g0.out.past hb (Nat.le_refl _))
      have B16 := hid (B15.out.trans (hb.mono B15.out.size))
      have z16 : v15.heap.size ≤ v16.heap.size := by have := hb.size; simpa using this
      clear hd hb hc15_a0_0 hc15_x0_0 O15_u0 O15_g0
      have ml0 : 0 ≤ (1 : Int) ∧ (1 : Int) ≤ 1024 + 0 * 1099511627776 := by decide
      have mt0 : res0.length ≤ 1099511627776 := Nat.le_trans SM0.out (by decide)
      go_wp2_with fail
      refine (mark1_any ag0 res0 cg0 _ (1 : Int) _ (fun g => v7.heap.size ≤ g ∧ g < v8.heap.size) O16_g0.out KB_g0.out (Nat.le_trans SM0.out (by decide)) ml0.1 (by have := ml0.2; omega)).mono ?_
      rintro e v17 ⟨rfl, hom, hk⟩
      have hc17_a0_0 := cellK hk hc16_a0_0 (by intro hh; simp only at hh; omega)
      have hc17_x0_0 := cellK hk hc16_x0_0 (by intro hh; simp only at hh; omega)
      have O17_u0 := hid (O16_u0.out.keptS hk (fun g hg hh => by have := KB_u0.out g hg; omega))
      have B17 := hid (B16.out.trans (hk.below w.heap.size B16.out.size (fun k hk hh => by omega)))
      have z17 : v16.heap.size ≤ v17.heap.size := by have := hk.size; simpa using this
      have OM_g0 := hid hom; clear hom hk hc16_a0_0 hc16_x0_0 O16_u0 O16_g0
      have mneg : ¬ ((1 : Int) + (res0.length : Int)) < 0 := by have := ml0; omega
      have mne : (((1 : Int) + (res0.length : Int)) != ((1 : Int) + (res0.length : Int))) = false := by simp
      go_wp2_with fail
      refine (held1_n ag0 res0.length cg0 (1 : Int) _ (ownL_rd OM_g0.out) (Nat.le_trans SM0.out (by decide)) ml0.1 (by have := ml0.2; omega)).mono ?_
      rintro e w' ⟨rfl, rfl⟩
      go_wp2_with fail
      refine (toG_cp a0 rs0 c0 _ (HR0.out.below B17.out (Nat.le_refl _)) HS0.out).mono ?_
      rintro e v18 ⟨a0t, rs0t, c0t, rfl, C⟩
      have K0t := hid C; clear C
      have hc18_a0_0 := cellB K0t.out.below hc17_a0_0 (Nat.le_refl _)
      have hc18_x0_0 := cellB K0t.out.below hc17_x0_0 (Nat.le_refl _)
      have O18_u0 := hid (O17_u0.out.past K0t.out.below (Nat.le_refl _))
      have O18_mkg0 := hid (OM_g0.out.past K0t.out.below (Nat.le_refl _))
      have B18 := hid (B17.out.trans (K0t.out.below.mono B17.out.size))
      have z18 : v17.heap.size ≤ v18.heap.size := by have := K0t.out.below.size; simpa using this
      clear hc17_a0_0 hc17_x0_0 O17_u0 OM_g0
      have OO_0t := hid K0t.out.own
      have KB_0t := hid (blocks_ge OO_0t.out.blocks (B' := v17.heap.size) (by simp))
      go_wp2_with fail
      refine (to2_cp a1 rs1 c1 _ (HR1.out.below B18.out (Nat.le_refl _)) HS1.out).mono ?_
      rintro e v19 ⟨a1t, rs1t, c1t, rfl, C⟩
      have K1t := hid C; clear C
      have hc19_a0_0 := cellB K1t.out.below hc18_a0_0 (Nat.le_refl _)
      have hc19_x0_0 := cellB K1t.out.below hc18_x0_0 (Nat.le_refl _)
      have O19_u0 := hid (O18_u0.out.past K1t.out.below (Nat.le_refl _))
      have O19_mkg0 := hid (O18_mkg0.out.past K1t.out.below (Nat.le_refl _))
      have O19_0t := hid (OO_0t.out.past K1t.out.below (Nat.le_refl _))
      have B19 := hid (B18.out.trans (K1t.out.below.mono B18.out.size))
      have z19 : v18.heap.size ≤ v19.heap.size := by have := K1t.out.below.size; simpa using this
      clear hc18_a0_0 hc18_x0_0 O18_u0 O18_mkg0 OO_0t
      have OO_1t := hid K1t.out.own
      have KB_1t := hid (blocks_ge OO_1t.out.blocks (B' := v18.heap.size) (by simp))
      go_wp2_with fail
      refine (implLayersUp_any a0t rs0t c0t a1t rs1t c1t _ res0 (by rw [K0t.out.nums, K1t.out.nums]; exact HRES0.out) (OwnM.rdm O19_0t.out) K0t.out.small (OwnM.rdm OO_1t.out) K1t.out.small (HTAB.out.below B19.out (Nat.le_refl _))).mono ?_
      rintro e v20 ⟨y0, rfl, ho0, hb⟩
      have hc20_a0_0 := cellB hb hc19_a0_0 (Nat.le_refl _)
      have hc20_x0_0 := cellB hb hc19_x0_0 (Nat.le_refl _)
      have O20_u0 := hid (O19_u0.out.past hb (Nat.le_refl _))
      have O20_mkg0 := hid (O19_mkg0.out.past hb (Nat.le_refl _))
      have O20_0t := hid (O19_0t.out.past hb (Nat.le_refl _))
      have O20_1t := hid (OO_1t.out.past hb (Nat.le_refl _))
      have B20 := hid (B19.out.trans (hb.mono B19.out.size))
      have z20 : v19.heap.size ≤ v20.heap.size := by have := hb.size; simpa using this
      have OO_h0 := hid ho0; clear ho0
      have KB_h0 := hid (blocksL_ge (ownL_blocks OO_h0.out) (B' := v19.heap.size) (by simp))
      obtain ⟨ah0, ch0, rfl, _⟩ := OO_h0.out.rd
      clear hb hc19_a0_0 hc19_x0_0 O19_u0 O19_mkg0 O19_0t OO_1t
      go_wp2_with fail
      refine (eq1_b ah0 au0 res0 res0 ch0 cu0 _ true (by simp) (ownL_rd OO_h0.out) (ownL_rd O20_u0.out) (Nat.le_trans SM0.out (by decide)) (Nat.le_trans SM0.out (by decide))).mono ?_
      rintro e v21 ⟨rfl, hd⟩
      have hb := hd.below v20.heap.size
      have hc21_a0_0 := cellB hb hc20_a0_0 (Nat.le_refl _)
      have hc21_x0_0 := cellB hb hc20_x0_0 (Nat.le_refl _)
      have O21_u0 := hid (O20_u0.out.past hb (Nat.le_refl _))
      have O21_mkg0 := hid (O20_mkg0.out.past hb (Nat.le_refl _))
      have O21_h0 := hid (OO_h0.out.past hb (Nat.le_refl _))
      have B21 := hid (B20.out.trans (hb.mono B20.out.size))
      have z21 : v20.heap.size ≤ v21.heap.size := by have := hb.size; simpa using this
      clear hd hb hc20_a0_0 hc20_x0_0 O20_u0 O20_mkg0 OO_h0
      go_wp2_with fail
      refine (held1_n ag0 res0.length cg0 (1 : Int) _ (ownL_rd O21_mkg0.out) (Nat.le_trans SM0.out (by decide)) ml0.1 (by have := ml0.2; omega)).mono ?_
      rintro e w' ⟨rfl, rfl⟩
      go_wp2
      go_ret
      exact ⟨rfl, B21.out⟩
end Go.Proofs.YtahibjikcijnfaaDoor
