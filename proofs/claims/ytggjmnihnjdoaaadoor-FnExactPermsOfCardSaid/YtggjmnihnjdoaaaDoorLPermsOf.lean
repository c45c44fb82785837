/- FnExactPermsOf: the walk of the law (written by wip/mklaw2.py). -/
import Derived.Test.YtggjmnihnjdoaaaDoorGr
import Derived.Test.YtggjmnihnjdoaaaDoorPermS
import Derived.Deep.RegionHeld3
import Derived.Deep.RegionWith
import Derived.MapKept
namespace Go.Proofs.YtggjmnihnjdoaaaDoor
open Go.RowKit
set_option maxHeartbeats 8000000 in
theorem lawPermsOf_any (a0 : Option Addr) (rs0 : List Row) (c0 : Nat) (w : World) (hr0 : RdM w a0 rs0) (hl0 : rs0.length ≤ c0 ∧ c0 ≤ maxLen ∧ (a0 = none → c0 = 0)) (hT : TabOk w) :
    Calls Tryd.prog 8 #[.agg #[.slice a0 rs0.length c0]] w fun e w' => e = .returned (.bool true) ∧ Below w.heap.size w w' := by
  have HTAB := hid hT; clear hT
  have HR0 := hid hr0; clear hr0
  have hn0 : rs0.length ≤ maxLen := Nat.le_trans hl0.1 hl0.2.1; clear hl0
  obtain ⟨res0, hres⟩ : ∃ r : List Int, ((permG (nums rs0)).map (·.1)).getD [] = r := ⟨_, rfl⟩
  have HRES0 := hid hres; clear hres
  obtain ⟨res1, hres⟩ : ∃ r : List Int, ((permG (nums rs0)).map (·.2)).getD [] = r := ⟨_, rfl⟩
  have HRES1 := hid hres; clear hres
  obtain ⟨res2, hres⟩ : ∃ r : Bool, (permG (nums rs0)).isSome = r := ⟨_, rfl⟩
  have HRES2 := hid hres; clear hres
  by_cases h0 : (sz2 rs0 1048576) < 0
  · go_enter Tryd.func8, Tryd.ntmps8
    have B0 := hid (alloc_below w (.cells #[.slice a0 rs0.length c0] 24))
    have hc0_0_0 : (w.alloc (.cells #[.slice a0 rs0.length c0] 24)).cell? ⟨w.heap.size, 0, none⟩ = some (.slice a0 rs0.length c0) := by simp [go_sem]
    go_wp2_with fail
    refine (szG_any a0 rs0 c0 1048576 _ hn0 (HR0.out.below B0.out (Nat.le_refl _)) (by decide) (by decide)).mono ?_
    rintro e v1 ⟨rfl, hb⟩
    have hc1_a0_0 := cellB hb hc0_0_0 (Nat.le_refl _)
    have B1 := hid (B0.out.trans (hb.mono B0.out.size))
    have z1 : w.heap.size + 1 ≤ v1.heap.size := by have := hb.size; simpa using this
    clear hb hc0_0_0
    go_wp2
    go_ret
    exact ⟨rfl, B1.out⟩
  · have HS0 := hid (sz2_small rs0 1048576 (by decide) (by decide) (by omega)).1
    have SM0 := hid (show res0.length ≤ 1048576 by rw [← HRES0.out]; exact (perm_small _).1)
    have SM1 := hid (show res1.length ≤ 1048576 by rw [← HRES1.out]; exact (perm_small _).2)
    go_enter Tryd.func8, Tryd.ntmps8
    have B0 := hid (alloc_below w (.cells #[.slice a0 rs0.length c0] 24))
    have hc0_0_0 : (w.alloc (.cells #[.slice a0 rs0.length c0] 24)).cell? ⟨w.heap.size, 0, none⟩ = some (.slice a0 rs0.length c0) := by simp [go_sem]
    go_wp2_with fail
    refine (szG_any a0 rs0 c0 1048576 _ hn0 (HR0.out.below B0.out (Nat.le_refl _)) (by decide) (by decide)).mono ?_
    rintro e v1 ⟨rfl, hb⟩
    have hc1_a0_0 := cellB hb hc0_0_0 (Nat.le_refl _)
    have B1 := hid (B0.out.trans (hb.mono B0.out.size))
    have z1 : w.heap.size + 1 ≤ v1.heap.size := by have := hb.size; simpa using this
    clear hb hc0_0_0
    go_wp2_with fail
    refine (toG_cp a0 rs0 c0 _ (HR0.out.below B1.out (Nat.le_refl _)) HS0.out).mono ?_
    rintro e v2 ⟨a0s, rs0s, c0s, rfl, C⟩
    have K0s := hid C; clear C
    have hc2_a0_0 := cellB K0s.out.below hc1_a0_0 (Nat.le_refl _)
    have B2 := hid (B1.out.trans (K0s.out.below.mono B1.out.size))
    have z2 : v1.heap.size ≤ v2.heap.size := by have := K0s.out.below.size; simpa using this
    clear hc1_a0_0
    have OO_0s := hid K0s.out.own
    have KB_0s := hid (blocks_ge OO_0s.out.blocks (B' := v1.heap.size) (by simp))
    go_wp2_with fail
    refine (specPermsOf_r a0s rs0s c0s _ res0 res1 res2 (by rw [K0s.out.nums]; exact HRES0.out) (by rw [K0s.out.nums]; exact HRES1.out) (by rw [K0s.out.nums]; exact HRES2.out) (OwnM.rdm OO_0s.out) K0s.out.small).mono ?_
    rintro e v3 ⟨y0, y1, mdu, rfl, ho0, ho1, hm1u, hm3u, hm2u, hb⟩
    have hc3_a0_0 := cellB hb hc2_a0_0 (Nat.le_refl _)
    have O3_0s := hid (OO_0s.out.past hb (Nat.le_refl _))
    have B3 := hid (B2.out.trans (hb.mono B2.out.size))
    have z3 : v2.heap.size ≤ v3.heap.size := by have := hb.size; simpa using this
    have hmlou : v2.heap.size ≤ mdu := by have := hm1u; simpa using this
    have OO_u0 := hid ho0; have OO_u1 := hid ho1; clear ho0 ho1
    have KB_u0 := hid (fun g hg => And.intro (show v2.heap.size ≤ g by have := OO_u0.out.ge g hg; simpa using this) (hm2u g hg))
    have KB_u1 := hid (ownL_blocks OO_u1.out)
    obtain ⟨au0, cu0, rfl, _⟩ := OO_u0.out.rd
    obtain ⟨au1, cu1, rfl, _⟩ := OO_u1.out.rd
    clear hm1u hm2u
    clear hb hc2_a0_0 OO_0s
    go_wp2_with fail
    refine (toG_cp a0 rs0 c0 _ (HR0.out.below B3.out (Nat.le_refl _)) HS0.out).mono ?_
    rintro e v4 ⟨a0i, rs0i, c0i, rfl, C⟩
    have K0i := hid C; clear C
    have hc4_a0_0 := cellB K0i.out.below hc3_a0_0 (Nat.le_refl _)
    have O4_u0 := hid (OO_u0.out.past K0i.out.below (Nat.le_refl _))
    have O4_u1 := hid (OO_u1.out.past K0i.out.below (Nat.le_refl _))
    have B4 := hid (B3.out.trans (K0i.out.below.mono B3.out.size))
    have z4 : v3.heap.size ≤ v4.heap.size := by have := K0i.out.below.size; simpa using this
    clear hc3_a0_0 OO_u0 OO_u1
    have OO_0i := hid K0i.out.own
    have KB_0i := hid (blocks_ge OO_0i.out.blocks (B' := v3.heap.size) (by simp))
    have hA := alloc_below v4 (.cells #[.slice a0i rs0i.length c0i] 28)
    have hxn0 : (v4.alloc (.cells #[.slice a0i rs0i.length c0i] 28)).cell? ⟨v4.heap.size, 0, none⟩ = some (.slice a0i rs0i.length c0i) := by simp [go_sem]
    have hc5_a0_0 := cellB hA hc4_a0_0 (Nat.le_refl _)
    have O5_u0 := hid (O4_u0.out.past hA (Nat.le_refl _))
    have O5_u1 := hid (O4_u1.out.past hA (Nat.le_refl _))
    have O5_0i := hid (OO_0i.out.past hA (Nat.le_refl _))
    have B5 := hid (B4.out.trans (hA.mono B4.out.size))
    clear hA hc4_a0_0 O4_u0 O4_u1 OO_0i
    have hx5_0_0 := hxn0; clear hxn0
    go_wp2_with fail
    refine (implPermsOf_r a0i rs0i c0i _ res0 res1 res2 (by rw [K0i.out.nums]; exact HRES0.out) (by rw [K0i.out.nums]; exact HRES1.out) (by rw [K0i.out.nums]; exact HRES2.out) (OwnM.rdm O5_0i.out) K0i.out.small (HTAB.out.below B5.out (Nat.le_refl _))).mono ?_
    rintro e v6 ⟨y0, y1, mdg, rfl, ho0, ho1, hm1g, hm3g, hm2g, hb⟩
    have hc6_a0_0 := cellB hb hc5_a0_0 (Nat.le_refl _)
    have hc6_x0_0 := cellB hb hx5_0_0 (Nat.le_refl _)
    have O6_u0 := hid (O5_u0.out.past hb (Nat.le_refl _))
    have O6_u1 := hid (O5_u1.out.past hb (Nat.le_refl _))
    have O6_0i := hid (O5_0i.out.past hb (Nat.le_refl _))
    have B6 := hid (B5.out.trans (hb.mono B5.out.size))
    have z6 : v4.heap.size + 1 ≤ v6.heap.size := by have := hb.size; simpa using this
    have hmlog : v4.heap.size + 1 ≤ mdg := by have := hm1g; simpa using this
    have OO_g0 := hid ho0; have OO_g1 := hid ho1; clear ho0 ho1
    have KB_g0 := hid (fun g hg => And.intro (show v4.heap.size + 1 ≤ g by have := OO_g0.out.ge g hg; simpa using this) (hm2g g hg))
    have KB_g1 := hid (ownL_blocks OO_g1.out)
    obtain ⟨ag0, cg0, rfl, _⟩ := OO_g0.out.rd
    obtain ⟨ag1, cg1, rfl, _⟩ := OO_g1.out.rd
    clear hm1g hm2g
    clear hb hc5_a0_0 hx5_0_0 O5_u0 O5_u1 O5_0i
    have hne2 : (res2 != res2) = false := by cases res2 <;> rfl
    go_wp2_with fail
    refine (eq1_b ag0 au0 res0 res0 cg0 cu0 _ true (by simp) (ownL_rd OO_g0.out) (ownL_rd O6_u0.out) (Nat.le_trans SM0.out (by decide)) (Nat.le_trans SM0.out (by decide))).mono ?_
    rintro e v7 ⟨rfl, hd⟩
    have hb := hd.below v6.heap.size
    have hc7_a0_0 := cellB hb hc6_a0_0 (Nat.le_refl _)
    have hc7_x0_0 := cellB hb hc6_x0_0 (Nat.le_refl _)
    have O7_u0 := hid (O6_u0.out.past hb (Nat.le_refl _))
    have O7_u1 := hid (O6_u1.out.past hb (Nat.le_refl _))
    have O7_0i := hid (O6_0i.out.past hb (Nat.le_refl _))
    have O7_g0 := hid (OO_g0.out.past hb (Nat.le_refl _))
    have O7_g1 := hid (OO_g1.out.past hb (Nat.le_refl _))
    have B7 := hid (B6.out.trans (hb.mono B6.out.size))
    have z7 : v6.heap.size ≤ v7.heap.size := by have := hb.size; simpa using this
    clear hd hb hc6_a0_0 hc6_x0_0 O6_u0 O6_u1 O6_0i OO_g0 OO_g1
    go_wp2_with fail
    refine (eq1_b ag1 au1 res1 res1 cg1 cu1 _ true (by simp) (ownL_rd O7_g1.out) (ownL_rd O7_u1.out) (Nat.le_trans SM1.out (by decide)) (Nat.le_trans SM1.out (by decide))).mono ?_
    rintro e v8 ⟨rfl, hd⟩
    have hb := hd.below v7.heap.size
    have hc8_a0_0 := cellB hb hc7_a0_0 (Nat.le_refl _)
    have hc8_x0_0 := cellB hb hc7_x0_0 (Nat.le_refl _)
    have O8_u0 := hid (O7_u0.out.past hb (Nat.le_refl _))
    have O8_u1 := hid (O7_u1.out.past hb (Nat.le_refl _))
    have O8_0i := hid (O7_0i.out.past hb (Nat.le_refl _))
    have O8_g0 := hid (O7_g0.out.past hb (Nat.le_refl _))
    have O8_g1 := hid (O7_g1.out.past hb (Nat.le_refl _))
    have B8 := hid (B7.out.trans (hb.mono B7.out.size))
    have z8 : v7.heap.size ≤ v8.heap.size := by have := hb.size; simpa using this
    clear hd hb hc7_a0_0 hc7_x0_0 O7_u0 O7_u1 O7_0i O7_g0 O7_g1
    go_wp2_with fail
    have hrd := hid ((HR0.out.below B8.out (Nat.le_refl _)).drawn (⟨1, rfl⟩ : Drawn v8 v8.drew))
    have f0 : v8.drew.cell? ⟨w.heap.size, 0, none⟩ = some (.slice a0 rs0.length c0) := hc8_a0_0
    have f1 : v8.drew.cell? ⟨v4.heap.size, 0, none⟩ = some (.slice a0i rs0i.length c0i) := hc8_x0_0
    have BD := hid B8.out.drew
    have M_u0 := hid (O8_u0.out.past (Drawn.below (⟨1, rfl⟩ : Drawn v8 v8.drew) v8.heap.size) (Nat.le_refl _))
    have M_u1 := hid (O8_u1.out.past (Drawn.below (⟨1, rfl⟩ : Drawn v8 v8.drew) v8.heap.size) (Nat.le_refl _))
    have M_0i := hid (O8_0i.out.past (Drawn.below (⟨1, rfl⟩ : Drawn v8 v8.drew) v8.heap.size) (Nat.le_refl _))
    have M_g0 := hid (O8_g0.out.past (Drawn.below (⟨1, rfl⟩ : Drawn v8 v8.drew) v8.heap.size) (Nat.le_refl _))
    have M_g1 := hid (O8_g1.out.past (Drawn.below (⟨1, rfl⟩ : Drawn v8 v8.drew) v8.heap.size) (Nat.le_refl _))
    go_region_held3 (fun w' => w'.cell? ⟨w.heap.size, 0, none⟩ = some (.slice a0 rs0.length c0) ∧ w'.cell? ⟨v4.heap.size, 0, none⟩ = some (.slice a0i rs0i.length c0i)) (first | exact ⟨f0, f1⟩ | exact ⟨g0, g1⟩ | exact ⟨hc10_a0_0, hc10_x0_0⟩) ((first | (go_at_call 17; refine (toG_cp a0 rs0 c0 _ hrd.out HS0.out).mono ?_; rintro e v9 ⟨a0e, rs0e, c0e, rfl, C⟩; have g0 := cellB C.below f0 (Nat.le_refl _); have g1 := cellB C.below f1 (Nat.le_refl _); have BE := hid (BD.out.trans (C.below.mono BD.out.size)); have N_u0 := hid (M_u0.out.past C.below (Nat.le_refl _)); have N_u1 := hid (M_u1.out.past C.below (Nat.le_refl _)); have N_0i := hid (M_0i.out.past C.below (Nat.le_refl _)); have N_g0 := hid (M_g0.out.past C.below (Nat.le_refl _)); have N_g1 := hid (M_g1.out.past C.below (Nat.le_refl _)); have ze : v8.heap.size ≤ v9.heap.size := C.below.size; have KE := hid C; clear C) | (go_at_call 20; refine (eqG_any a0i a0e rs0i rs0e c0i c0e v9 true (by rw [K0i.out.nums, KE.out.nums]; simp) (OwnM.rdm N_0i.out) KE.out.rd K0i.out.small KE.out.small).mono ?_; rintro e v10 ⟨rfl, hb⟩; have hc10_a0_0 := cellB hb g0 (Nat.le_refl _); have hc10_x0_0 := cellB hb g1 (Nat.le_refl _); have B10 := hid (BE.out.trans (hb.mono BE.out.size)); have O10_u0 := hid (N_u0.out.past hb (Nat.le_refl _)); have O10_u1 := hid (N_u1.out.past hb (Nat.le_refl _)); have O10_0i := hid (N_0i.out.past hb (Nat.le_refl _)); have O10_g0 := hid (N_g0.out.past hb (Nat.le_refl _)); have O10_g1 := hid (N_g1.out.past hb (Nat.le_refl _)); have z10 : v8.heap.size ≤ v10.heap.size := Nat.le_trans ze hb.size; clear hb)))
    clear hrd BD BE ze KE  f0 g0 f1 g1 M_u0 N_u0 M_u1 N_u1 M_0i N_0i M_g0 N_g0 M_g1 N_g1
    clear hc8_a0_0 hc8_x0_0 O8_u0 O8_u1 O8_0i O8_g0 O8_g1
    have kl0 : 0 ≤ (1 : Int) ∧ (1 : Int) ≤ 1024 + 0 * 1099511627776 := by decide
    have kt0 : total rs0i ≤ 1099511627776 := small_total K0i.out.small
    go_wp2_with fail
    refine (markG_any a0i rs0i c0i _ (1 : Int) _ (fun g => v3.heap.size ≤ g ∧ g < v4.heap.size) O10_0i.out KB_0i.out (small_len K0i.out.small) (small_total K0i.out.small) kl0.1 (by have := kl0.2; omega)).mono ?_
    rintro e v11 ⟨rfl, hom, hk⟩
    have hc11_a0_0 := cellK hk hc10_a0_0 (by intro hh; simp only at hh; omega)
    have hc11_x0_0 := cellK hk hc10_x0_0 (by intro hh; simp only at hh; omega)
    have O11_u0 := hid (O10_u0.out.keptS hk (fun g hg hh => by have := KB_u0.out g hg; omega))
    have O11_u1 := hid (O10_u1.out.keptS hk (fun g hg hh => by have := KB_u1.out g hg; omega))
    have O11_g0 := hid (O10_g0.out.keptS hk (fun g hg hh => by have := KB_g0.out g hg; omega))
    have O11_g1 := hid (O10_g1.out.keptS hk (fun g hg hh => by have := KB_g1.out g hg; omega))
    have B11 := hid (B10.out.trans (hk.below w.heap.size B10.out.size (fun k hk hh => by omega)))
    have z11 : v10.heap.size ≤ v11.heap.size := by have := hk.size; simpa using this
    have OM_0i := hid hom; clear hom hk hc10_a0_0 hc10_x0_0 O10_u0 O10_u1 O10_g0 O10_g1 O10_0i
    have kneg : ¬ ((1 : Int) + (total rs0i : Int)) < 0 := by have := kl0; omega
    go_wp2_with fail
    refine (eq1_b ag0 au0 res0 res0 cg0 cu0 _ true (by simp) (ownL_rd O11_g0.out) (ownL_rd O11_u0.out) (Nat.le_trans SM0.out (by decide)) (Nat.le_trans SM0.out (by decide))).mono ?_
    rintro e v12 ⟨rfl, hd⟩
    have hb := hd.below v11.heap.size
    have hc12_a0_0 := cellB hb hc11_a0_0 (Nat.le_refl _)
    have hc12_x0_0 := cellB hb hc11_x0_0 (Nat.le_refl _)
    have O12_u0 := hid (O11_u0.out.past hb (Nat.le_refl _))
    have O12_u1 := hid (O11_u1.out.past hb (Nat.le_refl _))
    have O12_g0 := hid (O11_g0.out.past hb (Nat.le_refl _))
    have O12_g1 := hid (O11_g1.out.past hb (Nat.le_refl _))
    have B12 := hid (B11.out.trans (hb.mono B11.out.size))
    have z12 : v11.heap.size ≤ v12.heap.size := by have := hb.size; simpa using this
    clear hd hb hc11_a0_0 hc11_x0_0 O11_u0 O11_u1 O11_g0 O11_g1
    go_wp2_with fail
    refine (eq1_b ag1 au1 res1 res1 cg1 cu1 _ true (by simp) (ownL_rd O12_g1.out) (ownL_rd O12_u1.out) (Nat.le_trans SM1.out (by decide)) (Nat.le_trans SM1.out (by decide))).mono ?_
    rintro e v13 ⟨rfl, hd⟩
    have hb := hd.below v12.heap.size
    have hc13_a0_0 := cellB hb hc12_a0_0 (Nat.le_refl _)
    have hc13_x0_0 := cellB hb hc12_x0_0 (Nat.le_refl _)
    have O13_u0 := hid (O12_u0.out.past hb (Nat.le_refl _))
    have O13_u1 := hid (O12_u1.out.past hb (Nat.le_refl _))
    have O13_g0 := hid (O12_g0.out.past hb (Nat.le_refl _))
    have O13_g1 := hid (O12_g1.out.past hb (Nat.le_refl _))
    have B13 := hid (B12.out.trans (hb.mono B12.out.size))
    have z13 : v12.heap.size ≤ v13.heap.size := by have := hb.size; simpa using this
    clear hd hb hc12_a0_0 hc12_x0_0 O12_u0 O12_u1 O12_g0 O12_g1
    have ml0 : 0 ≤ (1 : Int) ∧ (1 : Int) ≤ 1024 + 0 * 1099511627776 := by decide
    have mt0 : res0.length ≤ 1099511627776 := Nat.le_trans SM0.out (by decide)
    go_wp2_with fail
    refine (mark1_any ag0 res0 cg0 _ (1 : Int) _ (fun g => v4.heap.size + 1 ≤ g ∧ g < mdg) O13_g0.out KB_g0.out (Nat.le_trans SM0.out (by decide)) ml0.1 (by have := ml0.2; omega)).mono ?_
    rintro e v14 ⟨rfl, hom, hk⟩
    have hc14_a0_0 := cellK hk hc13_a0_0 (by intro hh; simp only at hh; omega)
    have hc14_x0_0 := cellK hk hc13_x0_0 (by intro hh; simp only at hh; omega)
    have O14_u0 := hid (O13_u0.out.keptS hk (fun g hg hh => by have := KB_u0.out g hg; omega))
    have O14_u1 := hid (O13_u1.out.keptS hk (fun g hg hh => by have := KB_u1.out g hg; omega))
    have O14_g1 := hid (O13_g1.out.keptS hk (fun g hg hh => by have := KB_g1.out g hg; omega))
    have B14 := hid (B13.out.trans (hk.below w.heap.size B13.out.size (fun k hk hh => by omega)))
    have z14 : v13.heap.size ≤ v14.heap.size := by have := hk.size; simpa using this
    have OM_g0 := hid hom; clear hom hk hc13_a0_0 hc13_x0_0 O13_u0 O13_u1 O13_g1 O13_g0
    have ml1 : 0 ≤ ((1 : Int) + (res0.length : Int)) ∧ ((1 : Int) + (res0.length : Int)) ≤ 1024 + 1 * 1099511627776 := by have := ml0; have := mt0; omega
    have mt1 : res1.length ≤ 1099511627776 := Nat.le_trans SM1.out (by decide)
    go_wp2_with fail
    refine (mark1_any ag1 res1 cg1 _ ((1 : Int) + (res0.length : Int)) _ (fun g => mdg ≤ g ∧ g < v6.heap.size) O14_g1.out KB_g1.out (Nat.le_trans SM1.out (by decide)) ml1.1 (by have := ml1.2; omega)).mono ?_
    rintro e v15 ⟨rfl, hom, hk⟩
    have hc15_a0_0 := cellK hk hc14_a0_0 (by intro hh; simp only at hh; omega)
    have hc15_x0_0 := cellK hk hc14_x0_0 (by intro hh; simp only at hh; omega)
    have O15_u0 := hid (O14_u0.out.keptS hk (fun g hg hh => by have := KB_u0.out g hg; omega))
    have O15_u1 := hid (O14_u1.out.keptS hk (fun g hg hh => by have := KB_u1.out g hg; omega))
    have O15_mkg0 := hid (OM_g0.out.keptS hk (fun g hg hh => by have := KB_g0.out g hg; omega))
    have B15 := hid (B14.out.trans (hk.below w.heap.size B14.out.size (fun k hk hh => by omega)))
    have z15 : v14.heap.size ≤ v15.heap.size := by have := hk.size; simpa using this
    have OM_g1 := hid hom; clear hom hk hc14_a0_0 hc14_x0_0 O14_u0 O14_u1 OM_g0 O14_g1
    have mneg : ¬ (((1 : Int) + (res0.length : Int)) + (res1.length : Int)) < 0 := by have := ml1; omega
    have mne : ((((1 : Int) + (res0.length : Int)) + (res1.length : Int)) != (((1 : Int) + (res0.length : Int)) + (res1.length : Int))) = false := by simp
    go_wp2_with fail
    refine (held1_n ag0 res0.length cg0 (1 : Int) _ (ownL_rd O15_mkg0.out) (Nat.le_trans SM0.out (by decide)) ml0.1 (by have := ml0.2; omega)).mono ?_
    rintro e w' ⟨rfl, rfl⟩
    go_wp2_with fail
    refine (held1_n ag1 res1.length cg1 ((1 : Int) + (res0.length : Int)) _ (ownL_rd OM_g1.out) (Nat.le_trans SM1.out (by decide)) ml1.1 (by have := ml1.2; omega)).mono ?_
    rintro e w' ⟨rfl, rfl⟩
    go_wp2_with fail
    refine (toG_cp a0 rs0 c0 _ (HR0.out.below B15.out (Nat.le_refl _)) HS0.out).mono ?_
    rintro e v16 ⟨a0t, rs0t, c0t, rfl, C⟩
    have K0t := hid C; clear C
    have hc16_a0_0 := cellB K0t.out.below hc15_a0_0 (Nat.le_refl _)
    have hc16_x0_0 := cellB K0t.out.below hc15_x0_0 (Nat.le_refl _)
    have O16_u0 := hid (O15_u0.out.past K0t.out.below (Nat.le_refl _))
    have O16_u1 := hid (O15_u1.out.past K0t.out.below (Nat.le_refl _))
    have O16_mkg0 := hid (O15_mkg0.out.past K0t.out.below (Nat.le_refl _))
    have O16_mkg1 := hid (OM_g1.out.past K0t.out.below (Nat.le_refl _))
    have B16 := hid (B15.out.trans (K0t.out.below.mono B15.out.size))
    have z16 : v15.heap.size ≤ v16.heap.size := by have := K0t.out.below.size; simpa using this
    clear hc15_a0_0 hc15_x0_0 O15_u0 O15_u1 O15_mkg0 OM_g1
    have OO_0t := hid K0t.out.own
    have KB_0t := hid (blocks_ge OO_0t.out.blocks (B' := v15.heap.size) (by simp))
    go_wp2_with fail
    refine (implPermsOf_r a0t rs0t c0t _ res0 res1 res2 (by rw [K0t.out.nums]; exact HRES0.out) (by rw [K0t.out.nums]; exact HRES1.out) (by rw [K0t.out.nums]; exact HRES2.out) (OwnM.rdm OO_0t.out) K0t.out.small (HTAB.out.below B16.out (Nat.le_refl _))).mono ?_
    rintro e v17 ⟨y0, y1, mdh, rfl, ho0, ho1, hm1h, hm3h, hm2h, hb⟩
    have hc17_a0_0 := cellB hb hc16_a0_0 (Nat.le_refl _)
    have hc17_x0_0 := cellB hb hc16_x0_0 (Nat.le_refl _)
    have O17_u0 := hid (O16_u0.out.past hb (Nat.le_refl _))
    have O17_u1 := hid (O16_u1.out.past hb (Nat.le_refl _))
    have O17_mkg0 := hid (O16_mkg0.out.past hb (Nat.le_refl _))
    have O17_mkg1 := hid (O16_mkg1.out.past hb (Nat.le_refl _))
    have O17_0t := hid (OO_0t.out.past hb (Nat.le_refl _))
    have B17 := hid (B16.out.trans (hb.mono B16.out.size))
    have z17 : v16.heap.size ≤ v17.heap.size := by have := hb.size; simpa using this
    have hmloh : v16.heap.size ≤ mdh := by have := hm1h; simpa using this
    have OO_h0 := hid ho0; have OO_h1 := hid ho1; clear ho0 ho1
    have KB_h0 := hid (fun g hg => And.intro (show v16.heap.size ≤ g by have := OO_h0.out.ge g hg; simpa using this) (hm2h g hg))
    have KB_h1 := hid (ownL_blocks OO_h1.out)
    obtain ⟨ah0, ch0, rfl, _⟩ := OO_h0.out.rd
    obtain ⟨ah1, ch1, rfl, _⟩ := OO_h1.out.rd
    clear hm1h hm2h
    clear hb hc16_a0_0 hc16_x0_0 O16_u0 O16_u1 O16_mkg0 O16_mkg1 OO_0t
    go_wp2_with fail
    refine (eq1_b ah0 au0 res0 res0 ch0 cu0 _ true (by simp) (ownL_rd OO_h0.out) (ownL_rd O17_u0.out) (Nat.le_trans SM0.out (by decide)) (Nat.le_trans SM0.out (by decide))).mono ?_
    rintro e v18 ⟨rfl, hd⟩
    have hb := hd.below v17.heap.size
    have hc18_a0_0 := cellB hb hc17_a0_0 (Nat.le_refl _)
    have hc18_x0_0 := cellB hb hc17_x0_0 (Nat.le_refl _)
    have O18_u0 := hid (O17_u0.out.past hb (Nat.le_refl _))
    have O18_u1 := hid (O17_u1.out.past hb (Nat.le_refl _))
    have O18_mkg0 := hid (O17_mkg0.out.past hb (Nat.le_refl _))
    have O18_mkg1 := hid (O17_mkg1.out.past hb (Nat.le_refl _))
    have O18_h0 := hid (OO_h0.out.past hb (Nat.le_refl _))
    have O18_h1 := hid (OO_h1.out.past hb (Nat.le_refl _))
    have B18 := hid (B17.out.trans (hb.mono B17.out.size))
    have z18 : v17.heap.size ≤ v18.heap.size := by have := hb.size; simpa using this
    clear hd hb hc17_a0_0 hc17_x0_0 O17_u0 O17_u1 O17_mkg0 O17_mkg1 OO_h0 OO_h1
    go_wp2_with fail
    refine (eq1_b ah1 au1 res1 res1 ch1 cu1 _ true (by simp) (ownL_rd O18_h1.out) (ownL_rd O18_u1.out) (Nat.le_trans SM1.out (by decide)) (Nat.le_trans SM1.out (by decide))).mono ?_
    rintro e v19 ⟨rfl, hd⟩
    have hb := hd.below v18.heap.size
    have hc19_a0_0 := cellB hb hc18_a0_0 (Nat.le_refl _)
    have hc19_x0_0 := cellB hb hc18_x0_0 (Nat.le_refl _)
    have O19_u0 := hid (O18_u0.out.past hb (Nat.le_refl _))
    have O19_u1 := hid (O18_u1.out.past hb (Nat.le_refl _))
    have O19_mkg0 := hid (O18_mkg0.out.past hb (Nat.le_refl _))
    have O19_mkg1 := hid (O18_mkg1.out.past hb (Nat.le_refl _))
    have O19_h0 := hid (O18_h0.out.past hb (Nat.le_refl _))
    have O19_h1 := hid (O18_h1.out.past hb (Nat.le_refl _))
    have B19 := hid (B18.out.trans (hb.mono B18.out.size))
    have z19 : v18.heap.size ≤ v19.heap.size := by have := hb.size; simpa using this
    clear hd hb hc18_a0_0 hc18_x0_0 O18_u0 O18_u1 O18_mkg0 O18_mkg1 O18_h0 O18_h1
    go_wp2_with fail
    refine (held1_n ag0 res0.length cg0 (1 : Int) _ (ownL_rd O19_mkg0.out) (Nat.le_trans SM0.out (by decide)) ml0.1 (by have := ml0.2; omega)).mono ?_
    rintro e w' ⟨rfl, rfl⟩
    go_wp2_with fail
    refine (held1_n ag1 res1.length cg1 ((1 : Int) + (res0.length : Int)) _ (ownL_rd O19_mkg1.out) (Nat.le_trans SM1.out (by decide)) ml1.1 (by have := ml1.2; omega)).mono ?_
    rintro e w' ⟨rfl, rfl⟩
    go_wp2
    go_ret
    exact ⟨rfl, B19.out⟩
end Go.Proofs.YtggjmnihnjdoaaaDoor
