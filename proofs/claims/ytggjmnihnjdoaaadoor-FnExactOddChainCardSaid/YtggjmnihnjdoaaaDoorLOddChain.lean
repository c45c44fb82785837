/- FnExactOddChain: the walk of the law (written by wip/mklaw2.py). -/
import Derived.Test.YtggjmnihnjdoaaaDoorGr
import Derived.Test.YtggjmnihnjdoaaaDoorChnS
import Derived.Deep.RegionHeld3
import Derived.Deep.RegionWith
import Derived.MapKept
namespace Go.Proofs.YtggjmnihnjdoaaaDoor
open Go.RowKit
set_option maxHeartbeats 8000000 in
theorem lawOddChain_any (a0 : Option Addr) (rs0 : List Row) (c0 : Nat) (w : World) (hr0 : RdM w a0 rs0) (hl0 : rs0.length ≤ c0 ∧ c0 ≤ maxLen ∧ (a0 = none → c0 = 0)) (hT : TabOk w) :
    Calls Tryd.prog 5 #[.agg #[.slice a0 rs0.length c0]] w fun e w' => e = .returned (.bool true) ∧ Below w.heap.size w w' := by
  have HTAB := hid hT; clear hT
  have HR0 := hid hr0; clear hr0
  have hn0 : rs0.length ≤ maxLen := Nat.le_trans hl0.1 hl0.2.1; clear hl0
  obtain ⟨res0, hres⟩ : ∃ r : List (List Int), ((oddG (nums rs0)).getD []).map prI = r := ⟨_, rfl⟩
  have HRES0 := hid hres; clear hres
  obtain ⟨res1, hres⟩ : ∃ r : Bool, (oddG (nums rs0)).isSome = r := ⟨_, rfl⟩
  have HRES1 := hid hres; clear hres
  by_cases h0 : (sz2 rs0 1048576) < 0
  · go_enter Tryd.func5, Tryd.ntmps5
    have B0 := hid (alloc_below w (.cells #[.slice a0 rs0.length c0] 24))
    have hc0_0_0 : (w.alloc (.cells #[.slice a0 rs0.length c0] 24)).cell? ⟨w.heap.size, 0, none⟩ = some (.slice a0 rs0.length c0) := by simp [go_sem]
    go_wp2_with fail
    refine (szG_any a0 rs0 c0 1048576 _ hn0 (HR0.out.below B0.out (Nat.le_refl _)) (by decide) (by decide)).mono ?_
    rintro e v1 ⟨rfl, hb⟩
    have hc1_a0_0 := cellB hb hc0_0_0 (Nat.le_refl _)
    have B1 := hid (B0.out.trans (hb.mono B0.out.size))
    have z1 : w.heap.size + 1 ≤ v1.heap.size := by have := hb.size; simpa using this
    clear hb hc0_0_0
    go_wp2
    go_ret
    exact ⟨rfl, B1.out⟩
  · have HS0 := hid (sz2_small rs0 1048576 (by decide) (by decide) (by omega)).1
    have SM0 := hid (show SmallZ res0 by rw [← HRES0.out]; exact (odd_small _))
    go_enter Tryd.func5, Tryd.ntmps5
    have B0 := hid (alloc_below w (.cells #[.slice a0 rs0.length c0] 24))
    have hc0_0_0 : (w.alloc (.cells #[.slice a0 rs0.length c0] 24)).cell? ⟨w.heap.size, 0, none⟩ = some (.slice a0 rs0.length c0) := by simp [go_sem]
    go_wp2_with fail
    refine (szG_any a0 rs0 c0 1048576 _ hn0 (HR0.out.below B0.out (Nat.le_refl _)) (by decide) (by decide)).mono ?_
    rintro e v1 ⟨rfl, hb⟩
    have hc1_a0_0 := cellB hb hc0_0_0 (Nat.le_refl _)
    have B1 := hid (B0.out.trans (hb.mono B0.out.size))
    have z1 : w.heap.size + 1 ≤ v1.heap.size := by have := hb.size; simpa using this
    clear hb hc0_0_0
    go_wp2_with fail
    refine (toG_cp a0 rs0 c0 _ (HR0.out.below B1.out (Nat.le_refl _)) HS0.out).mono ?_
    rintro e v2 ⟨a0s, rs0s, c0s, rfl, C⟩
    have K0s := hid C; clear C
    have hc2_a0_0 := cellB K0s.out.below hc1_a0_0 (Nat.le_refl _)
    have B2 := hid (B1.out.trans (K0s.out.below.mono B1.out.size))
    have z2 : v1.heap.size ≤ v2.heap.size := by have := K0s.out.below.size; simpa using this
    clear hc1_a0_0
    have OO_0s := hid K0s.out.own
    have KB_0s := hid (blocks_ge OO_0s.out.blocks (B' := v1.heap.size) (by simp))
    go_wp2_with fail
    refine (specOddChain_r a0s rs0s c0s _ res0 res1 (by rw [K0s.out.nums]; exact HRES0.out) (by rw [K0s.out.nums]; exact HRES1.out) (OwnM.rdm OO_0s.out) K0s.out.small).mono ?_
    rintro e v3 ⟨y0, u0, rfl, hq0, ho0, hb⟩
    have hc3_a0_0 := cellB hb hc2_a0_0 (Nat.le_refl _)
    have O3_0s := hid (OO_0s.out.past hb (Nat.le_refl _))
    have B3 := hid (B2.out.trans (hb.mono B2.out.size))
    have z3 : v2.heap.size ≤ v3.heap.size := by have := hb.size; simpa using this
    have OO_u0 := hid ho0; clear ho0
    have KB_u0 := hid (blocks_ge OO_u0.out.blocks (B' := v2.heap.size) (by simp))
    obtain ⟨au0, cu0, rfl, _⟩ := OO_u0.out.rd
    have Q_u0 := hid hq0; clear hq0
    have SM_u0 := hid (small_of Q_u0.out SM0.out)
    clear hb hc2_a0_0 OO_0s
    go_wp2_with fail
    refine (toG_cp a0 rs0 c0 _ (HR0.out.below B3.out (Nat.le_refl _)) HS0.out).mono ?_
    rintro e v4 ⟨a0i, rs0i, c0i, rfl, C⟩
    have K0i := hid C; clear C
    have hc4_a0_0 := cellB K0i.out.below hc3_a0_0 (Nat.le_refl _)
    have O4_u0 := hid (OO_u0.out.past K0i.out.below (Nat.le_refl _))
    have B4 := hid (B3.out.trans (K0i.out.below.mono B3.out.size))
    have z4 : v3.heap.size ≤ v4.heap.size := by have := K0i.out.below.size; simpa using this
    clear hc3_a0_0 OO_u0
    have OO_0i := hid K0i.out.own
    have KB_0i := hid (blocks_ge OO_0i.out.blocks (B' := v3.heap.size) (by simp))
    have hA := alloc_below v4 (.cells #[.slice a0i rs0i.length c0i] 28)
    have hxn0 : (v4.alloc (.cells #[.slice a0i rs0i.length c0i] 28)).cell? ⟨v4.heap.size, 0, none⟩ = some (.slice a0i rs0i.length c0i) := by simp [go_sem]
    have hc5_a0_0 := cellB hA hc4_a0_0 (Nat.le_refl _)
    have O5_u0 := hid (O4_u0.out.past hA (Nat.le_refl _))
    have O5_0i := hid (OO_0i.out.past hA (Nat.le_refl _))
    have B5 := hid (B4.out.trans (hA.mono B4.out.size))
    clear hA hc4_a0_0 O4_u0 OO_0i
    have hx5_0_0 := hxn0; clear hxn0
    go_wp2_with fail
    refine (implOddChain_r a0i rs0i c0i _ res0 res1 (by rw [K0i.out.nums]; exact HRES0.out) (by rw [K0i.out.nums]; exact HRES1.out) (OwnM.rdm O5_0i.out) K0i.out.small (HTAB.out.below B5.out (Nat.le_refl _))).mono ?_
    rintro e v6 ⟨y0, g0, rfl, hq0, ho0, hb⟩
    have hc6_a0_0 := cellB hb hc5_a0_0 (Nat.le_refl _)
    have hc6_x0_0 := cellB hb hx5_0_0 (Nat.le_refl _)
    have O6_u0 := hid (O5_u0.out.past hb (Nat.le_refl _))
    have O6_0i := hid (O5_0i.out.past hb (Nat.le_refl _))
    have B6 := hid (B5.out.trans (hb.mono B5.out.size))
    have z6 : v4.heap.size + 1 ≤ v6.heap.size := by have := hb.size; simpa using this
    have OO_g0 := hid ho0; clear ho0
    have KB_g0 := hid (blocks_ge OO_g0.out.blocks (B' := v4.heap.size + 1) (by simp))
    obtain ⟨ag0, cg0, rfl, _⟩ := OO_g0.out.rd
    have Q_g0 := hid hq0; clear hq0
    have SM_g0 := hid (small_of Q_g0.out SM0.out)
    clear hb hc5_a0_0 hx5_0_0 O5_u0 O5_0i
    have hne1 : (res1 != res1) = false := by cases res1 <;> rfl
    go_wp2_with fail
    refine (eq2_b ag0 au0 g0 u0 cg0 cu0 _ true (by rw [Q_g0.out, Q_u0.out]; simp) (OwnM.rdm OO_g0.out) (OwnM.rdm O6_u0.out) SM_g0.out SM_u0.out).mono ?_
    rintro e v7 ⟨rfl, hd⟩
    have hb := hd.below v6.heap.size
    have hc7_a0_0 := cellB hb hc6_a0_0 (Nat.le_refl _)
    have hc7_x0_0 := cellB hb hc6_x0_0 (Nat.le_refl _)
    have O7_u0 := hid (O6_u0.out.past hb (Nat.le_refl _))
    have O7_0i := hid (O6_0i.out.past hb (Nat.le_refl _))
    have O7_g0 := hid (OO_g0.out.past hb (Nat.le_refl _))
    have B7 := hid (B6.out.trans (hb.mono B6.out.size))
    have z7 : v6.heap.size ≤ v7.heap.size := by have := hb.size; simpa using this
    clear hd hb hc6_a0_0 hc6_x0_0 O6_u0 O6_0i OO_g0
    go_wp2_with fail
    have hrd := hid ((HR0.out.below B7.out (Nat.le_refl _)).drawn (⟨1, rfl⟩ : Drawn v7 v7.drew))
    have f0 : v7.drew.cell? ⟨w.heap.size, 0, none⟩ = some (.slice a0 rs0.length c0) := hc7_a0_0
    have f1 : v7.drew.cell? ⟨v4.heap.size, 0, none⟩ = some (.slice a0i rs0i.length c0i) := hc7_x0_0
    have BD := hid B7.out.drew
    have M_u0 := hid (O7_u0.out.past (Drawn.below (⟨1, rfl⟩ : Drawn v7 v7.drew) v7.heap.size) (Nat.le_refl _))
    have M_0i := hid (O7_0i.out.past (Drawn.below (⟨1, rfl⟩ : Drawn v7 v7.drew) v7.heap.size) (Nat.le_refl _))
    have M_g0 := hid (O7_g0.out.past (Drawn.below (⟨1, rfl⟩ : Drawn v7 v7.drew) v7.heap.size) (Nat.le_refl _))
    go_region_held3 (fun w' => w'.cell? ⟨w.heap.size, 0, none⟩ = some (.slice a0 rs0.length c0) ∧ w'.cell? ⟨v4.heap.size, 0, none⟩ = some (.slice a0i rs0i.length c0i)) (first | exact ⟨f0, f1⟩ | exact ⟨g0, g1⟩ | exact ⟨hc9_a0_0, hc9_x0_0⟩) ((first | (go_at_call 17; refine (toG_cp a0 rs0 c0 _ hrd.out HS0.out).mono ?_; rintro e v8 ⟨a0e, rs0e, c0e, rfl, C⟩; have g0 := cellB C.below f0 (Nat.le_refl _); have g1 := cellB C.below f1 (Nat.le_refl _); have BE := hid (BD.out.trans (C.below.mono BD.out.size)); have N_u0 := hid (M_u0.out.past C.below (Nat.le_refl _)); have N_0i := hid (M_0i.out.past C.below (Nat.le_refl _)); have N_g0 := hid (M_g0.out.past C.below (Nat.le_refl _)); have ze : v7.heap.size ≤ v8.heap.size := C.below.size; have KE := hid C; clear C) | (go_at_call 20; refine (eqG_any a0i a0e rs0i rs0e c0i c0e v8 true (by rw [K0i.out.nums, KE.out.nums]; simp) (OwnM.rdm N_0i.out) KE.out.rd K0i.out.small KE.out.small).mono ?_; rintro e v9 ⟨rfl, hb⟩; have hc9_a0_0 := cellB hb g0 (Nat.le_refl _); have hc9_x0_0 := cellB hb g1 (Nat.le_refl _); have B9 := hid (BE.out.trans (hb.mono BE.out.size)); have O9_u0 := hid (N_u0.out.past hb (Nat.le_refl _)); have O9_0i := hid (N_0i.out.past hb (Nat.le_refl _)); have O9_g0 := hid (N_g0.out.past hb (Nat.le_refl _)); have z9 : v7.heap.size ≤ v9.heap.size := Nat.le_trans ze hb.size; clear hb)))
    clear hrd BD BE ze KE  f0 g0 f1 g1 M_u0 N_u0 M_0i N_0i M_g0 N_g0
    clear hc7_a0_0 hc7_x0_0 O7_u0 O7_0i O7_g0
    have kl0 : 0 ≤ (1 : Int) ∧ (1 : Int) ≤ 1024 + 0 * 1099511627776 := by decide
    have kt0 : total rs0i ≤ 1099511627776 := small_total K0i.out.small
    go_wp2_with fail
    refine (markG_any a0i rs0i c0i _ (1 : Int) _ (fun g => v3.heap.size ≤ g ∧ g < v4.heap.size) O9_0i.out KB_0i.out (small_len K0i.out.small) (small_total K0i.out.small) kl0.1 (by have := kl0.2; omega)).mono ?_
    rintro e v10 ⟨rfl, hom, hk⟩
    have hc10_a0_0 := cellK hk hc9_a0_0 (by intro hh; simp only at hh; omega)
    have hc10_x0_0 := cellK hk hc9_x0_0 (by intro hh; simp only at hh; omega)
    have O10_u0 := hid (O9_u0.out.keptS hk (KB_u0.out.mono (fun g hg hh => by omega)))
    have O10_g0 := hid (O9_g0.out.keptS hk (KB_g0.out.mono (fun g hg hh => by omega)))
    have B10 := hid (B9.out.trans (hk.below w.heap.size B9.out.size (fun k hk hh => by omega)))
    have z10 : v9.heap.size ≤ v10.heap.size := by have := hk.size; simpa using this
    have OM_0i := hid hom; clear hom hk hc9_a0_0 hc9_x0_0 O9_u0 O9_g0 O9_0i
    have kneg : ¬ ((1 : Int) + (total rs0i : Int)) < 0 := by have := kl0; omega
    go_wp2_with fail
    refine (eq2_b ag0 au0 g0 u0 cg0 cu0 _ true (by rw [Q_g0.out, Q_u0.out]; simp) (OwnM.rdm O10_g0.out) (OwnM.rdm O10_u0.out) SM_g0.out SM_u0.out).mono ?_
    rintro e v11 ⟨rfl, hd⟩
    have hb := hd.below v10.heap.size
    have hc11_a0_0 := cellB hb hc10_a0_0 (Nat.le_refl _)
    have hc11_x0_0 := cellB hb hc10_x0_0 (Nat.le_refl _)
    have O11_u0 := hid (O10_u0.out.past hb (Nat.le_refl _))
    have O11_g0 := hid (O10_g0.out.past hb (Nat.le_refl _))
    have B11 := hid (B10.out.trans (hb.mono B10.out.size))
    have z11 : v10.heap.size ≤ v11.heap.size := by have := hb.size; simpa using this
    clear hd hb hc10_a0_0 hc10_x0_0 O10_u0 O10_g0
    have ml0 : 0 ≤ (1 : Int) ∧ (1 : Int) ≤ 1024 + 0 * 1099511627776 := by decide
    have mt0 : total g0 ≤ 1099511627776 := small_total SM_g0.out
    go_wp2_with fail
    refine (mark2_any ag0 g0 cg0 _ (1 : Int) _ (fun g => v4.heap.size + 1 ≤ g ∧ g < v6.heap.size) O11_g0.out KB_g0.out (small_len SM_g0.out) (small_total SM_g0.out) ml0.1 (by have := ml0.2; omega)).mono ?_
    rintro e v12 ⟨rfl, hom, hk⟩
    have hc12_a0_0 := cellK hk hc11_a0_0 (by intro hh; simp only at hh; omega)
    have hc12_x0_0 := cellK hk hc11_x0_0 (by intro hh; simp only at hh; omega)
    have O12_u0 := hid (O11_u0.out.keptS hk (KB_u0.out.mono (fun g hg hh => by omega)))
    have B12 := hid (B11.out.trans (hk.below w.heap.size B11.out.size (fun k hk hh => by omega)))
    have z12 : v11.heap.size ≤ v12.heap.size := by have := hk.size; simpa using this
    have OM_g0 := hid hom; clear hom hk hc11_a0_0 hc11_x0_0 O11_u0 O11_g0
    have mneg : ¬ ((1 : Int) + (total g0 : Int)) < 0 := by have := ml0; omega
    have mne : (((1 : Int) + (total g0 : Int)) != ((1 : Int) + (total g0 : Int))) = false := by simp
    go_wp2_with fail
    refine (held2_any ag0 g0 cg0 (1 : Int) _ (OwnM.rdm OM_g0.out) (small_len SM_g0.out) (small_total SM_g0.out) ml0.1 (by have := ml0.2; omega)).mono ?_
    rintro e w' ⟨rfl, rfl⟩
    go_wp2_with fail
    refine (toG_cp a0 rs0 c0 _ (HR0.out.below B12.out (Nat.le_refl _)) HS0.out).mono ?_
    rintro e v13 ⟨a0t, rs0t, c0t, rfl, C⟩
    have K0t := hid C; clear C
    have hc13_a0_0 := cellB K0t.out.below hc12_a0_0 (Nat.le_refl _)
    have hc13_x0_0 := cellB K0t.out.below hc12_x0_0 (Nat.le_refl _)
    have O13_u0 := hid (O12_u0.out.past K0t.out.below (Nat.le_refl _))
    have O13_mkg0 := hid (OM_g0.out.past K0t.out.below (Nat.le_refl _))
    have B13 := hid (B12.out.trans (K0t.out.below.mono B12.out.size))
    have z13 : v12.heap.size ≤ v13.heap.size := by have := K0t.out.below.size; simpa using this
    clear hc12_a0_0 hc12_x0_0 O12_u0 OM_g0
    have OO_0t := hid K0t.out.own
    have KB_0t := hid (blocks_ge OO_0t.out.blocks (B' := v12.heap.size) (by simp))
    go_wp2_with fail
    refine (implOddChain_r a0t rs0t c0t _ res0 res1 (by rw [K0t.out.nums]; exact HRES0.out) (by rw [K0t.out.nums]; exact HRES1.out) (OwnM.rdm OO_0t.out) K0t.out.small (HTAB.out.below B13.out (Nat.le_refl _))).mono ?_
    rintro e v14 ⟨y0, h0, rfl, hq0, ho0, hb⟩
    have hc14_a0_0 := cellB hb hc13_a0_0 (Nat.le_refl _)
    have hc14_x0_0 := cellB hb hc13_x0_0 (Nat.le_refl _)
    have O14_u0 := hid (O13_u0.out.past hb (Nat.le_refl _))
    have O14_mkg0 := hid (O13_mkg0.out.past hb (Nat.le_refl _))
    have O14_0t := hid (OO_0t.out.past hb (Nat.le_refl _))
    have B14 := hid (B13.out.trans (hb.mono B13.out.size))
    have z14 : v13.heap.size ≤ v14.heap.size := by have := hb.size; simpa using this
    have OO_h0 := hid ho0; clear ho0
    have KB_h0 := hid (blocks_ge OO_h0.out.blocks (B' := v13.heap.size) (by simp))
    obtain ⟨ah0, ch0, rfl, _⟩ := OO_h0.out.rd
    have Q_h0 := hid hq0; clear hq0
    have SM_h0 := hid (small_of Q_h0.out SM0.out)
    clear hb hc13_a0_0 hc13_x0_0 O13_u0 O13_mkg0 OO_0t
    go_wp2_with fail
    refine (eq2_b ah0 au0 h0 u0 ch0 cu0 _ true (by rw [Q_h0.out, Q_u0.out]; simp) (OwnM.rdm OO_h0.out) (OwnM.rdm O14_u0.out) SM_h0.out SM_u0.out).mono ?_
    rintro e v15 ⟨rfl, hd⟩
    have hb := hd.below v14.heap.size
    have hc15_a0_0 := cellB hb hc14_a0_0 (Nat.le_refl _)
    have hc15_x0_0 := cellB hb hc14_x0_0 (Nat.le_refl _)
    have O15_u0 := hid (O14_u0.out.past hb (Nat.le_refl _))
    have O15_mkg0 := hid (O14_mkg0.out.past hb (Nat.le_refl _))
    have O15_h0 := hid (OO_h0.out.past hb (Nat.le_refl _))
    have B15 := hid (B14.out.trans (hb.mono B14.out.size))
    have z15 : v14.heap.size ≤ v15.heap.size := by have := hb.size; simpa using this
    clear hd hb hc14_a0_0 hc14_x0_0 O14_u0 O14_mkg0 OO_h0
    go_wp2_with fail
    refine (held2_any ag0 g0 cg0 (1 : Int) _ (OwnM.rdm O15_mkg0.out) (small_len SM_g0.out) (small_total SM_g0.out) ml0.1 (by have := ml0.2; omega)).mono ?_
    rintro e w' ⟨rfl, rfl⟩
    go_wp2
    go_ret
    exact ⟨rfl, B15.out⟩
end Go.Proofs.YtggjmnihnjdoaaaDoor
