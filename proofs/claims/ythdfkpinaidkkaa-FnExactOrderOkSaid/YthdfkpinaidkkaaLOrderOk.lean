/- FnExactOrderOk: the walk of the law (written by wip/mklaw.py). -/
import Derived.Test.YthdfkpinaidkkaaOrdS
import Derived.Deep.RegionHeld3
import Derived.Deep.RegionWith
namespace Go.Proofs.Ythdfkpinaidkkaa
open Go.RowKit
set_option maxHeartbeats 4000000 in
theorem lawOrderOk_any (a0 : Option Addr) (rs0 : List Row) (c0 : Nat) (a1 : Option Addr) (zs1 : List Int) (c1 : Nat) (w : World) (hr0 : RdM w a0 rs0) (hl0 : rs0.length ≤ c0 ∧ c0 ≤ maxLen ∧ (a0 = none → c0 = 0)) (hr1 : Rd (Value.int .i64) w a1 zs1) (hl1 : zs1.length ≤ c1 ∧ c1 ≤ maxLen ∧ (a1 = none → c1 = 0)) :
    Calls Try.prog 8 #[.agg #[.slice a0 rs0.length c0], .slice a1 zs1.length c1] w fun e w' => e = .returned (.bool true) ∧ Below w.heap.size w w' := by
  have HR0 := hid hr0; clear hr0
  have hn0 : rs0.length ≤ maxLen := Nat.le_trans hl0.1 hl0.2.1
  clear hl0
  have HR1 := hid hr1; clear hr1
  have hn1 : zs1.length ≤ maxLen := Nat.le_trans hl1.1 hl1.2.1
  clear hl1
  obtain ⟨r, hres⟩ : ∃ r : Bool, decide (OrdP (nums rs0) zs1) = r := ⟨_, rfl⟩
  have HRES := hid hres; clear hres
  by_cases hs1 : 1048576 < zs1.length
  · go_enter Try.func8, Try.ntmps8
    have B0 := hid (alloc_below w (.cells #[.slice a0 rs0.length c0] 24))
    have hc0_0 : (w.alloc (.cells #[.slice a0 rs0.length c0] 24)).cell? ⟨w.heap.size, 0, none⟩ = some (.slice a0 rs0.length c0) := by simp [go_sem]
    go_wp2
    go_ret
    exact ⟨rfl, B0.out⟩
  · have HS1 := hid (show zs1.length ≤ 1048576 by omega)
    by_cases h0 : (sz2 rs0 1048576) < 0
    · go_enter Try.func8, Try.ntmps8
      have B0 := hid (alloc_below w (.cells #[.slice a0 rs0.length c0] 24))
      have hc0_0 : (w.alloc (.cells #[.slice a0 rs0.length c0] 24)).cell? ⟨w.heap.size, 0, none⟩ = some (.slice a0 rs0.length c0) := by simp [go_sem]
      go_wp2_with fail
      refine (szG_any a0 rs0 c0 1048576 _ hn0 (HR0.out.below B0.out (Nat.le_refl _)) (by decide) (by decide)).mono ?_
      rintro e v1 ⟨rfl, hb⟩
      have hc1_0 := cellB hb hc0_0 (Nat.le_refl _)
      have B1 := hid (B0.out.trans (hb.mono B0.out.size))
      clear hb hc0_0
      go_wp2
      go_ret
      exact ⟨rfl, B1.out⟩
    · have HS0 := hid (sz2_small rs0 1048576 (by decide) (by decide) (by omega)).1
      go_enter Try.func8, Try.ntmps8
      have B0 := hid (alloc_below w (.cells #[.slice a0 rs0.length c0] 24))
      have hc0_0 : (w.alloc (.cells #[.slice a0 rs0.length c0] 24)).cell? ⟨w.heap.size, 0, none⟩ = some (.slice a0 rs0.length c0) := by simp [go_sem]
      go_wp2_with fail
      refine (szG_any a0 rs0 c0 1048576 _ hn0 (HR0.out.below B0.out (Nat.le_refl _)) (by decide) (by decide)).mono ?_
      rintro e v1 ⟨rfl, hb⟩
      have hc1_0 := cellB hb hc0_0 (Nat.le_refl _)
      have B1 := hid (B0.out.trans (hb.mono B0.out.size))
      clear hb hc0_0
      go_wp2_with fail
      refine (toG_cp a0 rs0 c0 _ (HR0.out.below B1.out (Nat.le_refl _)) HS0.out).mono ?_
      rintro e v2 ⟨a0s, rs0s, c0s, rfl, C⟩
      have K0s := hid C; clear C
      have hc2_0 := cellB K0s.out.below hc1_0 (Nat.le_refl _)
      have B2 := hid (B1.out.trans (K0s.out.below.mono B1.out.size))
      clear hc1_0
      go_wp2_with fail
      refine (to1_cp a1 zs1 c1 _ (HR1.out.below B2.out (Nat.le_refl _)) HS1.out).mono ?_
      rintro e v3 ⟨a1s, c1s, rfl, C⟩
      have K1s := hid C; clear C
      have hc3_0 := cellB K1s.out.below hc2_0 (Nat.le_refl _)
      have L3_0s := hid (K0s.out.rd.below K1s.out.below (Nat.le_refl _))
      have B3 := hid (B2.out.trans (K1s.out.below.mono B2.out.size))
      clear hc2_0
      go_wp2_with fail
      refine (specOrderOk_b a0s rs0s c0s a1s zs1 c1s _ r (by rw [K0s.out.nums]; exact HRES.out) L3_0s.out K0s.out.small K1s.out.rd HS1.out K1s.out.cap.1).mono ?_
      rintro e v4 ⟨rfl, hb⟩
      have hc4_0 := cellB hb hc3_0 (Nat.le_refl _)
      have L4_0s := hid (L3_0s.out.below hb (Nat.le_refl _))
      have L4_1s := hid (K1s.out.rd.below hb (Nat.le_refl _))
      have B4 := hid (B3.out.trans (hb.mono B3.out.size))
      clear hb hc3_0
      go_wp2_with fail
      refine (toG_cp a0 rs0 c0 _ (HR0.out.below B4.out (Nat.le_refl _)) HS0.out).mono ?_
      rintro e v5 ⟨a0i, rs0i, c0i, rfl, C⟩
      have K0i := hid C; clear C
      have hc5_0 := cellB K0i.out.below hc4_0 (Nat.le_refl _)
      have B5 := hid (B4.out.trans (K0i.out.below.mono B4.out.size))
      clear hc4_0
      have hA := alloc_below v5 (.cells #[.slice a0i rs0i.length c0i] 27)
      have hxn : (v5.alloc (.cells #[.slice a0i rs0i.length c0i] 27)).cell? ⟨v5.heap.size, 0, none⟩ = some (.slice a0i rs0i.length c0i) := by simp [go_sem]
      have hc6_0 := cellB hA hc5_0 (Nat.le_refl _)
      have L6_0i := hid (K0i.out.rd.below hA (Nat.le_refl _))
      have B6 := hid (B5.out.trans (hA.mono B5.out.size))
      clear hA hc5_0
      have hx6_0 := hxn; clear hxn
      go_wp2_with fail
      refine (to1_cp a1 zs1 c1 _ (HR1.out.below B6.out (Nat.le_refl _)) HS1.out).mono ?_
      rintro e v7 ⟨a1i, c1i, rfl, C⟩
      have K1i := hid C; clear C
      have hc7_0 := cellB K1i.out.below hc6_0 (Nat.le_refl _)
      have hx7_0 := cellB K1i.out.below hx6_0 (Nat.le_refl _)
      have L7_0i := hid (L6_0i.out.below K1i.out.below (Nat.le_refl _))
      have B7 := hid (B6.out.trans (K1i.out.below.mono B6.out.size))
      clear hc6_0 hx6_0
      go_wp2_with fail
      refine (implOrderOk_b a0i rs0i c0i a1i zs1 c1i _ r (by rw [K0i.out.nums]; exact HRES.out) L7_0i.out K0i.out.small K1i.out.rd HS1.out K1i.out.cap.1).mono ?_
      rintro e v8 ⟨rfl, hb⟩
      have hc8_0 := cellB hb hc7_0 (Nat.le_refl _)
      have hx8_0 := cellB hb hx7_0 (Nat.le_refl _)
      have L8_0i := hid (L7_0i.out.below hb (Nat.le_refl _))
      have L8_1i := hid (K1i.out.rd.below hb (Nat.le_refl _))
      have B8 := hid (B7.out.trans (hb.mono B7.out.size))
      clear hb hc7_0 hx7_0
      have hne : (r != r) = false := by cases r <;> rfl
      go_wp2_with fail
      have hrd := hid ((HR0.out.below B8.out (Nat.le_refl _)).drawn (⟨1, rfl⟩ : Drawn v8 v8.drew))
      have hxr := hid ((L8_0i.out).drawn (⟨1, rfl⟩ : Drawn v8 v8.drew))
      have f0 : v8.drew.cell? ⟨w.heap.size, 0, none⟩ = some (.slice a0 rs0.length c0) := hc8_0
      have f1 : v8.drew.cell? ⟨v5.heap.size, 0, none⟩ = some (.slice a0i rs0i.length c0i) := hx8_0
      have BD := hid B8.out.drew
      have M_1i := hid ((L8_1i.out).drawn (⟨1, rfl⟩ : Drawn v8 v8.drew))
      go_region_held3 (fun w' => w'.cell? ⟨w.heap.size, 0, none⟩ = some (.slice a0 rs0.length c0) ∧ w'.cell? ⟨v5.heap.size, 0, none⟩ = some (.slice a0i rs0i.length c0i)) (first | exact ⟨f0, f1⟩ | exact ⟨g0, g1⟩ | exact ⟨k0, k1⟩) ((first | (go_at_call 12; refine (toG_cp a0 rs0 c0 _ hrd.out HS0.out).mono ?_; rintro e v9 ⟨a0e, rs0e, c0e, rfl, C⟩; have g0 := cellB C.below f0 (Nat.le_refl _); have g1 := cellB C.below f1 (Nat.le_refl _); have hxr2 := hid (hxr.out.below C.below (Nat.le_refl _)); have BE := hid (BD.out.trans (C.below.mono BD.out.size)); have N_1i := hid (M_1i.out.below C.below (Nat.le_refl _)); have KE := hid C; clear C) | (go_at_call 14; refine (eqG_any a0i a0e rs0i rs0e c0i c0e v9 true (by rw [K0i.out.nums, KE.out.nums]; simp) hxr2.out KE.out.rd K0i.out.small KE.out.small).mono ?_; rintro e v10 ⟨rfl, hb⟩; have k0 := cellB hb g0 (Nat.le_refl _); have k1 := cellB hb g1 (Nat.le_refl _); have BF0 := hid (BE.out.trans (hb.mono BE.out.size)); have O0_1i := hid (N_1i.out.below hb (Nat.le_refl _)); clear hb)))
      clear f0 g0 f1 g1
      clear hrd hxr hxr2 BD BE KE M_1i N_1i
      have kk0_0 := k0; clear k0
      have kk0_1 := k1; clear k1
      go_wp2_with fail
      refine (to1_cp a1 zs1 c1 _ (HR1.out.below BF0.out (Nat.le_refl _)) HS1.out).mono ?_
      rintro e v11 ⟨a1e, c1e, rfl, C⟩
      have K1e := hid C; clear C
      have hc11_0 := cellB K1e.out.below kk0_0 (Nat.le_refl _)
      have hx11_0 := cellB K1e.out.below kk0_1 (Nat.le_refl _)
      have L11_1i := hid (O0_1i.out.below K1e.out.below (Nat.le_refl _))
      have B11 := hid (BF0.out.trans (K1e.out.below.mono BF0.out.size))
      clear kk0_0 kk0_1
      go_wp2_with fail
      refine (eq1_b a1i a1e zs1 zs1 c1i c1e _ true (by simp) L11_1i.out K1e.out.rd (Nat.le_trans HS1.out (by decide)) (Nat.le_trans HS1.out (by decide))).mono ?_
      rintro e v12 ⟨rfl, hd⟩
      have hc12_0 := cellB (hd.below _) hc11_0 (Nat.le_refl _)
      have hx12_0 := cellB (hd.below _) hx11_0 (Nat.le_refl _)
      have B12 := hid (B11.out.trans ((hd.below _).mono B11.out.size))
      clear hd hc11_0 hx11_0
      go_wp2
      go_ret
      exact ⟨rfl, B12.out⟩
end Go.Proofs.Ythdfkpinaidkkaa
