/- FnExactSameGraph: the walk of the law (written by wip/mklaw.py). -/
import Derived.Test.YtnlcmbelpdnffaaSame
import Derived.Deep.RegionHeld3
import Derived.Deep.RegionWith
namespace Go.Proofs.Ytnlcmbelpdnffaa
open Go.RowKit
set_option maxHeartbeats 4000000 in
theorem lawSameGraph_any (a0 : Option Addr) (rs0 : List Row) (c0 : Nat) (a1 : Option Addr) (rs1 : List Row) (c1 : Nat) (w : World) (hr0 : RdM w a0 rs0) (hl0 : rs0.length ≤ c0 ∧ c0 ≤ maxLen ∧ (a0 = none → c0 = 0)) (hr1 : RdM w a1 rs1) (hl1 : rs1.length ≤ c1 ∧ c1 ≤ maxLen ∧ (a1 = none → c1 = 0)) :
    Calls Try.prog 12 #[.agg #[.slice a0 rs0.length c0], .agg #[.slice a1 rs1.length c1]] w fun e w' => e = .returned (.bool true) ∧ Below w.heap.size w w' := by
  have HR0 := hid hr0; clear hr0
  have hn0 : rs0.length ≤ maxLen := Nat.le_trans hl0.1 hl0.2.1
  clear hl0
  have HR1 := hid hr1; clear hr1
  have hn1 : rs1.length ≤ maxLen := Nat.le_trans hl1.1 hl1.2.1
  clear hl1
  obtain ⟨r, hres⟩ : ∃ r : Bool, decide (SameP (nums rs0) (nums rs1)) = r := ⟨_, rfl⟩
  have HRES := hid hres; clear hres
  by_cases h0 : (sz2 rs0 1048576) < 0
  · go_enter Try.func12, Try.ntmps12
    have B0 := hid ((alloc_below w (.cells #[.slice a0 rs0.length c0] 38)).alloc (by simp) (.cells #[.slice a1 rs1.length c1] 38))
    have hc0_0 : ((w.alloc (.cells #[.slice a0 rs0.length c0] 38)).alloc (.cells #[.slice a1 rs1.length c1] 38)).cell? ⟨w.heap.size, 0, none⟩ = some (.slice a0 rs0.length c0) := by simp [go_sem]
    have hc0_1 : ((w.alloc (.cells #[.slice a0 rs0.length c0] 38)).alloc (.cells #[.slice a1 rs1.length c1] 38)).cell? ⟨w.heap.size + 1, 0, none⟩ = some (.slice a1 rs1.length c1) := by simp [go_sem]
    go_wp2_with fail
    refine (szG_any a0 rs0 c0 1048576 _ hn0 (HR0.out.below B0.out (Nat.le_refl _)) (by decide) (by decide)).mono ?_
    rintro e v1 ⟨rfl, hb⟩
    have hc1_0 := cellB hb hc0_0 (Nat.le_refl _)
    have hc1_1 := cellB hb hc0_1 (Nat.le_refl _)
    have B1 := hid (B0.out.trans (hb.mono B0.out.size))
    clear hb hc0_0 hc0_1
    go_wp2
    go_ret
    exact ⟨rfl, B1.out⟩
  · have HS0 := hid (sz2_small rs0 1048576 (by decide) (by decide) (by omega)).1
    have p1 : 0 ≤ (sz2 rs0 1048576) := by omega
    have q1 : (sz2 rs0 1048576) ≤ 1048576 := sz2_le rs0 1048576 (by decide) (by decide)
    by_cases h1 : (sz2 rs1 (sz2 rs0 1048576)) < 0
    · go_enter Try.func12, Try.ntmps12
      have B0 := hid ((alloc_below w (.cells #[.slice a0 rs0.length c0] 38)).alloc (by simp) (.cells #[.slice a1 rs1.length c1] 38))
      have hc0_0 : ((w.alloc (.cells #[.slice a0 rs0.length c0] 38)).alloc (.cells #[.slice a1 rs1.length c1] 38)).cell? ⟨w.heap.size, 0, none⟩ = some (.slice a0 rs0.length c0) := by simp [go_sem]
      have hc0_1 : ((w.alloc (.cells #[.slice a0 rs0.length c0] 38)).alloc (.cells #[.slice a1 rs1.length c1] 38)).cell? ⟨w.heap.size + 1, 0, none⟩ = some (.slice a1 rs1.length c1) := by simp [go_sem]
      go_wp2_with fail
      refine (szG_any a0 rs0 c0 1048576 _ hn0 (HR0.out.below B0.out (Nat.le_refl _)) (by decide) (by decide)).mono ?_
      rintro e v1 ⟨rfl, hb⟩
      have hc1_0 := cellB hb hc0_0 (Nat.le_refl _)
      have hc1_1 := cellB hb hc0_1 (Nat.le_refl _)
      have B1 := hid (B0.out.trans (hb.mono B0.out.size))
      clear hb hc0_0 hc0_1
      go_wp2_with fail
      refine (szG_any a1 rs1 c1 (sz2 rs0 1048576) _ hn1 (HR1.out.below B1.out (Nat.le_refl _)) p1 q1).mono ?_
      rintro e v2 ⟨rfl, hb⟩
      have hc2_0 := cellB hb hc1_0 (Nat.le_refl _)
      have hc2_1 := cellB hb hc1_1 (Nat.le_refl _)
      have B2 := hid (B1.out.trans (hb.mono B1.out.size))
      clear hb hc1_0 hc1_1
      go_wp2
      go_ret
      exact ⟨rfl, B2.out⟩
    · have HS1 := hid (sz2_small rs1 (sz2 rs0 1048576) p1 q1 (by omega)).1
      go_enter Try.func12, Try.ntmps12
      have B0 := hid ((alloc_below w (.cells #[.slice a0 rs0.length c0] 38)).alloc (by simp) (.cells #[.slice a1 rs1.length c1] 38))
      have hc0_0 : ((w.alloc (.cells #[.slice a0 rs0.length c0] 38)).alloc (.cells #[.slice a1 rs1.length c1] 38)).cell? ⟨w.heap.size, 0, none⟩ = some (.slice a0 rs0.length c0) := by simp [go_sem]
      have hc0_1 : ((w.alloc (.cells #[.slice a0 rs0.length c0] 38)).alloc (.cells #[.slice a1 rs1.length c1] 38)).cell? ⟨w.heap.size + 1, 0, none⟩ = some (.slice a1 rs1.length c1) := by simp [go_sem]
      go_wp2_with fail
      refine (szG_any a0 rs0 c0 1048576 _ hn0 (HR0.out.below B0.out (Nat.le_refl _)) (by decide) (by decide)).mono ?_
      rintro e v1 ⟨rfl, hb⟩
      have hc1_0 := cellB hb hc0_0 (Nat.le_refl _)
      have hc1_1 := cellB hb hc0_1 (Nat.le_refl _)
      have B1 := hid (B0.out.trans (hb.mono B0.out.size))
      clear hb hc0_0 hc0_1
      go_wp2_with fail
      refine (szG_any a1 rs1 c1 (sz2 rs0 1048576) _ hn1 (HR1.out.below B1.out (Nat.le_refl _)) p1 q1).mono ?_
      rintro e v2 ⟨rfl, hb⟩
      have hc2_0 := cellB hb hc1_0 (Nat.le_refl _)
      have hc2_1 := cellB hb hc1_1 (Nat.le_refl _)
      have B2 := hid (B1.out.trans (hb.mono B1.out.size))
      clear hb hc1_0 hc1_1
      go_wp2_with fail
      have f0 : v2.drew.cell? ⟨w.heap.size, 0, none⟩ = some (.slice a0 rs0.length c0) := hc2_0
      have f1 : v2.drew.cell? ⟨w.heap.size + 1, 0, none⟩ = some (.slice a1 rs1.length c1) := hc2_1
      have HRd0 := hid ((HR0.out.below B2.out (Nat.le_refl _)).drawn (⟨1, rfl⟩ : Drawn v2 v2.drew))
      have HRd1 := hid ((HR1.out.below B2.out (Nat.le_refl _)).drawn (⟨1, rfl⟩ : Drawn v2 v2.drew))
      have BD := hid B2.out.drew
      go_region_held3 (fun w' => w'.cell? ⟨w.heap.size, 0, none⟩ = some (.slice a0 rs0.length c0) ∧ w'.cell? ⟨w.heap.size + 1, 0, none⟩ = some (.slice a1 rs1.length c1)) (first | exact ⟨f0, f1⟩ | exact ⟨g0, g1⟩ | exact ⟨h0, h1⟩ | exact ⟨hc5_0, hc5_1⟩) ((first | (go_at_call_of 26 rs0; refine (toG_cp a0 rs0 c0 _ HRd0.out HS0.out).mono ?_; rintro e v3 ⟨a0s, rs0s, c0s, rfl, C⟩; have g0 := cellB C.below f0 (Nat.le_refl _); have g1 := cellB C.below f1 (Nat.le_refl _); have BE := hid (BD.out.trans (C.below.mono BD.out.size)); have HRe1 := hid (HRd1.out.below C.below (Nat.le_refl _)); have K0s := hid C; clear C) | (go_at_call_of 26 rs1; refine (toG_cp a1 rs1 c1 _ HRe1.out HS1.out).mono ?_; rintro e v4 ⟨a1s, rs1s, c1s, rfl, C⟩; have h0 := cellB C.below g0 (Nat.le_refl _); have h1 := cellB C.below g1 (Nat.le_refl _); have BF := hid (BE.out.trans (C.below.mono BE.out.size)); have LL := hid (K0s.out.rd.below C.below (Nat.le_refl _)); have K1s := hid C; clear C) | (go_at_call 41; refine (specSameGraph_b a0s rs0s c0s a1s rs1s c1s _ r (by rw [K0s.out.nums, K1s.out.nums]; exact HRES.out) LL.out K0s.out.small K1s.out.rd K1s.out.small).mono ?_; rintro e v5 ⟨rfl, hb⟩; have hc5_0 := cellB hb h0 (Nat.le_refl _); have hc5_1 := cellB hb h1 (Nat.le_refl _); have B5 := hid (BF.out.trans (hb.mono BF.out.size)); clear hb)))
      clear f0 f1 g0 g1 h0 h1 BD BE BF LL HRd0 HRd1 HRe1 hc2_0 hc2_1
      go_wp2_with fail
      refine (toG_cp a0 rs0 c0 _ (HR0.out.below B5.out (Nat.le_refl _)) HS0.out).mono ?_
      rintro e v6 ⟨a0i, rs0i, c0i, rfl, C⟩
      have K0i := hid C; clear C
      have hc6_0 := cellB K0i.out.below hc5_0 (Nat.le_refl _)
      have hc6_1 := cellB K0i.out.below hc5_1 (Nat.le_refl _)
      have B6 := hid (B5.out.trans (K0i.out.below.mono B5.out.size))
      clear hc5_0 hc5_1
      have hA := alloc_below v6 (.cells #[.slice a0i rs0i.length c0i] 41)
      have hxn : (v6.alloc (.cells #[.slice a0i rs0i.length c0i] 41)).cell? ⟨v6.heap.size, 0, none⟩ = some (.slice a0i rs0i.length c0i) := by simp [go_sem]
      have hc7_0 := cellB hA hc6_0 (Nat.le_refl _)
      have hc7_1 := cellB hA hc6_1 (Nat.le_refl _)
      have L7_0i := hid (K0i.out.rd.below hA (Nat.le_refl _))
      have B7 := hid (B6.out.trans (hA.mono B6.out.size))
      clear hA hc6_0 hc6_1
      have hx7_0 := hxn; clear hxn
      go_wp2_with fail
      refine (toG_cp a1 rs1 c1 _ (HR1.out.below B7.out (Nat.le_refl _)) HS1.out).mono ?_
      rintro e v8 ⟨a1i, rs1i, c1i, rfl, C⟩
      have K1i := hid C; clear C
      have hc8_0 := cellB K1i.out.below hc7_0 (Nat.le_refl _)
      have hc8_1 := cellB K1i.out.below hc7_1 (Nat.le_refl _)
      have hx8_0 := cellB K1i.out.below hx7_0 (Nat.le_refl _)
      have L8_0i := hid (L7_0i.out.below K1i.out.below (Nat.le_refl _))
      have B8 := hid (B7.out.trans (K1i.out.below.mono B7.out.size))
      clear hc7_0 hc7_1 hx7_0
      have hA := alloc_below v8 (.cells #[.slice a1i rs1i.length c1i] 41)
      have hxn : (v8.alloc (.cells #[.slice a1i rs1i.length c1i] 41)).cell? ⟨v8.heap.size, 0, none⟩ = some (.slice a1i rs1i.length c1i) := by simp [go_sem]
      have hc9_0 := cellB hA hc8_0 (Nat.le_refl _)
      have hc9_1 := cellB hA hc8_1 (Nat.le_refl _)
      have hx9_0 := cellB hA hx8_0 (Nat.le_refl _)
      have L9_0i := hid (L8_0i.out.below hA (Nat.le_refl _))
      have L9_1i := hid (K1i.out.rd.below hA (Nat.le_refl _))
      have B9 := hid (B8.out.trans (hA.mono B8.out.size))
      clear hA hc8_0 hc8_1 hx8_0
      have hx9_1 := hxn; clear hxn
      go_wp2_with fail
      refine (implSameGraph_b a0i rs0i c0i a1i rs1i c1i _ r (by rw [K0i.out.nums, K1i.out.nums]; exact HRES.out) L9_0i.out K0i.out.small L9_1i.out K1i.out.small).mono ?_
      rintro e v10 ⟨rfl, hb⟩
      have hc10_0 := cellB hb hc9_0 (Nat.le_refl _)
      have hc10_1 := cellB hb hc9_1 (Nat.le_refl _)
      have hx10_0 := cellB hb hx9_0 (Nat.le_refl _)
      have hx10_1 := cellB hb hx9_1 (Nat.le_refl _)
      have L10_0i := hid (L9_0i.out.below hb (Nat.le_refl _))
      have L10_1i := hid (L9_1i.out.below hb (Nat.le_refl _))
      have B10 := hid (B9.out.trans (hb.mono B9.out.size))
      clear hb hc9_0 hc9_1 hx9_0 hx9_1
      have hne : (r != r) = false := by cases r <;> rfl
      go_wp2_with fail
      have hrd := hid ((HR0.out.below B10.out (Nat.le_refl _)).drawn (⟨1, rfl⟩ : Drawn v10 v10.drew))
      have hxr := hid ((L10_0i.out).drawn (⟨1, rfl⟩ : Drawn v10 v10.drew))
      have f0 : v10.drew.cell? ⟨w.heap.size, 0, none⟩ = some (.slice a0 rs0.length c0) := hc10_0
      have f1 : v10.drew.cell? ⟨w.heap.size + 1, 0, none⟩ = some (.slice a1 rs1.length c1) := hc10_1
      have f2 : v10.drew.cell? ⟨v6.heap.size, 0, none⟩ = some (.slice a0i rs0i.length c0i) := hx10_0
      have f3 : v10.drew.cell? ⟨v8.heap.size, 0, none⟩ = some (.slice a1i rs1i.length c1i) := hx10_1
      have BD := hid B10.out.drew
      have M_1i := hid ((L10_1i.out).drawn (⟨1, rfl⟩ : Drawn v10 v10.drew))
      go_region_held3 (fun w' => w'.cell? ⟨w.heap.size, 0, none⟩ = some (.slice a0 rs0.length c0) ∧ w'.cell? ⟨w.heap.size + 1, 0, none⟩ = some (.slice a1 rs1.length c1) ∧ w'.cell? ⟨v6.heap.size, 0, none⟩ = some (.slice a0i rs0i.length c0i) ∧ w'.cell? ⟨v8.heap.size, 0, none⟩ = some (.slice a1i rs1i.length c1i)) (first | exact ⟨f0, f1, f2, f3⟩ | exact ⟨g0, g1, g2, g3⟩ | exact ⟨k0, k1, k2, k3⟩) ((first | (go_at_call 26; refine (toG_cp a0 rs0 c0 _ hrd.out HS0.out).mono ?_; rintro e v11 ⟨a0e, rs0e, c0e, rfl, C⟩; have g0 := cellB C.below f0 (Nat.le_refl _); have g1 := cellB C.below f1 (Nat.le_refl _); have g2 := cellB C.below f2 (Nat.le_refl _); have g3 := cellB C.below f3 (Nat.le_refl _); have hxr2 := hid (hxr.out.below C.below (Nat.le_refl _)); have BE := hid (BD.out.trans (C.below.mono BD.out.size)); have N_1i := hid (M_1i.out.below C.below (Nat.le_refl _)); have KE := hid C; clear C) | (go_at_call 28; refine (eqG_any a0i a0e rs0i rs0e c0i c0e v11 true (by rw [K0i.out.nums, KE.out.nums]; simp) hxr2.out KE.out.rd K0i.out.small KE.out.small).mono ?_; rintro e v12 ⟨rfl, hb⟩; have k0 := cellB hb g0 (Nat.le_refl _); have k1 := cellB hb g1 (Nat.le_refl _); have k2 := cellB hb g2 (Nat.le_refl _); have k3 := cellB hb g3 (Nat.le_refl _); have BF0 := hid (BE.out.trans (hb.mono BE.out.size)); have O0_1i := hid (N_1i.out.below hb (Nat.le_refl _)); clear hb)))
      clear f0 g0 f1 g1 f2 g2 f3 g3
      clear hrd hxr hxr2 BD BE KE M_1i N_1i
      have kk0_0 := k0; clear k0
      have kk0_1 := k1; clear k1
      have kk0_2 := k2; clear k2
      have kk0_3 := k3; clear k3
      go_wp2_with fail
      have hrd := hid ((HR1.out.below BF0.out (Nat.le_refl _)).drawn (⟨1, rfl⟩ : Drawn v12 v12.drew))
      have hxr := hid ((O0_1i.out).drawn (⟨1, rfl⟩ : Drawn v12 v12.drew))
      have f0 : v12.drew.cell? ⟨w.heap.size, 0, none⟩ = some (.slice a0 rs0.length c0) := kk0_0
      have f1 : v12.drew.cell? ⟨w.heap.size + 1, 0, none⟩ = some (.slice a1 rs1.length c1) := kk0_1
      have f2 : v12.drew.cell? ⟨v6.heap.size, 0, none⟩ = some (.slice a0i rs0i.length c0i) := kk0_2
      have f3 : v12.drew.cell? ⟨v8.heap.size, 0, none⟩ = some (.slice a1i rs1i.length c1i) := kk0_3
      have BD := hid BF0.out.drew
      go_region_held3 (fun w' => w'.cell? ⟨w.heap.size, 0, none⟩ = some (.slice a0 rs0.length c0) ∧ w'.cell? ⟨w.heap.size + 1, 0, none⟩ = some (.slice a1 rs1.length c1) ∧ w'.cell? ⟨v6.heap.size, 0, none⟩ = some (.slice a0i rs0i.length c0i) ∧ w'.cell? ⟨v8.heap.size, 0, none⟩ = some (.slice a1i rs1i.length c1i)) (first | exact ⟨f0, f1, f2, f3⟩ | exact ⟨g0, g1, g2, g3⟩ | exact ⟨k0, k1, k2, k3⟩) ((first | (go_at_call 26; refine (toG_cp a1 rs1 c1 _ hrd.out HS1.out).mono ?_; rintro e v13 ⟨a1e, rs1e, c1e, rfl, C⟩; have g0 := cellB C.below f0 (Nat.le_refl _); have g1 := cellB C.below f1 (Nat.le_refl _); have g2 := cellB C.below f2 (Nat.le_refl _); have g3 := cellB C.below f3 (Nat.le_refl _); have hxr2 := hid (hxr.out.below C.below (Nat.le_refl _)); have BE := hid (BD.out.trans (C.below.mono BD.out.size)); have KE := hid C; clear C) | (go_at_call 28; refine (eqG_any a1i a1e rs1i rs1e c1i c1e v13 true (by rw [K1i.out.nums, KE.out.nums]; simp) hxr2.out KE.out.rd K1i.out.small KE.out.small).mono ?_; rintro e v14 ⟨rfl, hb⟩; have k0 := cellB hb g0 (Nat.le_refl _); have k1 := cellB hb g1 (Nat.le_refl _); have k2 := cellB hb g2 (Nat.le_refl _); have k3 := cellB hb g3 (Nat.le_refl _); have BF1 := hid (BE.out.trans (hb.mono BE.out.size)); clear hb)))
      clear f0 g0 f1 g1 f2 g2 f3 g3
      clear hrd hxr hxr2 BD BE KE 
      have kk1_0 := k0; clear k0
      have kk1_1 := k1; clear k1
      have kk1_2 := k2; clear k2
      have kk1_3 := k3; clear k3
      go_wp2
      go_ret
      exact ⟨rfl, BF1.out⟩
end Go.Proofs.Ytnlcmbelpdnffaa
