/- FnExactManyEdges: the walk of the law (written by wip/mklaw.py). -/
import Derived.Test.YtnlcmbelpdnffaaMany
import Derived.Deep.RegionHeld3
import Derived.Deep.RegionWith
namespace Go.Proofs.Ytnlcmbelpdnffaa
open Go.RowKit
set_option maxHeartbeats 4000000 in
theorem lawManyEdges_any (a0 : Option Addr) (rs0 : List Row) (c0 : Nat) (w : World) (hr0 : RdM w a0 rs0) (hl0 : rs0.length ≤ c0 ∧ c0 ≤ maxLen ∧ (a0 = none → c0 = 0)) :
    Calls Try.prog 11 #[.agg #[.slice a0 rs0.length c0]] w fun e w' => e = .returned (.bool true) ∧ Below w.heap.size w w' := by
  have HR0 := hid hr0; clear hr0
  have hn0 : rs0.length ≤ maxLen := Nat.le_trans hl0.1 hl0.2.1
  clear hl0
  obtain ⟨r, hres⟩ : ∃ r : Int, manyOf (nums rs0) = r := ⟨_, rfl⟩
  have HRES := hid hres; clear hres
  by_cases h0 : (sz2 rs0 1048576) < 0
  · go_enter Try.func11, Try.ntmps11
    have B0 := hid (alloc_below w (.cells #[.slice a0 rs0.length c0] 38))
    have hc0_0 : (w.alloc (.cells #[.slice a0 rs0.length c0] 38)).cell? ⟨w.heap.size, 0, none⟩ = some (.slice a0 rs0.length c0) := by simp [go_sem]
    go_wp2_with fail
    refine (szG_any a0 rs0 c0 1048576 _ hn0 (HR0.out.below B0.out (Nat.le_refl _)) (by decide) (by decide)).mono ?_
    rintro e v1 ⟨rfl, hb⟩
    have hc1_0 := cellB hb hc0_0 (Nat.le_refl _)
    have B1 := hid (B0.out.trans (hb.mono B0.out.size))
    clear hb hc0_0
    go_wp2
    go_ret
    exact ⟨rfl, B1.out⟩
  · have HS0 := hid (sz2_small rs0 1048576 (by decide) (by decide) (by omega)).1
    go_enter Try.func11, Try.ntmps11
    have B0 := hid (alloc_below w (.cells #[.slice a0 rs0.length c0] 38))
    have hc0_0 : (w.alloc (.cells #[.slice a0 rs0.length c0] 38)).cell? ⟨w.heap.size, 0, none⟩ = some (.slice a0 rs0.length c0) := by simp [go_sem]
    go_wp2_with fail
    refine (szG_any a0 rs0 c0 1048576 _ hn0 (HR0.out.below B0.out (Nat.le_refl _)) (by decide) (by decide)).mono ?_
    rintro e v1 ⟨rfl, hb⟩
    have hc1_0 := cellB hb hc0_0 (Nat.le_refl _)
    have B1 := hid (B0.out.trans (hb.mono B0.out.size))
    clear hb hc0_0
    go_wp2_with fail
    refine (toG_cp a0 rs0 c0 _ (HR0.out.below B1.out (Nat.le_refl _)) HS0.out).mono ?_
    rintro e v2 ⟨a0s, rs0s, c0s, rfl, C⟩
    have K0s := hid C; clear C
    have hc2_0 := cellB K0s.out.below hc1_0 (Nat.le_refl _)
    have B2 := hid (B1.out.trans (K0s.out.below.mono B1.out.size))
    clear hc1_0
    go_wp2_with fail
    refine (specManyEdges_b a0s rs0s c0s _ r (by rw [K0s.out.nums]; exact HRES.out) K0s.out.rd K0s.out.small).mono ?_
    rintro e v3 ⟨rfl, hb⟩
    have hc3_0 := cellB hb hc2_0 (Nat.le_refl _)
    have L3_0s := hid (K0s.out.rd.below hb (Nat.le_refl _))
    have B3 := hid (B2.out.trans (hb.mono B2.out.size))
    clear hb hc2_0
    go_wp2_with fail
    refine (toG_cp a0 rs0 c0 _ (HR0.out.below B3.out (Nat.le_refl _)) HS0.out).mono ?_
    rintro e v4 ⟨a0i, rs0i, c0i, rfl, C⟩
    have K0i := hid C; clear C
    have hc4_0 := cellB K0i.out.below hc3_0 (Nat.le_refl _)
    have B4 := hid (B3.out.trans (K0i.out.below.mono B3.out.size))
    clear hc3_0
    have hA := alloc_below v4 (.cells #[.slice a0i rs0i.length c0i] 41)
    have hxn : (v4.alloc (.cells #[.slice a0i rs0i.length c0i] 41)).cell? ⟨v4.heap.size, 0, none⟩ = some (.slice a0i rs0i.length c0i) := by simp [go_sem]
    have hc5_0 := cellB hA hc4_0 (Nat.le_refl _)
    have L5_0i := hid (K0i.out.rd.below hA (Nat.le_refl _))
    have B5 := hid (B4.out.trans (hA.mono B4.out.size))
    clear hA hc4_0
    have hx5_0 := hxn; clear hxn
    go_wp2_with fail
    refine (implManyEdges_b a0i rs0i c0i _ r (by rw [K0i.out.nums]; exact HRES.out) L5_0i.out K0i.out.small).mono ?_
    rintro e v6 ⟨rfl, hb⟩
    have hc6_0 := cellB hb hc5_0 (Nat.le_refl _)
    have hx6_0 := cellB hb hx5_0 (Nat.le_refl _)
    have L6_0i := hid (L5_0i.out.below hb (Nat.le_refl _))
    have B6 := hid (B5.out.trans (hb.mono B5.out.size))
    clear hb hc5_0 hx5_0
    have hne : (r != r) = false := by simp
    go_wp2_with fail
    have hrd := hid ((HR0.out.below B6.out (Nat.le_refl _)).drawn (⟨1, rfl⟩ : Drawn v6 v6.drew))
    have hxr := hid ((L6_0i.out).drawn (⟨1, rfl⟩ : Drawn v6 v6.drew))
    have f0 : v6.drew.cell? ⟨w.heap.size, 0, none⟩ = some (.slice a0 rs0.length c0) := hc6_0
    have f1 : v6.drew.cell? ⟨v4.heap.size, 0, none⟩ = some (.slice a0i rs0i.length c0i) := hx6_0
    have BD := hid B6.out.drew
    go_region_held3 (fun w' => w'.cell? ⟨w.heap.size, 0, none⟩ = some (.slice a0 rs0.length c0) ∧ w'.cell? ⟨v4.heap.size, 0, none⟩ = some (.slice a0i rs0i.length c0i)) (first | exact ⟨f0, f1⟩ | exact ⟨g0, g1⟩ | exact ⟨k0, k1⟩) ((first | (go_at_call 26; refine (toG_cp a0 rs0 c0 _ hrd.out HS0.out).mono ?_; rintro e v7 ⟨a0e, rs0e, c0e, rfl, C⟩; have g0 := cellB C.below f0 (Nat.le_refl _); have g1 := cellB C.below f1 (Nat.le_refl _); have hxr2 := hid (hxr.out.below C.below (Nat.le_refl _)); have BE := hid (BD.out.trans (C.below.mono BD.out.size)); have KE := hid C; clear C) | (go_at_call 28; refine (eqG_any a0i a0e rs0i rs0e c0i c0e v7 true (by rw [K0i.out.nums, KE.out.nums]; simp) hxr2.out KE.out.rd K0i.out.small KE.out.small).mono ?_; rintro e v8 ⟨rfl, hb⟩; have k0 := cellB hb g0 (Nat.le_refl _); have k1 := cellB hb g1 (Nat.le_refl _); have BF0 := hid (BE.out.trans (hb.mono BE.out.size)); clear hb)))
    clear f0 g0 f1 g1
    clear hrd hxr hxr2 BD BE KE 
    have kk0_0 := k0; clear k0
    have kk0_1 := k1; clear k1
    go_wp2
    go_ret
    exact ⟨rfl, BF0.out⟩
end Go.Proofs.Ytnlcmbelpdnffaa
