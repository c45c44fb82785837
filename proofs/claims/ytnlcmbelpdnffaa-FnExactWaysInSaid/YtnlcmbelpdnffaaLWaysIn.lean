/- FnExactWaysIn: the walk of the law (written by wip/mklaw2.py). -/
import Derived.Test.YtnlcmbelpdnffaaWays3
import Derived.Test.YtnlcmbelpdnffaaDec
import Derived.Deep.RegionHeld3
import Derived.Deep.RegionWith
namespace Go.Proofs.Ytnlcmbelpdnffaa
open Go.RowKit
set_option maxHeartbeats 8000000 in
theorem lawWaysIn_any (a0 : Option Addr) (rs0 : List Row) (c0 : Nat) (b0 : Option Addr) (qs0 : List Row) (e0 : Nat) (w : World) (hr0 : RdM w a0 rs0) (hl0 : rs0.length ≤ c0 ∧ c0 ≤ maxLen ∧ (a0 = none → c0 = 0)) (hq0 : RdM w b0 qs0) (hm0 : qs0.length ≤ e0 ∧ e0 ≤ maxLen ∧ (b0 = none → e0 = 0)) :
    Calls Try.prog 9 #[.agg #[.slice a0 rs0.length c0, .slice b0 qs0.length e0]] w fun e w' => e = .returned (.bool true) ∧ Below w.heap.size w w' := by
  have HR0 := hid hr0; clear hr0
  have hn0 : rs0.length ≤ maxLen := Nat.le_trans hl0.1 hl0.2.1; clear hl0
  have HQ0 := hid hq0; clear hq0
  have hmn0 : qs0.length ≤ maxLen := Nat.le_trans hm0.1 hm0.2.1; clear hm0
  obtain ⟨res0, hres⟩ : ∃ r : Bool, decide (WaysP ((nums rs0)).length (nums qs0)) = r := ⟨_, rfl⟩
  have HRES0 := hid hres; clear hres
  by_cases h0 : (szD rs0 qs0 1048576) < 0
  · go_enter Try.func9, Try.ntmps9
    have B0 := hid (alloc_below w (.cells #[.slice a0 rs0.length c0, .slice b0 qs0.length e0] 30))
    have hc0_0_0 : (w.alloc (.cells #[.slice a0 rs0.length c0, .slice b0 qs0.length e0] 30)).cell? ⟨w.heap.size, 0, none⟩ = some (.slice a0 rs0.length c0) := by simp [go_sem]
    have hc0_0_1 : (w.alloc (.cells #[.slice a0 rs0.length c0, .slice b0 qs0.length e0] 30)).cell? ⟨w.heap.size, 1, none⟩ = some (.slice b0 qs0.length e0) := by simp [go_sem]
    go_wp2_with fail
    refine (szD_any a0 rs0 c0 b0 qs0 e0 1048576 _ hn0 hmn0 (HR0.out.below B0.out (Nat.le_refl _)) (HQ0.out.below B0.out (Nat.le_refl _)) (by decide) (by decide)).mono ?_
    rintro e v1 ⟨rfl, hb⟩
    have hc1_a0_0 := cellB hb hc0_0_0 (Nat.le_refl _)
    have hc1_a0_1 := cellB hb hc0_0_1 (Nat.le_refl _)
    have B1 := hid (B0.out.trans (hb.mono B0.out.size))
    have z1 : w.heap.size + 1 ≤ v1.heap.size := by have := hb.size; simpa using this
    clear hb hc0_0_0 hc0_0_1
    go_wp2
    go_ret
    exact ⟨rfl, B1.out⟩
  · have HSD0 := hid (szD_small rs0 qs0 1048576 (by decide) (by decide) h0)
    have HS0 := hid HSD0.out.1.1; have HT0 := hid HSD0.out.2.1
    go_enter Try.func9, Try.ntmps9
    have B0 := hid (alloc_below w (.cells #[.slice a0 rs0.length c0, .slice b0 qs0.length e0] 30))
    have hc0_0_0 : (w.alloc (.cells #[.slice a0 rs0.length c0, .slice b0 qs0.length e0] 30)).cell? ⟨w.heap.size, 0, none⟩ = some (.slice a0 rs0.length c0) := by simp [go_sem]
    have hc0_0_1 : (w.alloc (.cells #[.slice a0 rs0.length c0, .slice b0 qs0.length e0] 30)).cell? ⟨w.heap.size, 1, none⟩ = some (.slice b0 qs0.length e0) := by simp [go_sem]
    go_wp2_with fail
    refine (szD_any a0 rs0 c0 b0 qs0 e0 1048576 _ hn0 hmn0 (HR0.out.below B0.out (Nat.le_refl _)) (HQ0.out.below B0.out (Nat.le_refl _)) (by decide) (by decide)).mono ?_
    rintro e v1 ⟨rfl, hb⟩
    have hc1_a0_0 := cellB hb hc0_0_0 (Nat.le_refl _)
    have hc1_a0_1 := cellB hb hc0_0_1 (Nat.le_refl _)
    have B1 := hid (B0.out.trans (hb.mono B0.out.size))
    have z1 : w.heap.size + 1 ≤ v1.heap.size := by have := hb.size; simpa using this
    clear hb hc0_0_0 hc0_0_1
    go_wp2_with fail
    refine (toD_cp a0 rs0 c0 b0 qs0 e0 _ (HR0.out.below B1.out (Nat.le_refl _)) HS0.out (HQ0.out.below B1.out (Nat.le_refl _)) HT0.out).mono ?_
    rintro e v2 ⟨a0s, rs0s, c0s, b0s, qs0s, e0s, rfl, C⟩
    have K0s := hid C; clear C
    have hc2_a0_0 := cellB K0s.out.below hc1_a0_0 (Nat.le_refl _)
    have hc2_a0_1 := cellB K0s.out.below hc1_a0_1 (Nat.le_refl _)
    have B2 := hid (B1.out.trans (K0s.out.below.mono B1.out.size))
    have z2 : v1.heap.size ≤ v2.heap.size := by have := K0s.out.below.size; simpa using this
    clear hc1_a0_0 hc1_a0_1
    have OO_0s := hid K0s.out.own
    have KB_0s := hid (OO_0s.out.blocks)
    have OO_0sq := hid K0s.out.own2
    have KB_0sq := hid (OO_0sq.out.blocks)
    go_wp2_with fail
    refine (specWaysIn_c a0s rs0s c0s b0s qs0s e0s _ res0 (by rw [K0s.out.nums, K0s.out.nums2]; exact HRES0.out) (OwnM.rdm OO_0s.out) K0s.out.small (OwnM.rdm OO_0sq.out) K0s.out.small2).mono ?_
    rintro e v3 ⟨rfl, hb⟩
    have hc3_a0_0 := cellB hb hc2_a0_0 (Nat.le_refl _)
    have hc3_a0_1 := cellB hb hc2_a0_1 (Nat.le_refl _)
    have O3_0s := hid (OO_0s.out.past hb (Nat.le_refl _))
    have O3_0sq := hid (OO_0sq.out.past hb (Nat.le_refl _))
    have B3 := hid (B2.out.trans (hb.mono B2.out.size))
    have z3 : v2.heap.size ≤ v3.heap.size := by have := hb.size; simpa using this
    clear hb hc2_a0_0 hc2_a0_1 OO_0s OO_0sq
    go_wp2_with fail
    refine (toD_cp a0 rs0 c0 b0 qs0 e0 _ (HR0.out.below B3.out (Nat.le_refl _)) HS0.out (HQ0.out.below B3.out (Nat.le_refl _)) HT0.out).mono ?_
    rintro e v4 ⟨a0i, rs0i, c0i, b0i, qs0i, e0i, rfl, C⟩
    have K0i := hid C; clear C
    have hc4_a0_0 := cellB K0i.out.below hc3_a0_0 (Nat.le_refl _)
    have hc4_a0_1 := cellB K0i.out.below hc3_a0_1 (Nat.le_refl _)
    have B4 := hid (B3.out.trans (K0i.out.below.mono B3.out.size))
    have z4 : v3.heap.size ≤ v4.heap.size := by have := K0i.out.below.size; simpa using this
    clear hc3_a0_0 hc3_a0_1
    have OO_0i := hid K0i.out.own
    have KB_0i := hid (OO_0i.out.blocks)
    have OO_0iq := hid K0i.out.own2
    have KB_0iq := hid (OO_0iq.out.blocks)
    have hA := alloc_below v4 (.cells #[.slice a0i rs0i.length c0i, .slice b0i qs0i.length e0i] 33)
    have hxn0 : (v4.alloc (.cells #[.slice a0i rs0i.length c0i, .slice b0i qs0i.length e0i] 33)).cell? ⟨v4.heap.size, 0, none⟩ = some (.slice a0i rs0i.length c0i) := by simp [go_sem]
    have hxn1 : (v4.alloc (.cells #[.slice a0i rs0i.length c0i, .slice b0i qs0i.length e0i] 33)).cell? ⟨v4.heap.size, 1, none⟩ = some (.slice b0i qs0i.length e0i) := by simp [go_sem]
    have hc5_a0_0 := cellB hA hc4_a0_0 (Nat.le_refl _)
    have hc5_a0_1 := cellB hA hc4_a0_1 (Nat.le_refl _)
    have O5_0i := hid (OO_0i.out.past hA (Nat.le_refl _))
    have O5_0iq := hid (OO_0iq.out.past hA (Nat.le_refl _))
    have B5 := hid (B4.out.trans (hA.mono B4.out.size))
    clear hA hc4_a0_0 hc4_a0_1 OO_0i OO_0iq
    have hx5_0_0 := hxn0; clear hxn0
    have hx5_0_1 := hxn1; clear hxn1
    go_wp2_with fail
    refine (implWaysIn_c a0i rs0i c0i b0i qs0i e0i _ res0 (by rw [K0i.out.nums, K0i.out.nums2]; exact HRES0.out) (OwnM.rdm O5_0i.out) K0i.out.small (OwnM.rdm O5_0iq.out) K0i.out.small2).mono ?_
    rintro e v6 ⟨rfl, hb⟩
    have hc6_a0_0 := cellB hb hc5_a0_0 (Nat.le_refl _)
    have hc6_a0_1 := cellB hb hc5_a0_1 (Nat.le_refl _)
    have hc6_x0_0 := cellB hb hx5_0_0 (Nat.le_refl _)
    have hc6_x0_1 := cellB hb hx5_0_1 (Nat.le_refl _)
    have O6_0i := hid (O5_0i.out.past hb (Nat.le_refl _))
    have O6_0iq := hid (O5_0iq.out.past hb (Nat.le_refl _))
    have B6 := hid (B5.out.trans (hb.mono B5.out.size))
    have z6 : v4.heap.size + 1 ≤ v6.heap.size := by have := hb.size; simpa using this
    clear hb hc5_a0_0 hc5_a0_1 hx5_0_0 hx5_0_1 O5_0i O5_0iq
    have hne0 : (res0 != res0) = false := by cases res0 <;> rfl
    go_wp2_with fail
    have hrd := hid ((HR0.out.below B6.out (Nat.le_refl _)).drawn (⟨1, rfl⟩ : Drawn v6 v6.drew))
    have hqd := hid ((HQ0.out.below B6.out (Nat.le_refl _)).drawn (⟨1, rfl⟩ : Drawn v6 v6.drew))
    have f0 : v6.drew.cell? ⟨w.heap.size, 0, none⟩ = some (.slice a0 rs0.length c0) := hc6_a0_0
    have f1 : v6.drew.cell? ⟨w.heap.size, 1, none⟩ = some (.slice b0 qs0.length e0) := hc6_a0_1
    have f2 : v6.drew.cell? ⟨v4.heap.size, 0, none⟩ = some (.slice a0i rs0i.length c0i) := hc6_x0_0
    have f3 : v6.drew.cell? ⟨v4.heap.size, 1, none⟩ = some (.slice b0i qs0i.length e0i) := hc6_x0_1
    have BD := hid B6.out.drew
    have M_0i := hid (O6_0i.out.past (Drawn.below (⟨1, rfl⟩ : Drawn v6 v6.drew) v6.heap.size) (Nat.le_refl _))
    have M_0iq := hid (O6_0iq.out.past (Drawn.below (⟨1, rfl⟩ : Drawn v6 v6.drew) v6.heap.size) (Nat.le_refl _))
    go_region_held3 (fun w' => w'.cell? ⟨w.heap.size, 0, none⟩ = some (.slice a0 rs0.length c0) ∧ w'.cell? ⟨w.heap.size, 1, none⟩ = some (.slice b0 qs0.length e0) ∧ w'.cell? ⟨v4.heap.size, 0, none⟩ = some (.slice a0i rs0i.length c0i) ∧ w'.cell? ⟨v4.heap.size, 1, none⟩ = some (.slice b0i qs0i.length e0i)) (first | exact ⟨f0, f1, f2, f3⟩ | exact ⟨g0, g1, g2, g3⟩ | exact ⟨hc8_a0_0, hc8_a0_1, hc8_x0_0, hc8_x0_1⟩) ((first | (go_at_call 21; refine (toD_cp a0 rs0 c0 b0 qs0 e0 _ hrd.out HS0.out hqd.out HT0.out).mono ?_; rintro e v7 ⟨a0e, rs0e, c0e, b0e, qs0e, e0e, rfl, C⟩; have g0 := cellB C.below f0 (Nat.le_refl _); have g1 := cellB C.below f1 (Nat.le_refl _); have g2 := cellB C.below f2 (Nat.le_refl _); have g3 := cellB C.below f3 (Nat.le_refl _); have BE := hid (BD.out.trans (C.below.mono BD.out.size)); have N_0i := hid (M_0i.out.past C.below (Nat.le_refl _)); have N_0iq := hid (M_0iq.out.past C.below (Nat.le_refl _)); have ze : v6.heap.size ≤ v7.heap.size := C.below.size; have KE := hid C; clear C) | (go_at_call 23; refine (eqD_t a0i a0e b0i b0e rs0i rs0e qs0i qs0e c0i c0e e0i e0e v7 (K0i.out.nums.trans KE.out.nums.symm) (K0i.out.nums2.trans KE.out.nums2.symm) (OwnM.rdm N_0i.out) KE.out.rd (OwnM.rdm N_0iq.out) KE.out.rd2 K0i.out.small KE.out.small K0i.out.small2 KE.out.small2).mono ?_; rintro e v8 ⟨rfl, hb⟩; have hc8_a0_0 := cellB hb g0 (Nat.le_refl _); have hc8_a0_1 := cellB hb g1 (Nat.le_refl _); have hc8_x0_0 := cellB hb g2 (Nat.le_refl _); have hc8_x0_1 := cellB hb g3 (Nat.le_refl _); have B8 := hid (BE.out.trans (hb.mono BE.out.size)); have O8_0i := hid (N_0i.out.past hb (Nat.le_refl _)); have O8_0iq := hid (N_0iq.out.past hb (Nat.le_refl _)); have z8 : v6.heap.size ≤ v8.heap.size := Nat.le_trans ze hb.size; clear hb)))
    clear hrd BD BE ze KE hqd f0 g0 f1 g1 f2 g2 f3 g3 M_0i N_0i M_0iq N_0iq
    clear hc6_a0_0 hc6_a0_1 hc6_x0_0 hc6_x0_1 O6_0i O6_0iq
    go_wp2
    go_ret
    exact ⟨rfl, B8.out⟩
end Go.Proofs.Ytnlcmbelpdnffaa
