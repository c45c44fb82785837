/- FnExactPermutationIn: the walk of the law (written by wip/mklaw2.py). -/
import Derived.Test.YtggjmnihnjdoaaaDoorGr
import Derived.Test.YtggjmnihnjdoaaaDoorPermS
import Derived.Deep.RegionHeld3
import Derived.Deep.RegionWith
import Derived.MapKept
namespace Go.Proofs.YtggjmnihnjdoaaaDoor
open Go.RowKit
set_option maxHeartbeats 8000000 in
theorem lawPermutationIn_any (a0 : Option Addr) (rs0 : List Row) (c0 : Nat) (w : World) (hr0 : RdM w a0 rs0) (hl0 : rs0.length ≤ c0 ∧ c0 ≤ maxLen ∧ (a0 = none → c0 = 0)) (hT : TabOk w) :
    Calls Tryd.prog 7 #[.agg #[.slice a0 rs0.length c0]] w fun e w' => e = .returned (.bool true) ∧ Below w.heap.size w w' := by
  have HTAB := hid hT; clear hT
  have HR0 := hid hr0; clear hr0
  have hn0 : rs0.length ≤ maxLen := Nat.le_trans hl0.1 hl0.2.1; clear hl0
  obtain ⟨res0, hres⟩ : ∃ r : Bool, (permG (nums rs0)).isSome = r := ⟨_, rfl⟩
  have HRES0 := hid hres; clear hres
  by_cases h0 : (sz2 rs0 1048576) < 0
  · go_enter Tryd.func7, Tryd.ntmps7
    have B0 := hid (alloc_below w (.cells #[.slice a0 rs0.length c0] 24))
    have hc0_0_0 : (w.alloc (.cells #[.slice a0 rs0.length c0] 24)).cell? ⟨w.heap.size, 0, none⟩ = some (.slice a0 rs0.length c0) := by simp [go_sem]
    go_wp2_with fail
    refine (szG_any a0 rs0 c0 1048576 _ hn0 (HR0.out.below B0.out (Nat.le_refl _)) (by decide) (by decide)).mono ?_
    rintro e v1 ⟨rfl, hb⟩
    have hc1_a0_0 := cellB hb hc0_0_0 (Nat.le_refl _)
    have B1 := hid (B0.out.trans (hb.mono B0.out.size))
    have z1 : w.heap.size + 1 ≤ v1.heap.size := by have := hb.size; simpa using this
    clear hb hc0_0_0
    go_wp2
    go_ret
    exact ⟨rfl, B1.out⟩
  · have HS0 := hid (sz2_small rs0 1048576 (by decide) (by decide) (by omega)).1
    go_enter Tryd.func7, Tryd.ntmps7
    have B0 := hid (alloc_below w (.cells #[.slice a0 rs0.length c0] 24))
    have hc0_0_0 : (w.alloc (.cells #[.slice a0 rs0.length c0] 24)).cell? ⟨w.heap.size, 0, none⟩ = some (.slice a0 rs0.length c0) := by simp [go_sem]
    go_wp2_with fail
    refine (szG_any a0 rs0 c0 1048576 _ hn0 (HR0.out.below B0.out (Nat.le_refl _)) (by decide) (by decide)).mono ?_
    rintro e v1 ⟨rfl, hb⟩
    have hc1_a0_0 := cellB hb hc0_0_0 (Nat.le_refl _)
    have B1 := hid (B0.out.trans (hb.mono B0.out.size))
    have z1 : w.heap.size + 1 ≤ v1.heap.size := by have := hb.size; simpa using this
    clear hb hc0_0_0
    go_wp2_with fail
    refine (toG_cp a0 rs0 c0 _ (HR0.out.below B1.out (Nat.le_refl _)) HS0.out).mono ?_
    rintro e v2 ⟨a0s, rs0s, c0s, rfl, C⟩
    have K0s := hid C; clear C
    have hc2_a0_0 := cellB K0s.out.below hc1_a0_0 (Nat.le_refl _)
    have B2 := hid (B1.out.trans (K0s.out.below.mono B1.out.size))
    have z2 : v1.heap.size ≤ v2.heap.size := by have := K0s.out.below.size; simpa using this
    clear hc1_a0_0
    have OO_0s := hid K0s.out.own
    have KB_0s := hid (blocks_ge OO_0s.out.blocks (B' := v1.heap.size) (by simp))
    go_wp2_with fail
    refine (specPermutationIn_c a0s rs0s c0s _ res0 (by rw [K0s.out.nums]; exact HRES0.out) (OwnM.rdm OO_0s.out) K0s.out.small).mono ?_
    rintro e v3 ⟨rfl, hb⟩
    have hc3_a0_0 := cellB hb hc2_a0_0 (Nat.le_refl _)
    have O3_0s := hid (OO_0s.out.past hb (Nat.le_refl _))
    have B3 := hid (B2.out.trans (hb.mono B2.out.size))
    have z3 : v2.heap.size ≤ v3.heap.size := by have := hb.size; simpa using this
    clear hb hc2_a0_0 OO_0s
    go_wp2_with fail
    refine (toG_cp a0 rs0 c0 _ (HR0.out.below B3.out (Nat.le_refl _)) HS0.out).mono ?_
    rintro e v4 ⟨a0i, rs0i, c0i, rfl, C⟩
    have K0i := hid C; clear C
    have hc4_a0_0 := cellB K0i.out.below hc3_a0_0 (Nat.le_refl _)
    have B4 := hid (B3.out.trans (K0i.out.below.mono B3.out.size))
    have z4 : v3.heap.size ≤ v4.heap.size := by have := K0i.out.below.size; simpa using this
    clear hc3_a0_0
    have OO_0i := hid K0i.out.own
    have KB_0i := hid (blocks_ge OO_0i.out.blocks (B' := v3.heap.size) (by simp))
    have hA := alloc_below v4 (.cells #[.slice a0i rs0i.length c0i] 28)
    have hxn0 : (v4.alloc (.cells #[.slice a0i rs0i.length c0i] 28)).cell? ⟨v4.heap.size, 0, none⟩ = some (.slice a0i rs0i.length c0i) := by simp [go_sem]
    have hc5_a0_0 := cellB hA hc4_a0_0 (Nat.le_refl _)
    have O5_0i := hid (OO_0i.out.past hA (Nat.le_refl _))
    have B5 := hid (B4.out.trans (hA.mono B4.out.size))
    clear hA hc4_a0_0 OO_0i
    have hx5_0_0 := hxn0; clear hxn0
    go_wp2_with fail
    refine (implPermutationIn_c a0i rs0i c0i _ res0 (by rw [K0i.out.nums]; exact HRES0.out) (OwnM.rdm O5_0i.out) K0i.out.small (HTAB.out.below B5.out (Nat.le_refl _))).mono ?_
    rintro e v6 ⟨rfl, hb⟩
    have hc6_a0_0 := cellB hb hc5_a0_0 (Nat.le_refl _)
    have hc6_x0_0 := cellB hb hx5_0_0 (Nat.le_refl _)
    have O6_0i := hid (O5_0i.out.past hb (Nat.le_refl _))
    have B6 := hid (B5.out.trans (hb.mono B5.out.size))
    have z6 : v4.heap.size + 1 ≤ v6.heap.size := by have := hb.size; simpa using this
    clear hb hc5_a0_0 hx5_0_0 O5_0i
    have hne0 : (res0 != res0) = false := by cases res0 <;> rfl
    go_wp2_with fail
    have hrd := hid ((HR0.out.below B6.out (Nat.le_refl _)).drawn (⟨1, rfl⟩ : Drawn v6 v6.drew))
    have f0 : v6.drew.cell? ⟨w.heap.size, 0, none⟩ = some (.slice a0 rs0.length c0) := hc6_a0_0
    have f1 : v6.drew.cell? ⟨v4.heap.size, 0, none⟩ = some (.slice a0i rs0i.length c0i) := hc6_x0_0
    have BD := hid B6.out.drew
    have M_0i := hid (O6_0i.out.past (Drawn.below (⟨1, rfl⟩ : Drawn v6 v6.drew) v6.heap.size) (Nat.le_refl _))
    go_region_held3 (fun w' => w'.cell? ⟨w.heap.size, 0, none⟩ = some (.slice a0 rs0.length c0) ∧ w'.cell? ⟨v4.heap.size, 0, none⟩ = some (.slice a0i rs0i.length c0i)) (first | exact ⟨f0, f1⟩ | exact ⟨g0, g1⟩ | exact ⟨hc8_a0_0, hc8_x0_0⟩) ((first | (go_at_call 17; refine (toG_cp a0 rs0 c0 _ hrd.out HS0.out).mono ?_; rintro e v7 ⟨a0e, rs0e, c0e, rfl, C⟩; have g0 := cellB C.below f0 (Nat.le_refl _); have g1 := cellB C.below f1 (Nat.le_refl _); have BE := hid (BD.out.trans (C.below.mono BD.out.size)); have N_0i := hid (M_0i.out.past C.below (Nat.le_refl _)); have ze : v6.heap.size ≤ v7.heap.size := C.below.size; have KE := hid C; clear C) | (go_at_call 20; refine (eqG_any a0i a0e rs0i rs0e c0i c0e v7 true (by rw [K0i.out.nums, KE.out.nums]; simp) (OwnM.rdm N_0i.out) KE.out.rd K0i.out.small KE.out.small).mono ?_; rintro e v8 ⟨rfl, hb⟩; have hc8_a0_0 := cellB hb g0 (Nat.le_refl _); have hc8_x0_0 := cellB hb g1 (Nat.le_refl _); have B8 := hid (BE.out.trans (hb.mono BE.out.size)); have O8_0i := hid (N_0i.out.past hb (Nat.le_refl _)); have z8 : v6.heap.size ≤ v8.heap.size := Nat.le_trans ze hb.size; clear hb)))
    clear hrd BD BE ze KE  f0 g0 f1 g1 M_0i N_0i
    clear hc6_a0_0 hc6_x0_0 O6_0i
    go_wp2
    go_ret
    exact ⟨rfl, B8.out⟩
end Go.Proofs.YtggjmnihnjdoaaaDoor
