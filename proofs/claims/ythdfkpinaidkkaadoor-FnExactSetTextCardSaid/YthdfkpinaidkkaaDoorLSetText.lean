/- FnExactSetText: the walk of the law (written by wip/mklaw2.py). -/
import Derived.Test.YthdfkpinaidkkaaDoorGr
import Derived.Test.YthdfkpinaidkkaaDoorSetTxt
import Derived.Deep.RegionHeld3
import Derived.Deep.RegionWith
import Derived.MapKept
namespace Go.Proofs.YthdfkpinaidkkaaDoor
open Go.RowKit
set_option maxHeartbeats 8000000 in
theorem lawSetText_any (a0 : Option Addr) (zs0 : List Int) (c0 : Nat) (w : World) (hr0 : Rd (Value.int .i64) w a0 zs0) (hl0 : zs0.length ≤ c0 ∧ c0 ≤ maxLen ∧ (a0 = none → c0 = 0)) :
    Calls Tryd.prog 4 #[.slice a0 zs0.length c0] w fun e w' => e = .returned (.bool true) ∧ Below w.heap.size w w' := by
  have HR0 := hid hr0; clear hr0
  have hn0 : zs0.length ≤ maxLen := Nat.le_trans hl0.1 hl0.2.1; clear hl0
  obtain ⟨res0, hres⟩ : ∃ r : ByteArray, setStr zs0 = r := ⟨_, rfl⟩
  have HRES0 := hid hres; clear hres
  by_cases hs0 : 1048576 < zs0.length
  · go_enter Tryd.func4, Tryd.ntmps4
    have B0 := hid (Below.refl w.heap.size w)
    go_wp2
    go_ret
    exact ⟨rfl, B0.out⟩
  · have HS0 := hid (show zs0.length ≤ 1048576 by omega)
    go_enter Tryd.func4, Tryd.ntmps4
    have B0 := hid (Below.refl w.heap.size w)
    go_wp2_with fail
    refine (to1_cp a0 zs0 c0 _ (HR0.out.below B0.out (Nat.le_refl _)) HS0.out).mono ?_
    rintro e v1 ⟨a0s, c0s, rfl, C⟩
    have K0s := hid C; clear C
    have B1 := hid (B0.out.trans (K0s.out.below.mono B0.out.size))
    have z1 : w.heap.size ≤ v1.heap.size := by have := K0s.out.below.size; simpa using this
    have OO_0s := hid K0s.out.own
    have KB_0s := hid (blocksL_ge (ownL_blocks OO_0s.out) (B' := w.heap.size) (by simp))
    go_wp2_with fail
    refine (specSetText_any a0s zs0 c0s _ res0 HRES0.out (ownL_rd OO_0s.out) HS0.out).mono ?_
    rintro e v2 ⟨rfl, hb⟩
    have O2_0s := hid (OO_0s.out.past hb (Nat.le_refl _))
    have B2 := hid (B1.out.trans (hb.mono B1.out.size))
    have z2 : v1.heap.size ≤ v2.heap.size := by have := hb.size; simpa using this
    clear hb OO_0s
    go_wp2_with fail
    refine (to1_cp a0 zs0 c0 _ (HR0.out.below B2.out (Nat.le_refl _)) HS0.out).mono ?_
    rintro e v3 ⟨a0i, c0i, rfl, C⟩
    have K0i := hid C; clear C
    have B3 := hid (B2.out.trans (K0i.out.below.mono B2.out.size))
    have z3 : v2.heap.size ≤ v3.heap.size := by have := K0i.out.below.size; simpa using this
    have OO_0i := hid K0i.out.own
    have KB_0i := hid (blocksL_ge (ownL_blocks OO_0i.out) (B' := v2.heap.size) (by simp))
    go_wp2_with fail
    refine (implSetText_any a0i zs0 c0i _ res0 HRES0.out (ownL_rd OO_0i.out) HS0.out).mono ?_
    rintro e v4 ⟨rfl, hb⟩
    have O4_0i := hid (OO_0i.out.past hb (Nat.le_refl _))
    have B4 := hid (B3.out.trans (hb.mono B3.out.size))
    have z4 : v3.heap.size ≤ v4.heap.size := by have := hb.size; simpa using this
    clear hb OO_0i
    have hne0 : (res0 != res0) = false := by rw [bne, (Go.MapKept.bytes_beq _ _).2 rfl]; rfl
    go_wp2_with fail
    refine (to1_cp a0 zs0 c0 _ (HR0.out.below B4.out (Nat.le_refl _)) HS0.out).mono ?_
    rintro e v5 ⟨a0e, c0e, rfl, C⟩
    have K0e := hid C; clear C
    have O5_0i := hid (O4_0i.out.past K0e.out.below (Nat.le_refl _))
    have B5 := hid (B4.out.trans (K0e.out.below.mono B4.out.size))
    have z5 : v4.heap.size ≤ v5.heap.size := by have := K0e.out.below.size; simpa using this
    clear O4_0i
    have OO_0e := hid K0e.out.own
    have KB_0e := hid (blocksL_ge (ownL_blocks OO_0e.out) (B' := v4.heap.size) (by simp))
    go_wp2_with fail
    refine (eq1_b a0i a0e zs0 zs0 c0i c0e _ true (by simp) (ownL_rd O5_0i.out) (ownL_rd OO_0e.out) (Nat.le_trans HS0.out (by decide)) (Nat.le_trans HS0.out (by decide))).mono ?_
    rintro e v6 ⟨rfl, hd⟩
    have hb := hd.below v5.heap.size
    have O6_0i := hid (O5_0i.out.past hb (Nat.le_refl _))
    have B6 := hid (B5.out.trans (hb.mono B5.out.size))
    have z6 : v5.heap.size ≤ v6.heap.size := by have := hb.size; simpa using this
    clear hd hb O5_0i
    go_wp2
    go_ret
    exact ⟨rfl, B6.out⟩
end Go.Proofs.YthdfkpinaidkkaaDoor
