/- FnExactTextSet: the walk of the law (written by wip/mklaw2.py). -/
import Derived.Test.YtccohcdgcpcbjaaDoorGr
import Derived.Test.YtccohcdgcpcbjaaDoorTxtSet
import Derived.Deep.RegionHeld3
import Derived.Deep.RegionWith
import Derived.MapKept
namespace Go.Proofs.YtccohcdgcpcbjaaDoor
open Go.RowKit
set_option maxHeartbeats 8000000 in
theorem lawTextSet_any (s0 : ByteArray) (w : World) (hx0 : s0.size ≤ maxLen) (hT : NumOk w) :
    Calls Tryd.prog 4 #[.string s0] w fun e w' => e = .returned (.bool true) ∧ Below w.heap.size w w' := by
  have HTAB := hid hT; clear hT
  have HX0 := hid hx0; clear hx0
  obtain ⟨res0, hres⟩ : ∃ r : List Int, (tsR s0).1 = r := ⟨_, rfl⟩
  have HRES0 := hid hres; clear hres
  obtain ⟨res1, hres⟩ : ∃ r : Bool, (tsR s0).2 = r := ⟨_, rfl⟩
  have HRES1 := hid hres; clear hres
  by_cases hs0 : 1048576 < s0.size
  · go_enter Tryd.func4, Tryd.ntmps4
    have B0 := hid (Below.refl w.heap.size w)
    go_wp2
    go_ret
    exact ⟨rfl, B0.out⟩
  · have HS0 := hid (show s0.size ≤ 1048576 by omega)
    have SM0 := hid (show res0.length ≤ 1048576 by rw [← HRES0.out]; exact (tsR_small _))
    go_enter Tryd.func4, Tryd.ntmps4
    have B0 := hid (Below.refl w.heap.size w)
    go_wp2_with fail
    refine (specTextSet_any s0 _ res0 res1 HRES0.out HRES1.out HS0.out).mono ?_
    rintro e v1 ⟨y0, rfl, ho0, hb⟩
    have B1 := hid (B0.out.trans (hb.mono B0.out.size))
    have z1 : w.heap.size ≤ v1.heap.size := by have := hb.size; simpa using this
    have OO_u0 := hid ho0; clear ho0
    have KB_u0 := hid (blocksL_ge (ownL_blocks OO_u0.out) (B' := w.heap.size) (by simp))
    obtain ⟨au0, cu0, rfl, _⟩ := OO_u0.out.rd
    clear hb 
    go_wp2_with fail
    refine (implTextSet_any s0 _ res0 res1 HRES0.out HRES1.out HS0.out (HTAB.out.below B1.out (Nat.le_refl _))).mono ?_
    rintro e v2 ⟨y0, rfl, ho0, hb⟩
    have O2_u0 := hid (OO_u0.out.past hb (Nat.le_refl _))
    have B2 := hid (B1.out.trans (hb.mono B1.out.size))
    have z2 : v1.heap.size ≤ v2.heap.size := by have := hb.size; simpa using this
    have OO_g0 := hid ho0; clear ho0
    have KB_g0 := hid (blocksL_ge (ownL_blocks OO_g0.out) (B' := v1.heap.size) (by simp))
    obtain ⟨ag0, cg0, rfl, _⟩ := OO_g0.out.rd
    clear hb OO_u0
    have hne1 : (res1 != res1) = false := by cases res1 <;> rfl
    go_wp2_with fail
    refine (eq1_b ag0 au0 res0 res0 cg0 cu0 _ true (by simp) (ownL_rd OO_g0.out) (ownL_rd O2_u0.out) (Nat.le_trans SM0.out (by decide)) (Nat.le_trans SM0.out (by decide))).mono ?_
    rintro e v4 ⟨rfl, hd⟩
    have hb := hd.below v2.heap.size
    have O4_u0 := hid (O2_u0.out.past hb (Nat.le_refl _))
    have O4_g0 := hid (OO_g0.out.past hb (Nat.le_refl _))
    have B4 := hid (B2.out.trans (hb.mono B2.out.size))
    have z4 : v2.heap.size ≤ v4.heap.size := by have := hb.size; simpa using this
    clear hd hb O2_u0 OO_g0
    have ml0 : 0 ≤ (1 : Int) ∧ (1 : Int) ≤ 1024 + 0 * 1099511627776 := by decide
    have mt0 : res0.length ≤ 1099511627776 := Nat.le_trans SM0.out (by decide)
    go_wp2_with fail
    refine (mark1_any ag0 res0 cg0 _ (1 : Int) _ (fun g => v1.heap.size ≤ g ∧ g < v2.heap.size) O4_g0.out KB_g0.out (Nat.le_trans SM0.out (by decide)) ml0.1 (by have := ml0.2; omega)).mono ?_
    rintro e v5 ⟨rfl, hom, hk⟩
    have O5_u0 := hid (O4_u0.out.keptS hk (fun g hg hh => by have := KB_u0.out g hg; omega))
    have B5 := hid (B4.out.trans (hk.below w.heap.size B4.out.size (fun k hk hh => by omega)))
    have z5 : v4.heap.size ≤ v5.heap.size := by have := hk.size; simpa using this
    have OM_g0 := hid hom; clear hom hk O4_u0 O4_g0
    have mneg : ¬ ((1 : Int) + (res0.length : Int)) < 0 := by have := ml0; omega
    have mne : (((1 : Int) + (res0.length : Int)) != ((1 : Int) + (res0.length : Int))) = false := by simp
    go_wp2_with fail
    refine (held1_n ag0 res0.length cg0 (1 : Int) _ (ownL_rd OM_g0.out) (Nat.le_trans SM0.out (by decide)) ml0.1 (by have := ml0.2; omega)).mono ?_
    rintro e w' ⟨rfl, rfl⟩
    go_wp2_with fail
    refine (implTextSet_any s0 _ res0 res1 HRES0.out HRES1.out HS0.out (HTAB.out.below B5.out (Nat.le_refl _))).mono ?_
    rintro e v6 ⟨y0, rfl, ho0, hb⟩
    have O6_u0 := hid (O5_u0.out.past hb (Nat.le_refl _))
    have O6_mkg0 := hid (OM_g0.out.past hb (Nat.le_refl _))
    have B6 := hid (B5.out.trans (hb.mono B5.out.size))
    have z6 : v5.heap.size ≤ v6.heap.size := by have := hb.size; simpa using this
    have OO_h0 := hid ho0; clear ho0
    have KB_h0 := hid (blocksL_ge (ownL_blocks OO_h0.out) (B' := v5.heap.size) (by simp))
    obtain ⟨ah0, ch0, rfl, _⟩ := OO_h0.out.rd
    clear hb O5_u0 OM_g0
    go_wp2_with fail
    refine (eq1_b ah0 au0 res0 res0 ch0 cu0 _ true (by simp) (ownL_rd OO_h0.out) (ownL_rd O6_u0.out) (Nat.le_trans SM0.out (by decide)) (Nat.le_trans SM0.out (by decide))).mono ?_
    rintro e v7 ⟨rfl, hd⟩
    have hb := hd.below v6.heap.size
    have O7_u0 := hid (O6_u0.out.past hb (Nat.le_refl _))
    have O7_mkg0 := hid (O6_mkg0.out.past hb (Nat.le_refl _))
    have O7_h0 := hid (OO_h0.out.past hb (Nat.le_refl _))
    have B7 := hid (B6.out.trans (hb.mono B6.out.size))
    have z7 : v6.heap.size ≤ v7.heap.size := by have := hb.size; simpa using this
    clear hd hb O6_u0 O6_mkg0 OO_h0
    go_wp2_with fail
    refine (held1_n ag0 res0.length cg0 (1 : Int) _ (ownL_rd O7_mkg0.out) (Nat.le_trans SM0.out (by decide)) ml0.1 (by have := ml0.2; omega)).mono ?_
    rintro e w' ⟨rfl, rfl⟩
    go_wp2
    go_ret
    exact ⟨rfl, B7.out⟩
end Go.Proofs.YtccohcdgcpcbjaaDoor
