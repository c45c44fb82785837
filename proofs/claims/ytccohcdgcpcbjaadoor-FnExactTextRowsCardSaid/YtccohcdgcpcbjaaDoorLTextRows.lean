/- FnExactTextRows: the walk of the law (written by wip/mklaw2.py). -/
import Derived.Test.YtccohcdgcpcbjaaDoorGr
import Derived.Test.YtccohcdgcpcbjaaDoorTxtRows
import Derived.Deep.RegionHeld3
import Derived.Deep.RegionWith
import Derived.MapKept
namespace Go.Proofs.YtccohcdgcpcbjaaDoor
open Go.RowKit
set_option maxHeartbeats 8000000 in
theorem lawTextRows_any (s0 : ByteArray) (w : World) (hx0 : s0.size ≤ maxLen) :
    Calls Tryd.prog 3 #[.string s0] w fun e w' => e = .returned (.bool true) ∧ Below w.heap.size w w' := by
  have HX0 := hid hx0; clear hx0
  obtain ⟨res0, hres⟩ : ∃ r : List (List Int), (trR s0).1 = r := ⟨_, rfl⟩
  have HRES0 := hid hres; clear hres
  obtain ⟨res1, hres⟩ : ∃ r : Bool, (trR s0).2 = r := ⟨_, rfl⟩
  have HRES1 := hid hres; clear hres
  by_cases hs0 : 1048576 < s0.size
  · go_enter Tryd.func3, Tryd.ntmps3
    have B0 := hid (Below.refl w.heap.size w)
    go_wp2
    go_ret
    exact ⟨rfl, B0.out⟩
  · have HS0 := hid (show s0.size ≤ 1048576 by omega)
    have SM0 := hid (show SmallZ res0 by rw [← HRES0.out]; exact (trR_small _))
    go_enter Tryd.func3, Tryd.ntmps3
    have B0 := hid (Below.refl w.heap.size w)
    go_wp2_with fail
    refine (specTextRows_any s0 _ res0 res1 HRES0.out HRES1.out HS0.out).mono ?_
    rintro e v1 ⟨y0, u0, rfl, hq0, ho0, hb⟩
    have B1 := hid (B0.out.trans (hb.mono B0.out.size))
    have z1 : w.heap.size ≤ v1.heap.size := by have := hb.size; simpa using this
    have OO_u0 := hid ho0; clear ho0
    have KB_u0 := hid (blocks_ge OO_u0.out.blocks (B' := w.heap.size) (by simp))
    obtain ⟨au0, cu0, rfl, _⟩ := OO_u0.out.rd
    have Q_u0 := hid hq0; clear hq0
    have SM_u0 := hid (small_of Q_u0.out SM0.out)
    clear hb 
    have bx := alloc_below v1 (.cells #[.slice au0 u0.length cu0] 24)
    have ku : (v1.alloc (.cells #[.slice au0 u0.length cu0] 24)).cell? ⟨v1.heap.size, 0, none⟩ = some (.slice au0 u0.length cu0) := by simp [go_sem]
    replace OO_u0 := hid (OO_u0.out.past bx (Nat.le_refl _))
    replace B1 := hid (B1.out.trans (bx.mono B1.out.size))
    have zb1 : v1.heap.size < (v1.alloc (.cells #[.slice au0 u0.length cu0] 24)).heap.size := by simp
    clear bx
    go_wp2_with fail
    generalize v1.alloc (.cells #[.slice au0 u0.length cu0] 24) = v1b at *
    refine (implTextRows_any s0 _ res0 res1 HRES0.out HRES1.out HS0.out).mono ?_
    rintro e v2 ⟨y0, g0, rfl, hq0, ho0, hb⟩
    have O2_u0 := hid (OO_u0.out.past hb (Nat.le_refl _))
    have B2 := hid (B1.out.trans (hb.mono B1.out.size))
    have ku2 := cellB hb ku (Nat.le_refl _)
    have z2 : v1b.heap.size ≤ v2.heap.size := by have := hb.size; simpa using this
    have OO_g0 := hid ho0; clear ho0
    have KB_g0 := hid (blocks_ge OO_g0.out.blocks (B' := v1b.heap.size) (by simp))
    obtain ⟨ag0, cg0, rfl, _⟩ := OO_g0.out.rd
    have Q_g0 := hid hq0; clear hq0
    have SM_g0 := hid (small_of Q_g0.out SM0.out)
    clear hb OO_u0 ku
    have hne1 : (res1 != res1) = false := by cases res1 <;> rfl
    have bx := alloc_below v2 (.cells #[.slice ag0 g0.length cg0] 24)
    have kg : (v2.alloc (.cells #[.slice ag0 g0.length cg0] 24)).cell? ⟨v2.heap.size, 0, none⟩ = some (.slice ag0 g0.length cg0) := by simp [go_sem]
    replace O2_u0 := hid (O2_u0.out.past bx (Nat.le_refl _))
    replace OO_g0 := hid (OO_g0.out.past bx (Nat.le_refl _))
    replace ku2 := cellB bx ku2 (Nat.le_refl _)
    replace B2 := hid (B2.out.trans (bx.mono B2.out.size))
    have zb2 : v2.heap.size < (v2.alloc (.cells #[.slice ag0 g0.length cg0] 24)).heap.size := by simp
    clear bx
    go_wp2_with fail
    generalize v2.alloc (.cells #[.slice ag0 g0.length cg0] 24) = v2b at *
    refine (eqG_any ag0 au0 g0 u0 cg0 cu0 _ true (by rw [Q_g0.out, Q_u0.out]; simp) (OwnM.rdm OO_g0.out) (OwnM.rdm O2_u0.out) SM_g0.out SM_u0.out).mono ?_
    rintro e v4 ⟨rfl, hd⟩
    have hb := hd
    have O4_u0 := hid (O2_u0.out.past hb (Nat.le_refl _))
    have O4_g0 := hid (OO_g0.out.past hb (Nat.le_refl _))
    have B4 := hid (B2.out.trans (hb.mono B2.out.size))
    have ku4 := cellB hb ku2 (Nat.le_refl _)
    have kg4 := cellB hb kg (Nat.le_refl _)
    have z4 : v2b.heap.size ≤ v4.heap.size := by have := hb.size; simpa using this
    clear hd hb O2_u0 OO_g0 ku2 kg
    have ml0 : 0 ≤ (1 : Int) ∧ (1 : Int) ≤ 1024 + 0 * 1099511627776 := by decide
    have mt0 : total g0 ≤ 1099511627776 := small_total SM_g0.out
    go_wp2_with fail
    refine (markG_any ag0 g0 cg0 _ (1 : Int) _ (fun g => v1b.heap.size ≤ g ∧ g < v2.heap.size) O4_g0.out KB_g0.out (small_len SM_g0.out) (small_total SM_g0.out) ml0.1 (by have := ml0.2; omega)).mono ?_
    rintro e v5 ⟨rfl, hom, hk⟩
    have O5_u0 := hid (O4_u0.out.keptS hk (KB_u0.out.mono (fun g hg hh => by omega)))
    have B5 := hid (B4.out.trans (hk.below w.heap.size B4.out.size (fun k hk hh => by omega)))
    have z5 : v4.heap.size ≤ v5.heap.size := by have := hk.size; simpa using this
    have ku5 := cellK hk ku4 (show ¬ (v1b.heap.size ≤ v1.heap.size ∧ v1.heap.size < v2.heap.size) by omega)
    have kg5 := cellK hk kg4 (show ¬ (v1b.heap.size ≤ v2.heap.size ∧ v2.heap.size < v2.heap.size) by omega)
    have OM_g0 := hid hom; clear hom hk O4_u0 O4_g0 ku4 kg4
    have mneg : ¬ ((1 : Int) + (total g0 : Int)) < 0 := by have := ml0; omega
    have mne : (((1 : Int) + (total g0 : Int)) != ((1 : Int) + (total g0 : Int))) = false := by simp
    go_wp2_with fail
    refine (heldG_any ag0 g0 cg0 (1 : Int) _ (OwnM.rdm OM_g0.out) (small_len SM_g0.out) (small_total SM_g0.out) ml0.1 (by have := ml0.2; omega)).mono ?_
    rintro e v6 ⟨rfl, hb⟩
    have O6_u0 := hid (O5_u0.out.past hb (Nat.le_refl _))
    have O6_mkg0 := hid (OM_g0.out.past hb (Nat.le_refl _))
    have B6 := hid (B5.out.trans (hb.mono B5.out.size))
    have z6 : v5.heap.size ≤ v6.heap.size := by have := hb.size; simpa using this
    have ku6 := cellB hb ku5 (Nat.le_refl _)
    have kg6 := cellB hb kg5 (Nat.le_refl _)
    clear hb O5_u0 OM_g0 ku5 kg5
    go_wp2_with fail
    refine (implTextRows_any s0 _ res0 res1 HRES0.out HRES1.out HS0.out).mono ?_
    rintro e v7 ⟨y0, h0, rfl, hq0, ho0, hb⟩
    have O7_u0 := hid (O6_u0.out.past hb (Nat.le_refl _))
    have O7_mkg0 := hid (O6_mkg0.out.past hb (Nat.le_refl _))
    have B7 := hid (B6.out.trans (hb.mono B6.out.size))
    have z7 : v6.heap.size ≤ v7.heap.size := by have := hb.size; simpa using this
    have OO_h0 := hid ho0; clear ho0
    have KB_h0 := hid (blocks_ge OO_h0.out.blocks (B' := v6.heap.size) (by simp))
    obtain ⟨ah0, ch0, rfl, _⟩ := OO_h0.out.rd
    have Q_h0 := hid hq0; clear hq0
    have SM_h0 := hid (small_of Q_h0.out SM0.out)
    have ku7 := cellB hb ku6 (Nat.le_refl _)
    have kg7 := cellB hb kg6 (Nat.le_refl _)
    clear hb O6_u0 O6_mkg0 ku6 kg6
    have bx := alloc_below v7 (.cells #[.slice ah0 h0.length ch0] 24)
    have kh : (v7.alloc (.cells #[.slice ah0 h0.length ch0] 24)).cell? ⟨v7.heap.size, 0, none⟩ = some (.slice ah0 h0.length ch0) := by simp [go_sem]
    replace O7_u0 := hid (O7_u0.out.past bx (Nat.le_refl _))
    replace O7_mkg0 := hid (O7_mkg0.out.past bx (Nat.le_refl _))
    replace OO_h0 := hid (OO_h0.out.past bx (Nat.le_refl _))
    replace ku7 := cellB bx ku7 (Nat.le_refl _)
    replace kg7 := cellB bx kg7 (Nat.le_refl _)
    replace B7 := hid (B7.out.trans (bx.mono B7.out.size))
    have zb7 : v7.heap.size < (v7.alloc (.cells #[.slice ah0 h0.length ch0] 24)).heap.size := by simp
    clear bx
    go_wp2_with fail
    generalize v7.alloc (.cells #[.slice ah0 h0.length ch0] 24) = v7b at *
    refine (eqG_any ah0 au0 h0 u0 ch0 cu0 _ true (by rw [Q_h0.out, Q_u0.out]; simp) (OwnM.rdm OO_h0.out) (OwnM.rdm O7_u0.out) SM_h0.out SM_u0.out).mono ?_
    rintro e v8 ⟨rfl, hd⟩
    have hb := hd
    have O8_u0 := hid (O7_u0.out.past hb (Nat.le_refl _))
    have O8_mkg0 := hid (O7_mkg0.out.past hb (Nat.le_refl _))
    have O8_h0 := hid (OO_h0.out.past hb (Nat.le_refl _))
    have B8 := hid (B7.out.trans (hb.mono B7.out.size))
    have kg8 := cellB hb kg7 (Nat.le_refl _)
    have z8 : v7b.heap.size ≤ v8.heap.size := by have := hb.size; simpa using this
    clear hd hb O7_u0 O7_mkg0 OO_h0
    go_wp2_with fail
    refine (heldG_any ag0 g0 cg0 (1 : Int) _ (OwnM.rdm O8_mkg0.out) (small_len SM_g0.out) (small_total SM_g0.out) ml0.1 (by have := ml0.2; omega)).mono ?_
    rintro e v9 ⟨rfl, hb⟩
    have O9_u0 := hid (O8_u0.out.past hb (Nat.le_refl _))
    have O9_mkg0 := hid (O8_mkg0.out.past hb (Nat.le_refl _))
    have B9 := hid (B8.out.trans (hb.mono B8.out.size))
    have z9 : v8.heap.size ≤ v9.heap.size := by have := hb.size; simpa using this
    clear hb O8_u0 O8_mkg0
    go_wp2
    go_ret
    exact ⟨rfl, B9.out⟩
end Go.Proofs.YtccohcdgcpcbjaaDoor
