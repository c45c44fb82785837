/- FnSetTexts: the law. -/
import Derived.Test.YtccohcdgcpcbjaaDoorDrwT
import Derived.Test.YtccohcdgcpcbjaaDoorOpenB
import Derived.Test.YtccohcdgcpcbjaaDoorTxtSet
namespace Go.Proofs.YtccohcdgcpcbjaaDoor
open Go.RowKit
section
set_option maxRecDepth 100000 in
set_option maxHeartbeats 4000000 in
theorem lawSetTexts_any (a0 : Option Addr) (zs0 : List Int) (c0 : Nat) (w : World) (hr0 : Rd (Value.int .u8) w a0 zs0) (_hl0 : zs0.length ≤ c0 ∧ c0 ≤ maxLen ∧ (a0 = none → c0 = 0) ∧ ∀ z ∈ zs0, 0 ≤ z ∧ z < 256) (hT : NumOk w) :
    Calls Tryd.prog 5 #[.slice a0 zs0.length c0] w fun e w' => e = .returned (.bool true) ∧ Below w.heap.size w w' := by
  have RZ := hid hr0; have NT := hid hT
  clear hr0 hT
  obtain ⟨n, hln⟩ : ∃ n, zs0.length = n := ⟨_, rfl⟩
  have HLN := hid hln
  rw [hln]
  clear hln
  have BW := hid (Below.refl w.heap.size w)
  by_cases hbig : 4096 < n
  · go_enter Tryd.func5, Tryd.ntmps5
    go_wp2_with (first | (go_at_call 16; refine (big_D a0 n c0 _ true (decide_eq_true hbig)).mono ?_; rintro e w' ⟨rfl, rfl⟩))
    go_wp2
    go_ret
    exact ⟨rfl, BW.out⟩
  · have hn : n ≤ 4096 := by omega
    go_enter Tryd.func5, Tryd.ntmps5
    go_wp2_with fail
    refine (big_D a0 n c0 _ false (decide_eq_false hbig)).mono ?_
    rintro e w' ⟨rfl, rfl⟩
    go_wp2_with fail
    refine (drawSetText_any n c0 a0 zs0 _ RZ.out HLN.out hn).mono ?_
    rintro e w1 ⟨ra, ys, rc, rfl, hown, hlen, hb⟩
    have O1 := hid hown; have B1 := hid hb
    have R1 := hid (ownL_rd hown)
    have hym : ys.length ≤ 18 := hlen
    have hym2 : ys.length ≤ 1048576 := by omega
    clear hown hb hlen
    go_wp2_with fail
    refine (implSetText_any ra ys rc _ _ rfl R1.out hym2).mono ?_
    rintro e w2 ⟨rfl, hb⟩
    have B2 := hid (B1.out.trans (hb.mono B1.out.size))
    have R2 := hid (R1.out.below hb (Nat.le_refl _))
    clear hb R1 O1
    go_wp2_with fail
    refine (specSetText_any ra ys rc _ _ rfl R2.out hym2).mono ?_
    rintro e w3 ⟨rfl, hb⟩
    have B3 := hid (B2.out.trans (hb.mono B2.out.size))
    have R3 := hid (R2.out.below hb (Nat.le_refl _))
    clear hb R2
    have HTS := hid (fun h : setStr ys ≠ ⟨#[]⟩ => tsR_set (s := ys) h)
    have HSS := hid (setStr_size ys)
    generalize setStr ys = t at *
    cases hemp : t.toList.isEmpty
    · have htn : t ≠ ⟨#[]⟩ := by
        intro e
        have h9 : (⟨#[]⟩ : ByteArray).toList.isEmpty = true := by rw [Go.Lib.toList_data]; rfl
        rw [e, h9] at hemp
        cases hemp
      have HT2 := hid (HTS.out htn)
      clear htn
      go_wp2_with fail
      refine (implTextSet_any t _ ys true (by rw [HT2.out]) (by rw [HT2.out]) (by have := HSS.out; omega) (NT.out.below B3.out (Nat.le_refl _))).mono ?_
      rintro e w4 ⟨v4, rfl, hown, hb⟩
      have B4 := hid (B3.out.trans (hb.mono B3.out.size))
      have R4 := hid (R3.out.below hb (Nat.le_refl _))
      obtain ⟨xa, xc, rfl, hxr, hrest⟩ := Own.rd hown
      have RX := hid hxr
      clear hown hb hxr hrest R3
      go_wp2_with fail
      refine (likeInts_D xa ra ys ys xc rc _ RX.out R4.out (by omega) (by omega)).mono ?_
      rintro e w5 ⟨rfl, hd⟩
      have BX := hid (B4.out.trans (hd.below w.heap.size))
      have hyy : decide (ys = ys) = true := by simp
      clear hd RX R4
      go_wp2_with fail
      refine (drawTextSet_any n c0 a0 zs0 _ (RZ.out.below BX.out (Nat.le_refl _)) HLN.out hn).mono ?_
      rintro e wd ⟨u, rfl, hu, hb⟩
      have BD := hid (BX.out.trans (hb.mono BX.out.size))
      have HU := hid (show u.size ≤ 1048576 by omega)
      obtain ⟨r0, hr0⟩ : ∃ r, (tsR u).1 = r := ⟨_, rfl⟩
      obtain ⟨r1, hr1⟩ : ∃ r, (tsR u).2 = r := ⟨_, rfl⟩
      have HR0 := hid hr0; have HR1 := hid hr1
      have HSU := hid (fun h : r1 = true => (show setStr r0 = u by rw [← hr0]; exact set_tsR (hr1.trans h)))
      have HSM := hid (show r0.length ≤ 1048576 by rw [← hr0]; exact tsR_small _)
      clear hb hu hr0 hr1
      go_wp2_with fail
      refine (implTextSet_any u _ r0 r1 HR0.out HR1.out HU.out (NT.out.below BD.out (Nat.le_refl _))).mono ?_
      rintro e we ⟨v, rfl, hown, hb⟩
      have BE := hid (BD.out.trans (hb.mono BD.out.size))
      obtain ⟨va, vc, rfl, hrd, hrest⟩ := Own.rd hown
      have RE := hid hrd
      clear hown hb hrd hrest
      go_wp2_with fail
      refine (specTextSet_any u _ r0 r1 HR0.out HR1.out HU.out).mono ?_
      rintro e wf ⟨v2, rfl, hown, hb⟩
      have BF := hid (BE.out.trans (hb.mono BE.out.size))
      have RF := hid (RE.out.below hb (Nat.le_refl _))
      clear hown hb RE
      cases r1
      · go_wp2
        go_ret
        exact ⟨rfl, BF.out⟩
      · go_wp2_with fail
        refine (implSetText_any va r0 vc _ u (by first | exact HSU.out rfl | exact HSU.out trivial) RF.out HSM.out).mono ?_
        rintro e wg ⟨rfl, hb⟩
        have BG := hid (BF.out.trans (hb.mono BF.out.size))
        clear hb
        have huu : (u.toList == u.toList) = true := by simp
        go_wp2
        go_ret
        exact ⟨ret_bool (by simp), BG.out⟩
    · have BX := B3
      go_wp2_with fail
      refine (drawTextSet_any n c0 a0 zs0 _ (RZ.out.below BX.out (Nat.le_refl _)) HLN.out hn).mono ?_
      rintro e wd ⟨u, rfl, hu, hb⟩
      have BD := hid (BX.out.trans (hb.mono BX.out.size))
      have HU := hid (show u.size ≤ 1048576 by omega)
      obtain ⟨r0, hr0⟩ : ∃ r, (tsR u).1 = r := ⟨_, rfl⟩
      obtain ⟨r1, hr1⟩ : ∃ r, (tsR u).2 = r := ⟨_, rfl⟩
      have HR0 := hid hr0; have HR1 := hid hr1
      have HSU := hid (fun h : r1 = true => (show setStr r0 = u by rw [← hr0]; exact set_tsR (hr1.trans h)))
      have HSM := hid (show r0.length ≤ 1048576 by rw [← hr0]; exact tsR_small _)
      clear hb hu hr0 hr1
      go_wp2_with fail
      refine (implTextSet_any u _ r0 r1 HR0.out HR1.out HU.out (NT.out.below BD.out (Nat.le_refl _))).mono ?_
      rintro e we ⟨v, rfl, hown, hb⟩
      have BE := hid (BD.out.trans (hb.mono BD.out.size))
      obtain ⟨va, vc, rfl, hrd, hrest⟩ := Own.rd hown
      have RE := hid hrd
      clear hown hb hrd hrest
      go_wp2_with fail
      refine (specTextSet_any u _ r0 r1 HR0.out HR1.out HU.out).mono ?_
      rintro e wf ⟨v2, rfl, hown, hb⟩
      have BF := hid (BE.out.trans (hb.mono BE.out.size))
      have RF := hid (RE.out.below hb (Nat.le_refl _))
      clear hown hb RE
      cases r1
      · go_wp2
        go_ret
        exact ⟨rfl, BF.out⟩
      · go_wp2_with fail
        refine (implSetText_any va r0 vc _ u (by first | exact HSU.out rfl | exact HSU.out trivial) RF.out HSM.out).mono ?_
        rintro e wg ⟨rfl, hb⟩
        have BG := hid (BF.out.trans (hb.mono BF.out.size))
        clear hb
        have huu : (u.toList == u.toList) = true := by simp
        go_wp2
        go_ret
        exact ⟨ret_bool (by simp), BG.out⟩
end
end Go.Proofs.YtccohcdgcpcbjaaDoor
