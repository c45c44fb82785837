/- The width of an order: the reference's. -/
import Derived.Test.YtahibjikcijnfaaDoorWidM
import Derived.Test.YtahibjikcijnfaaDoorGreedy
import Derived.Test.YtahibjikcijnfaaDoorOrdS
import Derived.Test.YtahibjikcijnfaaDoorBag
namespace Go.Proofs.YtahibjikcijnfaaDoor
open Go.RowKit
section
theorem OwnG.setStore {P : Nat → Prop} {w : World} {B B' gb n cap g m c : Nat} {A : List Nat} {xs : List Value} (h : OwnG P w B gb n cap A) (ho : Own 25 w B' (.slice (some ⟨g, 0, none⟩) m c) xs) (hne : gb ≠ g) (i : Nat) (u : Value) : OwnG P (w.setCell ⟨g, i, none⟩ u) B gb n cap A := by
  obtain ⟨ps, hom, hnp, hps⟩ := h
  exact ⟨ps, ⟨hom.outer.setCell_other _ _ (.inr (by simp [Value.ownBlock]; exact hne)), ⟨fun r hr => (hom.inner.own r hr).setCell_typed ho (by decide) i u, hom.inner.apart⟩⟩, hnp, hps⟩
set_option maxRecDepth 100000 in
set_option maxHeartbeats 4000000 in
theorem l7Fill_any (a : Option Addr) (rs : List Row) (c : Nat) (a' : Option Addr) (zs : List Int) (c' : Nat) (w : World) (F : Nat) (hF : 2 ^ rs.length - 1 = F) (hg : GOk (nums rs)) (hr : RdM w a rs) (hn : Small rs) (hz : Rd (Value.int .i64) w a' zs) (hz16 : zs.length ≤ 16) (hzr : ∀ x ∈ zs, 0 ≤ x ∧ x < (rs.length : Int)) :
    Calls Tryd.prog 128 #[.agg #[.slice a rs.length c], .slice a' zs.length c'] w fun e w' => ∃ gb cap, e = .returned (.agg #[.slice (some ⟨gb, 0, none⟩) rs.length cap]) ∧ OwnG (fun _ => False) w' w.heap.size gb rs.length cap (fTo F ((nums rs).map maskL) zs zs.length) ∧ Below w.heap.size w w' := by
  have RA := hid hr; have RZ := hid hz; have RZW := hid hz; have HZR := hid hzr; clear hr hz hzr
  have hn1 := hn.1
  have hga := GA.of hg
  rw [nums_length] at hga
  have HGA0 := hid hga
  have h16 := hga.le
  have hpos1 := hga.pos
  have HNM := hid (show nums rs = ((nums rs).map maskL).map mems by
    rw [List.map_map]
    apply List.ext_getElem (by simp)
    intro i h1 h2
    have hi : i < (nums rs).length := h1
    have h3 := mems_maskL (hg.inc i hi) (by have := hg.le; omega)
    rw [row_nat _ _ hi] at h3
    simp [h3])
  have HALL := hid (goneL_all rs.length)
  rw [hF] at HALL
  have hpos := Nat.two_pow_pos rs.length
  have HF0 := hid (show F < 2 ^ rs.length by omega)
  have HP16 := hid (show 2 ^ rs.length ≤ 65536 from Nat.pow_le_pow_right (n := 2) (i := rs.length) (j := 16) (by decide) h16)
  clear hg hga hpos hF
  generalize (nums rs).map maskL = A0 at *
  obtain ⟨w0, hw0⟩ : ∃ w0, w0 = ((w.alloc (.cells #[.slice a rs.length c] 28)).alloc (.cells #[.slice none 0 0] 28)) := ⟨_, rfl⟩
  have B0 := hid (show Below w.heap.size w w0 by rw [hw0]; exact (((Below.refl _ _).alloc (Nat.le_refl _) _).alloc (by simp) _))
  have c0 : w0.cell? ⟨w.heap.size, 0, none⟩ = some (.slice a rs.length c) := by rw [hw0]; simp [go_sem]
  have c1 : w0.cell? ⟨w.heap.size + 1, 0, none⟩ = some (.slice none 0 0) := by rw [hw0]; simp [go_sem]
  replace RA := hid (RA.out.below B0.out (Nat.le_refl _))
  replace RZ := hid (RZ.out.below B0.out (Nat.le_refl _))
  have HW := hid hw0; clear hw0
  have OR := hid (show Own 28 w0 (w.heap.size + 1) (.slice (some ⟨w.heap.size + 1, 0, none⟩) 1 1) [.slice none 0 0] by
    have h := own_new 28 (w.alloc (.cells #[.slice a rs.length c] 28)) [.slice none 0 0] (by simp [maxLen])
    rw [HW.out]
    simpa using h)
  have hsz0 : w0.heap.size = w.heap.size + 2 := by rw [HW.out]; simp
  clear c1
  have RA00 := hid RA.out; have RZ00 := hid RZ.out; have B000 := hid B0.out; have c000 := hid c0
  go_enter Tryd.func128, Tryd.ntmps128
  go_wp2_with fail
  rw [← HW.out]
  refine (l1CopyGraph_any a rs c _ RA.out hn).mono ?_
  rintro e wa ⟨gv, ps, rfl, hnp, hom, hb⟩
  have hlp : (ps.map Row.val).length = rs.length := by
    have h1 := congrArg List.length hnp
    rw [nums_length, nums_length] at h1
    rw [List.length_map]; exact h1
  obtain ⟨gb, cap, hgv⟩ : ∃ gb cap, gv = .slice (some ⟨gb, 0, none⟩) rs.length cap := by
    rcases hom.outer.form with ⟨_, h2⟩ | ⟨g, cap, spare, h2, _⟩
    · rw [h2] at hlp; simp at hlp; omega
    · exact ⟨g, cap, by rw [h2, hlp]⟩
  subst hgv
  have OG := hid (show OwnG (fun _ => False) wa w0.heap.size gb rs.length cap A0 from ⟨ps, hom, by rw [hnp, HNM.out], fun _ _ _ _ h => h⟩)
  have hgb := hom.outer.ge gb rfl
  have BL := hid hb
  clear hom hnp hlp
  replace RA := hid (RA.out.below hb (Nat.le_refl _))
  replace RZ := hid (RZ.out.below hb (Nat.le_refl _))
  replace B0 := hid (bon B0.out hb)
  replace c0 := cellB hb c0 (Nat.le_refl _)
  clear hb
  have hb := alloc_below wa (.cells #[.slice (some ⟨gb, 0, none⟩) rs.length cap] 28)
  have ON := hid (show Own 28 (wa.alloc (.cells #[.slice (some ⟨gb, 0, none⟩) rs.length cap] 28)) wa.heap.size (.slice (some ⟨wa.heap.size, 0, none⟩) 1 1) [.slice (some ⟨gb, 0, none⟩) rs.length cap] from own_new 28 wa [.slice (some ⟨gb, 0, none⟩) rs.length cap] (by simp [maxLen]))
  replace RA := hid (RA.out.below hb (Nat.le_refl _))
  replace RZ := hid (RZ.out.below hb (Nat.le_refl _))
  replace B0 := hid (bon B0.out hb)
  replace c0 := cellB hb c0 (Nat.le_refl _)
  replace OG := hid (OG.out.past hb (Nat.le_refl _))
  replace BL := hid (bon BL.out hb)
  clear hb
  go_wp2_with fail
  generalize wa.alloc (.cells #[.slice (some ⟨gb, 0, none⟩) rs.length cap] 28) = wb at *
  go_wp2_with fail
  refine (l1Size_any a rs c _ hn1).mono ?_
  rintro e w1 ⟨rfl, hb⟩
  replace RA := hid (RA.out.below hb (Nat.le_refl _))
  replace RZ := hid (RZ.out.below hb (Nat.le_refl _))
  replace B0 := hid (bon B0.out hb)
  replace c0 := cellB hb c0 (Nat.le_refl _)
  replace OG := hid (OG.out.past hb (Nat.le_refl _))
  replace BL := hid (bon BL.out hb)
  replace ON := hid (ON.out.past hb (Nat.le_refl _))
  clear hb
  have hs01 := BL.out.size
  go_wp2_with (at_make; refine law_make tBools _ rfl _ _ rfl rs.length _ _ rfl rfl (by omega) ?_; intro wm hown hb hsz)
  have OQ := hid hown; clear hown hsz
  have HREP := hid (show List.replicate rs.length (Value.bool false) = (goneL F rs.length).map Value.bool by rw [HALL.out]; simp)
  rw [HREP.out] at OQ
  replace RA := hid (RA.out.below hb (Nat.le_refl _))
  replace RZ := hid (RZ.out.below hb (Nat.le_refl _))
  replace B0 := hid (bon B0.out hb)
  replace c0 := cellB hb c0 (Nat.le_refl _)
  replace OG := hid (OG.out.past hb (Nat.le_refl _))
  replace BL := hid (bon BL.out hb)
  replace ON := hid (ON.out.past hb (Nat.le_refl _))
  clear hb
  have hsm := BL.out.size
  go_wp2
  go_loopw [7] (fun x wr => ∃ k : Nat, k ≤ zs.length ∧ x = .int .i64 k ∧ OwnG (fun _ => False) wr w0.heap.size gb rs.length cap (fTo F A0 zs k) ∧ Own 4 wr w1.heap.size (.slice (some ⟨w1.heap.size, 0, none⟩) rs.length rs.length) ((goneL (sTo F zs k) rs.length).map Value.bool) ∧ Own 28 wr wa.heap.size (.slice (some ⟨wa.heap.size, 0, none⟩) 1 1) [.slice (some ⟨gb, 0, none⟩) rs.length cap] ∧ Below w0.heap.size w0 wr) (fun x _ => zs.length - (intOf x).toNat)
  case atStart => exact ⟨0, Nat.zero_le _, rfl, OG.out, OQ.out, ON.out, BL.out⟩
  case round =>
    obtain ⟨k, hk, rfl, hog, hq, hno, hb⟩ := hrel
    have OG := hid hog; have OQ := hid hq; have ON := hid hno; have BL := hid hb
    clear hog hq hno
    have hb2 := hb
    replace RA := hid (RA00.out.below hb (Nat.le_refl _))
    replace RZ := hid (RZ00.out.below hb (Nat.le_refl _))
    replace B0 := hid (B000.out.trans (hb.mono B000.out.size))
    replace c0 := cellB hb c000.out (Nat.le_refl _)
    clear hb hb2
    have cn := ON.out.cell 0 (by simp)
    rw [List.getElem_cons_zero] at cn
    have HGA := hid (fTo_ga (F := F) HGA0.out zs k)
    by_cases hlt : k < zs.length
    · obtain ⟨zb, zo, hza, cl⟩ := RZ.out k hlt
      have hzb : zb < w.heap.size := by
        obtain ⟨zb', zo', h1, h2⟩ := RZW.out k hlt
        have h3 := World.block_lt_of_cell? _ _ h2
        rw [hza] at h1
        simp at h1
        rw [h1.1]; exact h3
      subst hza
      have hki : (k : Int) < (zs.length : Int) := by omega
      have hv := HZR.out zs[k] (List.getElem_mem hlt)
      obtain ⟨m, hm⟩ := Int.eq_ofNat_of_zero_le hv.1
      rw [hm] at cl
      have hat : atN zs k = m := by unfold atN; rw [getD_eq _ k hlt, hm]; rfl
      have hmn : m < rs.length := by omega
      have hmi : (m : Int) < (rs.length : Int) := by omega
      have HSS := hid (show sTo F zs (k + 1) = dif (sTo F zs k) (2 ^ m) by show dif _ (2 ^ atN zs k) = _; rw [hat])
      have HFF := hid (show fTo F A0 zs (k + 1) = elimA (fTo F A0 zs k) (nearV (fTo F A0 zs k) (sTo F zs k) m) by show elimA _ (nearV _ _ (atN zs k)) = _; rw [hat])
      clear hv hm hat
      generalize fTo F A0 zs k = A at *
      generalize sTo F zs k = S at *
      have cgb := OQ.out.cell m (by simp [goneL_len]; exact hmn)
      have hfr := OQ.out.free m
      have hst := OQ.out.store m (by simp [goneL_len]; exact hmn) (.bool true)
      rw [← List.map_set, goneL_set] at hst
      have OQ2 := hid hst; clear hst
      have OG2 := hid (OG.out.setCell_typed OQ.out (by decide) (by decide) m (.bool true))
      have ON2 := hid (ON.out.setCell_typed OQ.out (by decide) m (.bool true))
      have BL2 := hid (BL.out.setCell (p := ⟨w1.heap.size, m, none⟩) (by simp only; omega) (.bool true))
      have cl2 : (wr.setCell ⟨w1.heap.size, m, none⟩ (.bool true)).cell? ⟨zb, zo + k, none⟩ = some (.int .i64 m) := cell_other cl _ (by simp only; omega)
      clear OG OQ ON BL cn RA RZ
      go_wp2_with fail
      clear cgb hfr cl
      generalize wr.setCell ⟨w1.heap.size, m, none⟩ (.bool true) = ws at *
      have HP3 := hid (nearV_lt HGA.out S m)
      have D3 : Drawn ws ws.drew := ⟨1, rfl⟩
      have OG3 := hid (OG2.out.past (D3.below ws.heap.size) (Nat.le_refl _))
      have OQ3 := hid (OQ2.out.past (D3.below ws.heap.size) (Nat.le_refl _))
      have ON3 := hid (ON2.out.past (D3.below ws.heap.size) (Nat.le_refl _))
      have BL3 := hid (bon BL2.out (D3.below ws.heap.size))
      have f0 : ws.drew.cell? ⟨wa.heap.size, 0, none⟩ = some (.slice (some ⟨gb, 0, none⟩) rs.length cap) := by
        have h1 := ON3.out.cell 0 (by simp)
        rwa [List.getElem_cons_zero] at h1
      have f1 := dcell D3 cl2
      have HEL := hid (clq_elim (A := A) (N := nearV A S m) (by rw [HGA.out.len]; exact h16) (by rw [HGA.out.len]; exact HP3.out))
      have HINC := hid (mems_incN HP3.out h16)
      have HA16 := hid HGA.out.in16
      have HAL := hid HGA.out.len
      have hzgb : zb ≠ gb := by omega
      clear OG2 OQ2 ON2 BL2 cl2
      go_region_held3 (fun w' => w'.cell? ⟨wa.heap.size, 0, none⟩ = some (.slice (some ⟨gb, 0, none⟩) rs.length cap) ∧ w'.cell? ⟨zb, zo + k, none⟩ = some (.int .i64 m)) (first | exact ⟨f0, f1⟩ | exact ⟨g0, g1⟩ | exact ⟨h0, h1⟩ | (rw [setCell_id h0]; exact ⟨h0, h1⟩)) ((first | (go_at_call 129; refine (l7Left_near w0.heap.size gb rs.length cap A m S _ _ _ OG3.out HGA.out hmn (ownB_rd OQ3.out)).mono ?_; rintro e w4 ⟨lv, rfl, hown, hb⟩; obtain ⟨la, lc, rfl, hlr, _, _, _, hlb⟩ := Own.rd hown; have RL4 := hid hlr; have HLB := hid hlb; have g0 := cellB hb f0 (Nat.le_refl _); have g1 := cellB hb f1 (Nat.le_refl _); have OG4 := hid (OG3.out.past hb (Nat.le_refl _)); have OQ4 := hid (OQ3.out.past hb (Nat.le_refl _)); have ON4 := hid (ON3.out.past hb (Nat.le_refl _)); have BL4 := hid (bon BL3.out hb); clear hown hlr hlb hb) | (go_at_call 157; refine (l7Clique_any (fun _ => False) w0.heap.size gb rs.length cap A la _ lc _ OG4.out (fun k hk => hk.elim) HA16.out HAL.out h16 OG4.out.lt BL4.out.size RL4.out HINC.out (fun b o h => (by have h1 := (HLB.out b o h).1; have e : ws.drew.heap.size = ws.heap.size := rfl; have h2 := OG3.out.lt; omega))).mono ?_; rintro e w5 ⟨rfl, hog, hk⟩; have OG5 := hid hog; have OQ5 := hid (OQ4.out.keptS hk (OG4.out.apart OQ4.out (by decide))); have ON5 := hid (ON4.out.keptS hk (OG4.out.apart ON4.out (by decide))); have h0 : w5.cell? ⟨wa.heap.size, 0, none⟩ = some (.slice (some ⟨gb, 0, none⟩) rs.length cap) := (by have h1 := ON5.out.cell 0 (by simp); rwa [List.getElem_cons_zero] at h1); have h1 := cellK hk g1 (by simp only; exact hzgb); have hfr5 := ON5.out.free 0; have BL5 := hid (BL4.out.trans (Kept.below1 hk hgb BL4.out.size)); clear hog hk)))
      rw [setCell_id h0]
      rw [HEL.out] at OG5
      clear f0 f1 g0 g1 h0 h1 hfr5 OG3 OQ3 ON3 BL3 OG4 OQ4 ON4 BL4 RL4 HLB
      go_wp2
      go_roundw
      case rel => exact ⟨k + 1, by omega, by go_num, by rw [HFF.out]; exact OG5.out, by rw [HSS.out]; exact OQ5.out, ON5.out, BL5.out⟩
      case measure => simp [intOf]; omega
    · obtain rfl : k = zs.length := by omega
      have OR2 := hid (OR.out.past BL.out (Nat.le_refl _))
      have c1 := OR2.out.cell 0 (by simp)
      rw [List.getElem_cons_zero] at c1
      have hfr := OR2.out.free 0
      have OG2 := hid ((OG.out.setCell_typed OR2.out (by decide) (by decide) 0 (.slice (some ⟨gb, 0, none⟩) rs.length cap)).mono (B' := w.heap.size) (P' := fun _ => False) (by omega) (fun k hk => hk.elim))
      have LB2 := hid (show Below w.heap.size w (wr.setCell ⟨w.heap.size + 1, 0, none⟩ (.slice (some ⟨gb, 0, none⟩) rs.length cap)) from Below.setCell (B000.out.trans (BL.out.mono B000.out.size)) (p := ⟨w.heap.size + 1, 0, none⟩) (by simp only; omega) _)
      have c110 : (wr.setCell ⟨w.heap.size + 1, 0, none⟩ (.slice (some ⟨gb, 0, none⟩) rs.length cap)).cell? ⟨w.heap.size + 1, 0, none⟩ = some (.slice (some ⟨gb, 0, none⟩) rs.length cap) := by
        have h := (OR2.out.store 0 (by simp) (.slice (some ⟨gb, 0, none⟩) rs.length cap)).cell 0 (by simp)
        simpa using h
      have HC110 := hid c110
      clear c110 OG OQ ON BL RA RZ
      go_wp2
      refine bodyPost_ret (ret_cell rfl _ _ _ ⟨w.heap.size + 1, 0, none⟩ (.agg #[.slice (some ⟨gb, 0, none⟩) rs.length cap]) rfl ?_) rfl ⟨_, _, rfl, OG2.out, LB2.out⟩
      have c110 := HC110.out
      clear OG2 LB2
      go_simp
end
section
set_option maxRecDepth 100000 in
set_option maxHeartbeats 4000000 in
theorem l7Later_any (a : Option Addr) (rs : List Row) (c : Nat) (a' : Option Addr) (zs : List Int) (c' : Nat) (w : World) (F : Nat) (hF : 2 ^ rs.length - 1 = F) (hg : GOk (nums rs)) (hr : RdM w a rs) (hn : Small rs) (hz : Rd (Value.int .i64) w a' zs) (hz16 : zs.length ≤ 16) (hzr : ∀ x ∈ zs, 0 ≤ x ∧ x < (rs.length : Int)) :
    Calls Tryd.prog 71 #[.agg #[.slice a rs.length c], .slice a' zs.length c'] w fun e w' => ∃ (va : Option Addr) (vc : Nat) (ps : List Row), e = .returned (.slice va rs.length vc) ∧ Rd Row.val w' va ps ∧ ps.map (fun r => r.z.length) = (latTo F ((nums rs).map maskL) zs zs.length).map (pcN 16) ∧ Below w.heap.size w w' := by
  have RA := hid hr; have RZ := hid hz; have HZR := hid hzr; have RZW := hid hz; clear hr hz hzr
  have hn1 := hn.1
  have hga := GA.of hg
  rw [nums_length] at hga
  have HGA0 := hid hga
  have HG := hid hg
  have h16 := hga.le
  have hpos1 := hga.pos
  have HALL := hid (goneL_all rs.length)
  rw [hF] at HALL
  have hpos := Nat.two_pow_pos rs.length
  have HF0 := hid (show F < 2 ^ rs.length by omega)
  have HF := hid hF
  have HA0L := hid (show ((nums rs).map maskL).length = rs.length by rw [List.length_map, nums_length])
  clear hg hga hpos hF
  generalize hA0 : (nums rs).map maskL = A0 at *
  have HA0 := hid hA0
  clear hA0
  obtain ⟨w0, hw0⟩ : ∃ w0, w0 = (w.alloc (.cells #[.slice a rs.length c] 28)) := ⟨_, rfl⟩
  have B0 := hid (show Below w.heap.size w w0 by rw [hw0]; exact ((Below.refl _ _).alloc (Nat.le_refl _) _))
  have c0 : w0.cell? ⟨w.heap.size, 0, none⟩ = some (.slice a rs.length c) := by rw [hw0]; simp [go_sem]
  replace RA := hid (RA.out.below B0.out (Nat.le_refl _))
  replace RZ := hid (RZ.out.below B0.out (Nat.le_refl _))
  have HW := hid hw0; clear hw0
  have hsz0 : w0.heap.size = w.heap.size + 1 := by rw [HW.out]; simp
  have RA00 := hid RA.out; have RZ00 := hid RZ.out; have B000 := hid B0.out; have c000 := hid c0
  go_enter Tryd.func71, Tryd.ntmps71
  go_wp2_with fail
  rw [← HW.out]
  refine (l7Fill_any a rs c a' zs c' _ F HF.out HG.out RA.out hn RZ.out hz16 HZR.out).mono ?_
  rintro e wa ⟨gb, cap, rfl, hog, hb⟩
  rw [HA0.out] at hog
  have OG := hid hog
  have BL := hid hb
  have hgbl := hog.lt
  clear hog
  replace RA := hid (RA.out.below hb (Nat.le_refl _))
  replace RZ := hid (RZ.out.below hb (Nat.le_refl _))
  replace B0 := hid (bon B0.out hb)
  replace c0 := cellB hb c0 (Nat.le_refl _)
  clear hb
  have hb := alloc_below wa (.cells #[.slice (some ⟨gb, 0, none⟩) rs.length cap] 28)
  have ON := hid (show Own 28 (wa.alloc (.cells #[.slice (some ⟨gb, 0, none⟩) rs.length cap] 28)) wa.heap.size (.slice (some ⟨wa.heap.size, 0, none⟩) 1 1) [.slice (some ⟨gb, 0, none⟩) rs.length cap] from own_new 28 wa [.slice (some ⟨gb, 0, none⟩) rs.length cap] (by simp [maxLen]))
  have hwa := BL.out.size
  replace RA := hid (RA.out.below hb (Nat.le_refl _))
  replace RZ := hid (RZ.out.below hb (Nat.le_refl _))
  replace B0 := hid (bon B0.out hb)
  replace c0 := cellB hb c0 (Nat.le_refl _)
  replace OG := hid (OG.out.past hb (Nat.le_refl _))
  replace BL := hid (bon BL.out hb)
  clear hb
  go_wp2_with fail
  generalize wa.alloc (.cells #[.slice (some ⟨gb, 0, none⟩) rs.length cap] 28) = wb at *
  go_wp2_with fail
  refine (l1Size_any a rs c _ hn1).mono ?_
  rintro e w1 ⟨rfl, hb⟩
  replace RA := hid (RA.out.below hb (Nat.le_refl _))
  replace RZ := hid (RZ.out.below hb (Nat.le_refl _))
  replace B0 := hid (bon B0.out hb)
  replace c0 := cellB hb c0 (Nat.le_refl _)
  replace OG := hid (OG.out.past hb (Nat.le_refl _))
  replace BL := hid (bon BL.out hb)
  replace ON := hid (ON.out.past hb (Nat.le_refl _))
  clear hb
  have hs01 := BL.out.size
  have hs02 := ON.out.lt wa.heap.size rfl
  go_wp2_with (at_make; refine law_make tBools _ rfl _ _ rfl rs.length _ _ rfl rfl (by omega) ?_; intro wm hown hb hsz; have c0m := cellB hb c0 (Nat.le_refl _))
  have OQ := hid hown; clear hown
  have HREP := hid (show List.replicate rs.length (Value.bool false) = (goneL F rs.length).map Value.bool by rw [HALL.out]; simp)
  rw [HREP.out] at OQ
  replace RA := hid (RA.out.below hb (Nat.le_refl _))
  replace RZ := hid (RZ.out.below hb (Nat.le_refl _))
  replace B0 := hid (bon B0.out hb)
  replace c0 := cellB hb c0 (Nat.le_refl _)
  replace OG := hid (OG.out.past hb (Nat.le_refl _))
  replace BL := hid (bon BL.out hb)
  replace ON := hid (ON.out.past hb (Nat.le_refl _))
  clear hb
  clear c0m
  refine (l1Size_any a rs c _ hn1).mono ?_
  rintro e w2 ⟨rfl, hb⟩
  replace RA := hid (RA.out.below hb (Nat.le_refl _))
  replace RZ := hid (RZ.out.below hb (Nat.le_refl _))
  replace B0 := hid (bon B0.out hb)
  replace c0 := cellB hb c0 (Nat.le_refl _)
  replace OG := hid (OG.out.past hb (Nat.le_refl _))
  replace BL := hid (bon BL.out hb)
  replace ON := hid (ON.out.past hb (Nat.le_refl _))
  replace OQ := hid (OQ.out.past hb (Nat.le_refl _))
  clear hb
  have hs03 := BL.out.size
  have hs04 := OQ.out.lt w1.heap.size rfl
  go_wp2_with (at_make; refine law_make tRows _ rfl _ _ rfl rs.length _ _ rfl rfl (by omega) ?_; intro wn hown hb hsn)
  have OO := hid (show Own 25 wn w2.heap.size (.slice (some ⟨w2.heap.size, 0, none⟩) rs.length rs.length) ((List.replicate rs.length (⟨none, [], 0⟩ : Row)).map Row.val) by
    rw [List.map_replicate]; exact hown)
  have HL0 := hid (show (List.replicate rs.length (⟨none, [], 0⟩ : Row)).map (fun r => r.z.length) = (latTo F A0 zs 0).map (pcN 16) by
    show _ = (List.replicate A0.length 0).map (pcN 16)
    rw [List.map_replicate, List.map_replicate, HA0L.out]; rfl)
  clear hown
  replace RA := hid (RA.out.below hb (Nat.le_refl _))
  replace RZ := hid (RZ.out.below hb (Nat.le_refl _))
  replace B0 := hid (bon B0.out hb)
  replace c0 := cellB hb c0 (Nat.le_refl _)
  replace OG := hid (OG.out.past hb (Nat.le_refl _))
  replace BL := hid (bon BL.out hb)
  replace ON := hid (ON.out.past hb (Nat.le_refl _))
  replace OQ := hid (OQ.out.past hb (Nat.le_refl _))
  clear hb
  go_wp2
  go_loopw [8] (fun x wr => ∃ (k : Nat) (ps : List Row), k ≤ zs.length ∧ x = .int .i64 k ∧ ps.map (fun r => r.z.length) = (latTo F A0 zs k).map (pcN 16) ∧ Own 25 wr w2.heap.size (.slice (some ⟨w2.heap.size, 0, none⟩) rs.length rs.length) (ps.map Row.val) ∧ OwnG (fun _ => False) wr w0.heap.size gb rs.length cap (fTo F A0 zs zs.length) ∧ Own 4 wr w1.heap.size (.slice (some ⟨w1.heap.size, 0, none⟩) rs.length rs.length) ((goneL (sTo F zs k) rs.length).map Value.bool) ∧ Own 28 wr wa.heap.size (.slice (some ⟨wa.heap.size, 0, none⟩) 1 1) [.slice (some ⟨gb, 0, none⟩) rs.length cap] ∧ Below w0.heap.size w0 wr) (fun x _ => zs.length - (intOf x).toNat)
  case atStart => exact ⟨0, _, Nat.zero_le _, rfl, HL0.out, OO.out, OG.out, OQ.out, ON.out, BL.out⟩
  case round =>
    clear OO
    obtain ⟨k, ps, hk, rfl, hps, hoo, hog, hq, hno, hb⟩ := hrel
    have OG := hid hog; have OQ := hid hq; have ON := hid hno; have BL := hid hb; have OO := hid hoo; have HPS := hid hps
    clear hog hq hno hoo hps
    have hb2 := hb
    replace RA := hid (RA00.out.below hb (Nat.le_refl _))
    replace RZ := hid (RZ00.out.below hb (Nat.le_refl _))
    replace B0 := hid (B000.out.trans (hb.mono B000.out.size))
    replace c0 := cellB hb c000.out (Nat.le_refl _)
    clear hb hb2
    have hpl : ps.length = rs.length := by
      have h1 := congrArg List.length HPS.out
      rw [List.length_map, List.length_map, latTo_len, HA0L.out] at h1; exact h1
    by_cases hlt : k < zs.length
    · have cn := ON.out.cell 0 (by simp)
      rw [List.getElem_cons_zero] at cn
      obtain ⟨zb, zo, hza, cl⟩ := RZ.out k hlt
      have hzb : zb < w.heap.size := by
        obtain ⟨zb', zo', h1, h2⟩ := RZW.out k hlt
        have h3 := World.block_lt_of_cell? _ _ h2
        rw [hza] at h1
        simp at h1
        rw [h1.1]; exact h3
      subst hza
      have hki : (k : Int) < (zs.length : Int) := by omega
      have hv := HZR.out zs[k] (List.getElem_mem hlt)
      obtain ⟨m, hm⟩ := Int.eq_ofNat_of_zero_le hv.1
      rw [hm] at cl
      have hat : atN zs k = m := by unfold atN; rw [getD_eq _ k hlt, hm]; rfl
      have hmn : m < rs.length := by omega
      have hmi : (m : Int) < (rs.length : Int) := by omega
      have HGA := hid (fTo_ga (F := F) HGA0.out zs zs.length)
      have HSS := hid (show sTo F zs (k + 1) = dif (sTo F zs k) (2 ^ m) by show dif _ (2 ^ atN zs k) = _; rw [hat])
      have HNR := hid (show nearV (fTo F A0 zs zs.length) (sTo F zs k) m = nrTo F A0 zs k by rw [← hat]; exact nrTo_late HGA0.out zs hk)
      have HNL := hid (show (mems (nrTo F A0 zs k)).length = pcN 16 (nrTo F A0 zs k) by rw [← HNR.out, ← near_dif]; exact mems_pc HGA.out _ _)
      have HLL := hid (show latTo F A0 zs (k + 1) = (latTo F A0 zs k).set m (nrTo F A0 zs k) by show (latTo F A0 zs k).set (atN zs k) _ = _; rw [hat])
      clear hv hm hat
      generalize nrTo F A0 zs k = N at *
      generalize fTo F A0 zs zs.length = A at *
      generalize sTo F zs k = S at *
      have cgb := OQ.out.cell m (by simp [goneL_len]; exact hmn)
      have hfr := OQ.out.free m
      have hst := OQ.out.store m (by simp [goneL_len]; exact hmn) (.bool true)
      rw [← List.map_set, goneL_set] at hst
      have OQ2 := hid hst; clear hst
      have OG2 := hid (OG.out.setCell_typed OQ.out (by decide) (by decide) m (.bool true))
      have ON2 := hid (ON.out.setCell_typed OQ.out (by decide) m (.bool true))
      have OO2 := hid (OO.out.setCell_typed OQ.out (by decide) m (.bool true))
      have BL2 := hid (BL.out.setCell (p := ⟨w1.heap.size, m, none⟩) (by simp only; omega) (.bool true))
      have cl2 : (wr.setCell ⟨w1.heap.size, m, none⟩ (.bool true)).cell? ⟨zb, zo + k, none⟩ = some (.int .i64 m) := cell_other cl _ (by simp only; omega)
      clear OG OQ ON BL OO cn RA RZ
      go_wp2_with fail
      clear cgb hfr cl
      generalize wr.setCell ⟨w1.heap.size, m, none⟩ (.bool true) = ws at *
      have D3 : Drawn ws ws.drew := ⟨1, rfl⟩
      have OG3 := hid (OG2.out.past (D3.below ws.heap.size) (Nat.le_refl _))
      have OQ3 := hid (OQ2.out.past (D3.below ws.heap.size) (Nat.le_refl _))
      have ON3 := hid (ON2.out.past (D3.below ws.heap.size) (Nat.le_refl _))
      have OO3 := hid (OO2.out.past (D3.below ws.heap.size) (Nat.le_refl _))
      have BL3 := hid (bon BL2.out (D3.below ws.heap.size))
      have f0 : ws.drew.cell? ⟨wa.heap.size, 0, none⟩ = some (.slice (some ⟨gb, 0, none⟩) rs.length cap) := by
        have h1 := ON3.out.cell 0 (by simp)
        rwa [List.getElem_cons_zero] at h1
      have f1 := dcell D3 cl2
      have hmps : m < (ps.map Row.val).length := by rw [List.length_map, hpl]; exact hmn
      have HMPS := hid hmps
      have hna : w2.heap.size ≠ wa.heap.size := by omega
      have hnz : w2.heap.size ≠ zb := by omega
      clear OG2 OQ2 ON2 BL2 cl2 OO2
      go_region_held3 (fun w' => w'.cell? ⟨wa.heap.size, 0, none⟩ = some (.slice (some ⟨gb, 0, none⟩) rs.length cap) ∧ w'.cell? ⟨zb, zo + k, none⟩ = some (.int .i64 m)) (first | exact ⟨f0, f1⟩ | exact ⟨g0, g1⟩ | exact ⟨cell_other g0 _ (by simp only; omega), cell_other g1 _ (by simp only; omega)⟩) ((first | (go_at_call 129; refine (l7Left_near w0.heap.size gb rs.length cap A m S _ _ _ OG3.out HGA.out hmn (ownB_rd OQ3.out)).mono ?_; rw [HNR.out]; rintro e w4 ⟨lv, rfl, hown, hb⟩; obtain ⟨la, lc, rfl, hlr, _, _, _, hlb⟩ := Own.rd hown; have g0 := cellB hb f0 (Nat.le_refl _); have g1 := cellB hb f1 (Nat.le_refl _); have OG4 := hid (OG3.out.past hb (Nat.le_refl _)); have OQ4 := hid (OQ3.out.past hb (Nat.le_refl _)); have ON4 := hid (ON3.out.past hb (Nat.le_refl _)); have OO4 := hid (OO3.out.past hb (Nat.le_refl _)); have BL4 := hid (bon BL3.out hb); have hfr4 := OO4.out.free m; have co4 := OO4.out.cell m HMPS.out; clear hown hlr hlb hb)))
      have hst := OO4.out.store m HMPS.out (Row.val ⟨la, mems N, lc⟩)
      rw [← List.map_set] at hst
      have OO5 := hid (show Own 25 (w4.setCell ⟨w2.heap.size, m, none⟩ (.slice la (mems N).length lc)) w2.heap.size (.slice (some ⟨w2.heap.size, 0, none⟩) rs.length rs.length) ((ps.set m ⟨la, mems N, lc⟩).map Row.val) from hst)
      have OG5 := hid (OwnG.setStore OG4.out OO4.out (by omega) m (.slice la (mems N).length lc))
      have OQ5 := hid (OQ4.out.setCell_typed OO4.out (by decide) m (.slice la (mems N).length lc))
      have ON5 := hid (ON4.out.setCell_typed OO4.out (by decide) m (.slice la (mems N).length lc))
      have BL5 := hid (BL4.out.setCell (p := ⟨w2.heap.size, m, none⟩) (by simp only; omega) (.slice la (mems N).length lc))
      have HP5 := hid (show (ps.set m ⟨la, mems N, lc⟩).map (fun r => r.z.length) = (latTo F A0 zs (k + 1)).map (pcN 16) by
        rw [List.map_set, HLL.out, List.map_set, HPS.out, ← HNL.out])
      clear f0 f1 g0 g1 hst hfr4 co4 OG3 OQ3 ON3 BL3 OG4 OQ4 ON4 BL4 OO3 OO4
      go_wp2
      go_roundw
      case rel => exact ⟨k + 1, _, by omega, by go_num, HP5.out, OO5.out, OG5.out, by rw [HSS.out]; exact OQ5.out, ON5.out, BL5.out⟩
      case measure => simp [intOf]; omega
    · obtain rfl : k = zs.length := by omega
      obtain ⟨va, vc, hv, hrd, _⟩ := Own.rd (f := Row.val) OO.out
      rw [hpl] at hv
      injection hv with e1 _ e3
      subst e1; subst e3
      have RR := hid hrd
      clear hrd OO OG OQ ON RA RZ
      go_wp2
      go_ret
      exact ⟨_, ⟨_, rfl⟩, ps, RR.out, HPS.out, B0.out⟩
end
section
set_option maxRecDepth 100000 in
set_option maxHeartbeats 4000000 in
theorem specOrderWidth_b (a : Option Addr) (rs : List Row) (c : Nat) (a' : Option Addr) (zs : List Int) (c' : Nat) (w : World) (r : Int) (hx : widL (nums rs) zs = r) (hr : RdM w a rs) (hn : Small rs) (hz : Rd (Value.int .i64) w a' zs) (hm : zs.length ≤ 1048576) (hc' : zs.length ≤ c') :
    Calls Tryd.prog 22 #[.agg #[.slice a rs.length c], .slice a' zs.length c'] w fun e w' => e = .returned (.int .i64 r) ∧ Below w.heap.size w w' := by
  have RA := hid hr; have RZ := hid hz; have HX := hid hx; clear hr hz hx
  obtain ⟨w0, hw0⟩ : ∃ w0, w0 = (w.alloc (.cells #[.slice a rs.length c] 28)) := ⟨_, rfl⟩
  have B0 := hid (show Below w.heap.size w w0 by rw [hw0]; exact ((Below.refl _ _).alloc (Nat.le_refl _) _))
  have c0 : w0.cell? ⟨w.heap.size, 0, none⟩ = some (.slice a rs.length c) := by rw [hw0]; simp [go_sem]
  replace RA := hid (RA.out.below B0.out (Nat.le_refl _))
  replace RZ := hid (RZ.out.below B0.out (Nat.le_refl _))
  have HW := hid hw0; clear hw0
  by_cases ho : OrdP (nums rs) zs
  · have h2 := hid (show decide (OrdP (nums rs) zs) = true by simpa using ho)
    have HG := hid ho.1
    have h16 : rs.length ≤ 16 := by have := ho.1.le; rwa [nums_length] at this
    have hz16 : zs.length ≤ 16 := by have := ho.2.1; rw [nums_length] at this; omega
    have HRG := hid (show ∀ x ∈ zs, 0 ≤ x ∧ x < (rs.length : Int) by have := ho.2.2.1; rwa [nums_length] at this)
    have HFIN := hid (show ((wmax (latTo (2 ^ (nums rs).length - 1) ((nums rs).map maskL) zs zs.length) (nums rs).length : Nat) : Int) = r by rw [← HX.out]; unfold widL; rw [if_pos ho])
    rw [nums_length] at HFIN
    have HTL := hid (show (latTo (2 ^ rs.length - 1) ((nums rs).map maskL) zs zs.length).length = rs.length by rw [latTo_len, List.length_map, nums_length])
    clear ho HX
    go_enter Tryd.func22, Tryd.ntmps22
    go_wp2_with fail
    rw [← HW.out]
    refine (specOrderOk_b a rs c a' zs c' _ true h2.out RA.out hn RZ.out hm hc').mono ?_
    rintro e w1 ⟨rfl, hb⟩
    replace RA := hid (RA.out.below hb (Nat.le_refl _))
    replace RZ := hid (RZ.out.below hb (Nat.le_refl _))
    replace B0 := hid (bon B0.out hb)
    replace c0 := cellB hb c0 (Nat.le_refl _)
    clear hb
    go_wp2_with fail
    refine (l7Later_any a rs c a' zs c' _ _ rfl HG.out RA.out hn RZ.out hz16 HRG.out).mono ?_
    rintro e w2 ⟨va, vc, ps, rfl, hrp, hps, hb⟩
    have RP := hid hrp
    have HPS := hid hps
    replace B0 := hid (bon B0.out hb)
    clear hb
    clear hrp hps RA RZ c0
    generalize latTo (2 ^ rs.length - 1) ((nums rs).map maskL) zs zs.length = T at *
    have HPL := hid (show ps.length = rs.length by
      have h1 := congrArg List.length HPS.out
      rw [List.length_map, List.length_map, HTL.out] at h1; exact h1)
    go_wp2
    have RP0 := hid RP.out; have B00 := hid B0.out
    go_loopw [6, 7] (fun m x wr => ∃ k : Nat, k ≤ rs.length ∧ x = .int .i64 k ∧ m = .int .i64 (wmax T k : Nat) ∧ Below w2.heap.size w2 wr) (fun _ x _ => rs.length - (intOf x).toNat)
    case atStart => exact ⟨0, Nat.zero_le _, rfl, rfl, Below.refl _ _⟩
    case round =>
      clear RP B0
      obtain ⟨k, hk, rfl, rfl, hd⟩ := hrel
      have RP := hid (RP0.out.below hd (Nat.le_refl _)); have B0 := hid (bon B00.out hd); have BL := hid hd
      clear hd
      have hw16 := wmax_le T k
      by_cases hlt : k < rs.length
      · have hltP : k < ps.length := by rw [HPL.out]; exact hlt
        have hltT : k < T.length := by rw [HTL.out]; exact hlt
        obtain ⟨lb, lo, rfl, cl⟩ := RP.out k hltP
        have hki : (k : Int) < (rs.length : Int) := by omega
        have hlz : ps[k].z.length = pcN 16 T[k] := by
          have h1 : (ps.map (fun r => r.z.length))[k]'(by rw [List.length_map]; exact hltP) = (T.map (pcN 16))[k]'(by rw [List.length_map]; exact hltT) := by simp [HPS.out]
          simpa using h1
        have HSU := hid (show wmax T (k + 1) = max (wmax T k) (pcN 16 T[k]) by show max _ (pcN 16 (T.getD k 0)) = _; rw [getD_in hltT])
        have hpc := pcN_le 16 T[k]
        unfold Row.val at cl
        rw [hlz] at cl
        clear hlz
        generalize ps[k] = q at *
        generalize pcN 16 T[k] = x at *
        generalize wmax T k = m at *
        go_wp2_with (first | (go_at_call 64; refine (l1Max_any _ _ _).mono ?_; rintro e w' ⟨rfl, rfl⟩))
        go_wp2
        go_roundw
        case rel => exact ⟨k + 1, by omega, by go_num, by rw [HSU.out]; (apply congrArg; omega), BL.out⟩
        case measure => simp [intOf]; omega
      · obtain rfl : k = rs.length := by omega
        have HR := hid (show ((wmax T rs.length : Nat) : Int) = r from HFIN.out)
        generalize wmax T rs.length = m at *
        go_wp2
        go_ret
        exact ⟨ret_int HR.out, B0.out⟩
  · have h2 := hid (show decide (OrdP (nums rs) zs) = false by simpa using ho)
    have HFIN := hid (show (-1 : Int) = r by rw [← HX.out]; unfold widL; rw [if_neg ho])
    clear ho HX
    go_enter Tryd.func22, Tryd.ntmps22
    go_wp2_with fail
    rw [← HW.out]
    refine (specOrderOk_b a rs c a' zs c' _ false h2.out RA.out hn RZ.out hm hc').mono ?_
    rintro e w1 ⟨rfl, hb⟩
    replace RA := hid (RA.out.below hb (Nat.le_refl _))
    replace RZ := hid (RZ.out.below hb (Nat.le_refl _))
    replace B0 := hid (bon B0.out hb)
    replace c0 := cellB hb c0 (Nat.le_refl _)
    clear hb
    go_wp2
    go_ret
    exact ⟨ret_int HFIN.out, B0.out⟩
end
end Go.Proofs.YtahibjikcijnfaaDoor
