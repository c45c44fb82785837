/- FnPathWidth: the law. -/
import Derived.Test.YtdncmloajajiaaaDoorFnWL
import Derived.Test.YtdncmloajajiaaaDoorTwF
import Derived.Test.YtdncmloajajiaaaDoorFnP
import Derived.Test.YtdncmloajajiaaaDoorEdges
import Derived.Test.YtdncmloajajiaaaDoorSepA
namespace Go.Proofs.YtdncmloajajiaaaDoor
open Go.RowKit
section
theorem likeInts_w (a a' : Option Addr) (zs ys : List Int) (n m c c' : Nat) (w : World) (b : Bool) (hl : zs.length = n) (hm : ys.length = m) (hb : decide (zs = ys) = b) (hr : Rd (Value.int .i64) w a zs) (hr' : Rd (Value.int .i64) w a' ys) (hn : n ≤ 16777216) (hn' : m ≤ 16777216) :
    Calls Tryd.prog 19 #[.slice a n c, .slice a' m c'] w fun e w' => e = .returned (.bool b) ∧ Drawn w w' := by
  subst hl; subst hm; exact likeInts_b a a' zs ys c c' w b hb hr hr' hn hn'
theorem sep_w (a : Option Addr) (rs : List Row) (c : Nat) (a' : Option Addr) (zs : List Int) (m c' : Nat) (w : World) (r : Int) (hm0 : zs.length = m) (hx : sepL (nums rs) zs = r) (hr : RdM w a rs) (hn : Small rs) (hz : Rd (Value.int .i64) w a' zs) (hm : zs.length ≤ 1048576) (hc' : zs.length ≤ c') :
    Calls Tryd.prog 24 #[.agg #[.slice a rs.length c], .slice a' m c'] w fun e w' => e = .returned (.int .i64 r) ∧ Below w.heap.size w w' := by
  subst hm0; exact specSeparation_b a rs c a' zs c' w r hx hr hn hz hm hc'
theorem OwnG.outMW {P : Nat → Prop} {w : World} {B gb n cap : Nat} {A : List Nat} (h : OwnG P w B gb n cap A) (hA : GA n A) : ∃ ps : List Row, OwnM 33 2 w B (.slice (some ⟨gb, 0, none⟩) n cap) ps ∧ Small ps ∧ ps.length = n ∧ nums ps = A.map mems := by
  obtain ⟨ps, hom, hnp, _⟩ := h
  have hl : ps.length = n := by
    have h1 := congrArg List.length hnp
    rw [nums_length, List.length_map, hA.len] at h1; exact h1
  have h16 := hA.le
  refine ⟨ps, hom, ⟨by omega, fun r hr => ?_⟩, hl, hnp⟩
  have h1 : r.z ∈ nums ps := List.mem_map_of_mem hr
  rw [hnp] at h1
  obtain ⟨m, hm, he⟩ := List.mem_map.1 h1
  have := mems16 (hA.in16 m hm)
  rw [← he]; omega
theorem edgesW_len (g : List (List Int)) : (edgesOr g).length ≤ 256 := by
  unfold edgesOr
  split
  · rename_i h
    have h1 := edgesTo_len g g.length (fun v hv => gok_row_len h v hv)
    have := h.le
    show (edgesTo g g.length).length ≤ 256
    omega
  · simp
theorem ownM_someW {eo ei : TypeId} {w : World} {B : Nat} {v : Value} {rs : List Row} (h : OwnM eo ei w B v rs) (h0 : 0 < rs.length) : ∃ g c, v = .slice (some ⟨g, 0, none⟩) rs.length c := by
  rcases h.outer.form with ⟨_, h2⟩ | ⟨g, cap, spare, h2, _⟩
  · have := congrArg List.length h2
    rw [List.length_map, List.length_nil] at this; omega
  · exact ⟨_, _, by rw [h2, List.length_map]⟩
set_option maxRecDepth 100000 in
set_option maxHeartbeats 8000000 in
theorem lawPathWidth_any (a0 : Option Addr) (zs0 : List Int) (c0 : Nat) (w : World) (hr0 : Rd (Value.int .u8) w a0 zs0) (hl0 : zs0.length ≤ c0 ∧ c0 ≤ maxLen ∧ (a0 = none → c0 = 0) ∧ ∀ z ∈ zs0, 0 ≤ z ∧ z < 256) (hT : TabOk w) :
    Calls Tryd.prog 5 #[.slice a0 zs0.length c0] w fun e w' => e = .returned (.bool true) ∧ Below w.heap.size w w' := by
  have RZ := hid hr0; have HZ := hid hl0.2.2.2; have RT := hid hT
  clear hr0 hl0 hT
  obtain ⟨len, hlen⟩ : ∃ len, zs0.length = len := ⟨_, rfl⟩
  rw [hlen]
  have HL := hid hlen; clear hlen
  go_enter Tryd.func5, Tryd.ntmps5
  by_cases hbg : 4096 < len
  · have HB := hid (show decide (4096 < len) = true from decide_eq_true hbg)
    clear hbg
    go_wp2_with (first | (go_at_call 6; refine (big_any a0 len c0 _ true HB.out).mono ?_; rintro e w' ⟨rfl, rfl⟩))
    go_ret
    exact ⟨rfl, Below.refl _ _⟩
  · have HB := hid (show decide (4096 < len) = false from decide_eq_false hbg)
    have hn : len ≤ 4096 := by omega
    clear hbg
    go_wp2_with (first | (go_at_call 6; refine (big_any a0 len c0 _ false HB.out).mono ?_; rintro e w' ⟨rfl, rfl⟩) | fail)
    refine (roll_any len c0 a0 zs0 1002 _ RZ.out HL.out HZ.out hn).mono ?_
    rintro e w1 ⟨g, h, rfl, hg, hd, hb⟩
    have DR1 := hid (DiceR.start hd (RZ.out.below hb (Nat.le_refl _)))
    have B1 := hid hb
    have hs1 := hb.size
    clear hd hb
    go_wp2_with fail
    refine (w9Graph_any g len c0 a0 zs0 6 6 w1 rfl DR1.out HL.out HZ.out hn (by decide) (by decide)).mono ?_
    rintro e w2 ⟨n, gb, cap, A, rfl, hnm, hga, hog, hdr⟩
    obtain ⟨ps, h1, h2, h3, h4⟩ := hog.outMW hga
    subst h3
    have B2 := hid (B1.out.trans (hdr.kept.below w.heap.size hs1 (fun k hk e => by omega)))
    have HGA := hid hga; have HNP := hid h4
    obtain ⟨K, O, hpw⟩ := pwF_ga hga
    have HPW := hid hpw
    have hK16 := hpw.k16
    have HOL := hid hpw.olen
    clear hpw
    have hsm := h2
    have hg1 : g < w1.heap.size := hdr.old
    have hs12 := hdr.kept.size
    have hn0 := hga.pos
    have hbA := alloc_below w2 (.cells #[.slice (some ⟨gb, 0, none⟩) ps.length cap] 29)
    have c4 : (w2.alloc (.cells #[.slice (some ⟨gb, 0, none⟩) ps.length cap] 29)).cell? ⟨w2.heap.size, 0, none⟩ = some (.slice (some ⟨gb, 0, none⟩) ps.length cap) := by simp [go_sem]
    have OG3 := hid (h1.past hbA (Nat.le_refl _))
    have B3 := hid (B2.out.trans (hbA.mono B2.out.size))
    have DR3 := hid (hdr.past hbA)
    have hs3 : w2.heap.size < (w2.alloc (.cells #[.slice (some ⟨gb, 0, none⟩) ps.length cap] 29)).heap.size := by simp
    clear hbA B2 h1 h2 h4 hog hdr DR1 B1
    go_wp2_with fail
    generalize w2.alloc (.cells #[.slice (some ⟨gb, 0, none⟩) ps.length cap] 29) = w3 at *
    have hlb : w1.heap.size ≤ w2.heap.size := hs12
    generalize w2.heap.size = lb at *
    have RT3 := hid (RT.out.below B3.out (Nat.le_refl _))
    refine (implPathWidth_any (some ⟨gb, 0, none⟩) ps cap w3 O K (by rw [HNP.out]; exact HPW.out.pwO) (by rw [HNP.out]; exact HPW.out.pwW) OG3.out.rdm hsm RT3.out).mono ?_
    rintro e w4 ⟨ov, rfl, hoo, hb⟩
    have hbo : w1.heap.size ≤ w3.heap.size := by omega
    have OO4 := hid (hoo.base hbo)
    have OG4 := hid (OG3.out.past hb (Nat.le_refl _))
    have B4 := hid (bon B3.out hb)
    have DR4 := hid (DR3.out.past hb)
    have c5 := cellB hb c4 (Nat.le_refl _)
    clear hoo hb OG3 B3 DR3 c4 RT3
    obtain ⟨oa, oc, rfl, _, hoc, _⟩ := OO4.out.rd
    have HOC := hid hoc; clear hoc
    go_wp2_with fail
    have D4 : Drawn w4 w4.drew := ⟨1, rfl⟩
    have f0 := dcell D4 c5
    have OG5 := hid (OG4.out.past (D4.below w4.heap.size) (Nat.le_refl _))
    have OO5 := hid (OO4.out.past (D4.below w4.heap.size) (Nat.le_refl _))
    have DR5 := hid (DR4.out.past (D4.below w4.heap.size))
    have B5 := hid (bon B4.out (D4.below w4.heap.size))
    clear OG4 OO4 DR4 B4 c5 D4
    have hol : O.length ≤ 1048576 := by rw [HOL.out]; omega
    go_cut [57] from 32 (fun t wc => t = .bool false ∧ OwnM 33 2 wc w1.heap.size (.slice (some ⟨gb, 0, none⟩) ps.length cap) ps ∧ Own 2 wc w1.heap.size (.slice oa O.length oc) (O.map (.int .i64)) ∧ DiceR w1 wc g len c0 a0 zs0 ∧ Below w.heap.size w wc ∧ wc.cell? ⟨lb, 0, none⟩ = some (.slice (some ⟨gb, 0, none⟩) ps.length cap))
    case first =>
      go_region_with ((first
        | (go_at_call 23; refine (specOrderOk_b (some ⟨gb, 0, none⟩) ps cap oa O oc _ true (decide_eq_true (by rw [HNP.out]; exact HPW.out.ord)) OG5.out.rdm hsm (ownL_rd OO5.out) hol HOC.out).mono ?_; rintro e wA ⟨rfl, hb⟩; have OGA := hid (OG5.out.past hb (Nat.le_refl _)); have OOA := hid (OO5.out.past hb (Nat.le_refl _)); have DRA := hid (DR5.out.past hb); have BA := hid (bon B5.out hb); have fA := cellB hb f0 (Nat.le_refl _); clear hb)
        | (go_at_call 24; refine (sep_w (some ⟨gb, 0, none⟩) ps cap (some ⟨rb, 0, none⟩) l9 ps.length rc _ (s9 : Int) HL9.out HS9.out OGW.out.rdm hsm (ownL_rd OLW.out) (by rw [HL9.out]; omega) (by rw [HL9.out]; exact hrc)).mono ?_; rintro e wT ⟨rfl, hb⟩; have OGT := hid (OGW.out.past hb (Nat.le_refl _)); have OOT := hid (OOW.out.past hb (Nat.le_refl _)); have DRT := hid (DRW.out.past hb); have BT := hid (bon BW.out hb); have fT := cellB hb fW (Nat.le_refl _); clear hb)
        | (go_at_call 24; refine (specSeparation_b (some ⟨gb, 0, none⟩) ps cap oa O oc _ (K : Int) (by rw [HNP.out]; exact HPW.out.sep) OGA.out.rdm hsm (ownL_rd OOA.out) hol HOC.out).mono ?_; rintro e wS ⟨rfl, hb⟩; have OGS := hid (OGA.out.past hb (Nat.le_refl _)); have OOS := hid (OOA.out.past hb (Nat.le_refl _)); have DRS := hid (DRA.out.past hb); have BS := hid (bon BA.out hb); have fS := cellB hb fA (Nat.le_refl _); clear hb)
        | (go_at_call 25; refine (w9Order_any g len c0 ps.length a0 zs0 _ DRS.out.here HL.out HZ.out hn (by omega)).mono ?_; rintro e wW ⟨rb, rc, l9, rfl, hl9, hord, hrc, _, hown, hdr⟩; have HL9 := hid hl9; obtain ⟨hop, s9, hs9, hks, hs16⟩ := HPW.out.any l9 hord hl9; have HS9 := hid (show sepL (nums ps) l9 = (s9 : Int) by rw [HNP.out]; exact hs9); have hks3 : decide (s9 < K) = false := decide_eq_false (by omega); have hks4 : ¬ s9 < K := (by omega); have hkep := hdr.kept; have OGW := hid (OGS.out.keptS hkep (OGS.out.blocks.mono (fun k hk e => by omega))); have OOW := hid (OOS.out.keptS hkep (fun g' hg hs => by have := OOS.out.ge g' hg; omega)); have OLW := hid hown; have DRW := hid (DRS.out.trans hdr); have BW := hid (BS.out.trans (hkep.below w.heap.size BS.out.size (fun k hk e => by omega))); have fW := cellK hkep fS (by show ¬ lb = g; omega); clear hown hdr hkep hord hop hs9 hl9)
        | (go_at_call 26; refine (specTreeWidth_any (some ⟨gb, 0, none⟩) ps cap A ps.length _ HGA.out HNP.out rfl OGT.out.rdm hsm (by omega)).mono ?_; rintro e wZ ⟨rfl, hb⟩; have htw : decide (K < twV (bhN A) (2 ^ ps.length - 1) 0) = false := decide_eq_false (by have := HPW.out.tw; omega); have htw4 : ¬ K < twV (bhN A) (2 ^ ps.length - 1) 0 := (by have := HPW.out.tw; omega); generalize twV (bhN A) (2 ^ ps.length - 1) 0 = tv at *; have OGZ := hid (OGT.out.past hb (Nat.le_refl _)); have OOZ := hid (OOT.out.past hb (Nat.le_refl _)); have DRZ := hid (DRT.out.past hb); have BZ := hid (bon BT.out hb); have fZ := cellB hb fT (Nat.le_refl _); clear hb)))
      all_goals (
        go_wp2_with fail
        go_meet
        exact ⟨rfl, OGZ.out, OOZ.out, DRZ.out, BZ.out, fZ⟩)
    case rest =>
      obtain ⟨rfl, hOG, hOO, hDR, hB, hF⟩ := hcut
      obtain ⟨wZ, rfl⟩ : ∃ z, z = wc := ⟨_, rfl⟩
      have OGZ := hid hOG; have OOZ := hid hOO; have DRZ := hid hDR; have BZ := hid hB; have fZ := hF
      clear hOG hOO hDR hB hF
      have RTZ := hid (RT.out.below BZ.out (Nat.le_refl _))
      clear OG5 OO5 DR5 B5 f0
      go_wp2_with fail
      refine (implPathAtMost_any (some ⟨gb, 0, none⟩) ps cap ((K : Int) - 1) wZ (paO (nums ps) ((K : Int) - 1)) false rfl (decide_eq_false (by rw [HNP.out]; exact HPW.out.pan)) OGZ.out.rdm hsm (by unfold I64; omega) RTZ.out).mono ?_
      rintro e wa ⟨va, rfl, hoa, hb⟩
      have OGa := hid (OGZ.out.past hb (Nat.le_refl _))
      have OOa := hid (OOZ.out.past hb (Nat.le_refl _))
      have DRa := hid (DRZ.out.past hb)
      have Ba := hid (bon BZ.out hb)
      have fa := cellB hb fZ (Nat.le_refl _)
      have RTa := hid (RT.out.below Ba.out (Nat.le_refl _))
      clear hoa hb OGZ OOZ DRZ BZ fZ RTZ
      go_wp2_with fail
      refine (implPathAtMost_any (some ⟨gb, 0, none⟩) ps cap (K : Int) wa O true (by rw [HNP.out]; exact HPW.out.pa) (decide_eq_true (by rw [HNP.out]; exact HPW.out.pas)) OGa.out.rdm hsm (by unfold I64; omega) RTa.out).mono ?_
      rintro e wb ⟨vb, rfl, hob, hb⟩
      obtain ⟨ma, mc, rfl, hrm, _⟩ := hob.rd
      have RMb := hid hrm
      have OGb := hid (OGa.out.past hb (Nat.le_refl _))
      have OOb := hid (OOa.out.past hb (Nat.le_refl _))
      have DRb := hid (DRa.out.past hb)
      have Bb := hid (bon Ba.out hb)
      have fb := cellB hb fa (Nat.le_refl _)
      clear hrm hob hb OGa OOa DRa Ba fa RTa
      go_wp2_with fail
      refine (likeInts_w ma oa O O O.length O.length mc oc wb true rfl rfl (decide_eq_true rfl) RMb.out (ownL_rd OOb.out) (by omega) (by omega)).mono ?_
      rintro e wc ⟨rfl, hd⟩
      have hb := hd.below wb.heap.size
      have OGc := hid (OGb.out.past hb (Nat.le_refl _))
      have DRc := hid (DRb.out.past hb)
      have Bc := hid (bon Bb.out hb)
      have fc := cellB hb fb (Nat.le_refl _)
      clear hd hb OGb OOb DRb Bb fb RMb
      go_wp2_with fail
      refine (specEdgesOf_any (some ⟨gb, 0, none⟩) ps cap wc OGc.out.rdm hsm).mono ?_
      rintro e w6 ⟨ve, qs, rfl, hq, hown, hb⟩
      have HQ := hid (show nums qs = edgesL (A.map mems) by rw [hq, HNP.out]; unfold edgesOr; rw [if_pos HGA.out.gok])
      have hqlen : qs.length ≤ 256 := by
        have h2 := edgesW_len (nums ps)
        rw [← hq, nums_length] at h2; exact h2
      have OE6 := hid (hown.base (show w1.heap.size ≤ wc.heap.size by have := OGc.out.outer.lt gb rfl; have := OGc.out.outer.ge gb rfl; omega))
      have OG6 := hid (OGc.out.past hb (Nat.le_refl _))
      have DR6 := hid (DRc.out.past hb)
      have B6 := hid (bon Bc.out hb)
      have f6 := cellB hb fc (Nat.le_refl _)
      clear hq hown hb OGc DRc Bc fc
      by_cases hq0 : qs.length = 0
      · obtain ⟨a', c', rfl, _⟩ := OE6.out.rd
        have hK0 : K = 0 := HPW.out.none (edges_noneW HGA.out (by rw [← HQ.out]; exact List.eq_nil_of_length_eq_zero (by rw [nums_length]; exact hq0)))
        have hqi : ((qs.length : Int) == 0) = true := by simp [hq0]
        clear hq0
        subst hK0
        go_wp2
        go_ret
        exact ⟨rfl, B6.out⟩
      · obtain ⟨eg, ec, rfl⟩ := ownM_someW OE6.out (by omega)
        have hqi : ((qs.length : Int) == 0) = false := by simpa using hq0
        have hqp : 0 < qs.length := by omega
        clear hq0
        go_wp2_with fail
        refine (DR6.out.below HL.out HZ.out hn (qs.length : Int) qs.length rfl hqp (by omega)).mono ?_
        rintro e w7 ⟨r, rfl, hr, hdr, hk7⟩
        have OE7 := hid (OE6.out.keptS hk7 (OE6.out.blocks.mono (fun k hk e => by omega)))
        have OG7 := hid (OG6.out.keptS hk7 (OG6.out.blocks.mono (fun k hk e => by omega)))
        have B7 := hid (B6.out.trans (hk7.below w.heap.size B6.out.size (fun k hk e => by omega)))
        have f7 := cellK hk7 f6 (by show ¬ lb = g; omega)
        clear hdr hk7 f6 OE6 OG6 DR6 B6
        obtain ⟨eb, eo, hea, ce, hok⟩ := OE7.out.rdm.at r hr
        obtain ⟨rfl, rfl⟩ : eg = eb ∧ 0 = eo := by simpa using hea
        have hmem : qs[r].z ∈ edgesL (A.map mems) := by
          rw [← HQ.out]
          exact List.mem_map_of_mem (List.getElem_mem hr)
        obtain ⟨u, v, hz, hun, hvn, huv, hbt⟩ := edge_shapeW HGA.out hmem
        have hrd := hok.1
        rw [hz] at ce hrd
        generalize qs[r].a = ra at *
        generalize qs[r].c = rc9 at *
        obtain ⟨rb9, ro9, hra, e0⟩ := hrd 0 (by simp)
        obtain ⟨rb', ro', hra', e1⟩ := hrd 1 (by simp)
        subst hra
        obtain ⟨rfl, rfl⟩ : rb9 = rb' ∧ ro9 = ro' := by simpa using hra'
        simp only [List.getElem_cons_zero, List.getElem_cons_succ, Nat.add_zero] at e0 e1
        have HBT := hid hbt
        have hri : (r : Int) < (qs.length : Int) := by omega
        have hlen2 : ([(u : Int), (v : Int)] : List Int).length = 2 := rfl
        rw [Nat.zero_add] at ce
        rw [hlen2] at ce
        clear hea hok hmem hz hrd hra' hbt hlen2
        go_wp2_with fail
        have D7 : Drawn w7 w7.drew := ⟨1, rfl⟩
        have k0 := dcell D7 f7
        have k1 := dcell D7 e0
        have k2 := dcell D7 e1
        have OG8 := hid (OG7.out.past (D7.below w7.heap.size) (Nat.le_refl _))
        have B8 := hid (bon B7.out (D7.below w7.heap.size))
        have hT7 := alloc_below w7 (.cells #[.slice none 0 0] 29)
        have D9 : Drawn (w7.alloc (.cells #[.slice none 0 0] 29)) (w7.alloc (.cells #[.slice none 0 0] 29)).drew := ⟨1, rfl⟩
        have hT8 := hT7.trans (D9.below w7.heap.size)
        have q0 := cellB hT8 f7 (Nat.le_refl _)
        have q1 := cellB hT8 e0 (Nat.le_refl _)
        have q2 := cellB hT8 e1 (Nat.le_refl _)
        have OG9 := hid (OG7.out.past hT8 (Nat.le_refl _))
        have B9 := hid (bon B7.out hT8)
        have HGC := hid (cutG_ga HGA.out hun hvn huv)
        clear OG7 B7 f7 e0 e1 hT8 hT7 D7
        go_cut [14, 15] from 97 (fun c x wc => ∃ cl gb' cap', c = .pointer (some ⟨cl, 0, none⟩) ∧ OwnG (fun _ => False) wc w.heap.size gb' ps.length cap' (cutG A u v) ∧ wc.cell? ⟨cl, 0, none⟩ = some (.slice (some ⟨gb', 0, none⟩) ps.length cap') ∧ Below w.heap.size w wc)
        case first =>
          have ON9 := hid ((own_new 29 w7 [.slice none 0 0] (show (1 : Nat) ≤ maxLen by decide)).past (D9.below _) (Nat.le_refl _))
          have hw7 : w.heap.size ≤ w7.drew.heap.size := B8.out.size
          have hw9 : (w7.alloc (.cells #[.slice none 0 0] 29)).drew.heap.size = w7.drew.heap.size + 1 := by show (w7.heap.push _).size = _; simp
          have HW9 := hid hw9
          clear hw9
          go_region_with (first
            | (go_at_call 28; refine (cutEdge_any w1.heap.size gb ps.length cap u v A ps w7.drew HGA.out HNP.out rfl OG8.out hsm hun hvn huv HBT.out).mono ?_; rintro e wk ⟨gb', cap', rfl, hog, hb⟩; have WA := hid (show OwnG (fun _ => False) wk w.heap.size gb' ps.length cap' (cutG A u v) from (by obtain ⟨ps9, a1, a2, a3⟩ := hog; exact ⟨ps9, a1.base hw7, a2, a3⟩)); have BK := hid (bon B8.out hb); clear hog hb)
            | (go_at_call 28; refine (cutEdge_any w1.heap.size gb ps.length cap u v A ps (w7.alloc (.cells #[.slice none 0 0] 29)).drew HGA.out HNP.out rfl OG9.out hsm hun hvn huv HBT.out).mono ?_; rintro e wk ⟨gb', cap', rfl, hog, hb⟩; have ONK := hid (ON9.out.past hb (Nat.le_refl _)); have kc := (show wk.cell? ⟨w7.heap.size, 0, none⟩ = some (.slice none 0 0) from ONK.out.cell 0 (by simp)); have kf := (show wk.frozen? ⟨w7.heap.size, 0, none⟩ = false from ONK.out.free 0); have WB := hid (show OwnG (fun _ => False) (wk.setCell ⟨w7.drew.heap.size, 0, none⟩ (.slice (some ⟨gb', 0, none⟩) ps.length cap')) w.heap.size gb' ps.length cap' (cutG A u v) from (by obtain ⟨ps9, a1, a2, a3⟩ := hog; exact ⟨ps9, (a1.setCell_below (by have := HW9.out; simp only; omega) _).base (by have := HW9.out; omega), a2, a3⟩)); have BK := hid (Below.setCell (bon B9.out hb) (p := ⟨w7.drew.heap.size, 0, none⟩) hw7 (.slice (some ⟨gb', 0, none⟩) ps.length cap')); have KC := hid ((ONK.out.store 0 (by simp) (.slice (some ⟨gb', 0, none⟩) ps.length cap')).cell 0 (by simp)); clear hog hb))
          all_goals (
            go_wp2_with fail
            go_meet
            first
              | exact ⟨_, gb', cap', rfl, WA.out.past (alloc_below wk _) (Nat.le_refl _), by simp [go_sem], BK.out.trans ((alloc_below wk _).mono BK.out.size)⟩
              | exact ⟨_, gb', cap', rfl, WB.out, by simpa using KC.out, BK.out⟩)
        case rest =>
          obtain ⟨cl, gb', cap', rfl, hog, hcl, hb⟩ := hcut
          obtain ⟨wX, rfl⟩ : ∃ z, z = wc := ⟨_, rfl⟩
          obtain ⟨m, hm, hm1, hm2⟩ := HPW.out.cut (cutG A u v) u v HGC.out (cutA_of HGA.out hun hvn huv)
          obtain ⟨qs2, t1, t2, t3, t4⟩ := hog.outMW HGC.out
          have HQ2 := hid t4
          have RT9 := hid (RT.out.below hb (Nat.le_refl _))
          have BX := hid hb
          have OQ := hid t1
          have HM := hid hm
          have HT3 := hid t3
          clear hog hb t1 t4 hm OG8 B8 OG9 B9 k0 k1 k2 q0 q1 q2 OE7
          rw [← t3] at hcl OQ
          clear t3
          go_wp2_with fail
          refine (implPathWidth_any (some ⟨gb', 0, none⟩) qs2 cap' wX (pwO (nums qs2)) (m : Int) rfl (by rw [HQ2.out]; exact HM.out) OQ.out.rdm t2 RT9.out).mono ?_
          rintro e wY ⟨vY, rfl, hoY, hbY⟩
          have BY := hid (bon BX.out hbY)
          clear hoY hbY
          have g1 : decide (m ≤ K) = true := decide_eq_true hm1
          have g2 : (m : Int) ≤ (K : Int) := by omega
          have g3 : (K : Int) - 1 ≤ (m : Int) := by omega
          have g4 : decide ((K : Int) - 1 ≤ (m : Int)) = true := decide_eq_true g3
          go_wp2
          go_ret
          exact ⟨ret_bool (by simp), BY.out⟩
end
end Go.Proofs.YtdncmloajajiaaaDoor
