/- FnForced: the law. -/
import Derived.Deep.CutRange
import Derived.Test.YtggjmnihnjdoaaaDoorFnFM
import Derived.Test.YtggjmnihnjdoaaaDoorFnP
import Derived.Test.YtggjmnihnjdoaaaDoorEdgeIn
import Derived.Test.YtggjmnihnjdoaaaDoorOriS
namespace Go.Proofs.YtggjmnihnjdoaaaDoor
open Go.RowKit
section
attribute [local irreducible] frL bq addAll bqE keyL
theorem sOri_flatF {g : List (List Int)} {w : World} {e : Ending} {w' : World} (h : SOriPost g w e w') : ∃ a c us, e = .returned (.tuple #[.slice a us.length c, .bool (oriG g).isSome]) ∧ OwnM 41 2 w' w.heap.size (.slice a us.length c) us ∧ (∀ H, oriG g = some H → nums us = H.map mems) ∧ Below w.heap.size w w' := by
  obtain ⟨hb, ⟨H, a, c, us, ho, he, hown, hnu⟩ | ⟨ho, a, c, he, hown⟩⟩ := h
  · exact ⟨a, c, us, by rw [ho]; exact he, hown, fun H' hH' => (by rw [ho] at hH'; injection hH' with hH'; rw [← hH']; exact hnu), hb⟩
  · exact ⟨a, c, [], by rw [ho]; exact he, hown, fun H' hH' => (by rw [ho] at hH'; cases hH'), hb⟩
theorem ownM_someF {eo ei : TypeId} {w : World} {B : Nat} {v : Value} {rs : List Row} (h : OwnM eo ei w B v rs) (h0 : 0 < rs.length) : ∃ g c, v = .slice (some ⟨g, 0, none⟩) rs.length c := by
  rcases h.outer.form with ⟨_, h2⟩ | ⟨g, cap, spare, h2, _⟩
  · have := congrArg List.length h2
    rw [List.length_map, List.length_nil] at this; omega
  · exact ⟨_, _, by rw [h2, List.length_map]⟩
theorem edgesF_len (g : List (List Int)) : (edgesOr g).length ≤ 256 := by
  unfold edgesOr
  split
  · rename_i h
    have h1 := edgesTo_len g g.length (fun v hv => gok_row_len h v hv)
    have := h.le
    show (edgesTo g g.length).length ≤ 256
    omega
  · simp
theorem OriOk.lt16 {n : Nat} {A H : List Nat} (h : GA n A) (ho : OriOk n A H) (u : Nat) : H.getD u 0 < 65536 := by
  apply Nat.lt_pow_two_of_testBit (n := 16)
  intro i hi
  rw [Bool.eq_false_iff]
  intro hb
  have h1 := (ho.part u i).2 (.inl hb)
  have := (h.lt h1).2
  have := h.le
  omega
theorem OriOk.mem {n : Nat} {A H : List Nat} (h : GA n A) (ho : OriOk n A H) (u v : Nat) : decide ((v : Int) ∈ mems (H.getD u 0)) = bt H u v := by
  apply Bool.eq_iff_iff.2
  rw [decide_eq_true_iff, mems_mem (by have := ho.lt16 h u; omega)]
  constructor
  · rintro ⟨i, hi, h1⟩
    obtain rfl : v = i := by omega
    exact h1
  · intro h1; exact ⟨v, rfl, h1⟩
theorem likeInts_n (a a' : Option Addr) (zs ys : List Int) (n m c c' : Nat) (w : World) (b : Bool) (hl : zs.length = n) (hm : ys.length = m) (hb : decide (zs = ys) = b) (hr : Rd (Value.int .i64) w a zs) (hr' : Rd (Value.int .i64) w a' ys) (hn : n ≤ 16777216) (hn' : m ≤ 16777216) :
    Calls Tryd.prog 48 #[.slice a n c, .slice a' m c'] w fun e w' => e = .returned (.bool b) ∧ Drawn w w' := by
  subst hl; subst hm; exact likeInts_b a a' zs ys c c' w b hb hr hr' hn hn'
theorem OwnG.outM {P : Nat → Prop} {w : World} {B gb n cap : Nat} {A : List Nat} (h : OwnG P w B gb n cap A) (hA : GA n A) : ∃ ps : List Row, OwnM 41 2 w B (.slice (some ⟨gb, 0, none⟩) n cap) ps ∧ Small ps ∧ ps.length = n ∧ nums ps = A.map mems := by
  obtain ⟨ps, hom, hnp, _⟩ := h
  have hl : ps.length = n := by
    have h1 := congrArg List.length hnp
    rw [nums_length, List.length_map, hA.len] at h1; exact h1
  have h16 := hA.le
  refine ⟨ps, hom, ⟨by omega, fun r hr => ?_⟩, hl, hnp⟩
  have h1 : r.z ∈ nums ps := List.mem_map_of_mem hr
  rw [hnp] at h1
  obtain ⟨m, hm, he⟩ := List.mem_map.1 h1
  have := mems16 (hA.in16 m hm)
  rw [← he]; omega
set_option maxRecDepth 100000 in
set_option maxHeartbeats 4000000 in
theorem lawForced_any (a0 : Option Addr) (zs0 : List Int) (c0 : Nat) (w : World) (hr0 : Rd (Value.int .u8) w a0 zs0) (hl0 : zs0.length ≤ c0 ∧ c0 ≤ maxLen ∧ (a0 = none → c0 = 0) ∧ ∀ z ∈ zs0, 0 ≤ z ∧ z < 256) (hT : TabOk w) :
    Calls Tryd.prog 10 #[.slice a0 zs0.length c0] w fun e w' => e = .returned (.bool true) ∧ Below w.heap.size w w' := by
  have RZ := hid hr0; have HZ := hid hl0.2.2.2; have RT := hid hT
  clear hr0 hl0 hT
  obtain ⟨len, hlen⟩ : ∃ len, zs0.length = len := ⟨_, rfl⟩
  rw [hlen]
  have HL := hid hlen; clear hlen
  go_enter Tryd.func10, Tryd.ntmps10
  by_cases hbg : 4096 < len
  · have HB := hid (show decide (4096 < len) = true from decide_eq_true hbg)
    clear hbg
    go_wp2_with (first | (go_at_call 38; refine (big_any a0 len c0 _ true HB.out).mono ?_; rintro e w' ⟨rfl, rfl⟩))
    go_ret
    exact ⟨rfl, Below.refl _ _⟩
  · have HB := hid (show decide (4096 < len) = false from decide_eq_false hbg)
    have hn : len ≤ 4096 := by omega
    clear hbg
    go_wp2_with (first | (go_at_call 38; refine (big_any a0 len c0 _ false HB.out).mono ?_; rintro e w' ⟨rfl, rfl⟩) | fail)
    refine (roll_any len c0 a0 zs0 1005 _ RZ.out HL.out HZ.out hn).mono ?_
    rintro e w1 ⟨g, h, rfl, hg, hd, hb⟩
    have DR1 := hid (DiceR.start hd (RZ.out.below hb (Nat.le_refl _)))
    have B1 := hid hb
    have hs1 := hb.size
    clear hd hb
    go_wp2_with fail
    refine (w9Graph_any g len c0 a0 zs0 6 6 w1 rfl DR1.out HL.out HZ.out hn (by decide) (by decide)).mono ?_
    rintro e w2 ⟨n, gb, cap, A, rfl, hnm, hga, hog, hdr⟩
    obtain ⟨ps, h1, h2, h3, h4⟩ := hog.outM hga
    subst h3
    have B2 := hid (B1.out.trans (hdr.kept.below w.heap.size hs1 (fun k hk e => by omega)))
    have hgk : GOk (nums ps) := by rw [h4]; exact hga.gok
    have HGK := hid hgk; have HGA := hid hga; have HNP := hid h4
    have hsm := h2
    have hg1 : g < w1.heap.size := hdr.old
    have hs12 := hdr.kept.size
    have hbA := alloc_below w2 (.cells #[.slice (some ⟨gb, 0, none⟩) ps.length cap] 28)
    have c4 : (w2.alloc (.cells #[.slice (some ⟨gb, 0, none⟩) ps.length cap] 28)).cell? ⟨w2.heap.size, 0, none⟩ = some (.slice (some ⟨gb, 0, none⟩) ps.length cap) := by simp [go_sem]
    have OG3 := hid (h1.past hbA (Nat.le_refl _))
    have B3 := hid (B2.out.trans (hbA.mono B2.out.size))
    have DR3 := hid (hdr.past hbA)
    clear hbA B2 h1 h2 h4 hog hdr DR1 B1 hgk
    go_wp2_with fail
    generalize w2.alloc (.cells #[.slice (some ⟨gb, 0, none⟩) ps.length cap] 28) = w3 at *
    generalize w2.heap.size = lb at *
    refine (specEdgesOf_any (some ⟨gb, 0, none⟩) ps cap _ OG3.out.rdm hsm).mono ?_
    rintro e w4 ⟨ve, qs, rfl, hq, hown, hb4⟩
    have HQ := hid (show nums qs = edgesL (ps |> nums) by rw [hq]; unfold edgesOr; rw [if_pos HGK.out])
    have c5 := cellB hb4 c4 (Nat.le_refl _)
    have hg3 : g < w3.heap.size := DR3.out.lt
    have OE4 := hid (hown.base (B' := w1.heap.size) (by have := DR3.out.kept.size; omega))
    have OG4 := hid (OG3.out.past hb4 (Nat.le_refl _))
    have DR4 := hid (DR3.out.past hb4)
    have B4 := hid (bon B3.out hb4)
    clear hq hown hb4 c4 OG3 DR3 B3
    by_cases hq0 : qs.length = 0
    · obtain ⟨a', c', rfl, _⟩ := OE4.out.rd
      have hqi : ((qs.length : Int) == 0) = true := by simp [hq0]
      clear hq0
      go_wp2
      go_ret
      exact ⟨rfl, B4.out⟩
    · obtain ⟨eg, ec, rfl⟩ := ownM_someF OE4.out (by omega)
      have hqi : ((qs.length : Int) == 0) = false := by simpa using hq0
      have hqp : 0 < qs.length := by omega
      clear hq0
      have hqlen : qs.length ≤ 256 := by
        have h2 := edgesF_len (nums ps)
        unfold edgesOr at h2
        rw [if_pos HGK.out] at h2
        have h3 : (nums qs).length = qs.length := nums_length qs
        rw [show nums qs = edgesL (nums ps) from HQ.out] at h3
        omega
      go_wp2_with fail
      refine (DR4.out.below HL.out HZ.out hn (qs.length : Int) qs.length rfl hqp (by omega)).mono ?_
      rintro e w5 ⟨r, rfl, hr, hdr, hk5⟩
      have OE5 := hid (OE4.out.keptS hk5 (OE4.out.blocks.mono (fun k hk e => by omega)))
      have OG5 := hid (OG4.out.keptS hk5 (OG4.out.blocks.mono (fun k hk e => by omega)))
      have B5 := hid (B4.out.trans (hk5.below w.heap.size B4.out.size (fun k hk e => by omega)))
      have c6 := cellK hk5 c5 (by show ¬ lb = g; omega)
      clear hdr hk5 c5 OE4 OG4 DR4 B4
      obtain ⟨eb, eo, hea, ce, hok⟩ := OE5.out.rdm.at r hr
      obtain ⟨rfl, rfl⟩ : eg = eb ∧ 0 = eo := by simpa using hea
      have hmem : qs[r].z ∈ edgesL (A.map mems) := by
        rw [← HNP.out, ← (show nums qs = edgesL (nums ps) from HQ.out)]
        exact List.mem_map_of_mem (List.getElem_mem hr)
      obtain ⟨u, v, hz, hun, hvn, hbt⟩ := edge_shapeF HGA.out hmem
      have hrd := hok.1
      rw [hz] at ce hrd
      generalize qs[r].a = ra at *
      generalize qs[r].c = rc at *
      obtain ⟨rb, ro, hra, e0⟩ := hrd 0 (by simp)
      obtain ⟨rb', ro', hra', e1⟩ := hrd 1 (by simp)
      subst hra
      obtain ⟨rfl, rfl⟩ : rb = rb' ∧ ro = ro' := by simpa using hra'
      simp only [List.getElem_cons_zero, List.getElem_cons_succ, Nat.add_zero] at e0 e1
      have HFE := hid (forced_edge HGA.out hun hvn hbt)
      have HBT := hid hbt
      have hri : (r : Int) < (qs.length : Int) := by omega
      have D5 : Drawn w5 w5.drew := ⟨1, rfl⟩
      have f0 := dcell D5 c6
      have f1 := dcell D5 e0
      have f2 := dcell D5 e1
      have OG6 := hid (OG5.out.past (D5.below w5.heap.size) (Nat.le_refl _))
      have B6 := hid (bon B5.out (D5.below w5.heap.size))
      have RT6 := hid (RT.out.below B6.out (Nat.le_refl _))
      rw [Nat.zero_add] at ce
      have hlen2 : ([(u : Int), (v : Int)] : List Int).length = 2 := rfl
      rw [hlen2] at ce
      clear hea hok hmem hz hrd hra' hbt OE5 OG5 B5 e0 e1 c6 D5 hlen2
      go_wp2
      go_region_held3 (fun w' => w'.cell? ⟨lb, 0, none⟩ = some (.slice (some ⟨gb, 0, none⟩) ps.length cap) ∧ w'.cell? ⟨rb, ro, none⟩ = some (.int .i64 u) ∧ w'.cell? ⟨rb, ro + 1, none⟩ = some (.int .i64 v)) (first | exact ⟨f0, f1, f2⟩ | exact ⟨g0, g1, g2⟩) ((first | (go_at_call 23; refine (implForcedBy_any (some ⟨gb, 0, none⟩) ps cap u v _ OG6.out.rdm hsm (by unfold I64; omega) (by unfold I64; omega) RT6.out).mono ?_; rintro e w7 ⟨v7, l7, rfl, hq7, ho7, hb7⟩; have g0 := cellB hb7 f0 (Nat.le_refl _); have g1 := cellB hb7 f1 (Nat.le_refl _); have g2 := cellB hb7 f2 (Nat.le_refl _); have OL7 := hid (ho7.base (B' := w.heap.size) B6.out.size); have NL7 := hid hq7; have OG7 := hid (OG6.out.past hb7 (Nat.le_refl _)); have B7 := hid (bon B6.out hb7); clear hq7 ho7 hb7)))
      obtain ⟨K, hK⟩ : ∃ K, K = keyL (bqE A (cod u v)) := ⟨_, rfl⟩
      obtain ⟨K', hK'⟩ : ∃ K', K' = keyL (bqE A (opp (cod u v))) := ⟨_, rfl⟩
      have NLa := hid (show nums l7 = K.map prI by rw [NL7.out, HNP.out, HFE.out.1, hK])
      have hll := class_len HGA.out HFE.out.2.2
      have hlp := class_pos HGA.out HFE.out.2.2
      rw [← hK, ← hK'] at hll
      rw [← hK] at hlp
      have hl7 : l7.length = K.length := by have h1 := congrArg List.length NLa.out; rw [nums_length, List.length_map] at h1; exact h1
      obtain ⟨lg, lc, rfl⟩ := ownM_someF OL7.out (by omega)
      have HK := hid hK; have HK' := hid hK'
      have hk256 : K.length ≤ 256 := by rw [hK]; exact keyL_len _
      have hk256' : K'.length ≤ 256 := by rw [hK']; exact keyL_len _
      have HLL := hid hll; have HLP := hid hlp; have HL7 := hid hl7
      have D7 : Drawn w7 w7.drew := ⟨1, rfl⟩
      have k0 := dcell D7 g0
      have k1 := dcell D7 g1
      have k2 := dcell D7 g2
      have OG8 := hid (OG7.out.past (D7.below w7.heap.size) (Nat.le_refl _))
      have OL8 := hid (OL7.out.past (D7.below w7.heap.size) (Nat.le_refl _))
      have B8 := hid (bon B7.out (D7.below w7.heap.size))
      have RT8 := hid (RT.out.below B8.out (Nat.le_refl _))
      clear f0 f1 f2 g0 g1 g2 OG7 OL7 B7 D7 OG6 B6 RT6 NL7 hK hK' hll hlp hl7
      go_wp2
      go_region_held3 (fun w' => w'.cell? ⟨lb, 0, none⟩ = some (.slice (some ⟨gb, 0, none⟩) ps.length cap) ∧ w'.cell? ⟨rb, ro, none⟩ = some (.int .i64 u) ∧ w'.cell? ⟨rb, ro + 1, none⟩ = some (.int .i64 v)) (first | exact ⟨k0, k1, k2⟩ | exact ⟨g0, g1, g2⟩) ((first | (go_at_call 23; refine (implForcedBy_any (some ⟨gb, 0, none⟩) ps cap v u _ OG8.out.rdm hsm (by unfold I64; omega) (by unfold I64; omega) RT8.out).mono ?_; rintro e w9 ⟨v9, l9, rfl, hq9, ho9, hb9⟩; have g0 := cellB hb9 k0 (Nat.le_refl _); have g1 := cellB hb9 k1 (Nat.le_refl _); have g2 := cellB hb9 k2 (Nat.le_refl _); have OB9 := hid (ho9.base (B' := w.heap.size) B8.out.size); have NL9 := hid hq9; have OG9 := hid (OG8.out.past hb9 (Nat.le_refl _)); have OL9 := hid (OL8.out.past hb9 (Nat.le_refl _)); have B9 := hid (bon B8.out hb9); clear hq9 ho9 hb9)))
      have NLb := hid (show nums l9 = K'.map prI by rw [NL9.out, HNP.out, HFE.out.2.1, HK'.out])
      have hl9 : l9.length = K.length := by have h1 := congrArg List.length NLb.out; rw [nums_length, List.length_map, ← HLL.out] at h1; exact h1
      obtain ⟨mg, mc, rfl⟩ := ownM_someF OB9.out (by have := HLP.out; omega)
      have HL9 := hid hl9
      have hne : ((l7.length : Int) != (l9.length : Int)) = false := by rw [HL7.out, hl9]; simp
      have hn0 : ((l7.length : Int) == 0) = false := by have := HLP.out; have := HL7.out; rw [beq_eq_false_iff_ne]; omega
      clear hl9 k0 k1 k2 OG8 OL8 B8 RT8 NL9
      go_wp2_with fail
      refine (specOriented_any (some ⟨gb, 0, none⟩) ps cap _ OG9.out.rdm hsm).mono ?_
      intro e w10 hpost
      obtain ⟨ua, uc, us, rfl, hou, hnu, hb10⟩ := sOri_flatF hpost
      obtain ⟨is, his⟩ : ∃ is, (oriG (nums ps)).isSome = is := ⟨_, rfl⟩
      rw [his]
      have c0a := cellB hb10 g0 (Nat.le_refl _)
      have c1a := cellB hb10 g1 (Nat.le_refl _)
      have c2a := cellB hb10 g2 (Nat.le_refl _)
      have OGa := hid (OG9.out.past hb10 (Nat.le_refl _))
      have OLa := hid (OL9.out.past hb10 (Nat.le_refl _))
      have OBa := hid (OB9.out.past hb10 (Nat.le_refl _))
      have OUa := hid (hou.base (B' := w.heap.size) B9.out.size)
      have Ba := hid (bon B9.out hb10)
      clear hpost hou hb10 g0 g1 g2 OG9 OL9 OB9 B9 hne hn0
      have HIS := hid his
      have HNU := hid hnu
      clear his hnu
      go_wp2
      go_cut [11] from 15 (fun f wc => ∃ fb, f = .bool fb ∧ (∀ H, oriG (nums ps) = some H → fb = bt H u v) ∧ Below w10.heap.size w10 wc)
      case first =>
        have B10 := hid (Below.refl w10.heap.size w10)
        cases is with
        | false =>
          have HN := hid (show ∀ H, oriG (nums ps) = some H → false = bt H u v from fun H hH => by have := HIS.out; rw [hH] at this; cases this)
          have qc0a := fun (p : Bel _) => cellB p.h c0a (Nat.le_refl _)
          refine wp_quiet_b (by kernel_rfl) (by kernel_rfl) ?_
          repeat (go_big_quiet_step (fail))
          refine wpQuiet_nil ?_
          intro _ hw'
          obtain ⟨⟨w1, hb⟩, rfl⟩ := hw'
          clear qc0a
          replace B10 := hid (bon B10.out hb)
          replace c0a := cellB hb c0a (Nat.le_refl _)
          clear hb
          go_wp2_with fail
          go_meet
          exact ⟨false, rfl, HN.out, B10.out⟩
        | true =>
          obtain ⟨H, hH⟩ := Option.isSome_iff_exists.1 HIS.out
          have hok : OriOk ps.length A H := by
            unfold oriG at hH
            rw [if_pos HGK.out, HNP.out, HGA.out.masks, List.length_map, HGA.out.len] at hH
            exact oriN_ok HGA.out hH
          have hul : us.length = ps.length := by
            have h1 := congrArg List.length (HNU.out H hH)
            rw [nums_length, List.length_map, hok.len] at h1; exact h1
          have huu : u < us.length := by omega
          have hui : (u : Int) < (us.length : Int) := by omega
          obtain ⟨ub, uo, hua, cu, hku⟩ := OUa.out.rdm.at u huu
          subst hua
          have hzu : us[u].z = mems (H.getD u 0) := by
            have h1 : (nums us)[u]'(by rw [nums_length]; exact huu) = (H.map mems)[u]'(by rw [List.length_map, hok.len]; exact hun) := by simp only [HNU.out H hH]
            rw [List.getElem_map, ← getD_in (by rw [hok.len]; exact hun)] at h1
            simpa [nums] using h1
          have hru := hku.1
          rw [hzu] at cu hru
          generalize us[u].a = xa at *
          generalize us[u].c = xc at *
          have RU := hid hru
          have hm16 := mems_16c (hok.lt16 HGA.out u)
          have HIN := hid (hok.mem HGA.out u v)
          have HN := hid (show ∀ H', oriG (nums ps) = some H' → bt H u v = bt H' u v from fun H' hH' => by rw [hH] at hH'; injection hH' with hH'; rw [hH'])
          clear hok hul hku hzu hru hH huu
          generalize bt H u v = fb at *
          generalize mems (H.getD u 0) = M at *
          have qc0a := fun (p : Bel _) => cellB p.h c0a (Nat.le_refl _)
          have qc1a := fun (p : Bel _) => cellB p.h c1a (Nat.le_refl _)
          have qc2a := fun (p : Bel _) => cellB p.h c2a (Nat.le_refl _)
          have qcu := fun (p : Bel _) => cellB p.h cu (Nat.le_refl _)
          refine wp_quiet_b (by kernel_rfl) (by kernel_rfl) ?_
          repeat (go_big_quiet_step (first | (go_at_call 46; exact qbs (w9Has_b _ M _ _ _ _ HIN.out (RU.out.bel _) (by omega)))))
          refine wpQuiet_nil ?_
          intro _ hw'
          obtain ⟨⟨w2, hb⟩, rfl⟩ := hw'
          clear qc0a qc1a qc2a qcu
          replace B10 := hid (bon B10.out hb)
          replace c0a := cellB hb c0a (Nat.le_refl _)
          replace c1a := cellB hb c1a (Nat.le_refl _)
          replace c2a := cellB hb c2a (Nat.le_refl _)
          replace cu := cellB hb cu (Nat.le_refl _)
          replace RU := hid (RU.out.below hb (Nat.le_refl _))
          clear hb
          go_wp2_with fail
          go_meet
          exact ⟨fb, rfl, HN.out, B10.out⟩
      case rest =>
        obtain ⟨fb, rfl, hfb, hbc⟩ := hcut
        obtain ⟨wA, rfl⟩ : ∃ z, z = wc := ⟨_, rfl⟩
        have HFB := hid hfb
        have d0 := cellB hbc c0a (Nat.le_refl _)
        have OGb := hid (OGa.out.past hbc (Nat.le_refl _))
        have OLb := hid (OLa.out.past hbc (Nat.le_refl _))
        have OBb := hid (OBa.out.past hbc (Nat.le_refl _))
        have OUb := hid (OUa.out.past hbc (Nat.le_refl _))
        have Bb := hid (bon Ba.out hbc)
        have HD0 := hid d0
        clear hfb hbc OGa OLa OBa OUa Ba c0a c1a c2a d0
        go_wp2
        go_loopw [12, 13, 14] (fun x _ _ wr => ∃ i : Nat, i ≤ K.length ∧ x = .int .i64 i ∧ Below wA.heap.size wA wr) (fun x _ _ _ => K.length - (intOf x).toNat)
        case atStart => exact ⟨0, Nat.zero_le _, rfl, Below.refl _ _⟩
        case round =>
          obtain ⟨i, hi, rfl, hbr⟩ := hrel
          have BR := hid hbr
          have d0 := cellB hbr HD0.out (Nat.le_refl _)
          have OGr := hid (OGb.out.past hbr (Nat.le_refl _))
          have OLr := hid (OLb.out.past hbr (Nat.le_refl _))
          have OBr := hid (OBb.out.past hbr (Nat.le_refl _))
          have OUr := hid (OUb.out.past hbr (Nat.le_refl _))
          clear hbr
          by_cases hil : i < K.length
          · have hil7 : i < l7.length := by rw [HL7.out]; exact hil
            have hii : (i : Int) < (l7.length : Int) := by omega
            obtain ⟨yb, yo, hya, cy, hky⟩ := OLr.out.rdm.at i hil7
            obtain ⟨rfl, rfl⟩ : lg = yb ∧ 0 = yo := by simpa using hya
            have hzy : l7[i].z = prI K[i] := by
              have h1 : (nums l7)[i]'(by rw [nums_length]; exact hil7) = (K.map prI)[i]'(by rw [List.length_map]; exact hil) := by simp only [NLa.out]
              simpa [nums] using h1
            have hry := hky.1
            have hpK : K[i] ∈ keyL (bqE A (cod u v)) := by rw [← HK.out]; exact List.getElem_mem hil
            have hpe := (isK_of HGA.out HFE.out.2.2).edge _ hpK
            have hpl := edA_lt HGA.out hpe
            have hpo := class_opp HGA.out HFE.out.2.2 _ hpK
            have hps := fun H (h : OriOk ps.length A H) => class_sense HGA.out h HFE.out.2.2 _ hpK
            rw [hzy] at cy hry
            generalize l7[i].a = ya at *
            generalize l7[i].c = yc at *
            generalize K[i] = p at *
            have hpd := opp_dm (edA_256 HGA.out hpe)
            unfold prI at hry cy
            obtain ⟨xa, hxa⟩ : ∃ xa, p / 16 = xa := ⟨_, rfl⟩
            obtain ⟨xb, hxb⟩ : ∃ xb, p % 16 = xb := ⟨_, rfl⟩
            rw [hxa, hxb] at hry cy
            obtain ⟨zb, zo, hza, e0⟩ := hry 0 (by simp)
            obtain ⟨zb', zo', hza', e1⟩ := hry 1 (by simp)
            subst hza
            obtain ⟨rfl, rfl⟩ : zb = zb' ∧ zo = zo' := by simpa using hza'
            simp only [List.getElem_cons_zero, List.getElem_cons_succ, Nat.add_zero] at e0 e1
            have ce0 := e0; have ce1 := e1; have cd0 := d0
            clear d0
            rw [Nat.zero_add] at cy
            have hyl : ([(xa : Int), (xb : Int)] : List Int).length = 2 := rfl
            rw [hyl] at cy
            have hb16 : bt A xa xb = true := by unfold edA at hpe; rw [hxa, hxb] at hpe; exact hpe
            have HEP := hid (show decide (EdgeP (nums ps) (xa : Int) (xb : Int)) = true from decide_eq_true (by rw [HNP.out]; exact edgeP_ga HGA.out (by omega) hb16))
            have HPS := hid (fun H (h : OriOk ps.length A H) => (show bt H xa xb = bt H u v from by
              have h1 := hps H h
              rw [edA_cod (by have := HGA.out.le; omega)] at h1
              rw [← h1]; unfold edA; rw [hxa, hxb]))
            have HPO := hid hpo; have HPD := hid (show prI (opp p) = [(xb : Int), (xa : Int)] by unfold prI; rw [hpd.1, hpd.2, hxa, hxb])
            have hxn : xa < ps.length ∧ xb < ps.length := by omega
            have HCY := hid cy; have HE0 := hid e0; have HE1 := hid e1
            clear e0 e1
            have h22 : ((2 : Int) != 2) = false := rfl
            clear hzy hpK hpe hpl hpo hps hpd hxa hxb hry hza' hya hky hyl hb16 hil7
            go_wp2
            go_cut [128] from 77 to 157 (fun t wd => t = .bool false ∧ Below wr.heap.size wr wd)
            case first =>
              have BZ := hid (Below.refl wr.heap.size wr)
              have RG := hid OGr.out.rdm
              cases is with
              | false =>
                have qcd0 := fun (p : Bel _) => cellB p.h cd0 (Nat.le_refl _)
                have qcy := fun (p : Bel _) => cellB p.h cy (Nat.le_refl _)
                have qce0 := fun (p : Bel _) => cellB p.h ce0 (Nat.le_refl _)
                have qce1 := fun (p : Bel _) => cellB p.h ce1 (Nat.le_refl _)
                refine wp_quiet_b (by kernel_rfl) (by kernel_rfl) ?_
                repeat (go_big_quiet_step (first | (go_at_call 47; exact qb (specEdgeIn_b _ ps _ _ _ _ _ HEP.out (RG.out.bel _) hsm (by unfold I64; omega) (by unfold I64; omega)))))
                refine wpQuiet_nil ?_
                intro _ hw'
                obtain ⟨⟨w3, hb⟩, rfl⟩ := hw'
                clear qcd0 qcy qce0 qce1
                replace BZ := hid (bon BZ.out hb)
                replace cd0 := cellB hb cd0 (Nat.le_refl _)
                replace cy := cellB hb cy (Nat.le_refl _)
                replace ce0 := cellB hb ce0 (Nat.le_refl _)
                replace ce1 := cellB hb ce1 (Nat.le_refl _)
                replace RG := hid (RG.out.below hb (Nat.le_refl _))
                clear hb
                go_wp2_with fail
                go_meet
                exact ⟨rfl, BZ.out⟩
              | true =>
                obtain ⟨H, hH⟩ := Option.isSome_iff_exists.1 HIS.out
                have hok : OriOk ps.length A H := by
                  unfold oriG at hH
                  rw [if_pos HGK.out, HNP.out, HGA.out.masks, List.length_map, HGA.out.len] at hH
                  exact oriN_ok HGA.out hH
                have hul : us.length = ps.length := by
                  have h1 := congrArg List.length (HNU.out H hH)
                  rw [nums_length, List.length_map, hok.len] at h1; exact h1
                have huu : xa < us.length := by omega
                have hui : (xa : Int) < (us.length : Int) := by omega
                obtain ⟨ub, uo, hua, cu, hku⟩ := OUr.out.rdm.at xa huu
                subst hua
                have hzu : us[xa].z = mems (H.getD xa 0) := by
                  have h1 : (nums us)[xa]'(by rw [nums_length]; exact huu) = (H.map mems)[xa]'(by rw [List.length_map, hok.len]; omega) := by simp only [HNU.out H hH]
                  rw [List.getElem_map, ← getD_in (by rw [hok.len]; omega)] at h1
                  simpa [nums] using h1
                have hru := hku.1
                rw [hzu] at cu hru
                generalize us[xa].a = va at *
                generalize us[xa].c = vc at *
                have RU := hid hru
                have hm16 := mems_16c (hok.lt16 HGA.out xa)
                have hfbx : bt H xa xb = fb := by rw [HPS.out H hok, HFB.out H hH]
                have HIN := hid (show decide ((xb : Int) ∈ mems (H.getD xa 0)) = fb from by rw [hok.mem HGA.out xa xb, hfbx])
                have hff : (fb != fb) = false := by simp
                clear hok hul hku hzu hru hH huu hfbx
                generalize mems (H.getD xa 0) = M at *
                have qcd0 := fun (p : Bel _) => cellB p.h cd0 (Nat.le_refl _)
                have qcy := fun (p : Bel _) => cellB p.h cy (Nat.le_refl _)
                have qce0 := fun (p : Bel _) => cellB p.h ce0 (Nat.le_refl _)
                have qce1 := fun (p : Bel _) => cellB p.h ce1 (Nat.le_refl _)
                have qcu := fun (p : Bel _) => cellB p.h cu (Nat.le_refl _)
                refine wp_quiet_b (by kernel_rfl) (by kernel_rfl) ?_
                repeat (go_big_quiet_step (first | (go_at_call 47; exact qb (specEdgeIn_b _ ps _ _ _ _ _ HEP.out (RG.out.bel _) hsm (by unfold I64; omega) (by unfold I64; omega))) | (go_at_call 46; exact qbs (w9Has_b _ M _ _ _ _ HIN.out (RU.out.bel _) (by omega)))))
                refine wpQuiet_nil ?_
                intro _ hw'
                obtain ⟨⟨w4, hb⟩, rfl⟩ := hw'
                clear qcd0 qcy qce0 qce1 qcu
                replace BZ := hid (bon BZ.out hb)
                replace cd0 := cellB hb cd0 (Nat.le_refl _)
                replace cy := cellB hb cy (Nat.le_refl _)
                replace ce0 := cellB hb ce0 (Nat.le_refl _)
                replace ce1 := cellB hb ce1 (Nat.le_refl _)
                replace RG := hid (RG.out.below hb (Nat.le_refl _))
                replace cu := cellB hb cu (Nat.le_refl _)
                replace RU := hid (RU.out.below hb (Nat.le_refl _))
                clear hb
                go_wp2_with fail
                go_meet
                exact ⟨rfl, BZ.out⟩
            case rest =>
              obtain ⟨rfl, hbd⟩ := hcut
              obtain ⟨wB, rfl⟩ : ∃ z, z = wc := ⟨_, rfl⟩
              have cy := cellB hbd HCY.out (Nat.le_refl _)
              have ce0 := cellB hbd HE0.out (Nat.le_refl _)
              have ce1 := cellB hbd HE1.out (Nat.le_refl _)
              have OBc := hid (OBr.out.past hbd (Nat.le_refl _))
              have BW := hid (bon (bon Bb.out BR.out) hbd)
              have BS := hid (bon BR.out hbd)
              have HCY2 := hid cy; have HE02 := hid ce0; have HE12 := hid ce1
              clear hbd cy ce0 ce1 cd0 OBr OUr OGr OLr
              go_wp2
              go_loopw [13, 14] (fun t k we => ∃ (j : Nat) (tb : Bool), j ≤ K'.length ∧ k = .int .i64 j ∧ t = .bool tb ∧ decide (opp p ∈ K'.take j) = tb ∧ Below wB.heap.size wB we) (fun _ k _ => K'.length - (intOf k).toNat)
              case atStart => exact ⟨0, false, Nat.zero_le _, rfl, rfl, by simp, Below.refl _ _⟩
              case round =>
                obtain ⟨j, tb, hj, rfl, rfl, htb, hbe⟩ := hrel
                have BE := hid hbe
                have cy := cellB hbe HCY2.out (Nat.le_refl _)
                have ce0 := cellB hbe HE02.out (Nat.le_refl _)
                have ce1 := cellB hbe HE12.out (Nat.le_refl _)
                have OBe := hid (OBc.out.past hbe (Nat.le_refl _))
                have HTB := hid htb
                clear hbe htb
                by_cases hjl : j < K'.length
                · have hjl9 : j < l9.length := by have := HL9.out; have := HLL.out; omega
                  have hji : (j : Int) < (l9.length : Int) := by omega
                  have HTK := hid (List.take_succ_eq_append_getElem hjl)
                  cases tb with
                  | true =>
                    have HT2 := hid (show decide (opp p ∈ K'.take (j + 1)) = true by
                      rw [decide_eq_true_iff, HTK.out]
                      exact List.mem_append_left _ (of_decide_eq_true HTB.out))
                    have BZ := hid (Below.refl wr.heap.size wr)
                    go_wp2
                    have qcy := fun (p : Bel _) => cellB p.h cy (Nat.le_refl _)
                    refine wp_quiet_b (by kernel_rfl) (by kernel_rfl) ?_
                    repeat (go_big_quiet_step (fail))
                    refine wpQuiet_nil ?_
                    intro _ hw'
                    obtain ⟨⟨w5, hb⟩, rfl⟩ := hw'
                    clear qcy
                    replace BZ := hid (bon BZ.out hb)
                    replace cy := cellB hb cy (Nat.le_refl _)
                    clear hb
                    go_wp2
                    go_roundw
                    case rel => exact ⟨j + 1, true, by omega, by go_num, rfl, HT2.out, bon BE.out BZ.out⟩
                    case measure => simp [intOf]; omega
                  | false =>
                    obtain ⟨yb, yo, hya, cm, hkm⟩ := OBe.out.rdm.at j hjl9
                    obtain ⟨rfl, rfl⟩ : mg = yb ∧ 0 = yo := by simpa using hya
                    have hzm : l9[j].z = prI K'[j] := by
                      have h1 : (nums l9)[j]'(by rw [nums_length]; exact hjl9) = (K'.map prI)[j]'(by rw [List.length_map]; exact hjl) := by simp only [NLb.out]
                      simpa [nums] using h1
                    have hrm := hkm.1
                    have HT2 := hid (show decide (opp p ∈ K'.take (j + 1)) = decide (prI K'[j] = [(xb : Int), (xa : Int)]) by
                      apply Bool.eq_iff_iff.2
                      rw [decide_eq_true_iff, decide_eq_true_iff, HTK.out, List.mem_append, ← HPD.out]
                      constructor
                      · rintro (h1 | h1)
                        · exact absurd h1 (of_decide_eq_false HTB.out)
                        · obtain h2 : opp p = K'[j] := by simpa using h1
                          rw [h2]
                      · intro h1
                        right
                        rw [prI_inj h1]; simp)
                    rw [hzm] at cm hrm
                    generalize l9[j].a = na at *
                    generalize l9[j].c = nc at *
                    have HM2 := hid (show (prI K'[j]).length = 2 from rfl)
                    generalize prI K'[j] = pj at *
                    obtain ⟨bb, hbb⟩ : ∃ bb, decide (pj = [(xb : Int), (xa : Int)]) = bb := ⟨_, rfl⟩
                    have HBB := hid hbb
                    rw [HM2.out, Nat.zero_add] at cm
                    have DW : Drawn wr wr.drew := ⟨1, rfl⟩
                    have RM := hid (hrm.below ((DW.below wr.heap.size).trans ((alloc_below wr.drew (.cells #[.int .i64 (xb : Int), .int .i64 (xa : Int)] 2)).mono (Nat.le_refl _))) (Nat.le_refl _))
                    have RN := hid (ownL_rd (show Own 2 (wr.drew.alloc (.cells #[.int .i64 (xb : Int), .int .i64 (xa : Int)] 2)) wr.drew.heap.size (.slice (some ⟨wr.drew.heap.size, 0, none⟩) 2 2) (([(xb : Int), (xa : Int)] : List Int).map (Value.int .i64)) from own_new 2 wr.drew [.int .i64 (xb : Int), .int .i64 (xa : Int)] (show (2 : Nat) ≤ maxLen by decide)))
                    have f0 := dcell DW cm
                    have f1 := dcell DW cy
                    have f2 := dcell DW ce0
                    have f3 := dcell DW ce1
                    clear cm cy ce0 ce1 hrm hkm hya hzm hbb
                    go_wp2
                    go_region_held3 (fun w' => w'.cell? ⟨mg, j, none⟩ = some (.slice na 2 nc) ∧ w'.cell? ⟨lg, i, none⟩ = some (.slice (some ⟨zb, zo, none⟩) 2 yc) ∧ w'.cell? ⟨zb, zo, none⟩ = some (.int .i64 xa) ∧ w'.cell? ⟨zb, zo + 1, none⟩ = some (.int .i64 xb)) (first | exact ⟨f0, f1, f2, f3⟩ | exact ⟨cellB (alloc_below _ _) f0 (Nat.le_refl _), cellB (alloc_below _ _) f1 (Nat.le_refl _), cellB (alloc_below _ _) f2 (Nat.le_refl _), cellB (alloc_below _ _) f3 (Nat.le_refl _)⟩ | exact ⟨g0, g1, g2, g3⟩) ((first | (go_at_call 48; refine (likeInts_n na (some ⟨wr.drew.heap.size, 0, none⟩) pj [(xb : Int), (xa : Int)] 2 2 nc 2 _ bb HM2.out rfl HBB.out RM.out RN.out (by decide) (by decide)).mono ?_; rintro e w5 ⟨rfl, hd⟩; have hba := alloc_below wr.drew (.cells #[.int .i64 (xb : Int), .int .i64 (xa : Int)] 2); have g0 := dcell hd (cellB hba f0 (Nat.le_refl _)); have g1 := dcell hd (cellB hba f1 (Nat.le_refl _)); have g2 := dcell hd (cellB hba f2 (Nat.le_refl _)); have g3 := dcell hd (cellB hba f3 (Nat.le_refl _)); have BZ := hid (((DW.below wr.heap.size).trans (hba.mono (Nat.le_refl _))).trans (hd.below wr.heap.size)); clear hba hd)))
                    go_wp2
                    go_roundw
                    case rel => exact ⟨j + 1, bb, by omega, by go_num, rfl, HT2.out.trans HBB.out, bon BE.out BZ.out⟩
                    case measure => simp [intOf]; omega
                · obtain rfl : j = K'.length := by omega
                  have hji : ¬ ((K'.length : Nat) : Int) < (l9.length : Int) := by have := HL9.out; have := HLL.out; omega
                  have hone : tb = true := by
                    rw [← HTB.out, List.take_length, decide_eq_true_iff, HK'.out]
                    exact HPO.out
                  subst hone
                  clear HTB cy ce0 ce1 OBe HCY2 HE02 HE12
                  go_wp2
                  go_roundw
                  case rel => exact ⟨i + 1, by omega, by go_num, bon BS.out BE.out⟩
                  case measure => simp [intOf]; omega
          · obtain rfl : i = K.length := by omega
            have hii : ¬ ((K.length : Nat) : Int) < (l7.length : Int) := by rw [HL7.out]; omega
            go_wp2
            go_ret
            exact ⟨rfl, bon Bb.out BR.out⟩
end
end Go.Proofs.YtggjmnihnjdoaaaDoor
