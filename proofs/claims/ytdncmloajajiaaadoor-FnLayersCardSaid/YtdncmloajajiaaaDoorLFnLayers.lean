/- FnLayers: the law. -/
import Derived.Test.YtdncmloajajiaaaDoorClqS
import Derived.Test.YtdncmloajajiaaaDoorGrOf
import Derived.Test.YtdncmloajajiaaaDoorFnP
import Derived.Test.YtdncmloajajiaaaDoorEdgeIn
import Derived.Test.YtdncmloajajiaaaDoorOriS
import Derived.Test.YtdncmloajajiaaaDoorLupI
namespace Go.Proofs.YtdncmloajajiaaaDoor
open Go.RowKit
section
attribute [local irreducible] frL bq addAll bqE keyL
theorem sOri_flatL {g : List (List Int)} {w : World} {e : Ending} {w' : World} (h : SOriPost g w e w') : ∃ a c us, e = .returned (.tuple #[.slice a us.length c, .bool (oriG g).isSome]) ∧ OwnM 33 2 w' w.heap.size (.slice a us.length c) us ∧ (∀ H, oriG g = some H → nums us = H.map mems) ∧ Below w.heap.size w w' := by
  obtain ⟨hb, ⟨H, a, c, us, ho, he, hown, hnu⟩ | ⟨ho, a, c, he, hown⟩⟩ := h
  · exact ⟨a, c, us, by rw [ho]; exact he, hown, fun H' hH' => (by rw [ho] at hH'; injection hH' with hH'; rw [← hH']; exact hnu), hb⟩
  · exact ⟨a, c, [], by rw [ho]; exact he, hown, fun H' hH' => (by rw [ho] at hH'; cases hH'), hb⟩
theorem OwnG.outML {P : Nat → Prop} {w : World} {B gb n cap : Nat} {A : List Nat} (h : OwnG P w B gb n cap A) (hA : GA n A) : ∃ ps : List Row, OwnM 33 2 w B (.slice (some ⟨gb, 0, none⟩) n cap) ps ∧ Small ps ∧ ps.length = n ∧ nums ps = A.map mems := by
  obtain ⟨ps, hom, hnp, _⟩ := h
  have hl : ps.length = n := by
    have h1 := congrArg List.length hnp
    rw [nums_length, List.length_map, hA.len] at h1; exact h1
  have h16 := hA.le
  refine ⟨ps, hom, ⟨by omega, fun r hr => ?_⟩, hl, hnp⟩
  have h1 : r.z ∈ nums ps := List.mem_map_of_mem hr
  rw [hnp] at h1
  obtain ⟨m, hm, he⟩ := List.mem_map.1 h1
  have := mems16 (hA.in16 m hm)
  rw [← he]; omega
theorem edgeP_gaL {n : Nat} {A : List Nat} (h : GA n A) {u v : Nat} (hu : u < n) (hb : bt A u v = true) : EdgeP (A.map mems) (u : Int) (v : Int) := by
  refine ⟨⟨h.gok, by omega, by rw [List.length_map, h.len]; omega⟩, ?_⟩
  rw [h.row hu, mems_mem (by have := h.in2 u; have := h.le; have : 2 ^ n ≤ 65536 := Nat.pow_le_pow_right (n := 2) (i := n) (j := 16) (by decide) h.le; omega)]
  exact ⟨v, rfl, hb⟩
theorem getD_inL {l : List Int} {i : Nat} (h : i < l.length) : l.getD i 0 = l[i] := by rw [List.getD_eq_getElem?_getD, List.getElem?_eq_getElem h]; rfl
set_option maxRecDepth 100000 in
set_option maxHeartbeats 4000000 in
theorem lawLayers_any (a0 : Option Addr) (zs0 : List Int) (c0 : Nat) (w : World) (hr0 : Rd (Value.int .u8) w a0 zs0) (hl0 : zs0.length ≤ c0 ∧ c0 ≤ maxLen ∧ (a0 = none → c0 = 0) ∧ ∀ z ∈ zs0, 0 ≤ z ∧ z < 256) (hT : TabOk w) :
    Calls Tryd.prog 3 #[.slice a0 zs0.length c0] w fun e w' => e = .returned (.bool true) ∧ Below w.heap.size w w' := by
  have RZ := hid hr0; have HZ := hid hl0.2.2.2; have RT := hid hT
  clear hr0 hl0 hT
  obtain ⟨len, hlen⟩ : ∃ len, zs0.length = len := ⟨_, rfl⟩
  rw [hlen]
  have HL := hid hlen; clear hlen
  go_enter Tryd.func3, Tryd.ntmps3
  by_cases hbg : 4096 < len
  · have HB := hid (show decide (4096 < len) = true from decide_eq_true hbg)
    clear hbg
    go_wp2_with (first | (go_at_call 6; refine (big_any a0 len c0 _ true HB.out).mono ?_; rintro e w' ⟨rfl, rfl⟩))
    go_ret
    exact ⟨rfl, Below.refl _ _⟩
  · have HB := hid (show decide (4096 < len) = false from decide_eq_false hbg)
    have hn : len ≤ 4096 := by omega
    clear hbg
    go_wp2_with (first | (go_at_call 6; refine (big_any a0 len c0 _ false HB.out).mono ?_; rintro e w' ⟨rfl, rfl⟩) | fail)
    refine (roll_any len c0 a0 zs0 1006 _ RZ.out HL.out HZ.out hn).mono ?_
    rintro e w1 ⟨g, h, rfl, hg, hd, hb⟩
    have DR1 := hid (DiceR.start hd (RZ.out.below hb (Nat.le_refl _)))
    have B1 := hid hb
    have hs1 := hb.size
    clear hd hb
    go_wp2_with fail
    refine (w9Graph_any g len c0 a0 zs0 6 6 w1 rfl DR1.out HL.out HZ.out hn (by decide) (by decide)).mono ?_
    rintro e w2 ⟨n, gb, cap, A, rfl, hnm, hga, hog, hdr⟩
    obtain ⟨ps, h1, h2, h3, h4⟩ := hog.outML hga
    subst h3
    have B2 := hid (B1.out.trans (hdr.kept.below w.heap.size hs1 (fun k hk e => by omega)))
    have hn6 : ps.length ≤ 6 := hnm
    have hgk : GOk (nums ps) := by rw [h4]; exact hga.gok
    have HGK := hid hgk; have HGA := hid hga; have HNP := hid h4
    have hsm := h2
    have hg1 : g < w1.heap.size := hdr.old
    have hs12 := hdr.kept.size
    have hn0 := hga.pos
    have hbA := alloc_below w2 (.cells #[.slice (some ⟨gb, 0, none⟩) ps.length cap] 29)
    have c4 : (w2.alloc (.cells #[.slice (some ⟨gb, 0, none⟩) ps.length cap] 29)).cell? ⟨w2.heap.size, 0, none⟩ = some (.slice (some ⟨gb, 0, none⟩) ps.length cap) := by simp [go_sem]
    have OG3 := hid (h1.past hbA (Nat.le_refl _))
    have B3 := hid (B2.out.trans (hbA.mono B2.out.size))
    have DR3 := hid (hdr.past hbA)
    clear hbA B2 h1 h2 h4 hog hdr DR1 B1 hgk
    go_wp2_with fail
    generalize w2.alloc (.cells #[.slice (some ⟨gb, 0, none⟩) ps.length cap] 29) = w3 at *
    generalize w2.heap.size = lb at *
    refine (specOriented_any (some ⟨gb, 0, none⟩) ps cap _ OG3.out.rdm hsm).mono ?_
    intro e w4 hpost
    obtain ⟨ua, uc, us, rfl, hou, hnu, hb4⟩ := sOri_flatL hpost
    obtain ⟨is, his⟩ : ∃ is, (oriG (nums ps)).isSome = is := ⟨_, rfl⟩
    rw [his]
    have hwb := B3.out.size
    have c5 := cellB hb4 c4 (Nat.le_refl _)
    have OG4 := hid (OG3.out.past hb4 (Nat.le_refl _))
    have OU4 := hid (hou.base (B' := w.heap.size) hwb)
    have B4 := hid (bon B3.out hb4)
    have HIS := hid his; have HNU := hid hnu
    clear hpost hou hnu hb4 c4 OG3 B3 his DR3
    cases is with
    | false =>
      go_wp2
      go_ret
      exact ⟨rfl, B4.out⟩
    | true =>
    obtain ⟨H, hH⟩ := Option.isSome_iff_exists.1 HIS.out
    have hor : oriN ps.length A = some H := by
      unfold oriG at hH
      rw [if_pos HGK.out, HNP.out, HGA.out.masks, List.length_map, HGA.out.len] at hH
      exact hH
    have hok := oriN_ok HGA.out hor
    have htr := oriN_trO HGA.out hor
    have hNU := HNU.out H hH
    have hul : us.length = ps.length := by
      have h1 := congrArg List.length hNU
      rw [nums_length, List.length_map, hok.len] at h1; exact h1
    obtain ⟨wy, ly, hlw, hll, hlyl, hwl, hmost, hstep, hlt, hup⟩ := layers_facts HGA.out hok.len htr
    rw [← HNP.out, ← hNU] at hlw hll
    rw [← HNP.out] at hmost
    have hsmu : Small us := by
      refine ⟨by omega, fun r hr => ?_⟩
      have h1 : r.z ∈ nums us := List.mem_map_of_mem hr
      rw [hNU] at h1
      obtain ⟨m, hm, he⟩ := List.mem_map.1 h1
      obtain ⟨k, hk, hk2⟩ := List.mem_iff_getElem.1 hm
      have h2 := ori_lt HGA.out htr k
      have h3 : 2 ^ ps.length ≤ 65536 := Nat.pow_le_pow_right (n := 2) (i := ps.length) (j := 16) (by decide) HGA.out.le
      rw [getD_in hk, hk2] at h2
      have := mems16 (m := m) (by omega)
      rw [← he]; omega
    have hrowu : ∀ x (hx : x < us.length), us[x].z = mems (H.getD x 0) := by
      intro x hx
      have h1 : (nums us)[x]'(by rw [nums_length]; exact hx) = (H.map mems)[x]'(by rw [List.length_map, hok.len]; omega) := by simp only [hNU]
      rw [List.getElem_map, ← getD_in (by rw [hok.len]; omega)] at h1
      simpa [nums] using h1
    obtain ⟨Z, hZ⟩ : ∃ Z, wy.map (fun i : Nat => (i : Int)) = Z := ⟨_, rfl⟩
    obtain ⟨Y, hY⟩ : ∃ Y, ly.map (fun i : Nat => (i : Int)) = Y := ⟨_, rfl⟩
    rw [hZ] at hlw
    rw [hY] at hll
    have hzl : Z.length = wy.length := by rw [← hZ, List.length_map]
    have hyl : Y.length = ly.length := by rw [← hY, List.length_map]
    have F1 : mostL (clq (row (nums ps)) (ps.length + 1) [] (allL ps.length) []) = Z.length := by rw [hmost, hzl]
    have F2 : Y.length = ps.length := by rw [hyl, hlyl]
    have F3 : ∀ i, i + 1 < Z.length → ∃ x y : Nat, Z.getD i 0 = x ∧ Z.getD (i + 1) 0 = y ∧ x < ps.length ∧ y < ps.length ∧ bt H x y = true := by
      intro i hi
      rw [hzl] at hi
      obtain ⟨h1, h2, h3⟩ := hstep i hi
      refine ⟨_, _, ?_, ?_, h1, h2, h3⟩
      · rw [← hZ, getD_inL (by rw [List.length_map]; omega), List.getElem_map, ← getD_in (by omega)]
      · rw [← hZ, getD_inL (by rw [List.length_map]; omega), List.getElem_map, ← getD_in (by omega)]
    have F4 : ∀ v, v < ps.length → ∃ y : Nat, Y.getD v 0 = y ∧ y < Z.length := by
      intro v hv
      refine ⟨ly.getD v 0, ?_, by rw [hzl]; exact hlt v hv⟩
      rw [← hY, getD_inL (by rw [List.length_map]; omega), List.getElem_map, ← getD_in (by omega)]
    have F5 : ∀ v u, bt H v u = true → u < ps.length ∧ Y.getD v 0 < Y.getD u 0 := by
      intro v u hb
      have h1 := HGA.out.lt (htr.sub v u hb)
      have h2 := hup v u hb
      refine ⟨h1.2, ?_⟩
      rw [← hY, getD_inL (by rw [List.length_map]; omega), getD_inL (by rw [List.length_map]; omega), List.getElem_map, List.getElem_map, ← getD_in (by omega), ← getD_in (by omega)]
      omega
    have hz17 : Z.length ≤ 17 := by omega
    have HLW := hid hlw; have HLL := hid hll; have HF1 := hid F1; have HF2 := hid F2; have HF3 := hid F3; have HF4 := hid F4; have HF5 := hid F5
    have HRU := hid hrowu; have HTR := hid htr; have HOK := hid hok; have HSU := hsmu
    have RT4 := hid (RT.out.below B4.out (Nat.le_refl _))
    have HUL := hid hul
    clear hul hlw hll F1 F2 F3 F4 F5 hrowu htr hok hH hor hNU hmost hstep hlt hup hlyl hzl hyl hZ hY HIS HNU hwl
    go_wp2_with fail
    refine (implLongestUp_any (some ⟨gb, 0, none⟩) ps cap ua us uc _ Z HLW.out OG4.out.rdm hsm OU4.out.rdm HSU RT4.out).mono ?_
    rintro e w5 ⟨vw, rfl, how, hb5⟩
    obtain ⟨wa, wc, rfl, _⟩ := Own.rd how
    have OW5 := hid (how.base (B' := w.heap.size) B4.out.size)
    have OG5 := hid (OG4.out.past hb5 (Nat.le_refl _))
    have OU5 := hid (OU4.out.past hb5 (Nat.le_refl _))
    have RT5 := hid (RT4.out.below hb5 (Nat.le_refl _))
    have B5 := hid (bon B4.out hb5)
    have c6 := cellB hb5 c5 (Nat.le_refl _)
    clear how hb5 OG4 OU4 RT4 B4 c5
    go_wp2_with fail
    refine (implLayersUp_any (some ⟨gb, 0, none⟩) ps cap ua us uc _ Y HLL.out OG5.out.rdm hsm OU5.out.rdm HSU RT5.out).mono ?_
    rintro e w6 ⟨vl, rfl, hol, hb6⟩
    obtain ⟨ya, yc, rfl, _⟩ := Own.rd hol
    have OY6 := hid (hol.base (B' := w.heap.size) B5.out.size)
    have OW6 := hid (OW5.out.past hb6 (Nat.le_refl _))
    have OG6 := hid (OG5.out.past hb6 (Nat.le_refl _))
    have OU6 := hid (OU5.out.past hb6 (Nat.le_refl _))
    have B6 := hid (bon B5.out hb6)
    have c7 := cellB hb6 c6 (Nat.le_refl _)
    clear hol hb6 OG5 OU5 RT5 B5 c6 OW5
    have hyn : ((Y.length : Int) != (ps.length : Int)) = false := by rw [HF2.out]; simp
    have hzz : ((Z.length : Int) != (Z.length : Int)) = false := by simp
    go_wp2_with fail
    refine (w9Clique_any (some ⟨gb, 0, none⟩) ps cap _ HGK.out OG6.out.rdm hsm).mono ?_
    rintro e w7 ⟨rfl, hb7⟩
    rw [HF1.out]
    have OY7 := hid (OY6.out.past hb7 (Nat.le_refl _))
    have OW7 := hid (OW6.out.past hb7 (Nat.le_refl _))
    have OG7 := hid (OG6.out.past hb7 (Nat.le_refl _))
    have OU7 := hid (OU6.out.past hb7 (Nat.le_refl _))
    have B7 := hid (bon B6.out hb7)
    have c8 := cellB hb7 c7 (Nat.le_refl _)
    have RZ7 := hid (ownL_rd OW7.out)
    have RY7 := hid (ownL_rd OY7.out)
    have RM7 := hid OU7.out.rdm
    have RG7 := hid OG7.out.rdm
    have HC8 := hid c8
    clear hb7 c7 OG6 OU6 B6 OY6 OW6
    go_wp2
    clear c8
    go_loopw [9] (fun x wr => ∃ i : Nat, i ≤ Z.length ∧ x = .int .i64 i ∧ Below w7.heap.size w7 wr) (fun x _ => Z.length - (intOf x).toNat)
    case atStart => exact ⟨0, Nat.zero_le _, rfl, Below.refl _ _⟩
    case round =>
      obtain ⟨i, hi, rfl, hb⟩ := hrel
      have BI := hid hb
      have cg := cellB hb HC8.out (Nat.le_refl _)
      have RZi := hid (RZ7.out.below hb (Nat.le_refl _))
      have RMi := hid (RM7.out.below hb (Nat.le_refl _))
      have RG := hid (RG7.out.below hb (Nat.le_refl _))
      clear hb
      by_cases hil : i + 1 < Z.length
      · have hii : (i : Int) + 1 < (Z.length : Int) := by omega
        have hii2 : (i : Int) < (Z.length : Int) := by omega
        obtain ⟨x, y, hx, hy, hxn, hyn2, hbt⟩ := HF3.out i hil
        obtain ⟨pb, po, hpa, cx⟩ := RZi.out i (by omega)
        obtain ⟨pb', po', hpa', cy⟩ := RZi.out (i + 1) hil
        subst hpa
        obtain ⟨rfl, rfl⟩ : pb = pb' ∧ po = po' := by simpa using hpa'
        rw [← getD_inL (by omega), hx] at cx
        rw [← getD_inL hil, hy] at cy
        have hxu : x < us.length := by rw [HUL.out]; omega
        have hxi : (x : Int) < (us.length : Int) := by rw [HUL.out]; omega
        obtain ⟨ub, uo, hua, cu, hku⟩ := RMi.out.at x hxu
        subst hua
        have hru := hku.1
        rw [HRU.out x hxu] at cu hru
        generalize us[x].a = xa at *
        generalize us[x].c = xc at *
        have RU := hid hru
        have hm16 := mems_16c (m := H.getD x 0) (by have := ori_lt HGA.out HTR.out x; have : 2 ^ ps.length ≤ 65536 := Nat.pow_le_pow_right (n := 2) (i := ps.length) (j := 16) (by decide) HGA.out.le; omega)
        have HIN := hid (show decide ((y : Int) ∈ mems (H.getD x 0)) = true from decide_eq_true ((ori_mem HGA.out HTR.out x y).2 hbt))
        have HEP := hid (show decide (EdgeP (nums ps) (x : Int) (y : Int)) = true from decide_eq_true (by rw [HNP.out]; exact edgeP_gaL HGA.out hxn (HTR.out.sub x y hbt)))
        have BZ := hid (Below.refl wr.heap.size wr)
        clear hku hru hbt hx hy hpa' hil hxu RZi RMi
        generalize mems (H.getD x 0) = M at *
        go_wp2
        have qcg := fun (p : Bel _) => cellB p.h cg (Nat.le_refl _)
        have qcx := fun (p : Bel _) => cellB p.h cx (Nat.le_refl _)
        have qcy := fun (p : Bel _) => cellB p.h cy (Nat.le_refl _)
        have qcu := fun (p : Bel _) => cellB p.h cu (Nat.le_refl _)
        refine wp_quiet_b (by kernel_rfl) (by kernel_rfl) ?_
        repeat (go_big_quiet_step (first | (go_at_call 13; exact qb (specEdgeIn_b _ ps _ _ _ _ _ HEP.out (RG.out.bel _) hsm (by unfold I64; omega) (by unfold I64; omega))) | (go_at_call 14; exact qbs (w9Has_b _ M _ _ _ _ HIN.out (RU.out.bel _) (by omega)))))
        refine wpQuiet_nil ?_
        intro _ hw'
        obtain ⟨⟨w1, hb⟩, rfl⟩ := hw'
        clear qcg qcx qcy qcu
        replace BZ := hid (bon BZ.out hb)
        replace cg := cellB hb cg (Nat.le_refl _)
        replace cx := cellB hb cx (Nat.le_refl _)
        replace cy := cellB hb cy (Nat.le_refl _)
        replace cu := cellB hb cu (Nat.le_refl _)
        replace RU := hid (RU.out.below hb (Nat.le_refl _))
        replace RG := hid (RG.out.below hb (Nat.le_refl _))
        clear hb
        go_wp2
        go_roundw
        case rel => exact ⟨i + 1, by omega, by go_num, bon BI.out BZ.out⟩
        case measure => simp [intOf]; omega
      · have hii : ¬ ((i : Int) + 1 < (Z.length : Int)) := by omega
        clear hil RZi
        have BX := hid (bon B7.out BI.out)
        have RYi := hid (RY7.out.below BI.out (Nat.le_refl _))
        obtain ⟨wl, hwl⟩ : ∃ wl, wl = wr := ⟨_, rfl⟩
        clear OY7 OW7 OG7 OU7 B7 RZ7 RY7 RM7 RG7 HC8 cg RG
        go_wp2
        go_loopw [10] (fun x w8 => ∃ v : Nat, v ≤ us.length ∧ x = .int .i64 v ∧ Below wr.heap.size wr w8) (fun x _ => us.length - (intOf x).toNat)
        case atStart => exact ⟨0, Nat.zero_le _, rfl, Below.refl _ _⟩
        case round =>
          obtain ⟨v, hv, rfl, hb⟩ := hrel
          have BV := hid hb
          clear hb
          by_cases hvl : v < us.length
          · have hvi : (v : Int) < (us.length : Int) := by omega
            have hvp : v < ps.length := by have := HUL.out; omega
            obtain ⟨y, hy, hyz⟩ := HF4.out v hvp
            obtain ⟨yb, yo, hya, cv⟩ := (RYi.out.below BV.out (Nat.le_refl _)) v (by rw [HF2.out]; exact hvp)
            subst hya
            rw [← getD_inL (by rw [HF2.out]; exact hvp), hy] at cv
            obtain ⟨ub, uo, hua, cu, hku⟩ := (RMi.out.below BV.out (Nat.le_refl _)).at v hvl
            subst hua
            have hru := hku.1
            rw [HRU.out v hvl] at cu hru
            generalize us[v].a = xa at *
            generalize us[v].c = xc at *
            have RU := hid hru
            have hm16 := mems_16c (m := H.getD v 0) (by have := ori_lt HGA.out HTR.out v; have : 2 ^ ps.length ≤ 65536 := Nat.pow_le_pow_right (n := 2) (i := ps.length) (j := 16) (by decide) HGA.out.le; omega)
            have hvy : (v : Int) < (Y.length : Int) := by rw [HF2.out]; omega
            have hy0 : ¬ ((y : Int) < 0) := by omega
            have hy1 : ¬ ((Z.length : Int) ≤ (y : Int)) := by omega
            have HUPv := hid (show ∀ m ∈ mems (H.getD v 0), ∃ u z : Nat, m = (u : Int) ∧ u < ps.length ∧ Y.getD u 0 = z ∧ y < z from fun m hm => by
              obtain ⟨u, rfl⟩ := mems_nat hm
              obtain ⟨h1, h2⟩ := HF5.out v u ((ori_mem HGA.out HTR.out v u).1 hm)
              obtain ⟨z, hz, _⟩ := HF4.out u h1
              exact ⟨u, z, rfl, h1, hz, by rw [hz, hy] at h2; omega⟩)
            have HCU := hid cu; have HCV := hid cv
            clear hku hru hy
            generalize mems (H.getD v 0) = M at *
            go_wp2
            go_loopw [11] (fun x w9 => ∃ j : Nat, j ≤ M.length ∧ x = .int .i64 j ∧ Below wr.heap.size wr w9) (fun x _ => M.length - (intOf x).toNat)
            case atStart => exact ⟨0, Nat.zero_le _, rfl, Below.refl _ _⟩
            case round =>
              obtain ⟨j, hj, rfl, hb⟩ := hrel
              have B9 := hid hb
              clear hb
              by_cases hjl : j < M.length
              · have hji : (j : Int) < (M.length : Int) := by omega
                obtain ⟨mb, mo, hma, cm⟩ := (RU.out.below B9.out (Nat.le_refl _)) j hjl
                subst hma
                obtain ⟨u, z, hmu, hun, hzu, hyz2⟩ := HUPv.out _ (List.getElem_mem hjl)
                rw [hmu] at cm
                obtain ⟨yb', yo', hya', cz⟩ := ((RYi.out.below BV.out (Nat.le_refl _)).below B9.out (Nat.le_refl _)) u (by rw [HF2.out]; exact hun)
                obtain ⟨rfl, rfl⟩ : yb = yb' ∧ yo = yo' := by simpa using hya'
                rw [← getD_inL (by rw [HF2.out]; exact hun), hzu] at cz
                have cu := cellB B9.out HCU.out (Nat.le_refl _)
                have cv := cellB B9.out HCV.out (Nat.le_refl _)
                have huy : (u : Int) < (Y.length : Int) := by rw [HF2.out]; omega
                have hle : ¬ ((z : Int) ≤ (y : Int)) := by omega
                have BZ := hid (Below.refl wr.heap.size wr)
                clear hmu hzu hya' hjl hyz2
                go_wp2
                have qcm := fun (p : Bel _) => cellB p.h cm (Nat.le_refl _)
                have qcz := fun (p : Bel _) => cellB p.h cz (Nat.le_refl _)
                have qcu := fun (p : Bel _) => cellB p.h cu (Nat.le_refl _)
                have qcv := fun (p : Bel _) => cellB p.h cv (Nat.le_refl _)
                refine wp_quiet_b (by kernel_rfl) (by kernel_rfl) ?_
                repeat (go_big_quiet_step (fail))
                refine wpQuiet_nil ?_
                intro _ hw'
                obtain ⟨⟨w2, hb⟩, rfl⟩ := hw'
                clear qcm qcz qcu qcv
                replace BZ := hid (bon BZ.out hb)
                replace cm := cellB hb cm (Nat.le_refl _)
                replace cz := cellB hb cz (Nat.le_refl _)
                replace cu := cellB hb cu (Nat.le_refl _)
                replace cv := cellB hb cv (Nat.le_refl _)
                clear hb
                go_wp2
                go_roundw
                case rel => exact ⟨j + 1, by omega, by go_num, bon B9.out BZ.out⟩
                case measure => simp [intOf]; omega
              · obtain rfl : j = M.length := by omega
                have hji : ¬ ((M.length : Nat) : Int) < (M.length : Int) := by omega
                have cu := cellB B9.out HCU.out (Nat.le_refl _)
                go_wp2
                go_roundw
                case rel => exact ⟨v + 1, by omega, by go_num, bon BV.out B9.out⟩
                case measure => simp [intOf]; omega
          · obtain rfl : v = us.length := by omega
            have hvi : ¬ ((us.length : Nat) : Int) < (us.length : Int) := by omega
            go_wp2
            go_ret
            exact ⟨rfl, bon BX.out BV.out⟩
end
end Go.Proofs.YtdncmloajajiaaaDoor
