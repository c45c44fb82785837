/- The opening of the laws on dice; why a graph has no lines. · FnNoPerms: the law. -/
import Derived.Test.YtggjmnihnjdoaaaDoorGrOf
import Derived.Test.YtggjmnihnjdoaaaDoorPermS
import Derived.Test.YtggjmnihnjdoaaaDoorComI
namespace Go.Proofs.YtggjmnihnjdoaaaDoor
open Go.RowKit
section
section
set_option maxHeartbeats 1000000 in
theorem whyNotPerm_any (a : Option Addr) (rs : List Row) (c : Nat) (w : World) (hg : GOk (nums rs)) (b1 b2 : Bool) (h1 : (oriG (nums rs)).isSome = b1) (h2 : (permG (nums rs)).isSome = b2) (hr : RdM w a rs) (hn : Small rs) (hT : TabOk w) :
    Calls Tryd.prog 43 #[.agg #[.slice a rs.length c]] w fun e w' => e = .returned (.int .i64 (if b1 then (if b2 then 0 else 2) else 1)) ∧ Below w.heap.size w w' := by
  have RA := hid hr; have RT := hid hT; have H1 := hid h1; have H2 := hid h2; have HG := hid (decide_eq_true hg)
  clear hr hT h1 h2 hg
  obtain ⟨w0, hw0⟩ : ∃ w0, w0 = (w.alloc (.cells #[.slice a rs.length c] 28)) := ⟨_, rfl⟩
  have B0 := hid (show Below w.heap.size w w0 by rw [hw0]; exact ((Below.refl _ _).alloc (Nat.le_refl _) _))
  have c0 : w0.cell? ⟨w.heap.size, 0, none⟩ = some (.slice a rs.length c) := by rw [hw0]; simp [go_sem]
  replace RA := hid (RA.out.below B0.out (Nat.le_refl _))
  replace RT := hid (RT.out.below B0.out (Nat.le_refl _))
  have HW := hid hw0; clear hw0
  go_enter Tryd.func43, Tryd.ntmps43
  go_wp2_with fail
  rw [← HW.out]
  have RT0 := hid RT.out; have RA0 := hid RA.out; have B00 := hid B0.out
  clear RT RA B0
  cases b1 with
  | false =>
    go_wp2_with (first | (go_at_call 70; refine (implGraphOk_b a rs c _ true HG.out RA0.out hn).mono ?_; rintro e w1 ⟨rfl, hb⟩; have BA := hid hb; have c1 := cellB hb c0 (Nat.le_refl _); have RA1 := hid (RA0.out.below hb (Nat.le_refl _)); have RT1 := hid (RT0.out.below hb (Nat.le_refl _)); clear hb) | (go_at_call 30; refine (implComparabilityIn_c a rs c _ false H1.out RA1.out hn RT1.out).mono ?_; rintro e w2 ⟨rfl, hb⟩; have BB := hid hb; clear hb))
    go_ret
    exact ⟨rfl, bon (bon B00.out BA.out) BB.out⟩
  | true =>
    cases b2 with
    | false =>
      go_wp2_with (first | (go_at_call 70; refine (implGraphOk_b a rs c _ true HG.out RA0.out hn).mono ?_; rintro e w1 ⟨rfl, hb⟩; have BA := hid hb; have c1 := cellB hb c0 (Nat.le_refl _); have RA1 := hid (RA0.out.below hb (Nat.le_refl _)); have RT1 := hid (RT0.out.below hb (Nat.le_refl _)); clear hb) | (go_at_call 30; refine (implComparabilityIn_c a rs c _ true H1.out RA1.out hn RT1.out).mono ?_; rintro e w2 ⟨rfl, hb⟩; have BB := hid hb; have c2 := cellB hb c1 (Nat.le_refl _); have RA2 := hid (RA1.out.below hb (Nat.le_refl _)); have RT2 := hid (RT1.out.below hb (Nat.le_refl _)); clear hb) | (go_at_call 32; refine (implPermutationIn_c a rs c _ false H2.out RA2.out hn RT2.out).mono ?_; rintro e w3 ⟨rfl, hb⟩; have BC := hid hb; clear hb))
      go_ret
      exact ⟨rfl, bon (bon (bon B00.out BA.out) BB.out) BC.out⟩
    | true =>
      go_wp2_with (first | (go_at_call 70; refine (implGraphOk_b a rs c _ true HG.out RA0.out hn).mono ?_; rintro e w1 ⟨rfl, hb⟩; have BA := hid hb; have c1 := cellB hb c0 (Nat.le_refl _); have RA1 := hid (RA0.out.below hb (Nat.le_refl _)); have RT1 := hid (RT0.out.below hb (Nat.le_refl _)); clear hb) | (go_at_call 30; refine (implComparabilityIn_c a rs c _ true H1.out RA1.out hn RT1.out).mono ?_; rintro e w2 ⟨rfl, hb⟩; have BB := hid hb; have c2 := cellB hb c1 (Nat.le_refl _); have RA2 := hid (RA1.out.below hb (Nat.le_refl _)); have RT2 := hid (RT1.out.below hb (Nat.le_refl _)); clear hb) | (go_at_call 32; refine (implPermutationIn_c a rs c _ true H2.out RA2.out hn RT2.out).mono ?_; rintro e w3 ⟨rfl, hb⟩; have BC := hid hb; clear hb))
      go_ret
      exact ⟨rfl, bon (bon (bon B00.out BA.out) BB.out) BC.out⟩
end
end
section
section
theorem permG_some (g h : List (List Int)) (n : Nat) (he : permG g = ((oriG g).bind fun U => (oriG h).map fun S => (lineL n (posA U S n), lineL n (posB U S n)))) : (permG g).isSome = ((oriG g).isSome && (oriG h).isSome) := by
  rw [he]
  cases oriG g <;> cases oriG h <;> rfl
set_option maxRecDepth 100000 in
set_option maxHeartbeats 4000000 in
theorem lawNoPerms_any (a0 : Option Addr) (zs0 : List Int) (c0 : Nat) (w : World) (hr0 : Rd (Value.int .u8) w a0 zs0) (hl0 : zs0.length ≤ c0 ∧ c0 ≤ maxLen ∧ (a0 = none → c0 = 0) ∧ ∀ z ∈ zs0, 0 ≤ z ∧ z < 256) (hT : TabOk w) :
    Calls Tryd.prog 9 #[.slice a0 zs0.length c0] w fun e w' => e = .returned (.bool true) ∧ Below w.heap.size w w' := by
  have RZ := hid hr0; have HZ := hid hl0.2.2.2; have RT := hid hT
  clear hr0 hl0 hT
  obtain ⟨len, hlen⟩ : ∃ len, zs0.length = len := ⟨_, rfl⟩
  rw [hlen]
  have HL := hid hlen; clear hlen
  go_enter Tryd.func9, Tryd.ntmps9
  by_cases hbg : 4096 < len
  · have HB := hid (show decide (4096 < len) = true from decide_eq_true hbg)
    clear hbg
    go_wp2_with (first | (go_at_call 38; refine (big_any a0 len c0 _ true HB.out).mono ?_; rintro e w' ⟨rfl, rfl⟩))
    go_ret
    exact ⟨rfl, Below.refl _ _⟩
  · have HB := hid (show decide (4096 < len) = false from decide_eq_false hbg)
    have hn : len ≤ 4096 := by omega
    clear hbg
    go_wp2_with (first | (go_at_call 38; refine (big_any a0 len c0 _ false HB.out).mono ?_; rintro e w' ⟨rfl, rfl⟩) | fail)
    refine (roll_any len c0 a0 zs0 1010 _ RZ.out HL.out HZ.out hn).mono ?_
    rintro e w1 ⟨g, h, rfl, hg, hd, hb⟩
    have DR1 := hid (DiceR.start hd (RZ.out.below hb (Nat.le_refl _)))
    have B1 := hid hb
    have hs1 := hb.size
    clear hd hb
    go_wp2_with fail
    refine (w9Graph_any g len c0 a0 zs0 6 6 w1 rfl DR1.out HL.out HZ.out hn (by decide) (by decide)).mono ?_
    rintro e w2 ⟨n, gb, cap, A, rfl, hnm, hga, hog, hdr⟩
    obtain ⟨ps, h1, h2, h3, h4⟩ := hog.out hga
    subst h3
    have B2 := hid (B1.out.trans (hdr.kept.below w.heap.size hs1 (fun k hk e => by omega)))
    have RT2 := hid (RT.out.below B2.out (Nat.le_refl _))
    have hgk : GOk (nums ps) := by rw [h4]; exact hga.gok
    have HGK := hid hgk
    have R2 := hid h1; have hsm := h2
    clear h1 h2 h4 hga hog hdr DR1 B1 hgk
    obtain ⟨one, ho1⟩ : ∃ b, (oriG (nums ps)).isSome = b := ⟨_, rfl⟩
    have HO1 := hid ho1
    have hbA := alloc_below w2 (.cells #[.slice (some ⟨gb, 0, none⟩) ps.length cap] 28)
    have c4 : (w2.alloc (.cells #[.slice (some ⟨gb, 0, none⟩) ps.length cap] 28)).cell? ⟨w2.heap.size, 0, none⟩ = some (.slice (some ⟨gb, 0, none⟩) ps.length cap) := by simp [go_sem]
    have R3 := hid (R2.out.below hbA (Nat.le_refl _))
    have RT3 := hid (RT2.out.below hbA (Nat.le_refl _))
    have B3 := hid (B2.out.trans (hbA.mono B2.out.size))
    have HC4 := hid c4
    clear hbA c4 B2 R2 RT2 RT
    go_wp2_with fail
    have c4 := HC4.out
    generalize w2.alloc (.cells #[.slice (some ⟨gb, 0, none⟩) ps.length cap] 28) = w3 at *
    generalize w2.heap.size = lb at *
    refine (specComplement_any (some ⟨gb, 0, none⟩) ps cap _ R3.out hsm).mono ?_
    intro e w4 hpost
    have hb4 := hpost.1
    obtain ⟨a4, c4', qs, b4, rfl, hrq, hsq, hpe, _⟩ := compl_flat hpost
    obtain ⟨two, ho2⟩ : ∃ b, (oriG (nums qs)).isSome = b := ⟨_, rfl⟩
    have HO2 := hid ho2
    have HPE := hid (show (permG (nums ps)).isSome = (one && two) by rw [permG_some _ _ _ hpe, ho1, ho2])
    have c5 := cellB hb4 c4 (Nat.le_refl _)
    have hbA := alloc_below w4 (.cells #[.slice a4 qs.length c4'] 28)
    have R5 := hid ((R3.out.below hb4 (Nat.le_refl _)).below hbA (Nat.le_refl _))
    have RT5 := hid ((RT3.out.below hb4 (Nat.le_refl _)).below hbA (Nat.le_refl _))
    have B5 := hid (bon (bon B3.out hb4) hbA)
    have c6 := cellB hbA c5 (Nat.le_refl _)
    have c7 : (w4.alloc (.cells #[.slice a4 qs.length c4'] 28)).cell? ⟨w4.heap.size, 0, none⟩ = some (.slice a4 qs.length c4') := by simp [go_sem]
    have RQ5 := hid (hrq.below hbA (Nat.le_refl _))
    have HC6 := hid c6; have HC7 := hid c7
    clear hb4 hpost hrq hpe ho1 ho2 hbA c4 c5 c7 R3 RT3 B3 HC4
    go_wp2_with fail
    have c7 := HC7.out
    clear HC6 HC7
    generalize w4.alloc (.cells #[.slice a4 qs.length c4'] 28) = w5 at *
    generalize w4.heap.size = lc at *
    refine (specOriented_any (some ⟨gb, 0, none⟩) ps cap _ R5.out hsm).mono ?_
    intro e w6 hpost
    obtain ⟨a6, c6', us, rfl, _, _, hb6⟩ := sOri_flat hpost
    rw [HO1.out]
    have d6 := cellB hb6 c6 (Nat.le_refl _)
    have d7 := cellB hb6 c7 (Nat.le_refl _)
    have R6 := hid (R5.out.below hb6 (Nat.le_refl _))
    have RQ6 := hid (RQ5.out.below hb6 (Nat.le_refl _))
    have RT6 := hid (RT5.out.below hb6 (Nat.le_refl _))
    have B6 := hid (bon B5.out hb6)
    clear hpost hb6 c6 c7 R5 RQ5 RT5 B5
    go_wp2_with fail
    refine (specOriented_any a4 qs c4' _ RQ6.out hsq).mono ?_
    intro e w7 hpost
    obtain ⟨a7, c7', vs, rfl, _, _, hb7⟩ := sOri_flat hpost
    rw [HO2.out]
    have e6 := cellB hb7 d6 (Nat.le_refl _)
    have R7 := hid (R6.out.below hb7 (Nat.le_refl _))
    have RT7 := hid (RT6.out.below hb7 (Nat.le_refl _))
    have B7 := hid (bon B6.out hb7)
    clear hpost hb7 d6 d7 R6 RQ6 RT6 B6
    go_wp2_with fail
    refine (whyNotPerm_any (some ⟨gb, 0, none⟩) ps cap _ HGK.out one (one && two) HO1.out HPE.out R7.out hsm RT7.out).mono ?_
    rintro e w8 ⟨rfl, hb8⟩
    have f6 := cellB hb8 e6 (Nat.le_refl _)
    have R8 := hid (R7.out.below hb8 (Nat.le_refl _))
    have RT8 := hid (RT7.out.below hb8 (Nat.le_refl _))
    have B8 := hid (bon B7.out hb8)
    clear hb8 e6 R7 RT7 B7
    cases one <;> cases two <;> (go_wp2_with (first | (go_at_call 32; refine (implPermutationIn_c (some ⟨gb, 0, none⟩) ps cap _ _ HPE.out R8.out hsm RT8.out).mono ?_; rintro e w9 ⟨rfl, hb9⟩; have B9 := hid (bon B8.out hb9); clear hb9 f6 R8 RT8 B8 HO1 HO2 HPE)); go_ret; exact ⟨rfl, B9.out⟩)
end
end
end Go.Proofs.YtggjmnihnjdoaaaDoor
