/- ChordlessOk: both. -/
import Derived.Test.YthdfkpinaidkkaaChord
namespace Go.Proofs.Ythdfkpinaidkkaa
open Go.RowKit

set_option maxHeartbeats 4000000 in
theorem specChordlessOk_b (a : Option Addr) (rs : List Row) (c : Nat) (a' : Option Addr) (zs : List Int) (c' : Nat) (w : World) (b : Bool) (hb : decide (ChordP (nums rs) zs) = b) (hr : RdM w a rs) (hn : Small rs) (hz : Rd (Value.int .i64) w a' zs) (hm : zs.length ≤ 1048576) (hcap : zs.length ≤ c') :
    Calls Try.prog 34 #[.agg #[.slice a rs.length c], .slice a' zs.length c'] w fun e w' => e = .returned (.bool b) ∧ Below w.heap.size w w' := by
  have RA := hid hr; have RZ := hid hz; have HB := hid hb; clear hr hz hb
  obtain ⟨w0, hw0⟩ : ∃ w0, w0 = (w.alloc (.cells #[.slice a rs.length c] 27)) := ⟨_, rfl⟩
  have B0 := hid (show Below w.heap.size w w0 by rw [hw0]; exact ((Below.refl _ _).alloc (Nat.le_refl _) _))
  have c0 : w0.cell? ⟨w.heap.size, 0, none⟩ = some (.slice a rs.length c) := by rw [hw0]; simp [go_sem]
  replace RA := hid (RA.out.below B0.out (Nat.le_refl _))
  replace RZ := hid (RZ.out.below B0.out (Nat.le_refl _))
  have HW := hid hw0; clear hw0
  by_cases hl : LoopP (nums rs) zs
  · have h1 := hid (show decide (LoopP (nums rs) zs) = true by simpa using hl)
    have h16 : zs.length ≤ 16 := Nat.le_trans hl.le hl.ok.le
    have HL := hid hl; clear hl
    by_cases h4 : 4 ≤ zs.length
    · have d4 : decide ((4 : Int) ≤ (zs.length : Int)) = true := by rw [decide_eq_true_iff]; omega
      have d4n : decide (4 ≤ zs.length) = true := by rw [decide_eq_true_iff]; omega
      go_enter Try.func34, Try.ntmps34
      go_wp2_with fail
      rw [← HW.out]
      go_wp2_with fail
      refine (specLoopOk_b a rs c a' zs c' _ _ h1.out RA.out hn RZ.out hm hcap).mono ?_
      rintro e w1 ⟨rfl, hb⟩
      replace RA := hid (RA.out.below hb (Nat.le_refl _))
      replace RZ := hid (RZ.out.below hb (Nat.le_refl _))
      replace B0 := hid (bon B0.out hb)
      replace c0 := cellB hb c0 (Nat.le_refl _)
      clear hb
      go_wp2_with fail
      refine (l8Chordless_b a rs c a' zs c' _ _ HB.out HL.out h4 RA.out hn RZ.out h16).mono ?_
      rintro e w2 ⟨rfl, hb⟩
      replace RA := hid (RA.out.below hb (Nat.le_refl _))
      replace RZ := hid (RZ.out.below hb (Nat.le_refl _))
      replace B0 := hid (bon B0.out hb)
      replace c0 := cellB hb c0 (Nat.le_refl _)
      clear hb
      go_wp2
      go_ret
      exact ⟨rfl, B0.out⟩
    · have d4 : decide ((4 : Int) ≤ (zs.length : Int)) = false := by rw [decide_eq_false_iff_not]; omega
      have d4n : decide (4 ≤ zs.length) = false := by rw [decide_eq_false_iff_not]; omega
      have HFIN := hid (show ¬ ChordP (nums rs) zs from fun h => h4 h.long)
      clear h4
      go_enter Try.func34, Try.ntmps34
      go_wp2_with fail
      rw [← HW.out]
      go_wp2_with fail
      refine (specLoopOk_b a rs c a' zs c' _ _ h1.out RA.out hn RZ.out hm hcap).mono ?_
      rintro e w3 ⟨rfl, hb⟩
      replace RA := hid (RA.out.below hb (Nat.le_refl _))
      replace RZ := hid (RZ.out.below hb (Nat.le_refl _))
      replace B0 := hid (bon B0.out hb)
      replace c0 := cellB hb c0 (Nat.le_refl _)
      clear hb
      go_wp2
      go_ret
      exact ⟨ret_bool (dec_f HB.out HFIN.out), B0.out⟩
  · have h1 := hid (show decide (LoopP (nums rs) zs) = false by simpa using hl)
    have HFIN := hid (show ¬ ChordP (nums rs) zs from fun h => hl h.loop)
    clear hl
    go_enter Try.func34, Try.ntmps34
    go_wp2_with fail
    rw [← HW.out]
    go_wp2_with fail
    refine (specLoopOk_b a rs c a' zs c' _ _ h1.out RA.out hn RZ.out hm hcap).mono ?_
    rintro e w4 ⟨rfl, hb⟩
    replace RA := hid (RA.out.below hb (Nat.le_refl _))
    replace RZ := hid (RZ.out.below hb (Nat.le_refl _))
    replace B0 := hid (bon B0.out hb)
    replace c0 := cellB hb c0 (Nat.le_refl _)
    clear hb
    go_wp2
    go_ret
    exact ⟨ret_bool (dec_f HB.out HFIN.out), B0.out⟩

set_option maxHeartbeats 4000000 in
theorem implChordlessOk_b (a : Option Addr) (rs : List Row) (c : Nat) (a' : Option Addr) (zs : List Int) (c' : Nat) (w : World) (b : Bool) (hb : decide (ChordP (nums rs) zs) = b) (hr : RdM w a rs) (hn : Small rs) (hz : Rd (Value.int .i64) w a' zs) (hm : zs.length ≤ 1048576) (hcap : zs.length ≤ c') :
    Calls Try.prog 36 #[.agg #[.slice a rs.length c], .slice a' zs.length c'] w fun e w' => e = .returned (.bool b) ∧ Below w.heap.size w w' := by
  have RA := hid hr; have RZ := hid hz; have HB := hid hb; clear hr hz hb
  obtain ⟨w0, hw0⟩ : ∃ w0, w0 = (w.alloc (.cells #[.slice a rs.length c] 27)) := ⟨_, rfl⟩
  have B0 := hid (show Below w.heap.size w w0 by rw [hw0]; exact ((Below.refl _ _).alloc (Nat.le_refl _) _))
  have c0 : w0.cell? ⟨w.heap.size, 0, none⟩ = some (.slice a rs.length c) := by rw [hw0]; simp [go_sem]
  replace RA := hid (RA.out.below B0.out (Nat.le_refl _))
  replace RZ := hid (RZ.out.below B0.out (Nat.le_refl _))
  have HW := hid hw0; clear hw0
  by_cases hl : LoopP (nums rs) zs
  · have h1 := hid (show decide (LoopP (nums rs) zs) = true by simpa using hl)
    have h16 : zs.length ≤ 16 := Nat.le_trans hl.le hl.ok.le
    have HL := hid hl; clear hl
    by_cases h4 : 4 ≤ zs.length
    · have d4 : decide ((zs.length : Int) < 4) = false := by rw [decide_eq_false_iff_not]; omega
      have d4n : decide (zs.length < 4) = false := by rw [decide_eq_false_iff_not]; omega
      have HIFF := hid (chord_iff HL.out h4)
      have HV := hid (show ∀ v ∈ zs, 0 ≤ v ∧ v < 16 from fun v hv => by
        obtain ⟨i, hi, e⟩ := HL.out.get hv
        have := HL.out.rng hi; have := HL.out.ok.le; rw [← e]; omega)
      have HML := hid (maskL_lt zs 16 HV.out)
      go_enter Try.func36, Try.ntmps36
      go_wp2_with fail
      rw [← HW.out]
      go_wp2_with fail
      refine (implLoopOk_b a rs c a' zs c' _ _ h1.out RA.out hn RZ.out hm hcap).mono ?_
      rintro e w1 ⟨rfl, hb⟩
      replace RA := hid (RA.out.below hb (Nat.le_refl _))
      replace RZ := hid (RZ.out.below hb (Nat.le_refl _))
      replace B0 := hid (bon B0.out hb)
      replace c0 := cellB hb c0 (Nat.le_refl _)
      clear hb
      go_wp2_with fail
      refine (netsOf_any a rs c _ HL.out.ok RA.out hn).mono ?_
      rintro e w2 ⟨v, rfl, hown, hb⟩
      replace RA := hid (RA.out.below hb (Nat.le_refl _))
      replace RZ := hid (RZ.out.below hb (Nat.le_refl _))
      replace B0 := hid (bon B0.out hb)
      replace c0 := cellB hb c0 (Nat.le_refl _)
      clear hb
      have hxl : (netsV (nums rs)).length = rs.length := by simp [netsV, nums_length]
      have hpos : 1 ≤ rs.length := by have := HL.out.ok.pos; rwa [nums_length] at this
      rcases hown.form with ⟨_, hnil⟩ | ⟨gb, cap, spare, rfl, _, _, _, _⟩
      · rw [hnil] at hxl; simp at hxl; omega
      rw [hxl] at hown ⊢
      have ON := hid hown; clear hown
      go_wp2_with (first | (go_at_call 65; refine (maskOf_any _ _ _ _ RZ.out hm HV.out).mono ?_; rintro e w' ⟨rfl, rfl⟩))
      go_loopw [8, 24] (fun _ i wr => ∃ k : Nat, k ≤ zs.length ∧ i = .int .i64 k ∧ (∀ v ∈ zs.take k, pcN 16 (maskL (row (nums rs) v) &&& maskL zs) = 2) ∧ Below w2.heap.size w2 wr) (fun _ i _ => zs.length - (intOf i).toNat)
      case atStart => exact ⟨0, Nat.zero_le _, rfl, fun v hv => by simp at hv, Below.refl _ _⟩
      case round =>
        obtain ⟨k, hk, rfl, hall, hd⟩ := hrel
        have HALL := hid hall; clear hall
        have BL := hid hd
        replace RA := hid (RA.out.below hd (Nat.le_refl _))
        replace RZ := hid (RZ.out.below hd (Nat.le_refl _))
        replace ON := hid (ON.out.past hd (Nat.le_refl _))
        replace B0 := hid (bon B0.out hd)
        replace c0 := cellB hd c0 (Nat.le_refl _)
        clear hd
        by_cases hlt : k < zs.length
        · obtain ⟨b', off, rfl, c1⟩ := RZ.out k hlt
          have hi0 : (k : Int) < (zs.length : Int) := by omega
          have hrg := HL.out.rng hlt
          rw [getD_eq zs k hlt, nums_length] at hrg
          have hmem := List.getElem_mem hlt
          have hsn := List.take_succ_eq_append_getElem hlt
          obtain ⟨m, hmm⟩ := Int.eq_ofNat_of_zero_le hrg.1
          rw [hmm] at hrg c1 hmem hsn
          have hm1 : m < rs.length := by omega
          have hcell := ON.out.cell m (by rw [hxl]; exact hm1)
          have hrw : row (nums rs) (m : Int) = (nums rs)[m]'(by rw [nums_length]; exact hm1) := row_nat _ _ _
          have hcv : (netsV (nums rs))[m]'(by rw [hxl]; exact hm1) = .int .u32 (maskL (row (nums rs) (m : Int)) : Nat) := by rw [hrw]; simp [netsV]
          rw [hcv] at hcell
          have hrl : maskL (row (nums rs) (m : Int)) < 2 ^ 16 := maskL_lt _ 16 (fun v hv => by
            have := gok_range HL.out.ok (u := (m : Int)) (by omega) (by rw [nums_length]; omega) hv
            have := HL.out.ok.le; omega)
          have hzl := HML.out
          have hand := u32_and_nat (maskL (row (nums rs) (m : Int))) (maskL zs) (Nat.lt_trans hrl (by decide)) (Nat.lt_trans hzl (by decide))
          have hal : maskL (row (nums rs) (m : Int)) &&& maskL zs < 65536 := Nat.lt_of_le_of_lt Nat.and_le_left hrl
          have HSN := hid hsn; have HMEM := hid hmem
          have hi1 : (m : Int) < (rs.length : Int) := by omega
          clear hrg hsn hmem hmm hrw hcv hrl hzl
          have HQ := hid (show pcN 16 (maskL (row (nums rs) (m : Int)) &&& maskL zs) = pcN 16 (maskL (row (nums rs) (m : Int)) &&& maskL zs) from rfl)
          generalize hA : maskL (row (nums rs) (m : Int)) = A at *
          have HA := hid hA; clear hA
          generalize hBz : maskL zs = Z at *
          by_cases h2 : pcN 16 (A &&& Z) = 2
          · have d2 : ((pcN 16 (A &&& Z) : Int) != 2) = false := by rw [h2]; rfl
            have HFIN := hid (show ∀ v ∈ zs.take (k + 1), pcN 16 (maskL (row (nums rs) v) &&& Z) = 2 from fun v hv => by
              rw [HSN.out, List.mem_append] at hv
              rcases hv with h | h
              · exact HALL.out v h
              · simp at h; rw [h, HA.out]; exact h2)
            clear h2
            go_wp2_with fail
            refine (size_any _ _ hal).mono ?_
            rintro e w3 ⟨rfl, hd⟩
            have hb := Drawn.bel hd
            replace RA := hid (RA.out.below hb (Nat.le_refl _))
            replace RZ := hid (RZ.out.below hb (Nat.le_refl _))
            replace ON := hid (ON.out.past hb (Nat.le_refl _))
            replace B0 := hid (bon B0.out hb)
            replace BL := hid (bon BL.out hb)
            replace c0 := cellB hb c0 (Nat.le_refl _)
            clear hb hd
            go_wp2
            go_roundw
            case rel => exact ⟨k + 1, by omega, by go_num, HFIN.out, BL.out⟩
            case measure => simp [intOf]; omega
          · have d2 : ((pcN 16 (A &&& Z) : Int) != 2) = true := by simp; omega
            have HFIN := hid (show ¬ ChordP (nums rs) zs from fun h => h2 (by have := HIFF.out.1 h _ HMEM.out; rwa [HA.out] at this))
            clear h2
            go_wp2_with fail
            refine (size_any _ _ hal).mono ?_
            rintro e w4 ⟨rfl, hd⟩
            have hb := Drawn.bel hd
            replace RA := hid (RA.out.below hb (Nat.le_refl _))
            replace RZ := hid (RZ.out.below hb (Nat.le_refl _))
            replace ON := hid (ON.out.past hb (Nat.le_refl _))
            replace B0 := hid (bon B0.out hb)
            replace BL := hid (bon BL.out hb)
            replace c0 := cellB hb c0 (Nat.le_refl _)
            clear hb hd
            go_wp2
            go_ret
            exact ⟨ret_bool (dec_f HB.out HFIN.out), B0.out⟩
        · obtain rfl : k = zs.length := by omega
          have HFIN := hid (show ChordP (nums rs) zs from HIFF.out.2 (by have := HALL.out; rwa [List.take_length] at this))
          go_wp2
          go_ret
          exact ⟨ret_bool (dec_t HB.out HFIN.out), B0.out⟩
    · have d4 : decide ((zs.length : Int) < 4) = true := by rw [decide_eq_true_iff]; omega
      have d4n : decide (zs.length < 4) = true := by rw [decide_eq_true_iff]; omega
      have HFIN := hid (show ¬ ChordP (nums rs) zs from fun h => h4 h.long)
      clear h4
      go_enter Try.func36, Try.ntmps36
      go_wp2_with fail
      rw [← HW.out]
      go_wp2_with fail
      refine (implLoopOk_b a rs c a' zs c' _ _ h1.out RA.out hn RZ.out hm hcap).mono ?_
      rintro e w5 ⟨rfl, hb⟩
      replace RA := hid (RA.out.below hb (Nat.le_refl _))
      replace RZ := hid (RZ.out.below hb (Nat.le_refl _))
      replace B0 := hid (bon B0.out hb)
      replace c0 := cellB hb c0 (Nat.le_refl _)
      clear hb
      go_wp2
      go_ret
      exact ⟨ret_bool (dec_f HB.out HFIN.out), B0.out⟩
  · have h1 := hid (show decide (LoopP (nums rs) zs) = false by simpa using hl)
    have HFIN := hid (show ¬ ChordP (nums rs) zs from fun h => hl h.loop)
    clear hl
    go_enter Try.func36, Try.ntmps36
    go_wp2_with fail
    rw [← HW.out]
    go_wp2_with fail
    refine (implLoopOk_b a rs c a' zs c' _ _ h1.out RA.out hn RZ.out hm hcap).mono ?_
    rintro e w6 ⟨rfl, hb⟩
    replace RA := hid (RA.out.below hb (Nat.le_refl _))
    replace RZ := hid (RZ.out.below hb (Nat.le_refl _))
    replace B0 := hid (bon B0.out hb)
    replace c0 := cellB hb c0 (Nat.le_refl _)
    clear hb
    go_wp2
    go_ret
    exact ⟨ret_bool (dec_f HB.out HFIN.out), B0.out⟩
end Go.Proofs.Ythdfkpinaidkkaa
