/- TransitiveIn: the program's, and both whole. -/
import Derived.Test.YtahibjikcijnfaaDoorTrans
namespace Go.Proofs.YtahibjikcijnfaaDoor
open Go.RowKit
set_option maxHeartbeats 8000000 in
theorem isTransitive_b (a : Option Addr) (up : List (List Int)) (c : Nat) (w : World) (b : Bool) (hb : decide (OverP up) = b) (hT : TabOk w) (hr : Rd netF w a up) (hn : up.length ≤ 16) (hin : ∀ l ∈ up, Inc up.length l) :
    Calls Tryd.prog 137 #[.slice a up.length c] w fun e w' => e = .returned (.bool b) ∧ Below w.heap.size w w' := by
  have RA := hid hr; have HB := hid hb; have RT := hid hT; clear hr hb hT
  have B0 := hid (Below.refl w.heap.size w)
  have HQ := hid (show ∀ u : Nat, u < up.length → Inc up.length (row up (u : Int)) from fun u hu => hin _ (row_mem_of hu))
  have HM := hid (show ∀ u : Nat, u < up.length → maskL (row up (u : Int)) < 65536 ∧ ∀ i : Nat, (maskL (row up (u : Int))).testBit i = decide ((i : Int) ∈ row up (u : Int)) from fun u hu => by
    have hi := HQ.out u hu
    exact ⟨maskL_lt _ 16 (fun v hv => by have := hi.1 v hv; omega), fun i => testBit_maskL _ i (fun v hv => (hi.1 v hv).1)⟩)
  clear hin
  go_enter Tryd.func137, Tryd.ntmps137
  go_wp2
  go_loopw [4, 6, 9] (fun _ _ x wr => ∃ v : Nat, v ≤ up.length ∧ x = .int .i64 v ∧ (∀ y : Nat, y < v → ∀ b ∈ row up (y : Int), ∀ c ∈ row up b, c ∈ row up (y : Int)) ∧ Below w.heap.size w wr) (fun _ _ x _ => up.length - (intOf x).toNat)
  case atStart => exact ⟨0, Nat.zero_le _, rfl, fun y h => absurd h (Nat.not_lt_zero y), B0.out⟩
  case round =>
    obtain ⟨v, hv, rfl, hall, hd⟩ := hrel
    have HALL := hid hall; clear hall
    replace RA := hid (RA.out.below hd (Nat.le_refl _))
    replace RT := hid (RT.out.below hd (Nat.le_refl _))
    replace B0 := hid (bon B0.out hd)
    clear hd
    by_cases hlt : v < up.length
    · have hvi : (v : Int) < (up.length : Int) := by omega
      obtain ⟨ab, ao, haa, cv⟩ := RA.out v hlt
      have hatv := at_slice tVsets haa up.length c v hlt
      unfold netF at cv
      rw [← row_get1 v hlt] at cv
      have hinc := HQ.out v hlt
      have hSl := (HM.out v hlt).1
      have HSb := hid (HM.out v hlt).2
      have HME := hid (mems_maskL hinc (by omega))
      have HIN := hid hinc.1; clear hinc
      have HAA := hid haa; clear haa
      have HBAD := hid (fun (h1 : ¬ ∀ b ∈ row up (v : Int), ∀ c ∈ row up b, c ∈ row up (v : Int)) => (show ¬ OverP up from fun hh => h1 (hh v hlt)))
      generalize hS : maskL (row up (v : Int)) = S at *
      clear hS
      generalize hrow : row up (v : Int) = l at *
      have HROW := hid hrow; clear hrow
      go_wp2_with fail
      go_wp2_with fail
      refine (list_any S _ RT.out hSl).mono ?_
      rintro e w1 ⟨v', rfl, ho, hb⟩
      replace RA := hid (RA.out.below hb (Nat.le_refl _))
      replace RT := hid (RT.out.below hb (Nat.le_refl _))
      replace B0 := hid (bon B0.out hb)
      replace cv := cellB hb cv (Nat.le_refl _)
      clear hb
      rw [HME.out] at ho
      obtain ⟨la, lc, rfl, hlr, _⟩ := ho.rd
      have RL := hid hlr; clear hlr ho
      have hll : l.length ≤ 32 := by have := mems_len S; rwa [HME.out] at this
      go_wp2
      obtain ⟨wi, rfl⟩ : ∃ wi, wi = w1 := ⟨_, rfl⟩
      go_loop [6, 16] (fun _ x => ∃ i : Nat, i ≤ l.length ∧ x = .int .i64 i ∧ (∀ j, (h : j < l.length) → j < i → ∀ c ∈ row up l[j], c ∈ l)) (fun _ x => l.length - (intOf x).toNat)
      case atStart => exact ⟨0, Nat.zero_le _, rfl, fun _ _ h => absurd h (Nat.not_lt_zero _)⟩
      case round =>
        obtain ⟨i, hi, rfl, hin2⟩ := hrel
        have HIN2 := hid hin2; clear hin2
        by_cases hli : i < l.length
        · have hii : (i : Int) < (l.length : Int) := by omega
          obtain ⟨lb, lo, rfl, ci⟩ := RL.out i hli
          have hbr := HIN.out _ (List.getElem_mem hli)
          have HSTI := hid (fun (h1 : ∀ c ∈ row up l[i], c ∈ l) => (show ∀ j, (h : j < l.length) → j < i + 1 → ∀ c ∈ row up l[j], c ∈ l from fun j hj hji => by
            rcases Nat.lt_succ_iff_lt_or_eq.1 hji with h3 | rfl
            · exact HIN2.out j hj h3
            · exact h1))
          have HB2 := hid (fun (h1 : ¬ ∀ c ∈ row up l[i], c ∈ l) => HBAD.out fun hh => h1 (hh _ (List.getElem_mem hli)))
          generalize l[i] = bb at *
          obtain ⟨n, rfl⟩ := Int.eq_ofNat_of_zero_le hbr.1
          have hnq : n < up.length := by omega
          have hni : (n : Int) < (up.length : Int) := by omega
          obtain ⟨ab2, ao2, haa2, cn⟩ := RA.out n hnq
          have hatn := at_slice tVsets haa2 up.length c n hnq
          have HAA2 := hid haa2; clear haa2
          unfold netF at cn
          rw [← row_get1 n hnq] at cn
          have hKl := (HM.out n hnq).1
          have HKb := hid (HM.out n hnq).2
          have hKi := HQ.out n hnq
          have HSUB := hid (show dif (maskL (row up (n : Int))) S = 0 ↔ ∀ c ∈ row up (n : Int), c ∈ l by
            rw [dif_zero]
            constructor
            · intro h x hx
              have h0 := hKi.1 x hx
              obtain ⟨m, rfl⟩ := Int.eq_ofNat_of_zero_le h0.1
              have := h m (by rw [HKb.out]; simpa using hx)
              rw [HSb.out] at this; simpa using this
            · intro h m hm
              rw [HKb.out, decide_eq_true_iff] at hm
              rw [HSb.out, decide_eq_true_iff]
              exact h _ hm)
          clear hKi
          generalize maskL (row up (n : Int)) = K at *
          have hdf := u32_dif K S (by omega) (by omega)
          by_cases h0 : dif K S = 0
          · have d0 : (((dif K S : Nat) : Int) != 0) = false := by rw [h0]; rfl
            have HFIN := hid (HSTI.out (HSUB.out.1 h0))
            clear h0
            go_wp2
            go_round
            case rel => exact ⟨i + 1, by omega, by go_num, HFIN.out⟩
            case measure => simp [intOf]; omega
          · have d0 : (((dif K S : Nat) : Int) != 0) = true := by simp; omega
            have HFIN := hid (HB2.out fun h => h0 (HSUB.out.2 h))
            clear h0
            go_wp2
            go_ret
            exact ⟨ret_bool (dec_f HB.out HFIN.out), B0.out⟩
        · obtain rfl : i = l.length := by omega
          have HFIN := hid (show ∀ y : Nat, y < v + 1 → ∀ b ∈ row up (y : Int), ∀ c ∈ row up b, c ∈ row up (y : Int) from fun y hy => by
            rcases Nat.lt_succ_iff_lt_or_eq.1 hy with h4 | rfl
            · exact HALL.out y h4
            · rw [HROW.out]
              intro b hb
              obtain ⟨j, hj, rfl⟩ := List.mem_iff_getElem.1 hb
              exact HIN2.out j hj hj)
          go_wp2
          go_roundw
          case rel => exact ⟨v + 1, by omega, by go_num, HFIN.out, B0.out⟩
          case measure => simp [intOf]; omega
    · obtain rfl : v = up.length := by omega
      have HFIN := hid (show OverP up from fun v hv => HALL.out v hv)
      go_wp2
      go_ret
      exact ⟨ret_bool (dec_t HB.out HFIN.out), B0.out⟩
def TransP (g up : List (List Int)) : Prop := SpecUp g up ∧ OverP up
noncomputable instance (g up : List (List Int)) : Decidable (TransP g up) := Classical.propDecidable _
set_option maxHeartbeats 4000000 in
theorem specTransitiveIn_b (a : Option Addr) (rs : List Row) (c : Nat) (a' : Option Addr) (qs : List Row) (c' : Nat) (w : World) (b : Bool) (hb : decide (TransP (nums rs) (nums qs)) = b) (hr : RdM w a rs) (hn : Small rs) (hq : RdM w a' qs) (hm : Small qs) :
    Calls Tryd.prog 84 #[.agg #[.slice a rs.length c], .slice a' qs.length c'] w fun e w' => e = .returned (.bool b) ∧ Below w.heap.size w w' := by
  have RA := hid hr; have RQ := hid hq; have HB := hid hb; clear hr hq hb
  obtain ⟨w0, hw0⟩ : ∃ w0, w0 = (w.alloc (.cells #[.slice a rs.length c] 28)) := ⟨_, rfl⟩
  have B0 := hid (show Below w.heap.size w w0 by rw [hw0]; exact ((Below.refl _ _).alloc (Nat.le_refl _) _))
  have c0 : w0.cell? ⟨w.heap.size, 0, none⟩ = some (.slice a rs.length c) := by rw [hw0]; simp [go_sem]
  replace RA := hid (RA.out.below B0.out (Nat.le_refl _))
  replace RQ := hid (RQ.out.below B0.out (Nat.le_refl _))
  have HW := hid hw0; clear hw0
  by_cases hu : SpecUp (nums rs) (nums qs)
  · have h1 := hid (show decide (SpecUp (nums rs) (nums qs)) = true by simpa using hu)
    have h2 := hid (show decide (OverP (nums qs)) = b by rw [← HB.out]; unfold TransP; simp [hu])
    have HI := hid (show ∀ l ∈ nums qs, Inc qs.length l from fun l hl => by
      have hi := up_iff.1 hu
      have := hi.inc l hl
      have e := hi.len
      rw [nums_length, nums_length] at e
      rwa [nums_length, ← e] at this)
    clear hu
    go_enter Tryd.func84, Tryd.ntmps84
    go_wp2_with fail
    rw [← HW.out]
    go_wp2_with fail
    refine (specUpOk_b a rs c a' qs c' _ _ h1.out RA.out hn RQ.out hm).mono ?_
    rintro e w1 ⟨rfl, hb⟩
    replace RA := hid (RA.out.below hb (Nat.le_refl _))
    replace RQ := hid (RQ.out.below hb (Nat.le_refl _))
    replace B0 := hid (bon B0.out hb)
    replace c0 := cellB hb c0 (Nat.le_refl _)
    clear hb
    go_wp2_with fail
    refine (l13Over_b a' qs c' _ _ h2.out RQ.out hm HI.out).mono ?_
    rintro e w2 ⟨rfl, hb⟩
    replace RA := hid (RA.out.below hb (Nat.le_refl _))
    replace RQ := hid (RQ.out.below hb (Nat.le_refl _))
    replace B0 := hid (bon B0.out hb)
    replace c0 := cellB hb c0 (Nat.le_refl _)
    clear hb
    go_wp2
    go_ret
    exact ⟨rfl, B0.out⟩
  · have h1 := hid (show decide (SpecUp (nums rs) (nums qs)) = false by simpa using hu)
    have HFIN := hid (show ¬ TransP (nums rs) (nums qs) from fun h => hu h.1)
    clear hu
    go_enter Tryd.func84, Tryd.ntmps84
    go_wp2_with fail
    rw [← HW.out]
    go_wp2_with fail
    refine (specUpOk_b a rs c a' qs c' _ _ h1.out RA.out hn RQ.out hm).mono ?_
    rintro e w3 ⟨rfl, hb⟩
    replace RA := hid (RA.out.below hb (Nat.le_refl _))
    replace RQ := hid (RQ.out.below hb (Nat.le_refl _))
    replace B0 := hid (bon B0.out hb)
    replace c0 := cellB hb c0 (Nat.le_refl _)
    clear hb
    go_wp2
    go_ret
    exact ⟨ret_bool (dec_f HB.out HFIN.out), B0.out⟩
set_option maxHeartbeats 4000000 in
theorem implTransitiveIn_b (a : Option Addr) (rs : List Row) (c : Nat) (a' : Option Addr) (qs : List Row) (c' : Nat) (w : World) (b : Bool) (hb : decide (TransP (nums rs) (nums qs)) = b) (hr : RdM w a rs) (hn : Small rs) (hq : RdM w a' qs) (hm : Small qs) (hT : TabOk w) :
    Calls Tryd.prog 86 #[.agg #[.slice a rs.length c], .slice a' qs.length c'] w fun e w' => e = .returned (.bool b) ∧ Below w.heap.size w w' := by
  have RA := hid hr; have RQ := hid hq; have HB := hid hb; have RT := hid hT; clear hr hq hb hT
  obtain ⟨w0, hw0⟩ : ∃ w0, w0 = (w.alloc (.cells #[.slice a rs.length c] 28)) := ⟨_, rfl⟩
  have B0 := hid (show Below w.heap.size w w0 by rw [hw0]; exact ((Below.refl _ _).alloc (Nat.le_refl _) _))
  have c0 : w0.cell? ⟨w.heap.size, 0, none⟩ = some (.slice a rs.length c) := by rw [hw0]; simp [go_sem]
  replace RA := hid (RA.out.below B0.out (Nat.le_refl _))
  replace RQ := hid (RQ.out.below B0.out (Nat.le_refl _))
  replace RT := hid (RT.out.below B0.out (Nat.le_refl _))
  have HW := hid hw0; clear hw0
  by_cases hu : SpecUp (nums rs) (nums qs)
  · have h1 := hid (show decide (SpecUp (nums rs) (nums qs)) = true by simpa using hu)
    have h2 := hid (show decide (OverP (nums qs)) = b by rw [← HB.out]; unfold TransP; simp [hu])
    have hi := up_iff.1 hu
    have hl16 : (nums qs).length ≤ 16 := by rw [hi.len]; exact hi.ok.le
    have hq16 : qs.length ≤ 16 := by rwa [nums_length] at hl16
    have HI := hid (show ∀ l ∈ nums qs, Inc (nums qs).length l from fun l hl => by
      have := hi.inc l hl
      rwa [← hi.len] at this)
    have HQV := hid (show ∀ r ∈ qs, ∀ v ∈ r.z, 0 ≤ v ∧ v < 16 from fun r hr v hv => by
      have := (HI.out r.z (List.mem_map_of_mem hr)).1 v hv; omega)
    clear hu hi
    go_enter Tryd.func86, Tryd.ntmps86
    go_wp2_with fail
    rw [← HW.out]
    go_wp2_with fail
    refine (implUpOk_b a rs c a' qs c' _ _ h1.out RA.out hn RQ.out hm RT.out).mono ?_
    rintro e w1 ⟨rfl, hb⟩
    replace RA := hid (RA.out.below hb (Nat.le_refl _))
    replace RQ := hid (RQ.out.below hb (Nat.le_refl _))
    replace RT := hid (RT.out.below hb (Nat.le_refl _))
    replace B0 := hid (bon B0.out hb)
    replace c0 := cellB hb c0 (Nat.le_refl _)
    clear hb
    go_wp2_with fail
    refine (bagMasks_any a' qs c' _ hq16 HQV.out RQ.out hm).mono ?_
    rintro e w2 ⟨v, rfl, hown, hb⟩
    replace RA := hid (RA.out.below hb (Nat.le_refl _))
    replace RQ := hid (RQ.out.below hb (Nat.le_refl _))
    replace RT := hid (RT.out.below hb (Nat.le_refl _))
    replace B0 := hid (bon B0.out hb)
    replace c0 := cellB hb c0 (Nat.le_refl _)
    clear hb
    obtain ⟨sa, sc, rfl, hsr, _, _, _, _⟩ := Own.rd (f := netF) hown
    have RS := hid hsr; clear hown hsr
    go_wp2_with fail
    refine (isTransitive_b sa (nums qs) sc _ _ h2.out RT.out RS.out hl16 HI.out).mono ?_
    rintro e w3 ⟨rfl, hb⟩
    replace RA := hid (RA.out.below hb (Nat.le_refl _))
    replace RQ := hid (RQ.out.below hb (Nat.le_refl _))
    replace RT := hid (RT.out.below hb (Nat.le_refl _))
    replace RS := hid (RS.out.below hb (Nat.le_refl _))
    replace B0 := hid (bon B0.out hb)
    replace c0 := cellB hb c0 (Nat.le_refl _)
    clear hb
    go_wp2
    go_ret
    exact ⟨rfl, B0.out⟩
  · have h1 := hid (show decide (SpecUp (nums rs) (nums qs)) = false by simpa using hu)
    have HFIN := hid (show ¬ TransP (nums rs) (nums qs) from fun h => hu h.1)
    clear hu
    go_enter Tryd.func86, Tryd.ntmps86
    go_wp2_with fail
    rw [← HW.out]
    go_wp2_with fail
    refine (implUpOk_b a rs c a' qs c' _ _ h1.out RA.out hn RQ.out hm RT.out).mono ?_
    rintro e w4 ⟨rfl, hb⟩
    replace RA := hid (RA.out.below hb (Nat.le_refl _))
    replace RQ := hid (RQ.out.below hb (Nat.le_refl _))
    replace RT := hid (RT.out.below hb (Nat.le_refl _))
    replace B0 := hid (bon B0.out hb)
    replace c0 := cellB hb c0 (Nat.le_refl _)
    clear hb
    go_wp2
    go_ret
    exact ⟨ret_bool (dec_f HB.out HFIN.out), B0.out⟩
end Go.Proofs.YtahibjikcijnfaaDoor
