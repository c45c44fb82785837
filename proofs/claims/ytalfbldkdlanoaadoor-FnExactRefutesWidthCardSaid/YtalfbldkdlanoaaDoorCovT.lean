/- BrambleOrder, RefutesWidth: both sides. -/
import Derived.Test.YtalfbldkdlanoaaDoorCovI
import Derived.Test.YtalfbldkdlanoaaDoorCovS
import Derived.Test.YtalfbldkdlanoaaDoorBramI
import Derived.Test.YtalfbldkdlanoaaDoorBagM
namespace Go.Proofs.YtalfbldkdlanoaaDoor
open Go.RowKit
theorem mask_mems {T : Nat} (h : T < 4294967296) : maskL (mems T) = T := by
  apply Nat.eq_of_testBit_eq
  intro i
  rw [testBit_maskL _ i (fun x hx => by obtain ⟨j, rfl, _⟩ := (mems_mem h).1 hx; omega), Bool.eq_iff_iff, decide_eq_true_iff, mems_mem h]
  constructor
  · rintro ⟨j, h1, h2⟩
    have : j = i := by omega
    rw [← this]; exact h2
  · intro h1; exact ⟨i, rfl, h1⟩
theorem hits_full {g Q : List (List Int)} (h : BramP g Q) : hits (Q.map maskL) (2 ^ g.length - 1) = true := by
  rw [← allL_mask g.length, hits_meets (fun x hx => ((allL_mem _ _).1 hx).1) (fun q hq x hx => ((h.conn q hq).1.2.1 x hx).1)]
  intro q hq hm
  obtain ⟨hs, h0, _⟩ := h.conn q hq
  obtain ⟨x, hx⟩ := List.exists_mem_of_ne_nil q h0
  exact meet_nil.1 hm x ((allL_mem _ _).2 (hs.2.1 x hx)) hx
noncomputable instance (n : Nat) (B : List Nat) : Decidable (∃ k, LeastHit B n k) := Classical.propDecidable _
noncomputable def tau (B : List Nat) (n : Nat) : Nat := if h : ∃ k, LeastHit B n k then Classical.choose h else 0
theorem tau_eq {B : List Nat} {n k : Nat} (h : LeastHit B n k) : tau B n = k := by
  unfold tau
  rw [dif_pos ⟨k, h⟩]
  exact (Classical.choose_spec (⟨k, h⟩ : ∃ k, LeastHit B n k)).unique h
theorem least_le {B : List Nat} {n k : Nat} (hn : n ≤ 32) (hf : hits B (2 ^ n - 1) = true) (h : LeastHit B n k) : k ≤ n := by
  apply Classical.byContradiction
  intro hc
  have := h.2 n (by omega) _ (full_inR n) (card_full hn)
  rw [hf] at this; cases this
noncomputable def brO (g Q : List (List Int)) : Int := if BramP g Q then ((tau (Q.map maskL) g.length : Nat) : Int) else -1
theorem brO_ok {g Q : List (List Int)} {k : Nat} (h : BramP g Q) (hk : LeastHit (Q.map maskL) g.length k) : brO g Q = (k : Int) := by unfold brO; rw [if_pos h, tau_eq hk]
theorem brO_no {g Q : List (List Int)} (h : ¬ BramP g Q) : brO g Q = -1 := by unfold brO; rw [if_neg h]
noncomputable instance (zs : List Int) (Q : List (List Int)) : Decidable (∀ q ∈ Q, meetL zs q ≠ []) := Classical.propDecidable _
set_option maxHeartbeats 4000000 in
theorem l11Meets_any (a : Option Addr) (zs : List Int) (c : Nat) (b : Option Addr) (qs : List Row) (d : Nat) (w : World) (hz : Rd (Value.int .i64) w a zs) (hzl : zs.length ≤ 16) (hq : RdM w b qs) (hm : Small qs) :
    Calls Tryd.prog 143 #[.slice a zs.length c, .slice b qs.length d] w fun e w' => e = .returned (.bool (decide (∀ q ∈ nums qs, meetL zs q ≠ []))) ∧ Below w.heap.size w w' := by
  have RZ := hid hz; have RQ := hid hq; clear hz hq
  have hm1 := hm.1
  go_enter Tryd.func143, Tryd.ntmps143
  go_wp2
  go_loopw [5] (fun x wr => ∃ k : Nat, k ≤ qs.length ∧ x = .int .i64 k ∧ (∀ q ∈ (nums qs).take k, meetL zs q ≠ []) ∧ Below w.heap.size w wr) (fun x _ => qs.length - (intOf x).toNat)
  case atStart => exact ⟨0, Nat.zero_le _, rfl, (fun q h => by simp at h), Below.refl _ _⟩
  case round =>
    obtain ⟨k, hk, rfl, hno, hb⟩ := hrel
    have HNO := hid hno; have BL := hid hb
    have RZ1 := hid (RZ.out.below hb (Nat.le_refl _)); have RQ1 := hid (RQ.out.below hb (Nat.le_refl _))
    clear hno hb
    by_cases hlt : k < qs.length
    · have hki : (k : Int) < (qs.length : Int) := by omega
      have hkn : k < (nums qs).length := by rw [nums_length]; exact hlt
      have hzk : (nums qs)[k] = qs[k].z := by simp [nums]
      have HTK := hid (List.take_succ_eq_append_getElem hkn)
      have HMEM := hid (List.getElem_mem hkn)
      rw [hzk] at HTK HMEM
      obtain ⟨qb1, qo1, rfl, ck, hok⟩ := RQ1.out.at k hlt
      have HOK := hid hok.1
      have hql := hm.2 _ (List.getElem_mem hlt)
      generalize qs[k] = q at *
      clear hok hzk hkn
      go_wp2_with fail
      refine (l8Meet_any a q.a zs q.z c q.c _ RZ1.out HOK.out (by omega) hql).mono ?_
      rintro e w1 ⟨mv, rfl, hown, hb⟩
      obtain ⟨ma, mc, hmv, _⟩ := Own.rd hown
      subst hmv
      have BL1 := hid (BL.out.trans (hb.mono BL.out.size))
      have hmlen := meetL_len zs q.z
      clear hown hb
      by_cases h0 : meetL zs q.z = []
      · have hl0 : (((meetL zs q.z).length : Nat) : Int) == 0 := by rw [h0]; rfl
        have HF := hid (show false = decide (∀ q ∈ nums qs, meetL zs q ≠ []) by
          symm; rw [decide_eq_false_iff_not]; intro h; exact h _ HMEM.out h0)
        generalize (meetL zs q.z).length = L at *
        clear h0
        go_wp2
        go_ret
        exact ⟨ret_bool HF.out, BL1.out⟩
      · have hl0 : ((((meetL zs q.z).length : Nat) : Int) == 0) = false := by
          have := List.length_pos_iff.2 h0
          simp; exact h0
        have HN := hid (show ∀ p ∈ (nums qs).take (k + 1), meetL zs p ≠ [] from fun p hp => by
          rw [HTK.out, List.mem_append, List.mem_singleton] at hp
          rcases hp with h | h
          · exact HNO.out p h
          · rw [h]; exact h0)
        generalize (meetL zs q.z).length = L at *
        clear h0
        go_wp2
        go_roundw
        case rel => exact ⟨k + 1, by omega, by go_num, HN.out, BL1.out⟩
        case measure => simp [intOf]; omega
    · obtain rfl : k = qs.length := by omega
      have HT := hid (show true = decide (∀ q ∈ nums qs, meetL zs q ≠ []) by
        symm; rw [decide_eq_true_iff]; intro q hq; exact HNO.out q (by rw [List.take_of_length_le (by rw [nums_length]; exact Nat.le_refl _)]; exact hq))
      go_wp2
      go_ret
      exact ⟨ret_bool HT.out, BL.out⟩
def CvPost (B : List Nat) (n : Nat) (w : World) (e : Ending) (w' : World) : Prop := ∃ (ra : Option Addr) (k rc : Nat), e = .returned (.slice ra k rc) ∧ LeastHit B n k ∧ Below w.heap.size w w'
set_option maxRecDepth 100000 in
set_option maxHeartbeats 4000000 in
theorem specCoverOf_any (a : Option Addr) (rs : List Row) (c : Nat) (b : Option Addr) (qs : List Row) (d : Nat) (w : World) (hbr : BramP (nums rs) (nums qs)) (hr : RdM w a rs) (hn : Small rs) (hq : RdM w b qs) (hm : Small qs) (hcap : qs.length ≤ d) :
    Calls Tryd.prog 98 #[.agg #[.slice a rs.length c], .slice b qs.length d] w (CvPost ((nums qs).map maskL) rs.length w) := by
  have RA := hid hr; have RQ := hid hq; clear hr hq
  have hn1 := hn.1
  have h16 : rs.length ≤ 16 := by have := hbr.ok.le; rwa [nums_length] at this
  have h1 := hid (show decide (BramP (nums rs) (nums qs)) = true by simpa using hbr)
  have HFULL := hid (show hits ((nums qs).map maskL) (2 ^ rs.length - 1) = true by have := hits_full hbr; rwa [nums_length] at this)
  have HHM := hid (fun k l (hl : l ∈ setsL rs.length k) => hits_meets (zs := l) (Q := nums qs) (fun x hx => ((setsL_in k l hl).inc.1 x hx).1) (fun q hq x hx => ((hbr.conn q hq).1.2.1 x hx).1))
  have HSK := hid (fun k l (hl : l ∈ setsL rs.length k) => setsL_in k l hl)
  have HSL := hid (fun k => setsL_len h16 k)
  have HALL := hid (fun k T => setsL_all h16 k T)
  obtain ⟨w0, hw0⟩ : ∃ w0, w0 = (w.alloc (.cells #[.slice a rs.length c] 29)) := ⟨_, rfl⟩
  have B0 := hid (show Below w.heap.size w w0 by rw [hw0]; exact ((Below.refl _ _).alloc (Nat.le_refl _) _))
  have c0 : w0.cell? ⟨w.heap.size, 0, none⟩ = some (.slice a rs.length c) := by rw [hw0]; simp [go_sem]
  replace RA := hid (RA.out.below B0.out (Nat.le_refl _))
  replace RQ := hid (RQ.out.below B0.out (Nat.le_refl _))
  have HW := hid hw0; clear hw0
  go_enter Tryd.func98, Tryd.ntmps98
  go_wp2_with fail
  rw [← HW.out]
  go_wp2_with fail
  refine (specBrambleOk_b a rs c b qs d _ _ h1.out RA.out hn RQ.out hm hcap).mono ?_
  rintro e w1 ⟨rfl, hb⟩
  replace RA := hid (RA.out.below hb (Nat.le_refl _))
  replace RQ := hid (RQ.out.below hb (Nat.le_refl _))
  replace B0 := hid (bon B0.out hb)
  replace c0 := cellB hb c0 (Nat.le_refl _)
  clear hb
  have RA00 := hid RA.out; have RQ00 := hid RQ.out; have B00 := hid B0.out; have c00 := hid c0
  go_wp2
  clear RA RQ B0 c0
  go_loopw [5, 6, 7] (fun x _ _ wr => ∃ k : Nat, k ≤ rs.length + 1 ∧ x = .int .i64 k ∧ (∀ j, j < k → NoHit ((nums qs).map maskL) rs.length j) ∧ Below w1.heap.size w1 wr) (fun x _ _ _ => rs.length + 1 - (intOf x).toNat)
  case atStart => exact ⟨0, Nat.zero_le _, rfl, (fun j h => absurd h (Nat.not_lt_zero _)), Below.refl _ _⟩
  case round =>
    obtain ⟨k, hk, rfl, hno, hb⟩ := hrel
    have HNO := hid hno; clear hno
    have BL := hid hb
    have RA := hid (RA00.out.below hb (Nat.le_refl _)); have RQ := hid (RQ00.out.below hb (Nat.le_refl _))
    have B0 := hid (bon B00.out hb)
    have c0 := cellB hb c00.out (Nat.le_refl _)
    clear hb
    go_wp2_with fail
    refine (l1Size_any a rs c _ hn1).mono ?_
    rintro e w2 ⟨rfl, hb⟩
    replace RA := hid (RA.out.below hb (Nat.le_refl _))
    replace RQ := hid (RQ.out.below hb (Nat.le_refl _))
    replace B0 := hid (bon B0.out hb)
    replace BL := hid (bon BL.out hb)
    replace c0 := cellB hb c0 (Nat.le_refl _)
    clear hb
    by_cases hle : k ≤ rs.length
    · have hki : (k : Int) ≤ (rs.length : Int) := by omega
      go_wp2_with fail
      refine (l1Size_any a rs c _ hn1).mono ?_
      rintro e w3 ⟨rfl, hb⟩
      replace RA := hid (RA.out.below hb (Nat.le_refl _))
      replace RQ := hid (RQ.out.below hb (Nat.le_refl _))
      replace B0 := hid (bon B0.out hb)
      replace BL := hid (bon BL.out hb)
      replace c0 := cellB hb c0 (Nat.le_refl _)
      clear hb
      go_wp2_with fail
      refine (l11Sets_any rs.length k _ h16 (by omega)).mono ?_
      rintro e wm ⟨pv, ps, rfl, hnp, hom, hb⟩
      obtain ⟨pa, pc, hpv, _⟩ := hom.rd
      subst hpv
      have RM := hid hom.rdm
      have HNP := hid hnp
      have hpl : ps.length ≤ 65536 := by
        have h3 := HSL.out k
        rw [← hnp, nums_length] at h3; exact h3
      replace RA := hid (RA.out.below hb (Nat.le_refl _))
      replace RQ := hid (RQ.out.below hb (Nat.le_refl _))
      replace B0 := hid (bon B0.out hb)
      replace BL := hid (bon BL.out hb)
      replace c0 := cellB hb c0 (Nat.le_refl _)
      clear hb
      clear hom hnp
      go_wp2
      go_loopw [7] (fun y wq => ∃ i : Nat, i ≤ ps.length ∧ y = .int .i64 i ∧ (∀ l ∈ (setsL rs.length k).take i, hits ((nums qs).map maskL) (maskL l) = false) ∧ Below wm.heap.size wm wq) (fun y _ => ps.length - (intOf y).toNat)
      case atStart => exact ⟨0, Nat.zero_le _, rfl, (fun l h => by simp at h), Below.refl _ _⟩
      case round =>
        obtain ⟨i, hi, rfl, hni, hb⟩ := hrel
        have HNI := hid hni; clear hni
        have BQ := hid hb
        replace RM := hid (RM.out.below hb (Nat.le_refl _))
        replace RA := hid (RA.out.below hb (Nat.le_refl _))
        replace RQ := hid (RQ.out.below hb (Nat.le_refl _))
        replace B0 := hid (bon B0.out hb)
        replace BL := hid (bon BL.out hb)
        replace c0 := cellB hb c0 (Nat.le_refl _)
        clear hb
        by_cases hlt : i < ps.length
        · have hii : (i : Int) < (ps.length : Int) := by omega
          have hin : i < (setsL rs.length k).length := by rw [← HNP.out, nums_length]; exact hlt
          have hzi : ps[i].z = (setsL rs.length k)[i] := by
            have h3 : (nums ps)[i]'(by rw [nums_length]; exact hlt) = (setsL rs.length k)[i] := by simp [HNP.out]
            rw [← h3]; simp [nums]
          have HTK := hid (List.take_succ_eq_append_getElem hin)
          have HLM := hid (List.getElem_mem hin)
          obtain ⟨pb, po, rfl, cr, hok⟩ := RM.out.at i hlt
          have hrd := hok.1
          rw [hzi] at cr hrd
          generalize (setsL rs.length k)[i] = l at *
          have HRD := hid hrd
          have hll := (HSK.out k l HLM.out).len
          have HLK := hid hll
          have hl16 : l.length ≤ 16 := by omega
          have HHL := hid (HHM.out k l HLM.out)
          generalize ps[i].a = qa at *
          generalize ps[i].c = qc at *
          clear hok hrd hzi hin hll
          go_wp2_with fail
          refine (l11Meets_any qa l qc b qs d _ HRD.out hl16 RQ.out hm).mono ?_
          rintro e wz ⟨rfl, hb⟩
          have cr2 := cellB hb cr (Nat.le_refl _)
          replace RQ := hid (RQ.out.below hb (Nat.le_refl _))
          replace B0 := hid (bon B0.out hb)
          replace BL := hid (bon BL.out hb)
          replace BQ := hid (bon BQ.out hb)
          clear hb
          clear cr
          by_cases hh : ∀ q ∈ nums qs, meetL l q ≠ []
          · have hd : decide (∀ q ∈ nums qs, meetL l q ≠ []) = true := by rw [decide_eq_true_iff]; exact hh
            rw [hd]
            have HHIT := hid (HHL.out.2 hh)
            have hml : maskL l < 65536 := maskL_lt l 16 (fun x hx => by have := (HSK.out k l HLM.out).inc.1 x hx; omega)
            have HLE := hid (show LeastHit ((nums qs).map maskL) rs.length l.length from by
              rw [HLK.out]
              refine ⟨⟨maskL l, fun j hj => ?_, ?_, HHIT.out⟩, HNO.out⟩
              · rw [testBit_maskL l j (fun x hx => ((HSK.out k l HLM.out).inc.1 x hx).1), decide_eq_true_iff] at hj
                have := (HSK.out k l HLM.out).inc.1 _ hj; omega
              · have h3 := mems_maskL (HSK.out k l HLM.out).inc (by omega)
                have h4 : (mems (maskL l)).length = card (maskL l) := by unfold card mems; rw [List.length_map]
                rw [← h4, h3, HLK.out])
            clear hh hd
            go_wp2
            go_ret
            exact ⟨qa, l.length, qc, rfl, HLE.out, B0.out⟩
          · have hd : decide (∀ q ∈ nums qs, meetL l q ≠ []) = false := by rw [decide_eq_false_iff_not]; exact hh
            rw [hd]
            have HHIT := hid (show hits ((nums qs).map maskL) (maskL l) = false by
              cases h3 : hits ((nums qs).map maskL) (maskL l) with
              | false => rfl
              | true => exact absurd (HHL.out.1 h3) hh)
            have HN2 := hid (show ∀ p ∈ (setsL rs.length k).take (i + 1), hits ((nums qs).map maskL) (maskL p) = false from fun p hp => by
              rw [HTK.out, List.mem_append, List.mem_singleton] at hp
              rcases hp with h | h
              · exact HNI.out p h
              · rw [h]; exact HHIT.out)
            clear hh hd
            go_wp2
            go_roundw
            case rel => exact ⟨i + 1, by omega, by go_num, HN2.out, BQ.out⟩
            case measure => simp [intOf]; omega
        · obtain rfl : i = ps.length := by omega
          have HN2 := hid (show ∀ j, j < k + 1 → NoHit ((nums qs).map maskL) rs.length j from fun j hj => by
            rcases Nat.lt_or_ge j k with h | h
            · exact HNO.out j h
            · have e : j = k := by omega
              subst e
              intro T hT hc
              have hp : T < 4294967296 := Nat.lt_of_lt_of_le hT.lt (Nat.le_trans (Nat.pow_le_pow_right (by decide) (show rs.length ≤ 32 by omega)) (by decide))
              have h3 := HALL.out j T hT hc
              have h4 := HNI.out (mems T) (by rw [List.take_of_length_le (by rw [← HNP.out, nums_length]; exact Nat.le_refl _)]; exact h3)
              rwa [mask_mems hp] at h4)
          go_wp2
          go_roundw
          case rel => exact ⟨k + 1, by omega, by go_num, HN2.out, BL.out⟩
          case measure => simp [intOf]; omega
    · have := HNO.out rs.length (by omega) _ (full_inR rs.length) (card_full (by omega))
      rw [HFULL.out] at this; cases this
end Go.Proofs.YtalfbldkdlanoaaDoor
