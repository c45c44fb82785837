/- BrambleOk: both. -/
import Derived.Test.YtalfbldkdlanoaaDoorConn
namespace Go.Proofs.YtalfbldkdlanoaaDoor
open Go.RowKit
structure BramP (g ss : List (List Int)) : Prop where
  ok : GOk g
  few : ss.length ≤ 80
  conn : ∀ s ∈ ss, ConnIn g s
  touch : ∀ i k, (hk : k < i) → (h : i < ss.length) → TouchL g (ss[k]'(by omega)) ss[i]
noncomputable instance (g ss : List (List Int)) : Decidable (BramP g ss) := Classical.propDecidable _
theorem touch_sym {g : List (List Int)} {a b : List Int} (ha : SetP g a) (hb : SetP g b) : TouchL g a b ↔ TouchL g b a := by
  have key : ∀ {a b : List Int}, SetP g a → SetP g b → TouchL g a b → TouchL g b a := by
    intro a b ha hb h
    obtain ⟨x, hx, h1 | ⟨y, hy, h1⟩⟩ := h
    · exact ⟨x, h1, .inl hx⟩
    · refine ⟨y, hy, .inr ⟨x, hx, ?_⟩⟩
      have h2 := ha.2.1 x hx; have h3 := hb.2.1 y hy
      exact (gok_sym ha.1 h3.1 h3.2 h2.1 h2.2).1 h1
  exact ⟨key ha hb, key hb ha⟩
theorem nums_at (qs : List Row) (i : Nat) (h : i < (nums qs).length) : (nums qs)[i] = (qs[i]'(by rwa [nums_length] at h)).z := by simp [nums]
set_option maxHeartbeats 8000000 in
theorem specBrambleOk_b (a : Option Addr) (rs : List Row) (c : Nat) (a' : Option Addr) (qs : List Row) (c' : Nat) (w : World) (b : Bool) (hb : decide (BramP (nums rs) (nums qs)) = b) (hr : RdM w a rs) (hn : Small rs) (hq : RdM w a' qs) (hm : Small qs) (_hcap : qs.length ≤ c') :
    Calls Tryd.prog 76 #[.agg #[.slice a rs.length c], .slice a' qs.length c'] w fun e w' => e = .returned (.bool b) ∧ Below w.heap.size w w' := by
  have RA := hid hr; have RQ := hid hq; have HB := hid hb; clear hr hq hb
  have hm1 := hm.1
  obtain ⟨w0, hw0⟩ : ∃ w0, w0 = (w.alloc (.cells #[.slice a rs.length c] 29)) := ⟨_, rfl⟩
  have B0 := hid (show Below w.heap.size w w0 by rw [hw0]; exact ((Below.refl _ _).alloc (Nat.le_refl _) _))
  have c0 : w0.cell? ⟨w.heap.size, 0, none⟩ = some (.slice a rs.length c) := by rw [hw0]; simp [go_sem]
  replace RA := hid (RA.out.below B0.out (Nat.le_refl _))
  replace RQ := hid (RQ.out.below B0.out (Nat.le_refl _))
  have HW := hid hw0; clear hw0
  by_cases hg : GOk (nums rs)
  · have h1 := hid (show decide (GOk (nums rs)) = true by simpa using hg)
    have HG := hid hg
    clear hg
    by_cases hf : qs.length ≤ 80
    · have hd : decide ((80 : Int) < (qs.length : Int)) = false := by rw [decide_eq_false_iff_not]; omega
      have hdn : decide (80 < qs.length) = false := by rw [decide_eq_false_iff_not]; omega
      go_enter Tryd.func76, Tryd.ntmps76
      go_wp2_with fail
      rw [← HW.out]
      go_wp2_with fail
      refine (specGraphOk_b a rs c _ true h1.out RA.out hn).mono ?_
      rintro e w1 ⟨rfl, hb⟩
      replace RA := hid (RA.out.below hb (Nat.le_refl _))
      replace RQ := hid (RQ.out.below hb (Nat.le_refl _))
      replace B0 := hid (bon B0.out hb)
      replace c0 := cellB hb c0 (Nat.le_refl _)
      clear hb
      go_wp2
      go_loopw [5, 6] (fun x _ wr => ∃ i : Nat, i ≤ qs.length ∧ x = .int .i64 i ∧ (∀ j, (h : j < qs.length) → j < i → ConnIn (nums rs) qs[j].z) ∧ (∀ j k, (hk : k < j) → j < i → (h : j < qs.length) → TouchL (nums rs) (qs[k]'(by omega)).z qs[j].z) ∧ Below w1.heap.size w1 wr) (fun x _ _ => qs.length - (intOf x).toNat)
      case atStart => exact ⟨0, Nat.zero_le _, rfl, fun j _ h => absurd h (Nat.not_lt_zero j), fun j _ _ h => absurd h (Nat.not_lt_zero j), Below.refl _ _⟩
      case round =>
        obtain ⟨i, hi, rfl, hcn, htc, hd⟩ := hrel
        have HCN := hid hcn; have HTC := hid htc; have BL := hid hd; clear hcn htc
        replace RA := hid (RA.out.below hd (Nat.le_refl _))
        replace RQ := hid (RQ.out.below hd (Nat.le_refl _))
        replace B0 := hid (bon B0.out hd)
        replace c0 := cellB hd c0 (Nat.le_refl _)
        clear hd
        by_cases hlt : i < qs.length
        · have hii : (i : Int) < (qs.length : Int) := by omega
          obtain ⟨bq, oq, hqa, ci, hqok⟩ := RQ.out.at i hlt
          have hati := at_slice tRows hqa qs.length c' i hlt
          have HQA := hid hqa
          have RI := hid hqok.1; clear hqok
          have hzi := hm.2 _ (List.getElem_mem hlt)
          have HBC := hid (fun (h : ¬ ConnIn (nums rs) qs[i].z) => (show ¬ BramP (nums rs) (nums qs) from fun hh => h (hh.conn _ (List.mem_map_of_mem (List.getElem_mem hlt)))))
          have HBT := hid (fun k (hk : k < i) (h : ¬ TouchL (nums rs) (qs[k]'(by omega)).z qs[i].z) => (show ¬ BramP (nums rs) (nums qs) from fun hh => h (by
            have := hh.touch i k hk (by rw [nums_length]; exact hlt)
            rwa [nums_at, nums_at] at this)))
          have HCS := hid (fun (h : ConnIn (nums rs) qs[i].z) => (show ∀ j, (h : j < qs.length) → j < i + 1 → ConnIn (nums rs) qs[j].z from fun j hj hji => by
            rcases Nat.lt_succ_iff_lt_or_eq.1 hji with h3 | rfl
            · exact HCN.out j hj h3
            · exact h))
          have HTS := hid (fun (h : ∀ k, (hk : k < i) → TouchL (nums rs) (qs[k]'(by omega)).z qs[i].z) => (show ∀ j k, (hk : k < j) → j < i + 1 → (h : j < qs.length) → TouchL (nums rs) (qs[k]'(by omega)).z qs[j].z from fun j k hkj hji hj => by
            rcases Nat.lt_succ_iff_lt_or_eq.1 hji with h3 | rfl
            · exact HTC.out j k hkj h3 hj
            · exact h k hkj))
          generalize hq : qs[i] = q at *
          have HQI := hid hq; clear hq hqa
          obtain ⟨b4, hb4⟩ : ∃ b4, decide (ConnIn (nums rs) q.z) = b4 := ⟨_, rfl⟩
          have H4 := hid hb4
          cases b4
          · have HFIN := hid (HBC.out (by simpa using hb4))
            clear hb4
            go_wp2
            have qc0 := fun (p : Bel _) => cellB p.h c0 (Nat.le_refl _)
            have qci := fun (p : Bel _) => cellB p.h ci (Nat.le_refl _)
            refine wp_quiet_b (by kernel_rfl) (by kernel_rfl) ?_
            repeat (go_big_quiet_step (first | (go_at_call 77; exact qb (specConnectedIn_b _ _ _ _ _ _ _ _ H4.out (RA.out.bel _) hn (RI.out.bel _) hzi))))
            refine wpQuiet_nil ?_
            intro _ hw'
            obtain ⟨⟨w2, hb⟩, rfl⟩ := hw'
            clear qc0 qci
            replace RA := hid (RA.out.below hb (Nat.le_refl _))
            replace RQ := hid (RQ.out.below hb (Nat.le_refl _))
            replace RI := hid (RI.out.below hb (Nat.le_refl _))
            replace B0 := hid (bon B0.out hb)
            replace BL := hid (bon BL.out hb)
            replace c0 := cellB hb c0 (Nat.le_refl _)
            replace ci := cellB hb ci (Nat.le_refl _)
            clear hb
            go_wp2
            go_ret
            exact ⟨ret_bool (dec_f HB.out HFIN.out), B0.out⟩
          · have hconn : ConnIn (nums rs) q.z := by simpa using hb4
            have HC2 := hid (HCS.out hconn)
            have HIN := hid (show ∀ v ∈ q.z, 0 ≤ v ∧ v < rs.length from fun v hv => by have := hconn.1.2.1 v hv; rwa [nums_length] at this)
            clear hb4 hconn
            go_wp2
            have qc0 := fun (p : Bel _) => cellB p.h c0 (Nat.le_refl _)
            have qci := fun (p : Bel _) => cellB p.h ci (Nat.le_refl _)
            refine wp_quiet_b (by kernel_rfl) (by kernel_rfl) ?_
            repeat (go_big_quiet_step (first | (go_at_call 77; exact qb (specConnectedIn_b _ _ _ _ _ _ _ _ H4.out (RA.out.bel _) hn (RI.out.bel _) hzi))))
            refine wpQuiet_nil ?_
            intro _ hw'
            obtain ⟨⟨w3, hb⟩, rfl⟩ := hw'
            clear qc0 qci
            replace RA := hid (RA.out.below hb (Nat.le_refl _))
            replace RQ := hid (RQ.out.below hb (Nat.le_refl _))
            replace RI := hid (RI.out.below hb (Nat.le_refl _))
            replace B0 := hid (bon B0.out hb)
            replace BL := hid (bon BL.out hb)
            replace c0 := cellB hb c0 (Nat.le_refl _)
            replace ci := cellB hb ci (Nat.le_refl _)
            clear hb
            rename_i wi
            go_wp2
            go_loopw [6] (fun y wq => ∃ k : Nat, k ≤ i ∧ y = .int .i64 k ∧ (∀ j, (h : j < k) → (hji : j < i) → TouchL (nums rs) (qs[j]'(by omega)).z q.z) ∧ Below wi.heap.size wi wq) (fun y _ => i - (intOf y).toNat)
            case atStart => exact ⟨0, Nat.zero_le _, rfl, fun j h => absurd h (Nat.not_lt_zero j), Below.refl _ _⟩
            case round =>
              obtain ⟨k, hk, rfl, htk, hd⟩ := hrel
              have HTK := hid htk; have BK := hid hd; clear htk
              replace RA := hid (RA.out.below hd (Nat.le_refl _))
              replace RQ := hid (RQ.out.below hd (Nat.le_refl _))
              replace RI := hid (RI.out.below hd (Nat.le_refl _))
              replace B0 := hid (bon B0.out hd)
              replace BL := hid (bon BL.out hd)
              replace c0 := cellB hd c0 (Nat.le_refl _)
              replace ci := cellB hd ci (Nat.le_refl _)
              clear hd
              by_cases hlk : k < i
              · have hki : (k : Int) < (i : Int) := by omega
                have hkq : (k : Int) < (qs.length : Int) := by omega
                have hkl : k < qs.length := by omega
                obtain ⟨bq2, oq2, hqa2, ck, hqok2⟩ := RQ.out.at k hkl
                have hatk := at_slice tRows hqa2 qs.length c' k hkl
                have HQA2 := hid hqa2; clear hqa2
                have RK := hid hqok2.1; clear hqok2
                have hzk := hm.2 _ (List.getElem_mem hkl)
                have HNT := hid (HBT.out k hlk)
                have HST := hid (fun (h : TouchL (nums rs) qs[k].z q.z) => (show ∀ j, (h : j < k + 1) → (hji : j < i) → TouchL (nums rs) (qs[j]'(by omega)).z q.z from fun j hj hji => by
                  rcases Nat.lt_succ_iff_lt_or_eq.1 hj with h3 | rfl
                  · exact HTK.out j h3 hji
                  · exact h))
                generalize qs[k] = p at *
                obtain ⟨b5, hb5⟩ : ∃ b5, decide (TouchL (nums rs) p.z q.z) = b5 := ⟨_, rfl⟩
                have H5 := hid hb5
                cases b5
                · have HFIN := hid (HNT.out (by simpa using hb5))
                  clear hb5
                  go_wp2
                  have qc0 := fun (p : Bel _) => cellB p.h c0 (Nat.le_refl _)
                  have qci := fun (p : Bel _) => cellB p.h ci (Nat.le_refl _)
                  have qck := fun (p : Bel _) => cellB p.h ck (Nat.le_refl _)
                  refine wp_quiet_b (by kernel_rfl) (by kernel_rfl) ?_
                  repeat (go_big_quiet_step (first | (go_at_call 78; exact qb (l11Touch_b _ _ _ _ _ _ _ _ _ _ _ H5.out (RA.out.bel _) hn (RK.out.bel _) hzk (RI.out.bel _) hzi HIN.out))))
                  refine wpQuiet_nil ?_
                  intro _ hw'
                  obtain ⟨⟨w4, hb⟩, rfl⟩ := hw'
                  clear qc0 qci qck
                  replace RA := hid (RA.out.below hb (Nat.le_refl _))
                  replace RQ := hid (RQ.out.below hb (Nat.le_refl _))
                  replace RI := hid (RI.out.below hb (Nat.le_refl _))
                  replace RK := hid (RK.out.below hb (Nat.le_refl _))
                  replace B0 := hid (bon B0.out hb)
                  replace BL := hid (bon BL.out hb)
                  replace BK := hid (bon BK.out hb)
                  replace c0 := cellB hb c0 (Nat.le_refl _)
                  replace ci := cellB hb ci (Nat.le_refl _)
                  replace ck := cellB hb ck (Nat.le_refl _)
                  clear hb
                  go_wp2
                  go_ret
                  exact ⟨ret_bool (dec_f HB.out HFIN.out), B0.out⟩
                · have HFIN := hid (HST.out (by simpa using hb5))
                  clear hb5
                  go_wp2
                  have qc0 := fun (p : Bel _) => cellB p.h c0 (Nat.le_refl _)
                  have qci := fun (p : Bel _) => cellB p.h ci (Nat.le_refl _)
                  have qck := fun (p : Bel _) => cellB p.h ck (Nat.le_refl _)
                  refine wp_quiet_b (by kernel_rfl) (by kernel_rfl) ?_
                  repeat (go_big_quiet_step (first | (go_at_call 78; exact qb (l11Touch_b _ _ _ _ _ _ _ _ _ _ _ H5.out (RA.out.bel _) hn (RK.out.bel _) hzk (RI.out.bel _) hzi HIN.out))))
                  refine wpQuiet_nil ?_
                  intro _ hw'
                  obtain ⟨⟨w5, hb⟩, rfl⟩ := hw'
                  clear qc0 qci qck
                  replace RA := hid (RA.out.below hb (Nat.le_refl _))
                  replace RQ := hid (RQ.out.below hb (Nat.le_refl _))
                  replace RI := hid (RI.out.below hb (Nat.le_refl _))
                  replace RK := hid (RK.out.below hb (Nat.le_refl _))
                  replace B0 := hid (bon B0.out hb)
                  replace BL := hid (bon BL.out hb)
                  replace BK := hid (bon BK.out hb)
                  replace c0 := cellB hb c0 (Nat.le_refl _)
                  replace ci := cellB hb ci (Nat.le_refl _)
                  replace ck := cellB hb ck (Nat.le_refl _)
                  clear hb
                  go_wp2
                  go_roundw
                  case rel => exact ⟨k + 1, by omega, by go_num, HFIN.out, BK.out⟩
                  case measure => simp [intOf]; omega
              · obtain rfl : k = i := by omega
                have HFIN := hid (HTS.out fun j hj => HTK.out j hj hj)
                go_wp2
                go_roundw
                case rel => exact ⟨k + 1, by omega, by go_num, HC2.out, HFIN.out, BL.out⟩
                case measure => simp [intOf]; omega
        · obtain rfl : i = qs.length := by omega
          have HFIN := hid (show BramP (nums rs) (nums qs) from ⟨HG.out, by rw [nums_length]; exact hf, fun s hs => by
            obtain ⟨q, hq, rfl⟩ := List.mem_map.1 hs
            obtain ⟨j, hj, rfl⟩ := List.mem_iff_getElem.1 hq
            exact HCN.out j hj hj, fun j k hk hj => by
            rw [nums_at, nums_at]
            rw [nums_length] at hj
            exact HTC.out j k hk hj hj⟩)
          go_wp2
          go_ret
          exact ⟨ret_bool (dec_t HB.out HFIN.out), B0.out⟩
    · have hd : decide ((80 : Int) < (qs.length : Int)) = true := by rw [decide_eq_true_iff]; omega
      have hdn : decide (80 < qs.length) = true := by rw [decide_eq_true_iff]; omega
      have HFIN := hid (show ¬ BramP (nums rs) (nums qs) from fun h => hf (by have := h.few; rwa [nums_length] at this))
      clear hf
      go_enter Tryd.func76, Tryd.ntmps76
      go_wp2_with fail
      rw [← HW.out]
      go_wp2_with fail
      refine (specGraphOk_b a rs c _ true h1.out RA.out hn).mono ?_
      rintro e w6 ⟨rfl, hb⟩
      replace RA := hid (RA.out.below hb (Nat.le_refl _))
      replace RQ := hid (RQ.out.below hb (Nat.le_refl _))
      replace B0 := hid (bon B0.out hb)
      replace c0 := cellB hb c0 (Nat.le_refl _)
      clear hb
      go_wp2
      go_ret
      exact ⟨ret_bool (dec_f HB.out HFIN.out), B0.out⟩
  · have h1 := hid (show decide (GOk (nums rs)) = false by simpa using hg)
    have HFIN := hid (show ¬ BramP (nums rs) (nums qs) from fun h => hg h.ok)
    clear hg
    go_enter Tryd.func76, Tryd.ntmps76
    go_wp2_with fail
    rw [← HW.out]
    go_wp2_with fail
    refine (specGraphOk_b a rs c _ false h1.out RA.out hn).mono ?_
    rintro e w7 ⟨rfl, hb⟩
    replace RA := hid (RA.out.below hb (Nat.le_refl _))
    replace RQ := hid (RQ.out.below hb (Nat.le_refl _))
    replace B0 := hid (bon B0.out hb)
    replace c0 := cellB hb c0 (Nat.le_refl _)
    clear hb
    go_wp2
    go_ret
    exact ⟨ret_bool (dec_f HB.out HFIN.out), B0.out⟩
end Go.Proofs.YtalfbldkdlanoaaDoor
