/- The least path down the distances: both walks. -/
import Derived.Test.YtlnhfafnhclolaaDoorPathM
import Derived.Test.YtlnhfafnhclolaaDoorQuiet
namespace Go.Proofs.YtlnhfafnhclolaaDoor
open Go.RowKit
theorem downL_succ (R : Int → List Int) (D : List Int) (d : Nat) (u : Int) : downL R D (d + 1) u = u :: downL R D d (hop (R u) D d) := rfl
set_option maxRecDepth 100000 in
set_option maxHeartbeats 2000000 in
theorem l3Down_any (a : Option Addr) (rs : List Row) (c : Nat) (a2 : Option Addr) (D : List Int) (c2 u0 d0 : Nat) (w : World) (hD : Desc rs.length (row (nums rs)) D) (hl : D.length = rs.length) (hr : RdM w a rs) (hn : Small rs) (hz : Rd (Value.int .i64) w a2 D) (hu0 : u0 < rs.length) (hd0 : D.getD u0 0 = (d0 : Int)) (h16 : d0 ≤ 16) :
    Calls Tryd.prog 92 #[.agg #[.slice a rs.length c], .slice a2 rs.length c2, .int .i64 u0] w (RetOwn 2 ((downL (row (nums rs)) D d0 u0).map (.int .i64)) w) := by
  have HD := hid hD; have HL := hid hl; have RA := hid hr
  have hn1 := hn.1
  obtain ⟨db, dp, rfl, hzz⟩ := hz u0 (by rw [hl]; exact hu0)
  have RD := hid hz
  clear hzz hD hl hr hz
  obtain ⟨w0, hw0⟩ : ∃ w0, w0 = (w.alloc (.cells #[.slice a rs.length c] 28)) := ⟨_, rfl⟩
  have B0 := hid (show Below w.heap.size w w0 by rw [hw0]; exact ((Below.refl _ _).alloc (Nat.le_refl _) _))
  have c0 : w0.cell? ⟨w.heap.size, 0, none⟩ = some (.slice a rs.length c) := by rw [hw0]; simp [go_sem]
  replace RA := hid (RA.out.below B0.out (Nat.le_refl _))
  replace RD := hid (RD.out.below B0.out (Nat.le_refl _))
  have HW := hid hw0; clear hw0
  have hsz : w0.heap.size = w.heap.size + 1 := by rw [HW.out]; simp
  have HO := hid (show Own 2 (w0.alloc (.cells #[.int .i64 (u0 : Int)] 2)) w0.heap.size (.slice (some ⟨w0.heap.size, 0, none⟩) 1 1) (([] ++ [(u0 : Int)]).map (Value.int .i64)) from own_new 2 w0 [.int .i64 (u0 : Int)] (by simp [maxLen]))
  rw [hsz] at HO
  have HE0 := hid (alloc_below w0 (.cells #[.int .i64 (u0 : Int)] 2))
  have HD0 := hid hd0; clear hd0
  go_enter Tryd.func92, Tryd.ntmps92
  go_wp2
  rw [← HW.out]
  go_loopw [2, 7, 8, 9] (fun uv o _ _ wr => ∃ (u d : Nat) (pre : List Int), uv = .int .i64 u ∧ u < rs.length ∧ D.getD u 0 = (d : Int) ∧ pre.length + d = d0 ∧ Own 2 wr (w.heap.size + 1) o ((pre ++ [(u : Int)]).map (.int .i64)) ∧ pre ++ downL (row (nums rs)) D d u = downL (row (nums rs)) D d0 u0 ∧ Below w0.heap.size w0 wr) (fun uv _ _ _ _ => (D.getD (intOf uv).toNat 0).toNat)
  case atStart => exact ⟨u0, d0, [], rfl, hu0, HD0.out, by simp, HO.out, rfl, HE0.out⟩
  case round =>
    obtain ⟨u, dd, pre, rfl, hu, hdu, hpl, ho, hT, hb⟩ := hrel
    have OM := hid ho; have HT := hid hT; have BL := hid hb; have HDU := hid hdu; clear ho hT hdu
    replace RA := hid (RA.out.below hb (Nat.le_refl _))
    replace RD := hid (RD.out.below hb (Nat.le_refl _))
    replace B0 := hid (bon B0.out hb)
    replace c0 := cellB hb c0 (Nat.le_refl _)
    clear hb
    have hui : (u : Int) < (rs.length : Int) := by omega
    obtain ⟨db', dp', hda, cu⟩ := RD.out u (by rw [HL.out]; exact hu)
    obtain ⟨rfl, rfl⟩ : db = db' ∧ dp = dp' := by simp at hda; exact hda
    clear hda
    rw [← getD_eq D u (by rw [HL.out]; exact hu), HDU.out] at cu
    by_cases hpos : 0 < dd
    · have hposi : (0 : Int) < (dd : Int) := by omega
      obtain ⟨ab, ao, rfl, cv, hvok⟩ := RA.out.at u hu
      have RP := hid hvok.1
      have HRU := hid (row_rs rs u hu)
      have hzv := hn.2 _ (List.getElem_mem hu)
      have HDN := hid (HD.out.down u (by omega) (by omega) (dd - 1) (by rw [Int.toNat_natCast, HDU.out]; omega))
      have HRG := hid (HD.out.rng u (by omega) (by omega))
      have HSUC := hid (show downL (row (nums rs)) D dd (u : Int) = (u : Int) :: downL (row (nums rs)) D (dd - 1) (hop (row (nums rs) (u : Int)) D ((dd - 1 : Nat) : Int)) by
        rw [← downL_succ, Nat.sub_add_cancel hpos])
      rw [HRU.out] at HDN HRG HSUC
      clear hvok HRU
      generalize rs[u] = p at *
      have HT2 := hid (show (pre ++ [(u : Int)]) ++ downL (row (nums rs)) D (dd - 1) (hop p.z D ((dd - 1 : Nat) : Int)) = downL (row (nums rs)) D d0 u0 by rw [← HT.out, HSUC.out, List.append_assoc]; rfl)
      have hPLl : (pre ++ [(u : Int)]).length + dd = d0 + 1 := by simp; omega
      clear HT HSUC
      generalize pre ++ [(u : Int)] = PL at *
      go_wp2
      go_loopw [2, 9] (fun uv x wq => ∃ k : Nat, k ≤ p.z.length ∧ x = .int .i64 k ∧ uv = .int .i64 u ∧ (∀ j (hj : j < p.z.length), j < k → D.getD p.z[j].toNat 0 ≠ ((dd - 1 : Nat) : Int)) ∧ Below wr.heap.size wr wq) (fun _ x _ => p.z.length - (intOf x).toNat)
      case atStart => exact ⟨0, Nat.zero_le _, rfl, rfl, fun j _ hj => absurd hj (Nat.not_lt_zero j), Below.refl _ _⟩
      case round =>
        obtain ⟨k, hk, rfl, rfl, hno, hb⟩ := hrel
        have HNO := hid hno; have BQ := hid hb; clear hno
        replace RA := hid (RA.out.below hb (Nat.le_refl _))
        replace RD := hid (RD.out.below hb (Nat.le_refl _))
        replace RP := hid (RP.out.below hb (Nat.le_refl _))
        replace B0 := hid (bon B0.out hb)
        replace c0 := cellB hb c0 (Nat.le_refl _)
        replace OM := hid (OM.out.past hb (Nat.le_refl _))
        replace BL := hid (bon BL.out hb)
        replace cv := cellB hb cv (Nat.le_refl _)
        replace cu := cellB hb cu (Nat.le_refl _)
        clear hb
        by_cases hlt : k < p.z.length
        · obtain ⟨pb, po, hpa, ck⟩ := RP.out k hlt
          have hki : (k : Int) < (p.z.length : Int) := by omega
          have hx := HRG.out _ (List.getElem_mem hlt)
          have HAT := hid (fun (h : D.getD p.z[k].toNat 0 = ((dd - 1 : Nat) : Int)) => hop_at hlt (fun j hj => HNO.out j (by omega) hj) h)
          have HNX := hid (fun (h : D.getD p.z[k].toNat 0 ≠ ((dd - 1 : Nat) : Int)) => (show ∀ j (hj : j < p.z.length), j < k + 1 → D.getD p.z[j].toNat 0 ≠ ((dd - 1 : Nat) : Int) from fun j hj hjk => by
            by_cases e : j = k
            · subst e; exact h
            · exact HNO.out j hj (by omega)))
          have hatk := at_slice tI64 hpa p.z.length p.c k hlt
          have HPA := hid hpa; clear hpa
          generalize p.z[k] = x at *
          obtain ⟨m, rfl⟩ := Int.eq_ofNat_of_zero_le hx.1
          have hm : m < rs.length := by omega
          have hmi : (m : Int) < (rs.length : Int) := by omega
          obtain ⟨db', dp', hda, cm⟩ := RD.out m (by rw [HL.out]; exact hm)
          obtain ⟨rfl, rfl⟩ : db = db' ∧ dp = dp' := by simp at hda; exact hda
          clear hda
          rw [← getD_eq D m (by rw [HL.out]; exact hm)] at cm
          rw [Int.toNat_natCast] at HAT HNX
          have HEM := hid (show D.getD m 0 = D.getD m 0 from rfl)
          by_cases hc : D.getD m 0 = ((dd - 1 : Nat) : Int)
          · have dq : (D.getD m 0 == ((dd : Int) - 1)) = true := by rw [hc]; simp; omega
            have HH := hid (HAT.out hc)
            have HCM := hid hc
            clear HAT HNX hc
            generalize hee : D.getD m 0 = e at *
            replace HEM := hid hee; clear hee
            go_wp2
            have qc0 := fun (p : Bel _) => cellB p.h c0 (Nat.le_refl _)
            have qcv := fun (p : Bel _) => cellB p.h cv (Nat.le_refl _)
            have qcu := fun (p : Bel _) => cellB p.h cu (Nat.le_refl _)
            have qck := fun (p : Bel _) => cellB p.h ck (Nat.le_refl _)
            have qcm := fun (p : Bel _) => cellB p.h cm (Nat.le_refl _)
            refine wp_quiet_b (by kernel_rfl) (by kernel_rfl) ?_
            repeat (go_big_quiet_step (fail))
            refine wpQuiet_nil ?_
            intro _ hw'
            obtain ⟨⟨w1, hb⟩, rfl⟩ := hw'
            clear qc0 qcv qcu qck qcm
            replace RA := hid (RA.out.below hb (Nat.le_refl _))
            replace RD := hid (RD.out.below hb (Nat.le_refl _))
            replace RP := hid (RP.out.below hb (Nat.le_refl _))
            replace B0 := hid (bon B0.out hb)
            replace c0 := cellB hb c0 (Nat.le_refl _)
            replace OM := hid (OM.out.past hb (Nat.le_refl _))
            replace BL := hid (bon BL.out hb)
            replace BQ := hid (bon BQ.out hb)
            replace cv := cellB hb cv (Nat.le_refl _)
            replace cu := cellB hb cu (Nat.le_refl _)
            replace ck := cellB hb ck (Nat.le_refl _)
            replace cm := cellB hb cm (Nat.le_refl _)
            clear hb
            have hszz := BL.out.size
            have hbase : w.heap.size + 1 ≤ w0.heap.size := by omega
            have HC := hid (show (PL ++ [(m : Int)]).map (Value.int .i64) = PL.map (Value.int .i64) ++ [.int .i64 (m : Int)] by rw [List.map_append]; rfl)
            have hDl : (PL.map (Value.int .i64)).length ≤ 17 := by rw [List.length_map]; omega
            go_wp2_with (at_builtin; refine law_push tI64 _ rfl _ _ rfl (w.heap.size + 1) _ (PL.map (.int .i64)) rfl OM.out _ _ rfl ?c0 rfl ?c1 ?c2 ?_)
            case c0 => simp
            case c1 => omega
            case c2 => omega
            intro v' w' h1 h2
            rw [← HC.out] at h1
            have HN := hid h1
            have HBB := hid (BL.out.trans (grown_below h2 hszz (fun g hg => by have := OM.out.ge g hg; omega)))
            clear h1 h2
            go_wp2
            go_roundw
            case rel => exact ⟨m, dd - 1, PL, rfl, hm, by rw [HEM.out, HCM.out], by omega, HN.out, by rw [← HT2.out, HH.out], HBB.out⟩
            case measure =>
              simp only [intOf, Int.toNat_natCast]
              rw [HDU.out, HEM.out, HCM.out]; omega
          · have dq : (D.getD m 0 == ((dd : Int) - 1)) = false := by
              rw [beq_eq_false_iff_ne]; omega
            have HH := hid (HNX.out hc)
            clear HAT HNX hc
            generalize hee : D.getD m 0 = e at *
            replace HEM := hid hee; clear hee
            go_wp2
            have qc0 := fun (p : Bel _) => cellB p.h c0 (Nat.le_refl _)
            have qcv := fun (p : Bel _) => cellB p.h cv (Nat.le_refl _)
            have qcu := fun (p : Bel _) => cellB p.h cu (Nat.le_refl _)
            have qck := fun (p : Bel _) => cellB p.h ck (Nat.le_refl _)
            have qcm := fun (p : Bel _) => cellB p.h cm (Nat.le_refl _)
            refine wp_quiet_b (by kernel_rfl) (by kernel_rfl) ?_
            repeat (go_big_quiet_step (fail))
            refine wpQuiet_nil ?_
            intro _ hw'
            obtain ⟨⟨w2, hb⟩, rfl⟩ := hw'
            clear qc0 qcv qcu qck qcm
            replace RA := hid (RA.out.below hb (Nat.le_refl _))
            replace RD := hid (RD.out.below hb (Nat.le_refl _))
            replace RP := hid (RP.out.below hb (Nat.le_refl _))
            replace B0 := hid (bon B0.out hb)
            replace c0 := cellB hb c0 (Nat.le_refl _)
            replace OM := hid (OM.out.past hb (Nat.le_refl _))
            replace BL := hid (bon BL.out hb)
            replace BQ := hid (bon BQ.out hb)
            replace cv := cellB hb cv (Nat.le_refl _)
            replace cu := cellB hb cu (Nat.le_refl _)
            replace ck := cellB hb ck (Nat.le_refl _)
            replace cm := cellB hb cm (Nat.le_refl _)
            clear hb
            go_wp2
            go_roundw
            case rel => exact ⟨k + 1, by omega, by go_num, rfl, HH.out, BQ.out⟩
            case measure => simp [intOf]; omega
        · exfalso
          obtain ⟨x, hx, hdx⟩ := HDN.out
          obtain ⟨j, hj, rfl⟩ := List.mem_iff_getElem.1 hx
          exact HNO.out j hj (by omega) hdx
    · obtain rfl : dd = 0 := by omega
      go_wp2
      go_ret
      refine ⟨_, rfl, ?_, B0.out⟩
      rw [← HT.out]
      exact OM.out.base (by omega)
end Go.Proofs.YtlnhfafnhclolaaDoor
