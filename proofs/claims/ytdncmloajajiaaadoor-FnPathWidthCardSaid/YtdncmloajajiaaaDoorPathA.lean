/- DistancesFrom: both. · The least path down the distances: plain. · The least path down the distances: both walks. · The least path down the distances: the program's. · PathOf: plain, and both walks. · PathOf: both walks. -/
import Derived.Test.YtdncmloajajiaaaDoorDist
import Derived.Deep.RegionHeld3
import Derived.Test.YtdncmloajajiaaaDoorPerfM
import Derived.Test.YtdncmloajajiaaaDoorMem3
import Derived.Test.YtdncmloajajiaaaDoorLeft
namespace Go.Proofs.YtdncmloajajiaaaDoor
open Go.RowKit
section
theorem distL_ok {g : List (List Int)} {v : Int} (h : VertP g v) : distL g v = fromL g (allL g.length) v := by
  unfold distL fromL
  rw [if_pos h, if_pos ((allL_mem _ _).2 h.2)]
theorem setP_all {g : List (List Int)} (h : GOk g) : SetP g (allL g.length) := ⟨h, allL_inc _⟩
set_option maxRecDepth 100000 in
set_option maxHeartbeats 1000000 in
theorem implDistancesFrom_any (a : Option Addr) (rs : List Row) (c : Nat) (v : Int) (w : World) (r : List Int) (hx : distL (nums rs) v = r) (hr : RdM w a rs) (hn : Small rs) (_hv : I64 v) (hT : TabOk w) :
    Calls Tryd.prog 17 #[.agg #[.slice a rs.length c], .int .i64 v] w (RetOwn 2 (r.map (.int .i64)) w) := by
  have RA := hid hr; have HX := hid hx; have RT := hid hT; clear hr hx hT
  have hn1 := hn.1
  obtain ⟨w0, hw0⟩ : ∃ w0, w0 = (w.alloc (.cells #[.slice a rs.length c] 29)) := ⟨_, rfl⟩
  have B0 := hid (show Below w.heap.size w w0 by rw [hw0]; exact ((Below.refl _ _).alloc (Nat.le_refl _) _))
  have c0 : w0.cell? ⟨w.heap.size, 0, none⟩ = some (.slice a rs.length c) := by rw [hw0]; simp [go_sem]
  replace RA := hid (RA.out.below B0.out (Nat.le_refl _))
  replace RT := hid (RT.out.below B0.out (Nat.le_refl _))
  have HW := hid hw0; clear hw0
  by_cases hs : VertP (nums rs) v
  · have h1 := hid (show decide (VertP (nums rs) v) = true by simpa using hs)
    have hv := hs.2
    rw [nums_length] at hv
    obtain ⟨m, rfl⟩ := Int.eq_ofNat_of_zero_le hv.1
    have HG := hid hs.1
    have h16 : rs.length ≤ 16 := by have := HG.out.le; rwa [nums_length] at this
    have hlen := hid (show ((nums rs).map maskL).length ≤ 16 by rw [List.length_map]; exact HG.out.le)
    have hlr := hid (show ((nums rs).map maskL).length = rs.length by rw [List.length_map, nums_length])
    have hml := hid (show 2 ^ rs.length - 1 < 2 ^ ((nums rs).map maskL).length by rw [hlr.out]; have := Nat.two_pow_pos rs.length; omega)
    have hvl := hid (show m < ((nums rs).map maskL).length by rw [hlr.out]; omega)
    have HFIN := hid (fun (D : List Int) (hl : D.length = ((nums rs).map maskL).length) (h : ∀ u, u < ((nums rs).map maskL).length → (∃ d : Nat, D.getD u 0 = d ∧ DistA ((nums rs).map maskL) (2 ^ rs.length - 1) m u d) ∨ (D.getD u 0 = -1 ∧ ¬ Leads ((nums rs).map maskL) (2 ^ rs.length - 1) m u)) => (show D = r by
      rw [← HX.out, distL_ok hs]
      unfold fromL
      rw [if_pos ((allL_mem _ _).2 hs.2)]
      refine dist_far (setP_all hs.1) ((allL_mem _ _).2 hs.2) (by rw [hl, List.length_map]) ?_
      rw [allL_mask, nums_length]
      intro u hu
      exact h u (by rw [hlr.out]; exact hu)))
    have HALL := hid (fun (a : Option Addr) (n c : Nat) (w : World) (e : n = rs.length) => (show Calls Tryd.prog 48 #[.slice a n c] w fun e w' => e = .returned (.int .u32 ((2 ^ rs.length - 1 : Nat) : Int)) ∧ w = w' by rw [← e]; exact all_any a n c w (by omega)))
    clear HX hs
    generalize 2 ^ rs.length - 1 = F at *
    go_enter Tryd.func17, Tryd.ntmps17
    go_wp2_with fail
    rw [← HW.out]
    go_wp2_with fail
    refine (isVertex_b a rs c _ _ _ h1.out RA.out hn).mono ?_
    rintro e w1 ⟨rfl, hb⟩
    replace RA := hid (RA.out.below hb (Nat.le_refl _))
    replace RT := hid (RT.out.below hb (Nat.le_refl _))
    replace B0 := hid (bon B0.out hb)
    replace c0 := cellB hb c0 (Nat.le_refl _)
    clear hb
    go_wp2_with fail
    refine (netsOf_any a rs c _ HG.out RA.out hn).mono ?_
    rintro e w2 ⟨v, rfl, hown, hb⟩
    replace RA := hid (RA.out.below hb (Nat.le_refl _))
    replace RT := hid (RT.out.below hb (Nat.le_refl _))
    replace B0 := hid (bon B0.out hb)
    replace c0 := cellB hb c0 (Nat.le_refl _)
    clear hb
    obtain ⟨na, nc, rfl, hsr, _, _, _, _⟩ := Own.rd (f := netF) hown
    have RN := hid hsr.masks; clear hown hsr
    rw [nums_length]
    go_wp2_with (first | (go_at_call 48; refine (HALL.out _ _ _ _ rfl).mono ?_; rintro e w' ⟨rfl, rfl⟩))
    have hq := distances_any na ((nums rs).map maskL) nc m F _ RT.out RN.out (in16_of HG.out) hlen.out hvl.out hml.out
    rw [hlr.out] at hq
    refine hq.mono ?_
    rintro e w5 ⟨D, o, rfl, hown, hDl, hDf, hb⟩
    have HD := hid (HFIN.out D (by rw [hDl, hlr.out]) (by rw [hlr.out]; exact hDf))
    have HDl := hid hDl
    obtain ⟨pa, pc, rfl, hpr, _⟩ := Own.rd hown
    have RP5 := hid hpr
    have B5 := hid (bon B0.out hb)
    clear hown hb hpr hq hDl hDf
    go_wp2_with fail
    refine (wide_any _ _ _ _ RP5.out (by rw [HDl.out]; omega)).mono ?_
    rintro e w6 ⟨qv, rfl, hown, hb⟩
    have OQ := hid (hown.base B5.out.size)
    have B6 := hid (bon B5.out hb)
    clear hown hb
    rw [HD.out] at OQ
    go_wp2
    go_ret
    exact ⟨_, rfl, OQ.out, B6.out⟩
  · have h1 := hid (show decide (VertP (nums rs) v) = false by simpa using hs)
    have HFIN := hid (show [] = r by rw [← HX.out]; unfold distL; rw [if_neg hs])
    clear hs HX
    go_enter Tryd.func17, Tryd.ntmps17
    go_wp2_with fail
    rw [← HW.out]
    go_wp2_with fail
    refine (isVertex_b a rs c _ _ _ h1.out RA.out hn).mono ?_
    rintro e w3 ⟨rfl, hb⟩
    replace RA := hid (RA.out.below hb (Nat.le_refl _))
    replace RT := hid (RT.out.below hb (Nat.le_refl _))
    replace B0 := hid (bon B0.out hb)
    replace c0 := cellB hb c0 (Nat.le_refl _)
    clear hb
    go_wp2
    go_ret
    rw [← HFIN.out]
    exact ⟨_, rfl, Own.nil _ _ _, B0.out⟩
end
section
section
def hop (R D : List Int) (t : Int) : Int := (R.find? fun x => decide (D.getD x.toNat 0 = t)).getD 0
def downL (R : Int → List Int) (D : List Int) : Nat → Int → List Int
  | 0, u => [u]
  | d + 1, u => u :: downL R D d (hop (R u) D d)
structure Desc (n : Nat) (R : Int → List Int) (D : List Int) : Prop where
  rng : ∀ u : Int, 0 ≤ u → u < n → ∀ x ∈ R u, 0 ≤ x ∧ x < n
  down : ∀ u : Int, 0 ≤ u → u < n → ∀ d : Nat, D.getD u.toNat 0 = (d : Int) + 1 → ∃ x ∈ R u, D.getD x.toNat 0 = d
theorem hop_spec {R D : List Int} {t : Int} (h : ∃ x ∈ R, D.getD x.toNat 0 = t) : hop R D t ∈ R ∧ D.getD (hop R D t).toNat 0 = t := by
  unfold hop
  cases hf : R.find? (fun x => decide (D.getD x.toNat 0 = t)) with
  | none =>
    obtain ⟨x, hx, hd⟩ := h
    have := List.find?_eq_none.1 hf x hx
    simp at this; exact absurd hd this
  | some y =>
    have h1 := List.mem_of_find?_eq_some hf
    have h2 := List.find?_some hf
    exact ⟨h1, by simpa using h2⟩
theorem hop_at {R D : List Int} {t : Int} {k : Nat} (hk : k < R.length) (h : ∀ j (hj : j < k), D.getD (R[j]'(by omega)).toNat 0 ≠ t) (hp : D.getD R[k].toNat 0 = t) : hop R D t = R[k] := by
  unfold hop
  rw [find_at hk (fun j hj => by simpa using h j hj) (by simpa using hp)]
  rfl
theorem downL_len (R : Int → List Int) (D : List Int) (d : Nat) (u : Int) : (downL R D d u).length = d + 1 := by
  induction d generalizing u with
  | zero => rfl
  | succ d ih => simp [downL, ih]
/-- The distances of a graph go down by one at some neighbour. -/
theorem desc_far {g : List (List Int)} {s : List Int} (hs : SetP g s) {v : Int} (hv : v ∈ s) : Desc g.length (row g) (farL g s v) := by
  have hget : ∀ x : Int, 0 ≤ x → x < g.length → (farL g s v).getD x.toNat 0 = far g s v x := by
    intro x h0 h1
    obtain ⟨m, rfl⟩ := Int.eq_ofNat_of_zero_le h0
    rw [Int.toNat_natCast, getD_eq _ m (by rw [farL_len]; omega)]
    simp [farL]
  refine ⟨fun u h0 h1 x hx => row_mem hs.1 h0 h1 hx, ?_⟩
  intro u h0 h1 d hd
  rw [hget u h0 h1] at hd
  have hr : ∃ d, Ball g s v d u := far_nonneg.1 (by omega)
  obtain ⟨e, h2, h3, h4⟩ := far_spec hr
  obtain rfl : e = d + 1 := by omega
  rcases h3 with h3 | ⟨h5, x, h6, h7⟩
  · exact absurd h3 (h4 d (by omega))
  · have hx := hs.2.1 x (ball_in hv h6)
    obtain ⟨m, rfl⟩ := Int.eq_ofNat_of_zero_le hx.1
    refine ⟨(m : Int), hs.1.sym m (by omega) u h7, ?_⟩
    rw [hget m hx.1 hx.2]
    apply far_eq h6
    intro e he
    apply Classical.byContradiction
    intro hn
    exact h4 (e + 1) (by omega) (.inr ⟨h5, (m : Int), he, h7⟩)
end
section
theorem downL_succ (R : Int → List Int) (D : List Int) (d : Nat) (u : Int) : downL R D (d + 1) u = u :: downL R D d (hop (R u) D d) := rfl
set_option maxRecDepth 100000 in
set_option maxHeartbeats 2000000 in
theorem l3Down_any (a : Option Addr) (rs : List Row) (c : Nat) (a2 : Option Addr) (D : List Int) (c2 u0 d0 : Nat) (w : World) (hD : Desc rs.length (row (nums rs)) D) (hl : D.length = rs.length) (hr : RdM w a rs) (hn : Small rs) (hz : Rd (Value.int .i64) w a2 D) (hu0 : u0 < rs.length) (hd0 : D.getD u0 0 = (d0 : Int)) (h16 : d0 ≤ 16) :
    Calls Tryd.prog 54 #[.agg #[.slice a rs.length c], .slice a2 rs.length c2, .int .i64 u0] w (RetOwn 2 ((downL (row (nums rs)) D d0 u0).map (.int .i64)) w) := by
  have HD := hid hD; have HL := hid hl; have RA := hid hr
  have hn1 := hn.1
  obtain ⟨db, dp, rfl, hzz⟩ := hz u0 (by rw [hl]; exact hu0)
  have RD := hid hz
  clear hzz hD hl hr hz
  obtain ⟨w0, hw0⟩ : ∃ w0, w0 = (w.alloc (.cells #[.slice a rs.length c] 29)) := ⟨_, rfl⟩
  have B0 := hid (show Below w.heap.size w w0 by rw [hw0]; exact ((Below.refl _ _).alloc (Nat.le_refl _) _))
  have c0 : w0.cell? ⟨w.heap.size, 0, none⟩ = some (.slice a rs.length c) := by rw [hw0]; simp [go_sem]
  replace RA := hid (RA.out.below B0.out (Nat.le_refl _))
  replace RD := hid (RD.out.below B0.out (Nat.le_refl _))
  have HW := hid hw0; clear hw0
  have hsz : w0.heap.size = w.heap.size + 1 := by rw [HW.out]; simp
  have HO := hid (show Own 2 (w0.alloc (.cells #[.int .i64 (u0 : Int)] 2)) w0.heap.size (.slice (some ⟨w0.heap.size, 0, none⟩) 1 1) (([] ++ [(u0 : Int)]).map (Value.int .i64)) from own_new 2 w0 [.int .i64 (u0 : Int)] (by simp [maxLen]))
  rw [hsz] at HO
  have HE0 := hid (alloc_below w0 (.cells #[.int .i64 (u0 : Int)] 2))
  have HD0 := hid hd0; clear hd0
  go_enter Tryd.func54, Tryd.ntmps54
  go_wp2
  rw [← HW.out]
  go_loopw [2, 7, 8, 9] (fun uv o _ _ wr => ∃ (u d : Nat) (pre : List Int), uv = .int .i64 u ∧ u < rs.length ∧ D.getD u 0 = (d : Int) ∧ pre.length + d = d0 ∧ Own 2 wr (w.heap.size + 1) o ((pre ++ [(u : Int)]).map (.int .i64)) ∧ pre ++ downL (row (nums rs)) D d u = downL (row (nums rs)) D d0 u0 ∧ Below w0.heap.size w0 wr) (fun uv _ _ _ _ => (D.getD (intOf uv).toNat 0).toNat)
  case atStart => exact ⟨u0, d0, [], rfl, hu0, HD0.out, by simp, HO.out, rfl, HE0.out⟩
  case round =>
    obtain ⟨u, dd, pre, rfl, hu, hdu, hpl, ho, hT, hb⟩ := hrel
    have OM := hid ho; have HT := hid hT; have BL := hid hb; have HDU := hid hdu; clear ho hT hdu
    replace RA := hid (RA.out.below hb (Nat.le_refl _))
    replace RD := hid (RD.out.below hb (Nat.le_refl _))
    replace B0 := hid (bon B0.out hb)
    replace c0 := cellB hb c0 (Nat.le_refl _)
    clear hb
    have hui : (u : Int) < (rs.length : Int) := by omega
    obtain ⟨db', dp', hda, cu⟩ := RD.out u (by rw [HL.out]; exact hu)
    obtain ⟨rfl, rfl⟩ : db = db' ∧ dp = dp' := by simp at hda; exact hda
    clear hda
    rw [← getD_eq D u (by rw [HL.out]; exact hu), HDU.out] at cu
    by_cases hpos : 0 < dd
    · have hposi : (0 : Int) < (dd : Int) := by omega
      obtain ⟨ab, ao, rfl, cv, hvok⟩ := RA.out.at u hu
      have RP := hid hvok.1
      have HRU := hid (row_rs rs u hu)
      have hzv := hn.2 _ (List.getElem_mem hu)
      have HDN := hid (HD.out.down u (by omega) (by omega) (dd - 1) (by rw [Int.toNat_natCast, HDU.out]; omega))
      have HRG := hid (HD.out.rng u (by omega) (by omega))
      have HSUC := hid (show downL (row (nums rs)) D dd (u : Int) = (u : Int) :: downL (row (nums rs)) D (dd - 1) (hop (row (nums rs) (u : Int)) D ((dd - 1 : Nat) : Int)) by
        rw [← downL_succ, Nat.sub_add_cancel hpos])
      rw [HRU.out] at HDN HRG HSUC
      clear hvok HRU
      generalize rs[u] = p at *
      have HT2 := hid (show (pre ++ [(u : Int)]) ++ downL (row (nums rs)) D (dd - 1) (hop p.z D ((dd - 1 : Nat) : Int)) = downL (row (nums rs)) D d0 u0 by rw [← HT.out, HSUC.out, List.append_assoc]; rfl)
      have hPLl : (pre ++ [(u : Int)]).length + dd = d0 + 1 := by simp; omega
      clear HT HSUC
      generalize pre ++ [(u : Int)] = PL at *
      go_wp2
      go_loopw [2, 9] (fun uv x wq => ∃ k : Nat, k ≤ p.z.length ∧ x = .int .i64 k ∧ uv = .int .i64 u ∧ (∀ j (hj : j < p.z.length), j < k → D.getD p.z[j].toNat 0 ≠ ((dd - 1 : Nat) : Int)) ∧ Below wr.heap.size wr wq) (fun _ x _ => p.z.length - (intOf x).toNat)
      case atStart => exact ⟨0, Nat.zero_le _, rfl, rfl, fun j _ hj => absurd hj (Nat.not_lt_zero j), Below.refl _ _⟩
      case round =>
        obtain ⟨k, hk, rfl, rfl, hno, hb⟩ := hrel
        have HNO := hid hno; have BQ := hid hb; clear hno
        replace RA := hid (RA.out.below hb (Nat.le_refl _))
        replace RD := hid (RD.out.below hb (Nat.le_refl _))
        replace RP := hid (RP.out.below hb (Nat.le_refl _))
        replace B0 := hid (bon B0.out hb)
        replace c0 := cellB hb c0 (Nat.le_refl _)
        replace OM := hid (OM.out.past hb (Nat.le_refl _))
        replace BL := hid (bon BL.out hb)
        replace cv := cellB hb cv (Nat.le_refl _)
        replace cu := cellB hb cu (Nat.le_refl _)
        clear hb
        by_cases hlt : k < p.z.length
        · obtain ⟨pb, po, hpa, ck⟩ := RP.out k hlt
          have hki : (k : Int) < (p.z.length : Int) := by omega
          have hx := HRG.out _ (List.getElem_mem hlt)
          have HAT := hid (fun (h : D.getD p.z[k].toNat 0 = ((dd - 1 : Nat) : Int)) => hop_at hlt (fun j hj => HNO.out j (by omega) hj) h)
          have HNX := hid (fun (h : D.getD p.z[k].toNat 0 ≠ ((dd - 1 : Nat) : Int)) => (show ∀ j (hj : j < p.z.length), j < k + 1 → D.getD p.z[j].toNat 0 ≠ ((dd - 1 : Nat) : Int) from fun j hj hjk => by
            by_cases e : j = k
            · subst e; exact h
            · exact HNO.out j hj (by omega)))
          have hatk := at_slice tI64 hpa p.z.length p.c k hlt
          have HPA := hid hpa; clear hpa
          generalize p.z[k] = x at *
          obtain ⟨m, rfl⟩ := Int.eq_ofNat_of_zero_le hx.1
          have hm : m < rs.length := by omega
          have hmi : (m : Int) < (rs.length : Int) := by omega
          obtain ⟨db', dp', hda, cm⟩ := RD.out m (by rw [HL.out]; exact hm)
          obtain ⟨rfl, rfl⟩ : db = db' ∧ dp = dp' := by simp at hda; exact hda
          clear hda
          rw [← getD_eq D m (by rw [HL.out]; exact hm)] at cm
          rw [Int.toNat_natCast] at HAT HNX
          have HEM := hid (show D.getD m 0 = D.getD m 0 from rfl)
          by_cases hc : D.getD m 0 = ((dd - 1 : Nat) : Int)
          · have dq : (D.getD m 0 == ((dd : Int) - 1)) = true := by rw [hc]; simp; omega
            have HH := hid (HAT.out hc)
            have HCM := hid hc
            clear HAT HNX hc
            generalize hee : D.getD m 0 = e at *
            replace HEM := hid hee; clear hee
            go_wp2
            have qc0 := fun (p : Bel _) => cellB p.h c0 (Nat.le_refl _)
            have qcv := fun (p : Bel _) => cellB p.h cv (Nat.le_refl _)
            have qcu := fun (p : Bel _) => cellB p.h cu (Nat.le_refl _)
            have qck := fun (p : Bel _) => cellB p.h ck (Nat.le_refl _)
            have qcm := fun (p : Bel _) => cellB p.h cm (Nat.le_refl _)
            refine wp_quiet_b (by kernel_rfl) (by kernel_rfl) ?_
            repeat (go_big_quiet_step (fail))
            refine wpQuiet_nil ?_
            intro _ hw'
            obtain ⟨⟨w1, hb⟩, rfl⟩ := hw'
            clear qc0 qcv qcu qck qcm
            replace RA := hid (RA.out.below hb (Nat.le_refl _))
            replace RD := hid (RD.out.below hb (Nat.le_refl _))
            replace RP := hid (RP.out.below hb (Nat.le_refl _))
            replace B0 := hid (bon B0.out hb)
            replace c0 := cellB hb c0 (Nat.le_refl _)
            replace OM := hid (OM.out.past hb (Nat.le_refl _))
            replace BL := hid (bon BL.out hb)
            replace BQ := hid (bon BQ.out hb)
            replace cv := cellB hb cv (Nat.le_refl _)
            replace cu := cellB hb cu (Nat.le_refl _)
            replace ck := cellB hb ck (Nat.le_refl _)
            replace cm := cellB hb cm (Nat.le_refl _)
            clear hb
            have hszz := BL.out.size
            have hbase : w.heap.size + 1 ≤ w0.heap.size := by omega
            have HC := hid (show (PL ++ [(m : Int)]).map (Value.int .i64) = PL.map (Value.int .i64) ++ [.int .i64 (m : Int)] by rw [List.map_append]; rfl)
            have hDl : (PL.map (Value.int .i64)).length ≤ 17 := by rw [List.length_map]; omega
            go_wp2_with (at_builtin; refine law_push tI64 _ rfl _ _ rfl (w.heap.size + 1) _ (PL.map (.int .i64)) rfl OM.out _ _ rfl ?c0 rfl ?c1 ?c2 ?_)
            case c0 => simp
            case c1 => omega
            case c2 => omega
            intro v' w' h1 h2
            rw [← HC.out] at h1
            have HN := hid h1
            have HBB := hid (BL.out.trans (grown_below h2 hszz (fun g hg => by have := OM.out.ge g hg; omega)))
            clear h1 h2
            go_wp2
            go_roundw
            case rel => exact ⟨m, dd - 1, PL, rfl, hm, by rw [HEM.out, HCM.out], by omega, HN.out, by rw [← HT2.out, HH.out], HBB.out⟩
            case measure =>
              simp only [intOf, Int.toNat_natCast]
              rw [HDU.out, HEM.out, HCM.out]; omega
          · have dq : (D.getD m 0 == ((dd : Int) - 1)) = false := by
              rw [beq_eq_false_iff_ne]; omega
            have HH := hid (HNX.out hc)
            clear HAT HNX hc
            generalize hee : D.getD m 0 = e at *
            replace HEM := hid hee; clear hee
            go_wp2
            have qc0 := fun (p : Bel _) => cellB p.h c0 (Nat.le_refl _)
            have qcv := fun (p : Bel _) => cellB p.h cv (Nat.le_refl _)
            have qcu := fun (p : Bel _) => cellB p.h cu (Nat.le_refl _)
            have qck := fun (p : Bel _) => cellB p.h ck (Nat.le_refl _)
            have qcm := fun (p : Bel _) => cellB p.h cm (Nat.le_refl _)
            refine wp_quiet_b (by kernel_rfl) (by kernel_rfl) ?_
            repeat (go_big_quiet_step (fail))
            refine wpQuiet_nil ?_
            intro _ hw'
            obtain ⟨⟨w2, hb⟩, rfl⟩ := hw'
            clear qc0 qcv qcu qck qcm
            replace RA := hid (RA.out.below hb (Nat.le_refl _))
            replace RD := hid (RD.out.below hb (Nat.le_refl _))
            replace RP := hid (RP.out.below hb (Nat.le_refl _))
            replace B0 := hid (bon B0.out hb)
            replace c0 := cellB hb c0 (Nat.le_refl _)
            replace OM := hid (OM.out.past hb (Nat.le_refl _))
            replace BL := hid (bon BL.out hb)
            replace BQ := hid (bon BQ.out hb)
            replace cv := cellB hb cv (Nat.le_refl _)
            replace cu := cellB hb cu (Nat.le_refl _)
            replace ck := cellB hb ck (Nat.le_refl _)
            replace cm := cellB hb cm (Nat.le_refl _)
            clear hb
            go_wp2
            go_roundw
            case rel => exact ⟨k + 1, by omega, by go_num, rfl, HH.out, BQ.out⟩
            case measure => simp [intOf]; omega
        · exfalso
          obtain ⟨x, hx, hdx⟩ := HDN.out
          obtain ⟨j, hj, rfl⟩ := List.mem_iff_getElem.1 hx
          exact HNO.out j hj (by omega) hdx
    · obtain rfl : dd = 0 := by omega
      go_wp2
      go_ret
      refine ⟨_, rfl, ?_, B0.out⟩
      rw [← HT.out]
      exact OM.out.base (by omega)
end
section
def OptPost (x : Option (List Int)) (w : World) (E : Ending) (w' : World) : Prop :=
  (x = none ∧ E = .returned (.slice none 0 0) ∧ Below w.heap.size w w') ∨ ∃ l, x = some l ∧ RetOwn 3 (l.map (.int .i64)) w E w'
def rowsIn (A : List Nat) (t : Nat) (x : Int) : List Int := mems (A.getD x.toNat 0 &&& t)
def pathX (A : List Nat) (t : Nat) (D : List Int) (u : Nat) : Option (List Int) := if D.getD u 0 < 0 then none else some (downL (rowsIn A t) D (D.getD u 0).toNat u)
set_option maxRecDepth 100000 in
set_option maxHeartbeats 2000000 in
theorem pathOf_any (a : Option Addr) (A : List Nat) (c n u0 v t : Nat) (D : List Int) (x : Option (List Int)) (w : World) (hx : pathX A t D u0 = x) (hlen : A.length = n)
    (hD : ∀ D' : List Int, D'.length = n → (∀ u, u < n → (∃ d : Nat, D'.getD u 0 = d ∧ DistA A t v u d) ∨ (D'.getD u 0 = -1 ∧ ¬ Leads A t v u)) → D' = D) (hDl : D.length = n)
    (hds : Desc n (rowsIn A t) D) (h0 : ∀ x, x < n → (D.getD x 0 = 0 ↔ x = v)) (h16 : ∀ x, x < n → D.getD x 0 ≤ 16)
    (hT : TabOk w) (hr : Rd maskF w a A) (hA : ∀ x ∈ A, x < 65536) (hAn : n ≤ 16) (hu0 : u0 < n) (hv : v < n) (ht : t < 2 ^ n) :
    Calls Tryd.prog 50 #[.slice a n c, .int .i64 u0, .int .i64 v, .int .u32 t] w (OptPost x w) := by
  have RT := hid hT; have RA := hid hr; have HA := hid hA; have HLN := hid hlen; have HX := hid hx
  have HDS := hid hds; have H0 := hid h0; have H16 := hid h16; have HDL := hid hDl
  have HDI := hid (show Calls Tryd.prog 47 #[.slice a n c, .int .i64 v, .int .u32 t] w fun e w' => ∃ (o : Value), e = .returned o ∧ Own 3 w' w.heap.size o (D.map (.int .i64)) ∧ Below w.heap.size w w' by
    subst hlen
    refine (distances_any a A c v t w hT hr hA hAn hv ht).mono ?_
    rintro e w' ⟨D', o, rfl, hown, hl, hf, hb⟩
    rw [hD D' hl hf] at hown
    exact ⟨o, rfl, hown, hb⟩)
  have ht16 : t < 65536 := Nat.lt_of_lt_of_le ht (Nat.pow_le_pow_right (n := 2) (i := n) (j := 16) (by decide) hAn)
  have B0 := hid (Below.refl w.heap.size w)
  clear hT hr hA hlen hx hds h0 h16 hD hDl ht
  have hu0i : (u0 : Int) < (n : Int) := by omega
  go_enter Tryd.func50, Tryd.ntmps50
  go_wp2_with fail
  refine HDI.out.mono ?_
  rintro e wd ⟨o, rfl, hown, hb⟩
  obtain ⟨pa, pc, rfl, hpr, _⟩ := Own.rd hown
  rw [HDL.out]
  have RD0 := hid hpr
  have RT1 := hid (RT.out.below hb (Nat.le_refl _)); have RA1 := hid (RA.out.below hb (Nat.le_refl _)); have B1 := hid (bon B0.out hb)
  have hw01 : w.heap.size ≤ wd.heap.size := hb.size
  clear hpr hown hb HDI RT RA B0
  have hD0 := H16.out u0 hu0
  obtain ⟨db, dp, rfl, cu0⟩ := RD0.out u0 (by rw [HDL.out]; exact hu0)
  rw [← getD_eq D u0 (by rw [HDL.out]; exact hu0)] at cu0
  by_cases hneg : D.getD u0 0 < 0
  · have HXN := hid (show x = none by rw [← HX.out]; unfold pathX; rw [if_pos hneg])
    generalize D.getD u0 0 = e at *
    go_wp2
    go_ret
    exact .inl ⟨HXN.out, rfl, B1.out⟩
  · obtain ⟨d0, hd0⟩ := Int.eq_ofNat_of_zero_le (show 0 ≤ D.getD u0 0 by omega)
    have HXS := hid (show x = some (downL (rowsIn A t) D d0 (u0 : Int)) by rw [← HX.out]; unfold pathX; rw [if_neg hneg, hd0]; rfl)
    rw [hd0] at cu0 hneg hD0
    have HD0 := hid hd0
    clear hd0 HX
    have HO := hid (show Own 3 (wd.alloc (.cells #[.int .i64 (u0 : Int)] 3)) wd.heap.size (.slice (some ⟨wd.heap.size, 0, none⟩) 1 1) (([] ++ [(u0 : Int)]).map (Value.int .i64)) from own_new 3 wd [.int .i64 (u0 : Int)] (by simp [maxLen]))
    have HE0 := hid (alloc_below wd (.cells #[.int .i64 (u0 : Int)] 3))
    go_wp2
    go_loopw [1, 10, 12] (fun uv o _ wr => ∃ (u d : Nat) (pre : List Int), uv = .int .i64 u ∧ u < n ∧ D.getD u 0 = (d : Int) ∧ pre.length + d = d0 ∧ Own 3 wr wd.heap.size o ((pre ++ [(u : Int)]).map (.int .i64)) ∧ pre ++ downL (rowsIn A t) D d u = downL (rowsIn A t) D d0 u0 ∧ Below wd.heap.size wd wr) (fun uv _ _ _ => (D.getD (intOf uv).toNat 0).toNat)
    case atStart => exact ⟨u0, d0, [], rfl, hu0, HD0.out, by simp, HO.out, rfl, HE0.out⟩
    case round =>
      obtain ⟨u, dd, pre, rfl, hu, hdu, hpl, ho, hT, hb⟩ := hrel
      have OM := hid ho; have HT := hid hT; have BL := hid hb; have HDU := hid hdu; clear ho hT hdu
      replace RT1 := hid (RT1.out.below hb (Nat.le_refl _))
      replace RA1 := hid (RA1.out.below hb (Nat.le_refl _))
      replace RD0 := hid (RD0.out.below hb (Nat.le_refl _))
      replace B1 := hid (bon B1.out hb)
      clear hb
      have hui : (u : Int) < (n : Int) := by omega
      obtain ⟨db', dp', hda, cu⟩ := RD0.out u (by rw [HDL.out]; exact hu)
      obtain ⟨rfl, rfl⟩ : db = db' ∧ dp = dp' := by simp at hda; exact hda
      clear hda
      rw [← getD_eq D u (by rw [HDL.out]; exact hu), HDU.out] at cu
      have h0u := H0.out u hu
      rw [HDU.out] at h0u
      by_cases huv : u = v
      · have hdd0 : dd = 0 := by have := h0u.2 huv; omega
        have dne : ((u : Int) != (v : Int)) = false := by rw [huv]; simp
        have hTT := HT.out
        rw [hdd0] at hTT
        have HT3 := hid (show pre ++ [(u : Int)] = downL (rowsIn A t) D d0 (u0 : Int) from hTT)
        clear hTT
        go_wp2
        go_ret
        refine .inr ⟨_, HXS.out, _, rfl, ?_, B1.out⟩
        rw [← HT3.out]
        exact OM.out.base hw01
      · have hpos : 0 < dd := by
          apply Classical.byContradiction
          intro h
          exact huv (h0u.1 (by omega))
        have dne : ((u : Int) != (v : Int)) = true := by simp; omega
        obtain ⟨ab, ao, rfl, cv⟩ := RA1.out u (by rw [HLN.out]; exact hu)
        have hAv := HA.out _ (List.getElem_mem (show u < A.length by rw [HLN.out]; exact hu))
        have hRU : rowsIn A t (u : Int) = mems (A[u]'(by rw [HLN.out]; exact hu) &&& t) := by
          unfold rowsIn
          rw [Int.toNat_natCast, List.getD_eq_getElem?_getD, List.getElem?_eq_getElem (show u < A.length by rw [HLN.out]; exact hu)]; rfl
        have HDN := hid (HDS.out.down u (by omega) (by omega) (dd - 1) (by rw [Int.toNat_natCast, HDU.out]; omega))
        have HRG := hid (HDS.out.rng u (by omega) (by omega))
        have HT2 := hid (show (pre ++ [(u : Int)]) ++ downL (rowsIn A t) D (dd - 1) (hop (rowsIn A t (u : Int)) D ((dd - 1 : Nat) : Int)) = downL (rowsIn A t) D d0 u0 by
          rw [← HT.out, List.append_assoc]
          rw [show downL (rowsIn A t) D dd (u : Int) = downL (rowsIn A t) D ((dd - 1) + 1) (u : Int) by rw [Nat.sub_add_cancel hpos], downL_succ]; rfl)
        rw [hRU] at HDN HRG HT2
        unfold maskF at cv
        have hPLl : (pre ++ [(u : Int)]).length + dd = d0 + 1 := by simp; omega
        clear HT h0u hRU
        generalize A[u]'(by rw [HLN.out]; exact hu) = X at *
        have hand := u32_and_nat X t (by omega) (by omega)
        have hMX : X &&& t < 65536 := Nat.lt_of_le_of_lt Nat.and_le_left hAv
        generalize X &&& t = MX at *
        generalize pre ++ [(u : Int)] = PL at *
        have BS := hid (Below.refl wr.heap.size wr)
        go_wp2_with fail
        refine (list_any MX _ RT1.out hMX).mono ?_
        rintro e w1 ⟨lv, rfl, ho, hb⟩
        replace RT1 := hid (RT1.out.below hb (Nat.le_refl _))
        replace RA1 := hid (RA1.out.below hb (Nat.le_refl _))
        replace RD0 := hid (RD0.out.below hb (Nat.le_refl _))
        replace B1 := hid (bon B1.out hb)
        replace OM := hid (OM.out.past hb (Nat.le_refl _))
        replace BL := hid (bon BL.out hb)
        replace cu := cellB hb cu (Nat.le_refl _)
        replace cv := cellB hb cv (Nat.le_refl _)
        replace BS := hid (bon BS.out hb)
        clear hb
        obtain ⟨la, lc, rfl, hlr, _, _, _, hlb⟩ := ho.rd
        have RL := hid hlr; clear hlr ho hlb
        have hml := mems_len MX
        have BS2 := hid (Below.refl w1.heap.size w1)
        clear BS
        go_wp2
        go_loopw [1, 12, 35] (fun uv _ x wq => ∃ k : Nat, k ≤ (mems MX).length ∧ x = .int .i64 k ∧ uv = .int .i64 u ∧ (∀ j (hj : j < (mems MX).length), j < k → D.getD (mems MX)[j].toNat 0 ≠ ((dd - 1 : Nat) : Int)) ∧ Below w1.heap.size w1 wq) (fun _ _ x _ => (mems MX).length - (intOf x).toNat)
        case atStart => exact ⟨0, Nat.zero_le _, rfl, rfl, fun j _ hj => absurd hj (Nat.not_lt_zero j), Below.refl _ _⟩
        case round =>
          obtain ⟨k, hk, rfl, rfl, hno, hb⟩ := hrel
          have HNO := hid hno; have BQ := hid hb; clear hno
          replace RT1 := hid (RT1.out.below hb (Nat.le_refl _))
          replace RA1 := hid (RA1.out.below hb (Nat.le_refl _))
          replace RD0 := hid (RD0.out.below hb (Nat.le_refl _))
          replace B1 := hid (bon B1.out hb)
          replace OM := hid (OM.out.past hb (Nat.le_refl _))
          replace BL := hid (bon BL.out hb)
          replace cu := cellB hb cu (Nat.le_refl _)
          replace cv := cellB hb cv (Nat.le_refl _)
          replace RL := hid (RL.out.below hb (Nat.le_refl _))
          clear hb
          by_cases hlt : k < (mems MX).length
          · obtain ⟨pb, po, hpa, ck⟩ := RL.out k hlt
            have hki : (k : Int) < ((mems MX).length : Int) := by omega
            have hx := HRG.out _ (List.getElem_mem hlt)
            have HAT := hid (fun (h : D.getD (mems MX)[k].toNat 0 = ((dd - 1 : Nat) : Int)) => hop_at hlt (fun j hj => HNO.out j (by omega) hj) h)
            have HNX := hid (fun (h : D.getD (mems MX)[k].toNat 0 ≠ ((dd - 1 : Nat) : Int)) => (show ∀ j (hj : j < (mems MX).length), j < k + 1 → D.getD (mems MX)[j].toNat 0 ≠ ((dd - 1 : Nat) : Int) from fun j hj hjk => by
              by_cases e : j = k
              · subst e; exact h
              · exact HNO.out j hj (by omega)))
            have hatk := at_slice tIntsL hpa (mems MX).length lc k hlt
            have HPA := hid hpa; clear hpa
            generalize (mems MX)[k] = y at *
            obtain ⟨m, rfl⟩ := Int.eq_ofNat_of_zero_le hx.1
            have hm : m < n := by omega
            have hmi : (m : Int) < (n : Int) := by omega
            obtain ⟨db', dp', hda, cm⟩ := RD0.out m (by rw [HDL.out]; exact hm)
            obtain ⟨rfl, rfl⟩ : db = db' ∧ dp = dp' := by simp at hda; exact hda
            clear hda
            rw [← getD_eq D m (by rw [HDL.out]; exact hm)] at cm
            rw [Int.toNat_natCast] at HAT HNX
            by_cases hc : D.getD m 0 = ((dd - 1 : Nat) : Int)
            · have dq : (D.getD m 0 == ((dd : Int) - 1)) = true := by rw [hc]; simp; omega
              have HH := hid (HAT.out hc)
              have HCM := hid hc
              clear HAT HNX hc
              generalize hee : D.getD m 0 = e at *
              have HEM := hid hee; clear hee
              go_wp2
              have qcu := fun (p : Bel _) => cellB p.h cu (Nat.le_refl _)
              have qcv := fun (p : Bel _) => cellB p.h cv (Nat.le_refl _)
              have qck := fun (p : Bel _) => cellB p.h ck (Nat.le_refl _)
              have qcm := fun (p : Bel _) => cellB p.h cm (Nat.le_refl _)
              refine wp_quiet_b (by kernel_rfl) (by kernel_rfl) ?_
              repeat (go_big_quiet_step (fail))
              refine wpQuiet_nil ?_
              intro _ hw'
              obtain ⟨⟨w2, hb⟩, rfl⟩ := hw'
              clear qcu qcv qck qcm
              replace RT1 := hid (RT1.out.below hb (Nat.le_refl _))
              replace RA1 := hid (RA1.out.below hb (Nat.le_refl _))
              replace RD0 := hid (RD0.out.below hb (Nat.le_refl _))
              replace B1 := hid (bon B1.out hb)
              replace OM := hid (OM.out.past hb (Nat.le_refl _))
              replace BL := hid (bon BL.out hb)
              replace BQ := hid (bon BQ.out hb)
              replace cu := cellB hb cu (Nat.le_refl _)
              replace cv := cellB hb cv (Nat.le_refl _)
              replace RL := hid (RL.out.below hb (Nat.le_refl _))
              replace ck := cellB hb ck (Nat.le_refl _)
              replace cm := cellB hb cm (Nat.le_refl _)
              clear hb
              have hszz := BL.out.size
              have HC := hid (show (PL ++ [(m : Int)]).map (Value.int .i64) = PL.map (Value.int .i64) ++ [.int .i64 (m : Int)] by rw [List.map_append]; rfl)
              have hDl : (PL.map (Value.int .i64)).length ≤ 17 := by rw [List.length_map]; omega
              go_wp2_with (at_builtin; refine law_push tIntsL _ rfl _ _ rfl wd.heap.size _ (PL.map (.int .i64)) rfl OM.out _ _ rfl ?c0 rfl ?c1 ?c2 ?_)
              case c0 => simp
              case c1 => omega
              case c2 => exact hszz
              intro v' w' h1 h2
              rw [← HC.out] at h1
              have HN := hid h1
              have HBB := hid (BL.out.trans (grown_below h2 hszz (fun g hg => OM.out.ge g hg)))
              clear h1 h2
              go_wp2
              go_roundw
              case rel => exact ⟨m, dd - 1, PL, rfl, hm, by rw [HEM.out, HCM.out], by omega, HN.out, by rw [← HT2.out, HH.out], HBB.out⟩
              case measure =>
                simp only [intOf, Int.toNat_natCast]
                rw [HDU.out, HEM.out, HCM.out]; omega
            · have dq : (D.getD m 0 == ((dd : Int) - 1)) = false := by
                rw [beq_eq_false_iff_ne]; omega
              have HH := hid (HNX.out hc)
              clear HAT HNX hc
              generalize D.getD m 0 = e at *
              go_wp2
              have qcu := fun (p : Bel _) => cellB p.h cu (Nat.le_refl _)
              have qcv := fun (p : Bel _) => cellB p.h cv (Nat.le_refl _)
              have qck := fun (p : Bel _) => cellB p.h ck (Nat.le_refl _)
              have qcm := fun (p : Bel _) => cellB p.h cm (Nat.le_refl _)
              refine wp_quiet_b (by kernel_rfl) (by kernel_rfl) ?_
              repeat (go_big_quiet_step (fail))
              refine wpQuiet_nil ?_
              intro _ hw'
              obtain ⟨⟨w3, hb⟩, rfl⟩ := hw'
              clear qcu qcv qck qcm
              replace RT1 := hid (RT1.out.below hb (Nat.le_refl _))
              replace RA1 := hid (RA1.out.below hb (Nat.le_refl _))
              replace RD0 := hid (RD0.out.below hb (Nat.le_refl _))
              replace B1 := hid (bon B1.out hb)
              replace OM := hid (OM.out.past hb (Nat.le_refl _))
              replace BL := hid (bon BL.out hb)
              replace BQ := hid (bon BQ.out hb)
              replace cu := cellB hb cu (Nat.le_refl _)
              replace cv := cellB hb cv (Nat.le_refl _)
              replace RL := hid (RL.out.below hb (Nat.le_refl _))
              replace ck := cellB hb ck (Nat.le_refl _)
              replace cm := cellB hb cm (Nat.le_refl _)
              clear hb
              go_wp2
              go_roundw
              case rel => exact ⟨k + 1, by omega, by go_num, rfl, HH.out, BQ.out⟩
              case measure => simp [intOf]; omega
          · exfalso
            obtain ⟨x, hx, hdx⟩ := HDN.out
            obtain ⟨j, hj, rfl⟩ := List.mem_iff_getElem.1 hx
            exact HNO.out j hj (by omega) hdx
end
section
theorem down_ok {n : Nat} {R : Int → List Int} {D : List Int} (h : Desc n R D) : ∀ (d : Nat) (u : Int), 0 ≤ u → u < n → D.getD u.toNat 0 = (d : Int) → (downL R D d u).Nodup ∧ ∀ x ∈ downL R D d u, (0 ≤ x ∧ x < n) ∧ D.getD x.toNat 0 ≤ (d : Int) := by
  intro d
  induction d with
  | zero =>
    intro u h0 h1 hd
    refine ⟨by simp [downL], ?_⟩
    intro x hx
    simp [downL] at hx
    subst hx
    exact ⟨⟨h0, h1⟩, by rw [hd]; exact Int.le_refl _⟩
  | succ d ih =>
    intro u h0 h1 hd
    obtain ⟨h2, h3⟩ := hop_spec (h.down u h0 h1 d (by rw [hd]; simp))
    have h4 := h.rng u h0 h1 _ h2
    obtain ⟨h5, h6⟩ := ih _ h4.1 h4.2 h3
    rw [downL_succ]
    refine ⟨List.nodup_cons.2 ⟨fun hm => ?_, h5⟩, ?_⟩
    · have := (h6 u hm).2
      rw [hd] at this; omega
    · intro x hx
      rcases List.mem_cons.1 hx with rfl | hx
      · exact ⟨⟨h0, h1⟩, by rw [hd]; exact Int.le_refl _⟩
      · have := h6 x hx
        exact ⟨this.1, by omega⟩
theorem down_le {n : Nat} {R : Int → List Int} {D : List Int} (h : Desc n R D) {d : Nat} {u : Int} (h0 : 0 ≤ u) (h1 : u < n) (hd : D.getD u.toNat 0 = (d : Int)) : d + 1 ≤ n := by
  obtain ⟨h2, h3⟩ := down_ok h d u h0 h1 hd
  have := nodup_le _ n h2 (fun x hx => (h3 x hx).1)
  rw [downL_len] at this; exact this
theorem downL_congr {n : Nat} {R R' : Int → List Int} {D : List Int} (h : Desc n R D) (he : ∀ u : Int, 0 ≤ u → u < n → R' u = R u) : ∀ (d : Nat) (u : Int), 0 ≤ u → u < n → D.getD u.toNat 0 = (d : Int) → downL R' D d u = downL R D d u := by
  intro d
  induction d with
  | zero => intro u _ _ _; rfl
  | succ d ih =>
    intro u h0 h1 hd
    obtain ⟨h2, h3⟩ := hop_spec (h.down u h0 h1 d (by rw [hd]; simp))
    have h4 := h.rng u h0 h1 _ h2
    rw [downL_succ, downL_succ, he u h0 h1, ih _ h4.1 h4.2 h3]
theorem farL_get {g : List (List Int)} {s : List Int} {v : Int} {x : Int} (h0 : 0 ≤ x) (h1 : x < g.length) : (farL g s v).getD x.toNat 0 = far g s v x := by
  obtain ⟨m, rfl⟩ := Int.eq_ofNat_of_zero_le h0
  rw [Int.toNat_natCast, getD_eq _ m (by rw [farL_len]; omega)]
  simp [farL]
theorem far_zero {g : List (List Int)} {s : List Int} {v x : Int} : far g s v x = 0 ↔ x = v := by
  constructor
  · intro h
    obtain ⟨d, h1, h2, _⟩ := far_spec (far_nonneg.1 (by omega : 0 ≤ far g s v x))
    obtain rfl : d = 0 := by omega
    exact h2
  · rintro rfl
    exact far_eq (d := 0) (show Ball g s x 0 x from rfl) (fun e _ => Nat.zero_le e)
/-- Of a set of a graph: the distances go down by one at a neighbour in the set. -/
theorem desc_in {g : List (List Int)} {s : List Int} (hs : SetP g s) {v : Int} (hv : v ∈ s) : Desc g.length (rowsIn (g.map maskL) (maskL s)) (farL g s v) := by
  have hrow : ∀ u : Int, 0 ≤ u → u < g.length → rowsIn (g.map maskL) (maskL s) u = leftL (row g u) (maskL s) := by
    intro u h0 h1
    obtain ⟨m, rfl⟩ := Int.eq_ofNat_of_zero_le h0
    have hi := hs.1.inc m (by omega)
    have h16 := hs.1.le
    unfold rowsIn
    rw [Int.toNat_natCast, List.getD_eq_getElem?_getD, List.getElem?_map, List.getElem?_eq_getElem (show m < g.length by omega)]
    show mems (maskL g[m] &&& maskL s) = _
    rw [← row_nat g m (by omega), ← leftL_mask hi, mems_maskL (leftL_inc hi _) (by omega)]
  refine ⟨?_, ?_⟩
  · intro u h0 h1 x hx
    rw [hrow u h0 h1] at hx
    exact row_mem hs.1 h0 h1 (leftL_mem.1 hx).1
  · intro u h0 h1 d hd
    rw [farL_get h0 h1] at hd
    have hr : ∃ d, Ball g s v d u := far_nonneg.1 (by omega)
    obtain ⟨e, h2, h3, h4⟩ := far_spec hr
    obtain rfl : e = d + 1 := by omega
    rcases h3 with h3 | ⟨h5, x, h6, h7⟩
    · exact absurd h3 (h4 d (by omega))
    · have hxs := ball_in hv h6
      have hx := hs.2.1 x hxs
      obtain ⟨m, rfl⟩ := Int.eq_ofNat_of_zero_le hx.1
      refine ⟨(m : Int), ?_, ?_⟩
      · rw [hrow u h0 h1, leftL_mem]
        refine ⟨hs.1.sym m (by omega) u h7, ?_⟩
        rw [Int.toNat_natCast, testBit_maskL s m (fun v hv => (hs.2.1 v hv).1)]
        simpa using hxs
      · rw [farL_get hx.1 hx.2]
        apply far_eq h6
        intro e he
        apply Classical.byContradiction
        intro hn
        exact h4 (e + 1) (by omega) (.inr ⟨h5, (m : Int), he, h7⟩)
theorem rows_all {g : List (List Int)} (hg : GOk g) {x : Int} (h0 : 0 ≤ x) (h1 : x < g.length) : rowsIn (g.map maskL) (2 ^ g.length - 1) x = row g x := by
  obtain ⟨m, rfl⟩ := Int.eq_ofNat_of_zero_le h0
  have hi := hg.inc m (by omega)
  have h16 := hg.le
  unfold rowsIn
  rw [Int.toNat_natCast, List.getD_eq_getElem?_getD, List.getElem?_map, List.getElem?_eq_getElem (show m < g.length by omega)]
  show mems (maskL g[m] &&& _) = _
  rw [← row_nat g m (by omega), ← leftL_mask hi, mems_maskL (leftL_inc hi _) (by omega)]
  unfold leftL
  rw [List.filter_eq_self]
  intro y hy
  have := hi.1 y hy
  rw [Nat.testBit_two_pow_sub_one]
  simp; omega
noncomputable def pathL (g : List (List Int)) (u v : Int) : List Int :=
  if VertP g u ∧ VertP g v then if 0 ≤ far g (allL g.length) v u then downL (row g) (farL g (allL g.length) v) (far g (allL g.length) v u).toNat u else [] else []
theorem pathL_len (g : List (List Int)) (u v : Int) : (pathL g u v).length ≤ 1048576 := by
  unfold pathL
  split
  · rename_i h
    split
    · rename_i h0
      rw [downL_len]
      have := down_le (desc_far (setP_all h.1.1) ((allL_mem _ _).2 h.2.2)) (d := (far g (allL g.length) v u).toNat) h.1.2.1 h.1.2.2 (by rw [farL_get h.1.2.1 h.1.2.2, Int.toNat_of_nonneg h0])
      have := h.1.1.le
      omega
    · simp
  · simp
set_option maxHeartbeats 1000000 in
theorem isPair_b (a : Option Addr) (rs : List Row) (c : Nat) (u v : Int) (w : World) (b : Bool) (hb : decide (VertP (nums rs) u ∧ VertP (nums rs) v) = b) (hr : RdM w a rs) (hn : Small rs) :
    Calls Tryd.prog 49 #[.agg #[.slice a rs.length c], .int .i64 u, .int .i64 v] w fun e w' => e = .returned (.bool b) ∧ Below w.heap.size w w' := by
  have RA := hid hr; have HB := hid hb; clear hr hb
  obtain ⟨w0, hw0⟩ : ∃ w0, w0 = (w.alloc (.cells #[.slice a rs.length c] 29)) := ⟨_, rfl⟩
  have B0 := hid (show Below w.heap.size w w0 by rw [hw0]; exact ((Below.refl _ _).alloc (Nat.le_refl _) _))
  have c0 : w0.cell? ⟨w.heap.size, 0, none⟩ = some (.slice a rs.length c) := by rw [hw0]; simp [go_sem]
  replace RA := hid (RA.out.below B0.out (Nat.le_refl _))
  have HW := hid hw0; clear hw0
  by_cases hu : VertP (nums rs) u
  · have h1 := hid (show decide (VertP (nums rs) u) = true by simpa using hu)
    have h2 := hid (show decide (VertP (nums rs) v) = b by rw [← HB.out]; simp [hu])
    clear hu
    go_enter Tryd.func49, Tryd.ntmps49
    go_wp2_with fail
    rw [← HW.out]
    go_wp2_with fail
    refine (isVertex_b a rs c _ _ _ h1.out RA.out hn).mono ?_
    rintro e w1 ⟨rfl, hb⟩
    replace RA := hid (RA.out.below hb (Nat.le_refl _))
    replace B0 := hid (bon B0.out hb)
    replace c0 := cellB hb c0 (Nat.le_refl _)
    clear hb
    go_wp2_with fail
    refine (isVertex_b a rs c _ _ _ h2.out RA.out hn).mono ?_
    rintro e w2 ⟨rfl, hb⟩
    replace RA := hid (RA.out.below hb (Nat.le_refl _))
    replace B0 := hid (bon B0.out hb)
    replace c0 := cellB hb c0 (Nat.le_refl _)
    clear hb
    go_wp2
    go_ret
    exact ⟨rfl, B0.out⟩
  · have h1 := hid (show decide (VertP (nums rs) u) = false by simpa using hu)
    have h2 := hid (show false = b by rw [← HB.out]; simp [hu])
    clear hu
    go_enter Tryd.func49, Tryd.ntmps49
    go_wp2_with fail
    rw [← HW.out]
    go_wp2_with fail
    refine (isVertex_b a rs c _ _ _ h1.out RA.out hn).mono ?_
    rintro e w3 ⟨rfl, hb⟩
    replace RA := hid (RA.out.below hb (Nat.le_refl _))
    replace B0 := hid (bon B0.out hb)
    replace c0 := cellB hb c0 (Nat.le_refl _)
    clear hb
    go_wp2
    go_ret
    exact ⟨ret_bool h2.out, B0.out⟩
end
section
theorem eql_nil (a : Option Addr) (l c : Nat) (w : World) : (binOp .eql 62 (.slice a l c) (.slice none 0 0)).run Tryd.prog w = .ok (.bool a.isNone) w := by
  simp only [binOp]
  simp [run_equal_slice_nil w 62 3 a l c Tryd.underlying62]
theorem pathL_no {g : List (List Int)} {u v : Int} (h : ¬ (VertP g u ∧ VertP g v)) : pathL g u v = [] := by unfold pathL; rw [if_neg h]
/-- What the program's search gives. -/
theorem pathX_all {g : List (List Int)} (hg : GOk g) {u v : Nat} (hu : u < g.length) (hv : v < g.length) :
    pathX (g.map maskL) (2 ^ g.length - 1) (farL g (allL g.length) v) u = if 0 ≤ far g (allL g.length) v u then some (pathL g u v) else none := by
  have hs := setP_all hg
  have hvm : (v : Int) ∈ allL g.length := (allL_mem _ _).2 (by omega)
  have hget : (farL g (allL g.length) (v : Int)).getD u 0 = far g (allL g.length) v u := farL_get (x := (u : Int)) (by omega) (by omega)
  unfold pathX
  rw [hget]
  by_cases h0 : 0 ≤ far g (allL g.length) (v : Int) (u : Int)
  · rw [if_neg (by omega), if_pos h0]
    unfold pathL
    rw [if_pos ⟨⟨hg, by omega⟩, ⟨hg, by omega⟩⟩, if_pos h0]
    congr 1
    exact downL_congr (desc_far hs hvm) (fun x h1 h2 => rows_all hg h1 h2) _ _ (by omega) (by omega) (by rw [farL_get (by omega) (by omega), Int.toNat_of_nonneg h0])
  · rw [if_pos (by omega), if_neg h0]
set_option maxRecDepth 100000 in
set_option maxHeartbeats 2000000 in
theorem implPathOf_any (a : Option Addr) (rs : List Row) (c : Nat) (u v : Int) (w : World) (r : List Int) (hx : pathL (nums rs) u v = r) (hr : RdM w a rs) (hn : Small rs) (_hu : I64 u) (_hv : I64 v) (hT : TabOk w) :
    Calls Tryd.prog 18 #[.agg #[.slice a rs.length c], .int .i64 u, .int .i64 v] w (RetOwn 2 (r.map (.int .i64)) w) := by
  have RA := hid hr; have HX := hid hx; have RT := hid hT; clear hr hx hT _hu _hv
  have hn1 := hn.1
  obtain ⟨w0, hw0⟩ : ∃ w0, w0 = (w.alloc (.cells #[.slice a rs.length c] 29)) := ⟨_, rfl⟩
  have B0 := hid (show Below w.heap.size w w0 by rw [hw0]; exact ((Below.refl _ _).alloc (Nat.le_refl _) _))
  have c0 : w0.cell? ⟨w.heap.size, 0, none⟩ = some (.slice a rs.length c) := by rw [hw0]; simp [go_sem]
  replace RA := hid (RA.out.below B0.out (Nat.le_refl _))
  replace RT := hid (RT.out.below B0.out (Nat.le_refl _))
  have HW := hid hw0; clear hw0
  by_cases hs : VertP (nums rs) u ∧ VertP (nums rs) v
  · have h1 := hid (show decide (VertP (nums rs) u ∧ VertP (nums rs) v) = true by simpa using hs)
    have hu := hs.1.2; have hv := hs.2.2
    rw [nums_length] at hu hv
    obtain ⟨p, rfl⟩ := Int.eq_ofNat_of_zero_le hu.1
    obtain ⟨m, rfl⟩ := Int.eq_ofNat_of_zero_le hv.1
    have HG := hid hs.1.1
    have hpl : p < rs.length := by omega
    have hml : m < rs.length := by omega
    have h16 : rs.length ≤ 16 := by have := HG.out.le; rwa [nums_length] at this
    have hnl : (nums rs).length = rs.length := nums_length rs
    have HLR := hid (show ((nums rs).map maskL).length = rs.length by rw [List.length_map, nums_length])
    have hset := setP_all hs.1.1
    have hvm : (m : Int) ∈ allL (nums rs).length := (allL_mem _ _).2 (by omega)
    have hdesc := desc_far hset hvm
    have HDS := hid (show Desc rs.length (rowsIn ((nums rs).map maskL) (2 ^ rs.length - 1)) (farL (nums rs) (allL (nums rs).length) (m : Int)) by
      have := desc_in hset hvm
      rw [allL_mask, nums_length] at this; rwa [nums_length])
    have HDI := hid (show ∀ D' : List Int, D'.length = rs.length → (∀ u, u < rs.length → (∃ d : Nat, D'.getD u 0 = d ∧ DistA ((nums rs).map maskL) (2 ^ rs.length - 1) m u d) ∨ (D'.getD u 0 = -1 ∧ ¬ Leads ((nums rs).map maskL) (2 ^ rs.length - 1) m u)) → D' = farL (nums rs) (allL (nums rs).length) (m : Int) by
      intro D' hl h
      refine dist_far hset hvm (by rw [hl, nums_length]) ?_
      rw [allL_mask, nums_length]
      exact h)
    have HDL := hid (show (farL (nums rs) (allL (nums rs).length) (m : Int)).length = rs.length by rw [farL_len, nums_length])
    have H0 := hid (show ∀ x, x < rs.length → ((farL (nums rs) (allL (nums rs).length) (m : Int)).getD x 0 = 0 ↔ x = m) by
      intro x hx
      have e := farL_get (g := nums rs) (s := allL (nums rs).length) (v := (m : Int)) (x := (x : Int)) (by omega) (by omega)
      rw [Int.toNat_natCast] at e
      rw [e, far_zero]; omega)
    have H16 := hid (show ∀ x, x < rs.length → (farL (nums rs) (allL (nums rs).length) (m : Int)).getD x 0 ≤ 16 by
      intro x hx
      by_cases h : (farL (nums rs) (allL (nums rs).length) (m : Int)).getD x 0 < 0
      · omega
      · obtain ⟨d, hd⟩ := Int.eq_ofNat_of_zero_le (show 0 ≤ (farL (nums rs) (allL (nums rs).length) (m : Int)).getD x 0 by omega)
        have := down_le hdesc (d := d) (u := (x : Int)) (by omega) (by omega) (by rw [Int.toNat_natCast]; exact hd)
        rw [hd]; omega)
    obtain ⟨x, hxx⟩ : ∃ x, pathX ((nums rs).map maskL) (2 ^ rs.length - 1) (farL (nums rs) (allL (nums rs).length) (m : Int)) p = x := ⟨_, rfl⟩
    have HXX := hid hxx
    have HX2 := hid (show x = if 0 ≤ far (nums rs) (allL (nums rs).length) (m : Int) (p : Int) then some r else none by
      have := pathX_all hs.1.1 (u := p) (v := m) (by omega) (by omega)
      rw [HX.out] at this
      rw [← hxx, ← this, nums_length])
    have HX3 := hid (show x = none → [] = r by
      intro h
      have h2 := HX2.out
      rw [h] at h2
      rw [← HX.out]
      unfold pathL
      rw [if_pos hs, if_neg]
      intro h3
      rw [if_pos h3] at h2; cases h2)
    have HX4 := hid (show ∀ l, x = some l → l = r by
      intro l h
      have h2 := HX2.out
      rw [h] at h2
      split at h2
      · injection h2
      · cases h2)
    have HRL := hid (show r.length ≤ 1048576 by rw [← HX.out]; exact pathL_len _ _ _)
    have HRP := hid (show ∀ l, x = some l → l ≠ [] by
      intro l h e
      rw [h] at hxx
      unfold pathX at hxx
      split at hxx
      · cases hxx
      · injection hxx with hxx
        have := congrArg List.length hxx
        rw [downL_len, e] at this
        simp at this)
    have hml2 : 2 ^ rs.length - 1 < 2 ^ rs.length := by have := Nat.two_pow_pos rs.length; omega
    have HA16 := hid (in16_of hs.1.1)
    clear HX HX2 hs hset hvm hdesc hxx hnl
    generalize farL (nums rs) (allL (nums rs).length) (m : Int) = D at *
    generalize hA : (nums rs).map maskL = A at *
    generalize hF : 2 ^ rs.length - 1 = F at *
    go_enter Tryd.func18, Tryd.ntmps18
    go_wp2_with fail
    rw [← HW.out]
    go_wp2_with fail
    refine (isPair_b a rs c _ _ _ _ h1.out RA.out hn).mono ?_
    rintro e w1 ⟨rfl, hb⟩
    replace RA := hid (RA.out.below hb (Nat.le_refl _))
    replace RT := hid (RT.out.below hb (Nat.le_refl _))
    replace B0 := hid (bon B0.out hb)
    replace c0 := cellB hb c0 (Nat.le_refl _)
    clear hb
    go_wp2_with fail
    refine (netsOf_any a rs c _ HG.out RA.out hn).mono ?_
    rintro e w2 ⟨v, rfl, hown, hb⟩
    replace RA := hid (RA.out.below hb (Nat.le_refl _))
    replace RT := hid (RT.out.below hb (Nat.le_refl _))
    replace B0 := hid (bon B0.out hb)
    replace c0 := cellB hb c0 (Nat.le_refl _)
    clear hb
    obtain ⟨na, nc, rfl, hsr, _, _, _, _⟩ := Own.rd (f := netF) hown
    have RN := hid hsr.masks; clear hown hsr
    rw [nums_length]
    rw [hA] at RN
    go_wp2_with (first | (go_at_call 48; refine (all_p _ _ _ F _ h16 hF).mono ?_; rintro e w' ⟨rfl, rfl⟩))
    refine (pathOf_any na A nc rs.length p m F D x _ HXX.out HLR.out HDI.out HDL.out HDS.out H0.out H16.out RT.out RN.out HA16.out h16 hpl hml hml2).mono ?_
    rintro e w' (⟨hxn, rfl, hb⟩ | ⟨l, hxl, v, rfl, hown, hb⟩)
    · have B1 := hid (bon B0.out hb); clear hb
      have HN := hid (HX3.out hxn)
      have hnil := eql_nil none 0 0 w'
      go_wp2
      go_ret
      rw [← HN.out]
      exact ⟨_, rfl, Own.nil _ _ _, B1.out⟩
    · have B1 := hid (bon B0.out hb); clear hb
      have HL := hid (HX4.out l hxl)
      have hne := HRP.out l hxl
      obtain ⟨la, lc, rfl, hrd, h3, _, h5, _⟩ := Own.rd hown
      have RL := hid hrd; clear hrd hown
      have hls : ∃ ad, la = some ad := by
        cases la with
        | none =>
          have h6 := h5 rfl
          exact absurd (List.eq_nil_of_length_eq_zero (by omega)) hne
        | some ad => exact ⟨ad, rfl⟩
      obtain ⟨ad, rfl⟩ := hls
      clear h3 h5
      have hll : l.length ≤ 1048576 := by rw [HL.out]; exact HRL.out
      have hnil := eql_nil (some ad) l.length lc w'
      go_wp2_with fail
      refine (wide_any _ _ _ _ RL.out hll).mono ?_
      rintro e w6 ⟨qv, rfl, hown, hb⟩
      have OQ := hid (hown.base B1.out.size)
      have B6 := hid (bon B1.out hb)
      clear hown hb
      rw [HL.out] at OQ
      go_wp2
      go_ret
      exact ⟨_, rfl, OQ.out, B6.out⟩
  · have h1 := hid (show decide (VertP (nums rs) u ∧ VertP (nums rs) v) = false by simpa using hs)
    have HFIN := hid (show [] = r by rw [← HX.out, pathL_no hs])
    clear hs HX
    go_enter Tryd.func18, Tryd.ntmps18
    go_wp2_with fail
    rw [← HW.out]
    go_wp2_with fail
    refine (isPair_b a rs c _ _ _ _ h1.out RA.out hn).mono ?_
    rintro e w3 ⟨rfl, hb⟩
    replace RA := hid (RA.out.below hb (Nat.le_refl _))
    replace RT := hid (RT.out.below hb (Nat.le_refl _))
    replace B0 := hid (bon B0.out hb)
    replace c0 := cellB hb c0 (Nat.le_refl _)
    clear hb
    go_wp2
    go_ret
    rw [← HFIN.out]
    exact ⟨_, rfl, Own.nil _ _ _, B0.out⟩
set_option maxRecDepth 100000 in
set_option maxHeartbeats 2000000 in
theorem specPathOf_any (a : Option Addr) (rs : List Row) (c : Nat) (u v : Int) (w : World) (r : List Int) (hx : pathL (nums rs) u v = r) (hr : RdM w a rs) (hn : Small rs) (_hu : I64 u) (_hv : I64 v) :
    Calls Tryd.prog 20 #[.agg #[.slice a rs.length c], .int .i64 u, .int .i64 v] w (RetOwn 2 (r.map (.int .i64)) w) := by
  have RA := hid hr; have HX := hid hx; clear hr hx _hu _hv
  have hn1 := hn.1
  obtain ⟨w0, hw0⟩ : ∃ w0, w0 = (w.alloc (.cells #[.slice a rs.length c] 29)) := ⟨_, rfl⟩
  have B0 := hid (show Below w.heap.size w w0 by rw [hw0]; exact ((Below.refl _ _).alloc (Nat.le_refl _) _))
  have c0 : w0.cell? ⟨w.heap.size, 0, none⟩ = some (.slice a rs.length c) := by rw [hw0]; simp [go_sem]
  replace RA := hid (RA.out.below B0.out (Nat.le_refl _))
  have HW := hid hw0; clear hw0
  by_cases hg : GOk (nums rs)
  · have h1 := hid (show decide (GOk (nums rs)) = true by simpa using hg)
    have HG := hid hg
    have h16 : rs.length ≤ 16 := by have := hg.le; rwa [nums_length] at this
    by_cases hu : 0 ≤ u ∧ u < rs.length
    · have h2 := hid (show decide (0 ≤ u ∧ u < rs.length) = true by simpa using hu)
      by_cases hv : 0 ≤ v ∧ v < rs.length
      · have h3 := hid (show decide (0 ≤ v ∧ v < rs.length) = true by simpa using hv)
        obtain ⟨p, rfl⟩ := Int.eq_ofNat_of_zero_le hu.1
        obtain ⟨m, rfl⟩ := Int.eq_ofNat_of_zero_le hv.1
        have hpl : p < rs.length := by omega
        have hml : m < rs.length := by omega
        have hnl : (nums rs).length = rs.length := nums_length rs
        have hset := setP_all hg
        have hvm : (m : Int) ∈ allL (nums rs).length := (allL_mem _ _).2 (by omega)
        have hdesc := desc_far hset hvm
        have HFR := hid (show fromL (nums rs) (allL rs.length) (m : Int) = farL (nums rs) (allL (nums rs).length) (m : Int) by
          unfold fromL; rw [← hnl, if_pos hvm])
        have HDS := hid (show Desc rs.length (row (nums rs)) (farL (nums rs) (allL (nums rs).length) (m : Int)) by have h := hdesc; generalize farL (nums rs) (allL (nums rs).length) (m : Int) = Z at *; rwa [hnl] at h)
        have HDL := hid (show (farL (nums rs) (allL (nums rs).length) (m : Int)).length = rs.length by rw [farL_len, nums_length])
        have hget : (farL (nums rs) (allL (nums rs).length) (m : Int)).getD p 0 = far (nums rs) (allL (nums rs).length) (m : Int) (p : Int) := farL_get (x := (p : Int)) (by omega) (by omega)
        have HR := hid (show (if 0 ≤ (farL (nums rs) (allL (nums rs).length) (m : Int)).getD p 0 then downL (row (nums rs)) (farL (nums rs) (allL (nums rs).length) (m : Int)) ((farL (nums rs) (allL (nums rs).length) (m : Int)).getD p 0).toNat p else []) = r by
          rw [hget, ← HX.out]
          have hvv : VertP (nums rs) (p : Int) ∧ VertP (nums rs) (m : Int) := ⟨⟨hg, by omega⟩, ⟨hg, by omega⟩⟩
          unfold pathL
          exact (if_pos hvv).symm)
        have H16 := hid (show ∀ d : Nat, (farL (nums rs) (allL (nums rs).length) (m : Int)).getD p 0 = d → d ≤ 16 by
          intro d hd
          have := down_le hdesc (d := d) (u := (p : Int)) (by omega) (by omega) (by rw [Int.toNat_natCast]; exact hd)
          omega)
        clear hu hv HX hg hset hvm hdesc hnl hget
        generalize farL (nums rs) (allL (nums rs).length) (m : Int) = D at *
        go_enter Tryd.func20, Tryd.ntmps20
        go_wp2_with fail
        rw [← HW.out]
        go_wp2_with fail
        refine (specGraphOk_b a rs c _ _ h1.out RA.out hn).mono ?_
        rintro e w1 ⟨rfl, hb⟩
        replace RA := hid (RA.out.below hb (Nat.le_refl _))
        replace B0 := hid (bon B0.out hb)
        replace c0 := cellB hb c0 (Nat.le_refl _)
        clear hb
        go_wp2_with fail
        refine (l1There_b a rs c _ _ _ h2.out hn1).mono ?_
        rintro e w2 ⟨rfl, hb⟩
        replace RA := hid (RA.out.below hb (Nat.le_refl _))
        replace B0 := hid (bon B0.out hb)
        replace c0 := cellB hb c0 (Nat.le_refl _)
        clear hb
        go_wp2_with fail
        refine (l1There_b a rs c _ _ _ h3.out hn1).mono ?_
        rintro e w3 ⟨rfl, hb⟩
        replace RA := hid (RA.out.below hb (Nat.le_refl _))
        replace B0 := hid (bon B0.out hb)
        replace c0 := cellB hb c0 (Nat.le_refl _)
        clear hb
        go_wp2_with fail
        have D3 : Drawn w3 w3.drew := ⟨1, rfl⟩
        have RA3 := hid (RA.out.drawn D3)
        have B3 := hid (B0.out.trans (D3.below _))
        have f0 := dcell D3 c0
        go_region_held3 (fun w' => w'.cell? ⟨w.heap.size, 0, none⟩ = some (.slice a rs.length c)) (first | exact f0 | exact g0 | exact k0 | exact m0) ((first | (go_at_call 53; refine (l1Size_any _ _ _ _ hn1).mono ?_; rintro e w4 ⟨rfl, hb⟩; have g0 := cellB hb f0 (Nat.le_refl _); have RA4 := hid (RA3.out.below hb (Nat.le_refl _)); have B4 := hid (bon B3.out hb); clear hb) | (go_at_call 52; refine (l1All_any _ _ h16).mono ?_; rintro e w5 ⟨pv, rfl, hown, hb⟩; obtain ⟨pa, pc, rfl, hpr, _⟩ := Own.rd hown; have k0 := cellB hb g0 (Nat.le_refl _); have RA5 := hid (RA4.out.below hb (Nat.le_refl _)); have RP5 := hid hpr; have B5 := hid (bon B4.out hb); clear hown hb hpr) | (go_at_call 51; refine (l3From_any _ _ _ _ _ _ _ _ HG.out RA5.out hn RP5.out (by rw [allL_len]; omega) hml).mono ?_; rw [HFR.out]; rintro e w6 ⟨qv, rfl, hown, hb⟩; have m0 := cellB hb k0 (Nat.le_refl _); have OQ := hid hown; have RA6 := hid (RA5.out.below hb (Nat.le_refl _)); have B6 := hid (bon B5.out hb); clear hown hb)))
        clear f0 g0 k0 RA3 RA4 RA5 RP5 B3 B4 B5 RA B0 c0
        obtain ⟨qa, qc, rfl, hqr, _⟩ := Own.rd OQ.out
        have RD := hid hqr; clear hqr OQ
        rw [HDL.out]
        obtain ⟨db, dp, rfl, cu0⟩ := RD.out p (by rw [HDL.out]; exact hpl)
        rw [← getD_eq D p (by rw [HDL.out]; exact hpl)] at cu0
        have hpi : (p : Int) < (rs.length : Int) := by omega
        by_cases hneg : D.getD p 0 < 0
        · have HRR := hid (show [] = r by have := HR.out; rw [if_neg (by omega)] at this; exact this)
          clear HR H16
          generalize D.getD p 0 = e at *
          go_wp2
          go_ret
          rw [← HRR.out]
          exact ⟨_, rfl, (own_new 2 _ [] (by decide)).base B6.out.size, B6.out.trans ((alloc_below _ _).mono B6.out.size)⟩
        · obtain ⟨d0, hd0⟩ := Int.eq_ofNat_of_zero_le (show 0 ≤ D.getD p 0 by omega)
          have hd16 := H16.out d0 hd0
          have HRR := hid (show downL (row (nums rs)) D d0 (p : Int) = r by have := HR.out; rw [if_pos (by omega), hd0] at this; exact this)
          have HD0 := hid hd0
          rw [hd0] at hneg cu0
          clear HR H16 hd0
          go_wp2_with fail
          refine (l3Down_any a rs c _ D _ p d0 _ HDS.out HDL.out RA6.out hn RD.out hpl HD0.out hd16).mono ?_
          rw [HRR.out]
          rintro e w7 ⟨qv, rfl, hown, hb⟩
          have OQ := hid (hown.base B6.out.size)
          have B7 := hid (bon B6.out hb)
          clear hown hb
          go_wp2
          go_ret
          exact ⟨_, rfl, OQ.out, B7.out⟩
      · have h3 := hid (show decide (0 ≤ v ∧ v < rs.length) = false by simpa using hv)
        have HFIN := hid (show [] = r by rw [← HX.out, pathL_no]; rintro ⟨_, _, h⟩; rw [nums_length] at h; exact hv h)
        clear hu hv HX hg
        go_enter Tryd.func20, Tryd.ntmps20
        go_wp2_with fail
        rw [← HW.out]
        go_wp2_with fail
        refine (specGraphOk_b a rs c _ _ h1.out RA.out hn).mono ?_
        rintro e w4 ⟨rfl, hb⟩
        replace RA := hid (RA.out.below hb (Nat.le_refl _))
        replace B0 := hid (bon B0.out hb)
        replace c0 := cellB hb c0 (Nat.le_refl _)
        clear hb
        go_wp2_with fail
        refine (l1There_b a rs c _ _ _ h2.out hn1).mono ?_
        rintro e w5 ⟨rfl, hb⟩
        replace RA := hid (RA.out.below hb (Nat.le_refl _))
        replace B0 := hid (bon B0.out hb)
        replace c0 := cellB hb c0 (Nat.le_refl _)
        clear hb
        go_wp2_with fail
        refine (l1There_b a rs c _ _ _ h3.out hn1).mono ?_
        rintro e w6 ⟨rfl, hb⟩
        replace RA := hid (RA.out.below hb (Nat.le_refl _))
        replace B0 := hid (bon B0.out hb)
        replace c0 := cellB hb c0 (Nat.le_refl _)
        clear hb
        go_wp2
        go_ret
        rw [← HFIN.out]
        exact ⟨_, rfl, (own_new 2 _ [] (by decide)).base B0.out.size, B0.out.trans ((alloc_below _ _).mono B0.out.size)⟩
    · have h2 := hid (show decide (0 ≤ u ∧ u < rs.length) = false by simpa using hu)
      have HFIN := hid (show [] = r by rw [← HX.out, pathL_no]; rintro ⟨⟨_, h⟩, _⟩; rw [nums_length] at h; exact hu h)
      clear hu HX hg
      go_enter Tryd.func20, Tryd.ntmps20
      go_wp2_with fail
      rw [← HW.out]
      go_wp2_with fail
      refine (specGraphOk_b a rs c _ _ h1.out RA.out hn).mono ?_
      rintro e w7 ⟨rfl, hb⟩
      replace RA := hid (RA.out.below hb (Nat.le_refl _))
      replace B0 := hid (bon B0.out hb)
      replace c0 := cellB hb c0 (Nat.le_refl _)
      clear hb
      go_wp2_with fail
      refine (l1There_b a rs c _ _ _ h2.out hn1).mono ?_
      rintro e w8 ⟨rfl, hb⟩
      replace RA := hid (RA.out.below hb (Nat.le_refl _))
      replace B0 := hid (bon B0.out hb)
      replace c0 := cellB hb c0 (Nat.le_refl _)
      clear hb
      go_wp2
      go_ret
      rw [← HFIN.out]
      exact ⟨_, rfl, (own_new 2 _ [] (by decide)).base B0.out.size, B0.out.trans ((alloc_below _ _).mono B0.out.size)⟩
  · have h1 := hid (show decide (GOk (nums rs)) = false by simpa using hg)
    have HFIN := hid (show [] = r by rw [← HX.out, pathL_no]; rintro ⟨⟨h, _⟩, _⟩; exact hg h)
    clear HX hg
    go_enter Tryd.func20, Tryd.ntmps20
    go_wp2_with fail
    rw [← HW.out]
    go_wp2_with fail
    refine (specGraphOk_b a rs c _ _ h1.out RA.out hn).mono ?_
    rintro e w9 ⟨rfl, hb⟩
    replace RA := hid (RA.out.below hb (Nat.le_refl _))
    replace B0 := hid (bon B0.out hb)
    replace c0 := cellB hb c0 (Nat.le_refl _)
    clear hb
    go_wp2
    go_ret
    rw [← HFIN.out]
    exact ⟨_, rfl, (own_new 2 _ [] (by decide)).base B0.out.size, B0.out.trans ((alloc_below _ _).mono B0.out.size)⟩
end
end
end Go.Proofs.YtdncmloajajiaaaDoor
