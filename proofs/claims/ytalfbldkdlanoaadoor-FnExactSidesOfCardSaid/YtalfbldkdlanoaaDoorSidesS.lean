/- SidesOf: the reference's. -/
import Derived.Test.YtalfbldkdlanoaaDoorSideS
namespace Go.Proofs.YtalfbldkdlanoaaDoor
open Go.RowKit
def SideAt (g : List (List Int)) (R : Nat → Prop) (Z : List Int) : Prop := Z.length = g.length ∧ ∀ v, v < g.length → (R v → Z.getD v 0 = sideV g v) ∧ (¬ R v → Z.getD v 0 = 0)
theorem SideAt.set {g : List (List Int)} {R R' : Nat → Prop} {Z : List Int} (h : SideAt g R Z) (x : Nat) (hR : ∀ v, v < g.length → (R' v ↔ R v ∨ v = x)) : SideAt g R' (Z.set x (sideV g x)) := by
  refine ⟨by rw [List.length_set]; exact h.1, fun v hv => ?_⟩
  have e : (Z.set x (sideV g x)).getD v 0 = if x = v then sideV g x else Z.getD v 0 := getD_set Z x v _ (by rw [h.1]; exact hv)
  rw [e, hR v hv]
  by_cases hxv : x = v
  · subst hxv
    rw [if_pos rfl]
    exact ⟨fun _ => rfl, fun hn => absurd (Or.inr rfl) hn⟩
  · rw [if_neg hxv]
    exact ⟨fun h2 => (h.2 v hv).1 (h2.resolve_right (fun e => hxv e.symm)), fun hn => (h.2 v hv).2 (fun h3 => hn (Or.inl h3))⟩
theorem SideAt.congr {g : List (List Int)} {R R' : Nat → Prop} {Z : List Int} (h : SideAt g R Z) (hR : ∀ v, v < g.length → (R' v ↔ R v)) : SideAt g R' Z :=
  ⟨h.1, fun v hv => by rw [hR v hv]; exact h.2 v hv⟩
theorem SideAt.all {g : List (List Int)} {R : Nat → Prop} {Z : List Int} (h : SideAt g R Z) (hR : ∀ v, v < g.length → R v) : Z = sideTo g g.length := by
  apply List.ext_getElem (by rw [h.1]; simp [sideTo])
  intro v h1 h2
  have hv : v < g.length := by rw [← h.1]; exact h1
  have e := (h.2 v hv).1 (hR v hv)
  rw [getD_eq Z v h1] at e
  rw [e]; simp [sideTo]
theorem SideAt.start (g : List (List Int)) : SideAt g (fun _ => False) (List.replicate g.length 0) := by
  refine ⟨by simp, fun v hv => ⟨fun h => h.elim, fun _ => ?_⟩⟩
  rw [List.getD_eq_getElem?_getD, List.getElem?_replicate]
  simp [hv]
theorem part_head {g : List (List Int)} {r : Nat} (hr : r < g.length) (hroot : rootV g r = r) (h0 : 0 < (partV g r).length) : (partV g r)[0] = (r : Int) := by
  obtain ⟨v, h1, h2, h3⟩ := partV_mem.1 (List.getElem_mem h0)
  have h4 := (root_spec g v).2.1
  have hm := root_part hr hroot
  obtain ⟨j, hj, hje⟩ := List.mem_iff_getElem.1 hm
  rcases Nat.eq_zero_or_pos j with h | h
  · subst h; exact hje
  · have := List.pairwise_iff_getElem.1 (partV_inc g r).2 0 j h0 hj h
    rw [hje, h3] at this
    rw [h3]; omega
theorem edge_shape {g : List (List Int)} (hg : GOk g) {e : List Int} (he : e ∈ edgesL g) : ∃ u v : Nat, e = [(u : Int), (v : Int)] ∧ u < g.length ∧ v < g.length ∧ (v : Int) ∈ row g (u : Int) := by
  unfold edgesL at he
  rw [List.mem_flatMap] at he
  obtain ⟨u, hu, he⟩ := he
  rw [List.mem_range] at hu
  unfold rowEdges at he
  rw [List.mem_map] at he
  obtain ⟨v, hv, rfl⟩ := he
  rw [List.mem_filter] at hv
  have h1 := (hg.inc u hu).1 v hv.1
  obtain ⟨m, rfl⟩ := Int.eq_ofNat_of_zero_le h1.1
  exact ⟨u, m, rfl, hu, by omega, hv.1⟩
theorem edge_in {g : List (List Int)} {u v : Nat} (hu : u < g.length) (h : (v : Int) ∈ row g (u : Int)) (huv : u < v) : [(u : Int), (v : Int)] ∈ edgesL g := by
  unfold edgesL
  rw [List.mem_flatMap]
  refine ⟨u, List.mem_range.2 hu, ?_⟩
  unfold rowEdges
  exact List.mem_map.2 ⟨(v : Int), List.mem_filter.2 ⟨h, by simp; omega⟩, rfl⟩
theorem halves_iff {g : List (List Int)} (hg : GOk g) : Halves g ↔ ∀ e ∈ edgesL g, ∀ u v : Nat, e = [(u : Int), (v : Int)] → sideV g u ≠ sideV g v := by
  constructor
  · intro h e he u v huv
    obtain ⟨u', v', h1, h2, h3, h4⟩ := edge_shape hg he
    rw [h1] at huv
    simp at huv
    have e1 : u' = u := by omega
    have e2 : v' = v := by omega
    subst e1 e2
    exact h u' h2 v' h4
  · intro h u hu v hv
    have hr := gok_range hg (u := (u : Int)) (by omega) (by omega) hv
    rcases Nat.lt_trichotomy u v with h1 | h1 | h1
    · exact h _ (edge_in hu hv h1) u v rfl
    · subst h1; exact absurd hv (hg.irr u hu)
    · have hs := hg.sym u hu _ hv
      have := h _ (edge_in (by omega) hs h1) v u rfl
      exact fun e => this e.symm
theorem side_far {g : List (List Int)} {v : Nat} (h : Way g (rootV g v) v) : ∃ d : Nat, far g (allL g.length) (rootV g v : Nat) (v : Int) = d ∧ ((d : Int).tmod 2 = sideV g v) := by
  obtain ⟨d, h1, _⟩ := far_spec h
  refine ⟨d, h1, ?_⟩
  unfold sideV
  rw [h1, Int.tmod_eq_emod_of_nonneg (by omega)]
theorem sidesL_len (g : List (List Int)) : (sidesL g).length ≤ 1048576 := by
  unfold sidesL
  split
  · rename_i h
    have := h.1.le
    simp [sideTo]; omega
  · exact Nat.zero_le _
set_option maxRecDepth 100000 in
set_option maxHeartbeats 8000000 in
theorem specSidesOf_any (a : Option Addr) (rs : List Row) (c : Nat) (w : World) (r0 : List Int) (r1 : Bool) (hx : sidesL (nums rs) = r0) (hx2 : sidesB (nums rs) = r1) (hr : RdM w a rs) (hn : Small rs) :
    Calls Tryd.prog 39 #[.agg #[.slice a rs.length c]] w (RetOwnT 2 (r0.map (.int .i64)) r1 w) := by
  subst hx hx2
  have RA := hid hr; clear hr
  have hn1 := hn.1
  obtain ⟨w0, hw0⟩ : ∃ w0, w0 = (w.alloc (.cells #[.slice a rs.length c] 29)) := ⟨_, rfl⟩
  have B0 := hid (show Below w.heap.size w w0 by rw [hw0]; exact ((Below.refl _ _).alloc (Nat.le_refl _) _))
  have c0 : w0.cell? ⟨w.heap.size, 0, none⟩ = some (.slice a rs.length c) := by rw [hw0]; simp [go_sem]
  replace RA := hid (RA.out.below B0.out (Nat.le_refl _))
  have HW := hid hw0; clear hw0
  by_cases hg : GOk (nums rs)
  · have h1 := hid (show decide (GOk (nums rs)) = true by simpa using hg)
    have h16 : rs.length ≤ 16 := by have := hg.le; rwa [nums_length] at this
    have hgl : (nums rs).length = rs.length := nums_length rs
    have HGL := hid hgl
    obtain ⟨RTL, hRTL⟩ : ∃ L, rootsTo (nums rs) rs.length = L := ⟨_, rfl⟩
    have HRTL := hid hRTL
    have HROOT := hid (fun i (hi : i < RTL.length) => (show RTL[i] < rs.length ∧ rootV (nums rs) RTL[i] = RTL[i] from rootsTo_mem.1 (by rw [hRTL]; exact List.getElem_mem hi)))
    have HIN := hid (fun v (hv : v < rs.length) => (show rootV (nums rs) v ∈ RTL by
      rw [← hRTL]; exact rootsTo_mem.2 ⟨by have := (root_spec (nums rs) v).2.1; omega, root_idem _ _⟩))
    have HSORT := hid (show RTL.Pairwise (· < ·) by rw [← hRTL]; exact rootsTo_sorted _ _)
    have HRLEN := hid (show RTL.length ≤ 16 by rw [← hRTL]; exact Nat.le_trans (rootsTo_len _ _) h16)
    have HPV := hid (show partsV (nums rs) = RTL.map (partV (nums rs)) by rw [← hRTL]; unfold partsV; rw [hgl])
    clear hRTL
    have HDL := hid (fun r (hr : r < rs.length) => (show distL (nums rs) (r : Int) = farL (nums rs) (allL rs.length) (r : Int) by
      rw [distL_ok ⟨hg, by omega, by rw [hgl]; omega⟩, hgl]
      unfold fromL
      rw [if_pos ((allL_mem _ _).2 ⟨by omega, by omega⟩)]))
    clear hgl
    go_enter Tryd.func39, Tryd.ntmps39
    go_wp2_with fail
    rw [← HW.out]
    go_wp2_with fail
    refine (specGraphOk_b a rs c _ _ h1.out RA.out hn).mono ?_
    rintro e w1 ⟨rfl, hb⟩
    replace RA := hid (RA.out.below hb (Nat.le_refl _))
    replace B0 := hid (bon B0.out hb)
    replace c0 := cellB hb c0 (Nat.le_refl _)
    clear hb
    go_wp2_with fail
    refine (l1Size_any a rs c _ hn1).mono ?_
    rintro e w2 ⟨rfl, hb⟩
    replace RA := hid (RA.out.below hb (Nat.le_refl _))
    replace B0 := hid (bon B0.out hb)
    replace c0 := cellB hb c0 (Nat.le_refl _)
    clear hb
    go_wp2_with (at_make; refine law_make tI64 _ rfl _ _ rfl rs.length _ _ rfl rfl (by omega) ?_; intro wm hown hb hsz; have c0m := cellB hb c0 (Nat.le_refl _))
    have OS := hid hown; clear hown
    have RA00 := hid RA.out; have B00 := hid B0.out; have c00 := hid c0
    have BL := hid hb
    replace RA := hid (RA.out.below hb (Nat.le_refl _))
    replace B0 := hid (bon B0.out hb)
    replace c0 := cellB hb c0 (Nat.le_refl _)
    clear hb
    clear c0m
    refine (specPartsOf_any a rs c _ hg RA.out hn).mono ?_
    rintro e wp ⟨pv, ps, rfl, hnp, hom, hb⟩
    obtain ⟨pa, pc, hpv, _⟩ := hom.rd
    subst hpv
    have OM := hid hom
    have HNP := hid hnp
    replace OS := hid (OS.out.past hb (Nat.le_refl _))
    replace BL := hid (bon BL.out hb)
    clear hom hnp hb RA B0 c0
    have HOMB := hid hsz
    have hsm : w2.heap.size ≤ wm.heap.size := by omega
    have hnp2 : nums ps = RTL.map (partV (nums rs)) := by rw [HNP.out, HPV.out]
    have HPL := hid (show ps.length = RTL.length by
      have h3 := congrArg List.length hnp2
      rwa [nums_length, List.length_map] at h3)
    have HPZ := hid (fun i (hi : i < ps.length) (hi2 : i < RTL.length) => (show ps[i].z = partV (nums rs) RTL[i] by
      have h3 : (nums ps)[i]'(by rw [nums_length]; exact hi) = (RTL.map (partV (nums rs)))[i]'(by rw [List.length_map]; exact hi2) := by simp [hnp2]
      rw [List.getElem_map] at h3
      rw [← h3]; simp [nums]))
    have hp16 : ps.length ≤ 16 := by rw [HPL.out]; exact HRLEN.out
    have HST := hid (SideAt.start (nums rs))
    have HREP := hid (show List.replicate rs.length (Value.int .i64 0) = (List.replicate (nums rs).length (0 : Int)).map (.int .i64) by rw [HGL.out]; simp)
    rw [HREP.out] at OS
    clear hnp2 hsz HREP HNP
    go_wp2
    go_loopw [6, 7, 8] (fun x _ _ wr => ∃ (i : Nat) (Z : List Int), i ≤ ps.length ∧ x = .int .i64 i ∧ SideAt (nums rs) (fun v => rootV (nums rs) v ∈ RTL.take i) Z ∧ Own 2 wr w2.heap.size (.slice (some ⟨w2.heap.size, 0, none⟩) rs.length rs.length) (Z.map (.int .i64)) ∧ OwnM 26 2 wr wm.heap.size (.slice pa ps.length pc) ps ∧ Below w2.heap.size w2 wr) (fun x _ _ _ => ps.length - (intOf x).toNat)
    case atStart => exact ⟨0, _, Nat.zero_le _, rfl, HST.out.congr (fun v _ => by simp), OS.out, OM.out, BL.out⟩
    case round =>
      clear OS OM BL HST
      obtain ⟨i, Z, hi, rfl, hsa, hos, hom, hb⟩ := hrel
      have HSA := hid hsa; have OS := hid hos; have OM := hid hom; have BL := hid hb
      have RA := hid (RA00.out.below hb (Nat.le_refl _))
      have B0 := hid (B00.out.trans (hb.mono B00.out.size))
      have c0 := cellB hb c00.out (Nat.le_refl _)
      clear hsa hos hom hb
      by_cases hlt : i < ps.length
      · have hii : (i : Int) < (ps.length : Int) := by omega
        have hir : i < RTL.length := by rw [← HPL.out]; exact hlt
        obtain ⟨hr1, hr2⟩ := HROOT.out i hir
        have HZ := hid (HPZ.out i hlt hir)
        have RM := hid OM.out.rdm
        obtain ⟨pb, po, hpa, cr, hok⟩ := RM.out.at i hlt
        rw [HZ.out] at cr
        have hrd := hok.1
        rw [HZ.out] at hrd
        have HNXT := hid (List.take_succ_eq_append_getElem hir)
        generalize hrr : RTL[i] = r at *
        have h0 : 0 < (partV (nums rs) r).length := List.length_pos_of_mem (root_part (by rw [HGL.out]; exact hr1) hr2)
        have hhead := part_head (by rw [HGL.out]; exact hr1) hr2 h0
        have hql : (partV (nums rs) r).length ≤ 16 := Nat.le_trans (partV_len _ _) (by rw [HGL.out]; exact h16)
        have RQ := hid hrd
        obtain ⟨qb1, qo1, hqa, cq⟩ := hrd 0 h0
        rw [hhead, Nat.add_zero] at cq
        have HDR := hid (HDL.out r hr1)
        have h0i : (0 : Int) < ((partV (nums rs) r).length : Int) := by omega
        generalize ps[i].a = qa at *
        generalize ps[i].c = qc at *
        subst hpa hqa
        have HRR := hid hrr
        have HR2 := hid hr2
        clear hhead hok hrd RM HZ hrr hr2
        go_wp2
        have D3 : Drawn wr wr.drew := ⟨1, rfl⟩
        have f0 := dcell D3 c0
        have f1 := dcell D3 cr
        have f2 := dcell D3 cq
        have RA3 := hid (RA.out.drawn D3)
        have OS3 := hid (OS.out.past (D3.below wr.heap.size) (Nat.le_refl _))
        have OM3 := hid (OM.out.past (D3.below wr.heap.size) (Nat.le_refl _))
        have RQ3 := hid (RQ.out.below (D3.below wr.heap.size) (Nat.le_refl _))
        have BL3 := hid (bon BL.out (D3.below wr.heap.size))
        obtain ⟨F, hF⟩ : ∃ F, farL (nums rs) (allL rs.length) (r : Int) = F := ⟨_, rfl⟩
        have HFL := hid (show F.length = rs.length by rw [← hF, farL_len, HGL.out])
        have HFG := hid (fun v (hv : v < rs.length) => (show F.getD v 0 = far (nums rs) (allL rs.length) (r : Int) (v : Int) by
          rw [← hF]; exact farL_get (x := (v : Int)) (by omega) (by rw [HGL.out]; omega)))
        have HDF := hid (HDR.out.trans hF)
        have hI : I64 (r : Int) := ⟨by omega, by omega⟩
        clear hF OS OM BL RQ RA B0 c0 cr cq HDR
        go_region_held3 (fun w' => w'.cell? ⟨w.heap.size, 0, none⟩ = some (.slice a rs.length c) ∧ w'.cell? ⟨pb, po + i, none⟩ = some (.slice (some ⟨qb1, qo1, none⟩) (partV (nums rs) r).length qc) ∧ w'.cell? ⟨qb1, qo1, none⟩ = some (.int .i64 r)) (first | exact ⟨f0, f1, f2⟩ | exact ⟨g0, g1, g2⟩) ((first | (go_at_call 92; refine (specDistancesFrom_any a rs c (r : Int) _ F HDF.out RA3.out hn hI).mono ?_; rintro e w4 ⟨fv, rfl, hown, hb⟩; obtain ⟨fa, fc, rfl, _⟩ := Own.rd hown; have g0 := cellB hb f0 (Nat.le_refl _); have g1 := cellB hb f1 (Nat.le_refl _); have g2 := cellB hb f2 (Nat.le_refl _); have OS4 := hid (OS3.out.past hb (Nat.le_refl _)); have OM4 := hid (OM3.out.past hb (Nat.le_refl _)); have BL4 := hid (bon BL3.out hb); have OF4 := hid hown; clear hown hb)))
        rw [HFL.out] at OF4
        have OF5 := hid (OF4.out.base (B' := wm.heap.size) (by have h3 := OM3.out.outer.ge pb rfl; have h4 := OM3.out.outer.lt pb rfl; omega))
        clear g0 g1 g2 f0 f1 f2 OS3 OM3 BL3 RA3 RQ3 OF4
        rw [HFL.out]
        go_wp2
        go_loopw [8] (fun y wq => ∃ (k : Nat) (Z : List Int), k ≤ (partV (nums rs) r).length ∧ y = .int .i64 k ∧ SideAt (nums rs) (fun v => rootV (nums rs) v ∈ RTL.take i ∨ (v : Int) ∈ (partV (nums rs) r).take k) Z ∧ Own 2 wq w2.heap.size (.slice (some ⟨w2.heap.size, 0, none⟩) rs.length rs.length) (Z.map (.int .i64)) ∧ OwnM 26 2 wq wm.heap.size (.slice (some ⟨pb, po, none⟩) ps.length pc) ps ∧ Own 2 wq wm.heap.size (.slice fa rs.length fc) (F.map (.int .i64)) ∧ Below w2.heap.size w2 wq) (fun y _ => (partV (nums rs) r).length - (intOf y).toNat)
        case atStart => exact ⟨0, Z, Nat.zero_le _, rfl, HSA.out.congr (fun v _ => by simp), OS4.out, OM4.out, OF5.out, BL4.out⟩
        case round =>
          clear OS4 OM4 OF5 BL4 HSA
          obtain ⟨k, Z, hk, rfl, hsa, hos, hom, hof, hb⟩ := hrel
          have HSA := hid hsa; have OS := hid hos; have OM := hid hom; have OF := hid hof; have BL := hid hb
          clear hsa hos hom hof hb
          obtain ⟨pb', po', hpa, cr, hok⟩ := OM.out.rdm.at i hlt
          obtain ⟨rfl, rfl⟩ : pb = pb' ∧ po = po' := by simp at hpa; exact hpa
          have hzi := HPZ.out i hlt hir
          rw [HRR.out] at hzi
          have HRD := hid (show Rd (Value.int .i64) wr ps[i].a (partV (nums rs) r) by rw [← hzi]; exact hok.1)
          rw [hzi] at cr
          clear hpa hok hzi
          by_cases hlk : k < (partV (nums rs) r).length
          · have hkq : (k : Int) < ((partV (nums rs) r).length : Int) := by omega
            obtain ⟨v, hv, hvr, hve⟩ := partV_mem.1 (List.getElem_mem hlk)
            rw [HGL.out] at hv
            have HTK := hid (List.take_succ_eq_append_getElem hlk)
            rw [hve] at HTK
            have hrd := HRD.out
            obtain ⟨xb, xo, hxa, cx⟩ := hrd k hlk
            rw [hve] at cx
            rw [hxa] at cr
            obtain ⟨fb, fo, hfa, cf⟩ := (Own.rd OF.out).elim (fun a' h => h.elim (fun c' h => by
              obtain ⟨h3, h4, _⟩ := h
              obtain ⟨h5, _, _⟩ := slice_inj h3
              exact (show ∃ b o, fa = some ⟨b, o, none⟩ ∧ wr.cell? ⟨b, o + v, none⟩ = some (.int .i64 (F[v]'(by rw [HFL.out]; exact hv))) from by
                obtain ⟨b, o, h6, h7⟩ := h4 v (by rw [HFL.out]; exact hv)
                exact ⟨b, o, by rw [h5, h6], h7⟩)))
            have hway : Way (nums rs) (rootV (nums rs) v) v := (root_spec (nums rs) v).1
            obtain ⟨d, hd, hmt⟩ := side_far hway
            rw [hvr, HGL.out] at hd
            have hFv : F[v]'(by rw [HFL.out]; exact hv) = (d : Int) := by
              rw [← getD_eq F v (by rw [HFL.out]; exact hv), HFG.out v hv, hd]
            rw [hFv] at cf
            have hset := HSA.out.set (R' := fun u => rootV (nums rs) u ∈ RTL.take i ∨ (u : Int) ∈ (partV (nums rs) r).take (k + 1)) v (fun u _ => by
              rw [HTK.out, List.mem_append, List.mem_singleton]
              constructor
              · rintro (h | h | h)
                · exact .inl (.inl h)
                · exact .inl (.inr h)
                · exact .inr (by omega)
              · rintro ((h | h) | h)
                · exact .inl h
                · exact .inr (.inl h)
                · exact .inr (.inr (by omega)))
            generalize sideV (nums rs) v = sv at *
            have HSET := hid hset
            have hvi : (v : Int) < (rs.length : Int) := by omega
            have hZl : Z.length = rs.length := by rw [HSA.out.1, HGL.out]
            have HZL := hid hZl
            subst hfa
            clear hrd hxa hve hvr hway hd hFv hset hZl HSA HTK
            go_wp2
            have qcr := fun (p : Bel _) => cellB p.h cr (Nat.le_refl _)
            have qcx := fun (p : Bel _) => cellB p.h cx (Nat.le_refl _)
            have qcf := fun (p : Bel _) => cellB p.h cf (Nat.le_refl _)
            refine wp_quiet_tail_b 20 (by kernel_rfl) (by kernel_rfl) ?_
            simp only [List.take_succ_cons, List.take_zero, List.drop_succ_cons, List.drop_zero]
            repeat (go_big_quiet_step (fail))
            refine wpQuiet_nil ?_
            intro _ hw'
            obtain ⟨⟨w3, hb⟩, rfl⟩ := hw'
            clear qcr qcx qcf
            replace OS := hid (OS.out.past hb (Nat.le_refl _))
            replace OM := hid (OM.out.past hb (Nat.le_refl _))
            replace OF := hid (OF.out.past hb (Nat.le_refl _))
            replace BL := hid (bon BL.out hb)
            replace cr := cellB hb cr (Nat.le_refl _)
            replace cx := cellB hb cx (Nat.le_refl _)
            replace cf := cellB hb cf (Nat.le_refl _)
            clear hb
            rename_i wt
            have hst := OS.out.store v (by rw [List.length_map, HZL.out]; exact hv) (.int .i64 sv)
            have hce := OS.out.cell v (by rw [List.length_map, HZL.out]; exact hv)
            have hfr := OS.out.free v
            rw [← List.map_set] at hst
            have OS2 := hid hst
            have OM2 := hid (OM.out.setCell_below (p := ⟨w2.heap.size, v, none⟩) (by simp only; exact HOMB.out) (.int .i64 sv))
            have OF2 := hid (OF.out.setCell_below (p := ⟨w2.heap.size, v, none⟩) (by simp only; exact HOMB.out) (.int .i64 sv))
            have BL2 := hid (BL.out.setCell (p := ⟨w2.heap.size, v, none⟩) (Nat.le_refl _) (.int .i64 sv))
            clear hst OS OM OF BL
            go_wp2
            go_roundw
            case rel => exact ⟨k + 1, Z.set v sv, by omega, by go_num, HSET.out, OS2.out, OM2.out, OF2.out, BL2.out⟩
            case measure => simp [intOf]; omega
          · obtain rfl : k = (partV (nums rs) r).length := by omega
            have HSN := hid (show SideAt (nums rs) (fun v => rootV (nums rs) v ∈ RTL.take (i + 1)) Z from HSA.out.congr (fun v hv => by
              rw [HNXT.out, List.mem_append, List.mem_singleton, List.take_length]
              constructor
              · rintro (h | h)
                · exact .inl h
                · exact .inr (partV_mem.2 ⟨v, hv, h, rfl⟩)
              · rintro (h | h)
                · exact .inl h
                · obtain ⟨u, _, h2, h3⟩ := partV_mem.1 h
                  have : u = v := by omega
                  exact .inr (by rw [← this]; exact h2)))
            go_wp2
            go_roundw
            case rel => exact ⟨i + 1, Z, by omega, by go_num, HSN.out, OS.out, OM.out, BL.out⟩
            case measure => simp [intOf]; omega
      · obtain rfl : i = ps.length := by omega
        have HZ := hid (SideAt.all HSA.out (fun v hv => by rw [HPL.out, List.take_length]; exact HIN.out v (by rw [HGL.out] at hv; exact hv)))
        rw [HZ.out, HGL.out] at OS
        have HSG := hid (fun v (hv : v < rs.length) => (show ((sideTo (nums rs) rs.length).map (Value.int .i64))[v]'(by simp [sideTo]; exact hv) = .int .i64 (sideV (nums rs) v) by simp [sideTo]))
        have HHV := hid (halves_iff hg)
        clear HZ HSA OM
        go_wp2_with fail
        refine (l1Edges_any a rs c _ hg RA.out).mono ?_
        rintro e we ⟨ev, es, rfl, hnp, hom, hb⟩
        obtain ⟨ea, ec, hev, _⟩ := hom.rd
        subst hev
        have RE := hid hom.rdm
        have HNE := hid hnp
        have hes : es.length ≤ 1000 := by
          have h3 := edgesTo_len (nums rs) (nums rs).length (fun v hv => gok_row_len hg v hv)
          have h4 : (nums es).length = (edgesL (nums rs)).length := by rw [hnp]
          rw [nums_length] at h4
          have h5 : (edgesL (nums rs)).length ≤ 16 * (nums rs).length := h3
          rw [HGL.out] at h5
          omega
        have HES := hid (fun e (he : e ∈ nums es) => edge_shape hg (by rw [← hnp]; exact he))
        clear hom hnp
        replace OS := hid (OS.out.past hb (Nat.le_refl _))
        replace B0 := hid (bon B0.out hb)
        clear hb
        clear RA c0 BL
        go_wp2
        go_loopw [10] (fun x wq => ∃ j : Nat, j ≤ es.length ∧ x = .int .i64 j ∧ (∀ e ∈ (nums es).take j, ∀ u v : Nat, e = [(u : Int), (v : Int)] → sideV (nums rs) u ≠ sideV (nums rs) v) ∧ Below we.heap.size we wq) (fun x _ => es.length - (intOf x).toNat)
        case atStart => exact ⟨0, Nat.zero_le _, rfl, (fun e he => by simp at he), Below.refl _ _⟩
        case round =>
          obtain ⟨j, hj, rfl, hdf, hb⟩ := hrel
          have HDIF := hid hdf; clear hdf
          have BL := hid hb
          replace OS := hid (OS.out.past hb (Nat.le_refl _))
          replace RE := hid (RE.out.below hb (Nat.le_refl _))
          replace B0 := hid (bon B0.out hb)
          clear hb
          by_cases hlj : j < es.length
          · have hji : (j : Int) < (es.length : Int) := by omega
            have hjn : j < (nums es).length := by rw [nums_length]; exact hlj
            have hzz : (nums es)[j] = es[j].z := by simp [nums]
            have HTK := hid (List.take_succ_eq_append_getElem hjn)
            obtain ⟨u, v, huv, hu, hv, _⟩ := HES.out _ (List.getElem_mem hjn)
            rw [huv] at HTK
            rw [hzz] at huv
            obtain ⟨eb, eo, rfl, ce, hok⟩ := RE.out.at j hlj
            have hRd := hok.1
            rw [huv] at ce hRd
            obtain ⟨xb, xo, hxa, cu⟩ := hRd 0 (by simp)
            obtain ⟨xb', xo', hxa', cv⟩ := hRd 1 (by simp)
            obtain ⟨rfl, rfl⟩ : xb = xb' ∧ xo = xo' := by rw [hxa] at hxa'; simp at hxa'; exact hxa'
            rw [hxa] at ce
            simp only [List.length_cons, List.length_nil, Nat.add_zero, List.getElem_cons_zero, List.getElem_cons_succ] at ce cu cv
            rw [HGL.out] at hu hv
            have csu := OS.out.cell u (by simp [sideTo]; exact hu)
            have csv := OS.out.cell v (by simp [sideTo]; exact hv)
            rw [HSG.out u hu] at csu
            rw [HSG.out v hv] at csv
            have hui : (u : Int) < (rs.length : Int) := by omega
            have hvi : (v : Int) < (rs.length : Int) := by omega
            clear hxa hxa' huv hok hRd hzz hjn
            by_cases hxy : sideV (nums rs) u = sideV (nums rs) v
            · have HNO := hid (show ¬ Halves (nums rs) from fun hh => (HHV.out.1 hh) _ (show [(u : Int), (v : Int)] ∈ edgesL (nums rs) by
                rw [← HNE.out]
                have h3 : [(u : Int), (v : Int)] ∈ (nums es).take (j + 1) := by rw [HTK.out]; simp
                exact List.mem_of_mem_take h3) u v rfl hxy)
              have heb : (sideV (nums rs) u == sideV (nums rs) v) = true := by simpa using hxy
              generalize sideV (nums rs) u = su at *
              generalize sideV (nums rs) v = sv at *
              go_wp2
              have qce := fun (p : Bel _) => cellB p.h ce (Nat.le_refl _)
              have qcu := fun (p : Bel _) => cellB p.h cu (Nat.le_refl _)
              have qcv := fun (p : Bel _) => cellB p.h cv (Nat.le_refl _)
              have qcsu := fun (p : Bel _) => cellB p.h csu (Nat.le_refl _)
              have qcsv := fun (p : Bel _) => cellB p.h csv (Nat.le_refl _)
              refine wp_quiet_b (by kernel_rfl) (by kernel_rfl) ?_
              repeat (go_big_quiet_step (fail))
              refine wpQuiet_nil ?_
              intro _ hw'
              obtain ⟨⟨w4, hb⟩, rfl⟩ := hw'
              clear qce qcu qcv qcsu qcsv
              replace OS := hid (OS.out.past hb (Nat.le_refl _))
              replace RE := hid (RE.out.below hb (Nat.le_refl _))
              replace B0 := hid (bon B0.out hb)
              replace BL := hid (bon BL.out hb)
              replace ce := cellB hb ce (Nat.le_refl _)
              replace cu := cellB hb cu (Nat.le_refl _)
              replace cv := cellB hb cv (Nat.le_refl _)
              replace csu := cellB hb csu (Nat.le_refl _)
              replace csv := cellB hb csv (Nat.le_refl _)
              clear hb
              rename_i wi
              have HE := hid (own_new 2 wi [] (by decide))
              have BB := hid (bon B0.out (alloc_below wi (.cells #[] 2)))
              have HR := hid (show sidesL (nums rs) = [] by unfold sidesL; rw [if_neg (fun h => HNO.out h.2)])
              have HB := hid (show sidesB (nums rs) = false by unfold sidesB; rw [decide_eq_false_iff_not]; exact fun h => HNO.out h.2)
              go_wp2
              go_ret2
              rw [HB.out]
              exact ⟨_, rfl, by rw [HR.out]; exact HE.out.base B0.out.size, BB.out⟩
            · have HD2 := hid (show ∀ e ∈ (nums es).take (j + 1), ∀ u v : Nat, e = [(u : Int), (v : Int)] → sideV (nums rs) u ≠ sideV (nums rs) v from fun e he u' v' h3 => by
                rw [HTK.out, List.mem_append, List.mem_singleton] at he
                rcases he with h4 | h4
                · exact HDIF.out e h4 u' v' h3
                · rw [h4] at h3
                  simp at h3
                  have e1 : u' = u := by omega
                  have e2 : v' = v := by omega
                  rw [e1, e2]; exact hxy)
              have heb : (sideV (nums rs) u == sideV (nums rs) v) = false := by simpa using hxy
              generalize sideV (nums rs) u = su at *
              generalize sideV (nums rs) v = sv at *
              go_wp2
              have qce := fun (p : Bel _) => cellB p.h ce (Nat.le_refl _)
              have qcu := fun (p : Bel _) => cellB p.h cu (Nat.le_refl _)
              have qcv := fun (p : Bel _) => cellB p.h cv (Nat.le_refl _)
              have qcsu := fun (p : Bel _) => cellB p.h csu (Nat.le_refl _)
              have qcsv := fun (p : Bel _) => cellB p.h csv (Nat.le_refl _)
              refine wp_quiet_b (by kernel_rfl) (by kernel_rfl) ?_
              repeat (go_big_quiet_step (fail))
              refine wpQuiet_nil ?_
              intro _ hw'
              obtain ⟨⟨w5, hb⟩, rfl⟩ := hw'
              clear qce qcu qcv qcsu qcsv
              replace OS := hid (OS.out.past hb (Nat.le_refl _))
              replace RE := hid (RE.out.below hb (Nat.le_refl _))
              replace B0 := hid (bon B0.out hb)
              replace BL := hid (bon BL.out hb)
              replace ce := cellB hb ce (Nat.le_refl _)
              replace cu := cellB hb cu (Nat.le_refl _)
              replace cv := cellB hb cv (Nat.le_refl _)
              replace csu := cellB hb csu (Nat.le_refl _)
              replace csv := cellB hb csv (Nat.le_refl _)
              clear hb
              rename_i wi
              go_wp2
              go_roundw
              case rel => exact ⟨j + 1, by omega, by go_num, HD2.out, BL.out⟩
              case measure => simp [intOf]; omega
          · obtain rfl : j = es.length := by omega
            have HYES := hid (show Halves (nums rs) from HHV.out.2 (fun e he => HDIF.out e (by rw [List.take_of_length_le (by rw [nums_length]; exact Nat.le_refl _), HNE.out]; exact he)))
            have HR := hid (show sidesL (nums rs) = sideTo (nums rs) rs.length by unfold sidesL; rw [if_pos ⟨hg, HYES.out⟩, HGL.out])
            have HB := hid (show sidesB (nums rs) = true by unfold sidesB; rw [decide_eq_true_iff]; exact ⟨hg, HYES.out⟩)
            go_wp2
            go_ret2
            rw [HB.out]
            exact ⟨_, rfl, by rw [HR.out]; exact OS.out.base B00.out.size, B0.out⟩
  · have h1 := hid (show decide (GOk (nums rs)) = false by simpa using hg)
    have HR := hid (show sidesL (nums rs) = [] by unfold sidesL; rw [if_neg (fun h => hg h.1)])
    have HB := hid (show sidesB (nums rs) = false by unfold sidesB; rw [decide_eq_false_iff_not]; exact fun h => hg h.1)
    go_enter Tryd.func39, Tryd.ntmps39
    go_wp2_with fail
    rw [← HW.out]
    go_wp2_with fail
    refine (specGraphOk_b a rs c _ _ h1.out RA.out hn).mono ?_
    rintro e wq ⟨rfl, hb⟩
    replace B0 := hid (bon B0.out hb)
    replace c0 := cellB hb c0 (Nat.le_refl _)
    have HE := hid (own_new 2 wq [] (by decide))
    clear hb
    have hb := alloc_below wq (.cells #[] 2)
    have BB := hid (bon B0.out hb)
    clear hb
    go_wp2
    go_ret2
    rw [HB.out]
    exact ⟨_, rfl, by rw [HR.out]; exact HE.out.base B0.out.size, BB.out⟩
end Go.Proofs.YtalfbldkdlanoaaDoor
