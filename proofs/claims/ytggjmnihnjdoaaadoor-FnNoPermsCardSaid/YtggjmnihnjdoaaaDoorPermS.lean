/- Permutation graphs: the reference's. -/
import Derived.Test.YtggjmnihnjdoaaaDoorOther
import Derived.Test.YtggjmnihnjdoaaaDoorPermI
namespace Go.Proofs.YtggjmnihnjdoaaaDoor
open Go.RowKit
section
theorem ret_cell_tmp {fn : Func} {c d : Tmp} {t : TypeId} (h : fn.results = #[.cell c t, .tmp d]) (tmps : Array Value) (P : Program) (w : World) (ad : Addr) (v u : Value) (ha : tmps.getD c undef = .pointer (some ad)) (hu : tmps.getD d undef = u) (hl : (loadVar t ad).run P w = .ok v w) : (results fn tmps).run P w = .ok (.tuple #[v, u]) w := by
  have ha2 : tmps[c]?.getD undef = .pointer (some ad) := by rw [← Array.getD_eq_getD_getElem?]; exact ha
  have hu2 : tmps[d]?.getD undef = u := by rw [← Array.getD_eq_getD_getElem?]; exact hu
  simp [results, h, ha2, hu2, asAddr, hl]
def ComplPost (g : List (List Int)) (n : Nat) (w : World) (e : Ending) (w' : World) : Prop :=
  Below w.heap.size w w' ∧ ((GOk g ∧ ∃ gb cap, e = .returned (.tuple #[.agg #[.slice (some ⟨gb, 0, none⟩) n cap], .bool true]) ∧ OwnG (fun _ => False) w' w.heap.size gb n cap (compA n (g.map maskL))) ∨ (¬ GOk g ∧ e = .returned (.tuple #[.agg #[.slice none 0 0], .bool false])))
set_option maxHeartbeats 2000000 in
theorem specComplement_any (a : Option Addr) (rs : List Row) (c : Nat) (w : World) (hr : RdM w a rs) (hn : Small rs) :
    Calls Tryd.prog 41 #[.agg #[.slice a rs.length c]] w (ComplPost (nums rs) rs.length w) := by
  have RA := hid hr; clear hr
  obtain ⟨w0, hw0⟩ : ∃ w0, w0 = ((w.alloc (.cells #[.slice a rs.length c] 28)).alloc (.cells #[.slice none 0 0] 28)) := ⟨_, rfl⟩
  have B0 := hid (show Below w.heap.size w w0 by rw [hw0]; exact (((Below.refl _ _).alloc (Nat.le_refl _) _).alloc (by simp) _))
  have c0 : w0.cell? ⟨w.heap.size, 0, none⟩ = some (.slice a rs.length c) := by rw [hw0]; simp [go_sem]
  have c1 : w0.cell? ⟨w.heap.size + 1, 0, none⟩ = some (.slice none 0 0) := by rw [hw0]; simp [go_sem]
  replace RA := hid (RA.out.below B0.out (Nat.le_refl _))
  have HW := hid hw0; clear hw0
  have hsz0 : w0.heap.size = w.heap.size + 2 := by rw [HW.out]; simp
  have OR := hid (show Own 28 w0 (w.heap.size + 1) (.slice (some ⟨w.heap.size + 1, 0, none⟩) 1 1) [.slice none 0 0] by
    have h := own_new 28 (w.alloc (.cells #[.slice a rs.length c] 28)) [.slice none 0 0] (by simp [maxLen])
    rw [HW.out]
    simpa using h)
  clear c1
  by_cases hg : GOk (nums rs)
  · have H1 := hid (show decide (GOk (nums rs)) = true by simpa using hg)
    have HGA := hid (show GA rs.length ((nums rs).map maskL) by have := GA.of hg; rwa [nums_length] at this)
    have HNM := hid (show nums rs = ((nums rs).map maskL).map mems by
      rw [List.map_map]
      apply List.ext_getElem (by simp)
      intro i h1 h2
      have hi : i < (nums rs).length := h1
      have h3 := mems_maskL (hg.inc i hi) (by have := hg.le; omega)
      rw [row_nat _ _ hi] at h3
      simp [h3])
    have HG := hid hg
    clear hg
    go_enter Tryd.func41, Tryd.ntmps41
    go_wp2_with fail
    rw [← HW.out]
    go_wp2_with fail
    refine (specGraphOk_b a rs c _ true H1.out RA.out hn).mono ?_
    rintro e w1 ⟨rfl, hb⟩
    replace RA := hid (RA.out.below hb (Nat.le_refl _))
    replace B0 := hid (bon B0.out hb)
    replace c0 := cellB hb c0 (Nat.le_refl _)
    replace OR := hid (OR.out.past hb (Nat.le_refl _))
    clear hb
    have hs1 := B0.out.size
    go_wp2_with fail
    refine (l2Other_any a rs c rs.length _ _ rfl HGA.out HNM.out RA.out hn).mono ?_
    rintro e w2 ⟨gb, cap, rfl, hog, hb⟩
    have OR2 := hid (OR.out.past hb (Nat.le_refl _))
    have c1 := OR2.out.cell 0 (by simp)
    rw [List.getElem_cons_zero] at c1
    have hfr := OR2.out.free 0
    have hr1 := OR.out.lt (w.heap.size + 1) rfl
    have OG2 := hid (show OwnG (fun _ => False) (w2.setCell ⟨w.heap.size + 1, 0, none⟩ (.slice (some ⟨gb, 0, none⟩) rs.length cap)) w.heap.size gb rs.length cap (compA rs.length ((nums rs).map maskL)) from by
      obtain ⟨ps, h1, h2, h3⟩ := hog
      exact ⟨ps, (h1.setCell_below (by simp only; omega) _).base hs1, h2, h3⟩)
    have LB2 := hid (show Below w.heap.size w (w2.setCell ⟨w.heap.size + 1, 0, none⟩ (.slice (some ⟨gb, 0, none⟩) rs.length cap)) from Below.setCell (bon B0.out hb) (p := ⟨w.heap.size + 1, 0, none⟩) (by simp only; omega) _)
    have c110 : (w2.setCell ⟨w.heap.size + 1, 0, none⟩ (.slice (some ⟨gb, 0, none⟩) rs.length cap)).cell? ⟨w.heap.size + 1, 0, none⟩ = some (.slice (some ⟨gb, 0, none⟩) rs.length cap) := by
      have h := (OR2.out.store 0 (by simp) (.slice (some ⟨gb, 0, none⟩) rs.length cap)).cell 0 (by simp)
      simpa using h
    have HC110 := hid c110
    clear c110 hog hb
    go_wp2
    refine bodyPost_ret (ret_cell_tmp rfl _ _ _ ⟨w.heap.size + 1, 0, none⟩ (.agg #[.slice (some ⟨gb, 0, none⟩) rs.length cap]) (.bool true) rfl rfl ?_) rfl ⟨LB2.out, .inl ⟨HG.out, gb, cap, rfl, OG2.out⟩⟩
    have c110 := HC110.out
    clear OG2 LB2
    go_simp
  · have H1 := hid (show decide (GOk (nums rs)) = false by simpa using hg)
    have HG := hid hg
    clear hg
    go_enter Tryd.func41, Tryd.ntmps41
    go_wp2_with fail
    rw [← HW.out]
    go_wp2_with fail
    refine (specGraphOk_b a rs c _ false H1.out RA.out hn).mono ?_
    rintro e w2 ⟨rfl, hb⟩
    replace RA := hid (RA.out.below hb (Nat.le_refl _))
    replace B0 := hid (bon B0.out hb)
    replace c0 := cellB hb c0 (Nat.le_refl _)
    replace OR := hid (OR.out.past hb (Nat.le_refl _))
    clear hb
    have c1 := OR.out.cell 0 (by simp)
    rw [List.getElem_cons_zero] at c1
    have hfr := OR.out.free 0
    have LB2 := hid (show Below w.heap.size w (w2.setCell ⟨w.heap.size + 1, 0, none⟩ (.slice none 0 0)) from Below.setCell B0.out (p := ⟨w.heap.size + 1, 0, none⟩) (by simp only; omega) _)
    have c110 : (w2.setCell ⟨w.heap.size + 1, 0, none⟩ (.slice none 0 0)).cell? ⟨w.heap.size + 1, 0, none⟩ = some (.slice none 0 0) := by
      have h := (OR.out.store 0 (by simp) (.slice none 0 0)).cell 0 (by simp)
      simpa using h
    have HC110 := hid c110
    clear c110
    go_wp2
    refine bodyPost_ret (ret_cell_tmp rfl _ _ _ ⟨w.heap.size + 1, 0, none⟩ (.agg #[.slice none 0 0]) (.bool false) rfl rfl ?_) rfl ⟨LB2.out, .inr ⟨HG.out, rfl⟩⟩
    have c110 := HC110.out
    clear LB2
    go_simp
theorem sOri_flat {g : List (List Int)} {w : World} {e : Ending} {w' : World} (h : SOriPost g w e w') : ∃ a c us, e = .returned (.tuple #[.slice a us.length c, .bool (oriG g).isSome]) ∧ OwnM 41 2 w' w.heap.size (.slice a us.length c) us ∧ (∀ H, oriG g = some H → nums us = H.map mems) ∧ Below w.heap.size w w' := by
  obtain ⟨hb, ⟨H, a, c, us, ho, he, hown, hnu⟩ | ⟨ho, a, c, he, hown⟩⟩ := h
  · exact ⟨a, c, us, by rw [ho]; exact he, hown, fun H' hH' => (by rw [ho] at hH'; injection hH' with hH'; rw [← hH']; exact hnu), hb⟩
  · exact ⟨a, c, [], by rw [ho]; exact he, hown, fun H' hH' => (by rw [ho] at hH'; cases hH'), hb⟩
theorem specOriented_n (a : Option Addr) (rs : List Row) (n c : Nat) (w : World) (hl : rs.length = n) (hr : RdM w a rs) (hn : Small rs) :
    Calls Tryd.prog 42 #[.agg #[.slice a n c]] w (SOriPost (nums rs) w) := by
  subst hl; exact specOriented_any a rs c w hr hn
def intV (x : Nat) : Value := .int .i64 (x : Int)
set_option maxHeartbeats 2000000 in
theorem l15Order_any (xb n cap : Nat) (L : List Nat) (pos : Nat → Nat) (w : World) (hl : L.length = n) (h16 : n ≤ 16) (hx : ∀ v, v < n → L.getD v 0 = pos v) (hp : ∀ v, v < n → pos v < n) (hr : Rd intV w (some ⟨xb, 0, none⟩) L) :
    Calls Tryd.prog 85 #[.slice (some ⟨xb, 0, none⟩) n cap] w (RetOwn 2 ((lineL n pos).map (.int .i64)) w) := by
  have RX := hid hr; have HL := hid hl; have HX := hid hx; have HP := hid hp
  clear hr hl hx hp
  go_enter Tryd.func85, Tryd.ntmps85
  go_wp2_with (at_make; refine law_make tI64 _ rfl _ _ rfl n _ _ rfl rfl (by omega) ?_; intro wm hown hb hsz; have HO := hid hown; have B0 := hid hb; clear hown hb)
  have HO0 := hid (show Own 2 wm w.heap.size (.slice (some ⟨w.heap.size, 0, none⟩) n n) ((lineTo n pos 0).map (.int .i64)) from by
    have h := HO.out
    unfold lineTo
    simpa using h)
  clear HO
  go_loopw [4] (fun i wr => ∃ k, k ≤ n ∧ i = .int .i64 (k : Nat) ∧ Own 2 wr w.heap.size (.slice (some ⟨w.heap.size, 0, none⟩) n n) ((lineTo n pos k).map (.int .i64)) ∧ Below w.heap.size w wr) (fun i _ => n - (intOf i).toNat)
  case atStart => exact ⟨0, Nat.zero_le _, rfl, HO0.out, B0.out⟩
  case round =>
    obtain ⟨k, hk, rfl, ho, hb⟩ := hrel
    have HOM := hid ho; have HB := hid hb; clear ho hb
    by_cases hlt : k < n
    · have hkX : k < L.length := by have := HL.out; omega
      obtain ⟨b', o', hadd, hc⟩ := (RX.out.below HB.out (Nat.le_refl _)) k hkX
      obtain ⟨rfl, rfl⟩ : xb = b' ∧ 0 = o' := by simpa using hadd
      rw [← getD_in hkX, Nat.zero_add, HX.out k hlt] at hc
      have hki : (k : Int) < (n : Int) := by omega
      have hps16 := HP.out k hlt
      have HS := hid (lineTo_succ n pos k)
      have HLL := hid (show ((lineTo n pos k).map (Value.int .i64)).length = n by rw [List.length_map, lineTo_len])
      clear hadd
      generalize pos k = ps at *
      have hpsn : (ps : Int) < (n : Int) := by omega
      unfold intV at hc
      obtain ⟨v0, c6⟩ := HOM.out.cellE ps hps16
      have hfr := HOM.out.free ps
      have hst := HOM.out.store ps (by rw [HLL.out]; exact hps16) (.int .i64 k)
      rw [← List.map_set, ← HS.out] at hst
      have HST := hid hst
      have HB7 := hid (Below.setCell HB.out (p := ⟨w.heap.size, ps, none⟩) (Nat.le_refl _) (.int .i64 (k : Nat)))
      clear hst
      go_wp2
      go_roundw
      case rel => exact ⟨k + 1, by omega, by go_num, HST.out, HB7.out⟩
      case measure => simp [intOf]; omega
    · obtain rfl : k = n := by omega
      go_wp2
      go_ret
      exact ⟨_, rfl, HOM.out, HB.out⟩
theorem oriG_nil : oriG [] = none := by
  unfold oriG
  rw [if_neg]
  intro h
  have := (GA.of h).pos
  simp at this
theorem compl_flat {rs : List Row} {w : World} {e : Ending} {w' : World} (h : ComplPost (nums rs) rs.length w e w') : ∃ a c qs b, e = .returned (.tuple #[.agg #[.slice a qs.length c], .bool b]) ∧ RdM w' a qs ∧ Small qs ∧ permG (nums rs) = ((oriG (nums rs)).bind fun U => (oriG (nums qs)).map fun S => (lineL rs.length (posA U S rs.length), lineL rs.length (posB U S rs.length))) ∧ (∀ U S, oriG (nums rs) = some U → oriG (nums qs) = some S → GA rs.length ((nums rs).map maskL) ∧ OriOk rs.length ((nums rs).map maskL) U ∧ OriOk rs.length (compA rs.length ((nums rs).map maskL)) S) := by
  obtain ⟨_, ⟨hg, gb, cap, he, hog⟩ | ⟨hg, he⟩⟩ := h
  · have hga : GA rs.length ((nums rs).map maskL) := by have := GA.of hg; rwa [nums_length] at this
    obtain ⟨ps, h1, h2, h3, h4⟩ := hog.out hga.comp
    have ho : oriG (nums ps) = oriN rs.length (compA rs.length ((nums rs).map maskL)) := by
      have hgk : GOk (nums ps) := by rw [h4]; exact hga.comp.gok
      have hm : (nums ps).map maskL = compA rs.length ((nums rs).map maskL) := by rw [h4]; exact hga.comp.masks
      unfold oriG
      rw [if_pos hgk, nums_length, h3, hm]
    refine ⟨some ⟨gb, 0, none⟩, cap, ps, true, by rw [h3]; exact he, h1, h2, ?_, fun U S hu hs => ⟨hga, ?_, ?_⟩⟩
    · rw [ho]; unfold permG; rw [nums_length]
    · unfold oriG at hu
      rw [if_pos hg, nums_length] at hu
      exact oriN_ok hga hu
    · rw [ho] at hs
      exact oriN_ok hga.comp hs
  · have ho : oriG (nums rs) = none := by unfold oriG; rw [if_neg hg]
    refine ⟨none, 0, [], false, he, ⟨Rd.nil _ _ _, fun r hr => by cases hr⟩, ⟨by simp, fun r hr => by cases hr⟩, ?_, fun U S hu _ => by rw [ho] at hu; cases hu⟩
    unfold permG
    rw [ho]; rfl
theorem tIntsP : SliceT Tryd.prog 90 3 (.int .i64 0) := ⟨Tryd.underlying90, 8, by decide, by kernel_rfl, rfl⟩
/-- What the loops hold. -/
structure PerR (n : Nat) (wx wr : World) (ga gb : Nat) (aL bL : List Nat) : Prop where
  oa : Own 3 wr wx.heap.size (.slice (some ⟨ga, 0, none⟩) n n) (aL.map intV)
  ob : Own 3 wr wx.heap.size (.slice (some ⟨gb, 0, none⟩) n n) (bL.map intV)
  ne : ga ≠ gb
  below : Below wx.heap.size wx wr
/-- One more at a place in one of the two tables. -/
theorem PerR.bumpA {n : Nat} {wx wr : World} {ga gb : Nat} {aL bL : List Nat} (h : PerR n wx wr ga gb aL bL) {m : Nat} (hm : m < aL.length) : PerR n wx (wr.setCell ⟨ga, m, none⟩ (.int .i64 ((aL.getD m 0 : Nat) + 1))) ga gb (bump aL m) bL := by
  refine ⟨?_, h.ob.setCell_other _ _ (.inr (by simpa [Value.ownBlock] using fun e => h.ne e.symm)), h.ne, Below.setCell h.below (h.oa.ge ga rfl) _⟩
  have h1 := h.oa.store m (by rw [List.length_map]; exact hm) (intV (aL.getD m 0 + 1))
  rw [← List.map_set] at h1
  have h2 : intV (aL.getD m 0 + 1) = .int .i64 ((aL.getD m 0 : Nat) + 1) := by unfold intV; congr 1
  rw [h2] at h1
  exact h1
theorem PerR.bumpB {n : Nat} {wx wr : World} {ga gb : Nat} {aL bL : List Nat} (h : PerR n wx wr ga gb aL bL) {m : Nat} (hm : m < bL.length) : PerR n wx (wr.setCell ⟨gb, m, none⟩ (.int .i64 ((bL.getD m 0 : Nat) + 1))) ga gb aL (bump bL m) := by
  refine ⟨h.oa.setCell_other _ _ (.inr (by simpa [Value.ownBlock] using h.ne)), ?_, h.ne, Below.setCell h.below (h.ob.ge gb rfl) _⟩
  have h1 := h.ob.store m (by rw [List.length_map]; exact hm) (intV (bL.getD m 0 + 1))
  rw [← List.map_set] at h1
  have h2 : intV (bL.getD m 0 + 1) = .int .i64 ((bL.getD m 0 : Nat) + 1) := by unfold intV; congr 1
  rw [h2] at h1
  exact h1
theorem PerR.cellA {n : Nat} {wx wr : World} {ga gb : Nat} {aL bL : List Nat} (h : PerR n wx wr ga gb aL bL) {m : Nat} (hm : m < aL.length) : wr.cell? ⟨ga, m, none⟩ = some (.int .i64 (aL.getD m 0 : Nat)) := by
  have h1 := h.oa.cell m (by rw [List.length_map]; exact hm)
  rw [List.getElem_map, ← getD_in hm] at h1
  exact h1
theorem PerR.cellB {n : Nat} {wx wr : World} {ga gb : Nat} {aL bL : List Nat} (h : PerR n wx wr ga gb aL bL) {m : Nat} (hm : m < bL.length) : wr.cell? ⟨gb, m, none⟩ = some (.int .i64 (bL.getD m 0 : Nat)) := by
  have h1 := h.ob.cell m (by rw [List.length_map]; exact hm)
  rw [List.getElem_map, ← getD_in hm] at h1
  exact h1
theorem mems_get {m i : Nat} (hi : i < (memsN m).length) : (mems m)[i]'(by unfold mems; rw [List.length_map]; exact hi) = (((memsN m)[i] : Nat) : Int) := by
  unfold mems
  rw [List.getElem_map]
set_option maxRecDepth 100000 in
set_option maxHeartbeats 8000000 in
theorem specPermsOf_any (a : Option Addr) (rs : List Row) (c : Nat) (w : World) (hr : RdM w a rs) (hn : Small rs) :
    Calls Tryd.prog 33 #[.agg #[.slice a rs.length c]] w (RetLines (permG (nums rs)) w) := by
  have RA := hid hr; clear hr
  obtain ⟨w0, hw0⟩ : ∃ w0, w0 = (w.alloc (.cells #[.slice a rs.length c] 28)) := ⟨_, rfl⟩
  have B0 := hid (show Below w.heap.size w w0 by rw [hw0]; exact ((Below.refl _ _).alloc (Nat.le_refl _) _))
  have c0 : w0.cell? ⟨w.heap.size, 0, none⟩ = some (.slice a rs.length c) := by rw [hw0]; simp [go_sem]
  replace RA := hid (RA.out.below B0.out (Nat.le_refl _))
  have HW := hid hw0; clear hw0
  go_enter Tryd.func33, Tryd.ntmps33
  go_wp2_with fail
  rw [← HW.out]
  refine (specOriented_any a rs c _ RA.out hn).mono ?_
  rintro e w1 he
  obtain ⟨ua, uc, us, rfl, hous, hnus, hb⟩ := sOri_flat he
  have OU := hid hous; have NU := hid hnus
  clear he hous hnus
  replace RA := hid (RA.out.below hb (Nat.le_refl _))
  replace B0 := hid (bon B0.out hb)
  replace c0 := cellB hb c0 (Nat.le_refl _)
  clear hb
  go_wp2_with fail
  refine (specComplement_any a rs c _ RA.out hn).mono ?_
  rintro e w2 ⟨hb, hcp⟩
  obtain ⟨qa, qc, qs, cb, rfl, hrq, hsq, hpg, hoo⟩ := compl_flat ⟨hb, hcp⟩
  have RQ := hid hrq; have SQ := hid hsq; have HPG := hid hpg; have HOO := hid hoo
  clear hcp hrq hsq hpg hoo
  replace RA := hid (RA.out.below hb (Nat.le_refl _))
  replace B0 := hid (bon B0.out hb)
  replace c0 := cellB hb c0 (Nat.le_refl _)
  replace OU := hid (OU.out.past hb (Nat.le_refl _))
  clear hb
  have hb := alloc_below w2 (.cells #[.slice qa qs.length qc] 28)
  have cm := cellB hb c0 (Nat.le_refl _)
  have hsw := B0.out.size
  replace RA := hid (RA.out.below hb (Nat.le_refl _))
  replace B0 := hid (bon B0.out hb)
  replace c0 := cellB hb c0 (Nat.le_refl _)
  replace OU := hid (OU.out.past hb (Nat.le_refl _))
  replace RQ := hid (RQ.out.below hb (Nat.le_refl _))
  clear hb
  clear cm
  go_wp2_with fail
  refine (specOriented_any qa qs qc _ RQ.out SQ.out).mono ?_
  rintro e w3 he
  obtain ⟨sa, sc, ss, rfl, hoss, hnss, hb⟩ := sOri_flat he
  have hos0 : w.heap.size ≤ (w2.alloc (.cells #[.slice qa qs.length qc] 28)).heap.size := by have := Below.size (alloc_below w2 (.cells #[.slice qa qs.length qc] 28)); omega
  have OS := hid hoss; have NS := hid hnss
  clear he hoss hnss
  replace RA := hid (RA.out.below hb (Nat.le_refl _))
  replace B0 := hid (bon B0.out hb)
  replace c0 := cellB hb c0 (Nat.le_refl _)
  replace OU := hid (OU.out.past hb (Nat.le_refl _))
  clear hb
  cases hu : oriG (nums rs) with
  | none =>
    have HEE := hid (show permG (nums rs) = none by rw [HPG.out, hu]; rfl)
    simp only [Option.isSome_none]
    have ON1 := hid (own_new 2 w3 [] (by decide))
    have ON2 := hid (own_new 2 (w3.alloc (.cells #[] 2)) [] (by decide))
    have hszw := B0.out.size
    go_wp2
    go_ret3
    rw [HEE.out]
    exact ⟨_, _, w3.heap.size + 1, rfl, ((ON1.out.past (alloc_below _ _) (Nat.le_refl _)).base hszw), by simpa using ON2.out, by omega, by simp, (fun g hg => by simp [Value.ownBlock] at hg; omega), (B0.out.alloc hszw _).alloc (by simp; omega) _⟩
  | some U =>
    cases hs : oriG (nums qs) with
    | none =>
      have HEE := hid (show permG (nums rs) = none by rw [HPG.out, hu, hs]; rfl)
      simp only [Option.isSome_none, Option.isSome_some]
      have ON1 := hid (own_new 2 w3 [] (by decide))
      have ON2 := hid (own_new 2 (w3.alloc (.cells #[] 2)) [] (by decide))
      have hszw := B0.out.size
      go_wp2
      go_ret3
      rw [HEE.out]
      exact ⟨_, _, w3.heap.size + 1, rfl, ((ON1.out.past (alloc_below _ _) (Nat.le_refl _)).base hszw), by simpa using ON2.out, by omega, by simp, (fun g hg => by simp [Value.ownBlock] at hg; omega), (B0.out.alloc hszw _).alloc (by simp; omega) _⟩
    | some S =>
      simp only [Option.isSome_some]
      have hgo := HOO.out U S hu hs
      have HGA := hid hgo.1; have HU := hid hgo.2.1; have HS := hid hgo.2.2
      have HEE := hid (show permG (nums rs) = some (lineL rs.length (posA U S rs.length), lineL rs.length (posB U S rs.length)) by rw [HPG.out, hu, hs]; rfl)
      have NUE := hid (NU.out U hu); have NSE := hid (NS.out S hs)
      have hul := rows_len NUE.out HU.out.len
      have hsl := rows_len NSE.out HS.out.len
      have HUL := hid hul; have HSL := hid hsl
      have RU := hid OU.out.rdm; have RS := hid OS.out.rdm
      rw [hul, hsl]
      have h16 := HGA.out.le
      have hpos := HGA.out.pos
      have hsz3 := B0.out.size
      have B3 := hid B0.out
      clear hgo hu hs hul hsl OU OS NU NS HPG HOO RA RQ c0
      have TOK : True := trivial
      go_wp2_with (first | (at_make; clear TOK; refine law_make tIntsP _ rfl _ _ rfl rs.length _ _ rfl rfl (by omega) ?_; intro wm hown hb hsz; have OA1 := hid hown; have BM1 := hid hb; have HSM1 := hid hsz; clear hown hb hsz) | (at_make; refine law_make tIntsP _ rfl _ _ rfl rs.length _ _ rfl rfl (by omega) ?_; intro wn hown hb hsz; have OB1 := hid hown; have BM2 := hid hb; clear hown hb hsz))
      have PER0 := hid (show PerR rs.length w3 wn w3.heap.size wm.heap.size (List.replicate rs.length 0) (List.replicate rs.length 0) from
        ⟨by have h := OA1.out.past BM2.out (Nat.le_refl _); simpa [intV] using h, by have h := OB1.out.base (B' := w3.heap.size) BM1.out.size; simpa [intV] using h, by have := HSM1.out; omega, BM1.out.trans (BM2.out.mono BM1.out.size)⟩)
      clear OA1 OB1 BM1 BM2
      generalize hga : w3.heap.size = ga at *
      generalize hgb : wm.heap.size = gb at *
      clear HSM1
      go_loopw [13] (fun x wr => ∃ (v : Nat) (aL bL : List Nat), v ≤ rs.length ∧ x = .int .i64 v ∧ Ahead rs.length U S v aL bL ∧ PerR rs.length w3 wr ga gb aL bL) (fun x _ => rs.length - (intOf x).toNat)
      case atStart => exact ⟨0, _, _, Nat.zero_le _, rfl, Ahead.start _ U S, PER0.out⟩
      case round =>
        clear PER0
        obtain ⟨v, aL, bL, hv, rfl, hah, hper⟩ := hrel
        have AH := hid hah; have PER := hid hper
        clear hah hper
        by_cases hlt : v < rs.length
        · have hvi : (v : Int) < (rs.length : Int) := by omega
          have hvu : v < us.length := by rw [HUL.out]; exact hlt
          have hvs : v < ss.length := by rw [HSL.out]; exact hlt
          obtain ⟨ub, uo, rfl, cu, huok⟩ := RU.out.at v hvu
          obtain ⟨sb, so, rfl, cs, hsok⟩ := RS.out.at v hvs
          have HCU := hid cu; have HCS := hid cs
          have HUZ := hid (rows_z NUE.out hvu); have HSZ := hid (rows_z NSE.out hvs)
          have HUR := hid huok.1; have HSR := hid hsok.1
          rw [HUZ.out] at HUR HCU
          rw [HSZ.out] at HSR HCS
          generalize us[v].a = ra at *
          generalize us[v].c = rac at *
          generalize ss[v].a = sra at *
          generalize ss[v].c = sac at *
          have HU2 := hid (HU.out.in2 HGA.out); have HS2 := hid (HS.out.in2 HGA.out.comp)
          have HP2 := hid (show 2 ^ rs.length ≤ 65536 from Nat.pow_le_pow_right (n := 2) (i := rs.length) (j := 16) (by decide) h16)
          have AH1 := hid AH.out.one
          clear cu cs huok hsok AH
          go_wp2
          go_loopw [14] (fun x wr => ∃ (i : Nat) (aL bL : List Nat), i ≤ (memsN (U.getD v 0)).length ∧ x = .int .i64 i ∧ Ahead1 rs.length U S v i aL bL ∧ PerR rs.length w3 wr ga gb aL bL) (fun x _ => (memsN (U.getD v 0)).length - (intOf x).toNat)
          case atStart => exact ⟨0, aL, bL, Nat.zero_le _, rfl, AH1.out, PER.out⟩
          case round =>
            clear AH1 PER aL bL
            obtain ⟨i, aL, bL, hi, rfl, hah, hper⟩ := hrel
            have AH := hid hah; have PER := hid hper
            have HWL := hid (Below.refl w3.heap.size w3)
            have cu := cellB hper.below HCU.out (by rw [hga]; exact Nat.le_refl _)
            have HUR2 := hid (HUR.out.below hper.below (by rw [hga]; exact Nat.le_refl _))
            have hml : (mems (U.getD v 0)).length = (memsN (U.getD v 0)).length := by unfold mems; rw [List.length_map]
            rw [hml] at cu
            have hl32 := memsN_len (U.getD v 0)
            clear hah hper
            by_cases hil : i < (memsN (U.getD v 0)).length
            · have hii : (i : Int) < ((memsN (U.getD v 0)).length : Int) := by omega
              obtain ⟨rb, ro, hra, cr⟩ := HUR2.out i (by rw [hml]; exact hil)
              rw [mems_get hil] at cr
              subst hra
              have hm32 : U.getD v 0 < 4294967296 := by have := HU2.out v; have := HP2.out; omega
              have hmn : (memsN (U.getD v 0))[i] < rs.length := (HU.out.lt HGA.out ((memsN_mem hm32).1 (List.getElem_mem hil))).2
              have AH2 := hid (AH.out.step hil hlt hmn)
              have hsm := AH.out.small h16 hlt (by omega) hmn
              have hsv := AH.out.small h16 hlt (by omega) hlt
              have hma : (memsN (U.getD v 0))[i] < aL.length := by rw [AH.out.la]; exact hmn
              have hvb : v < bL.length := by rw [AH.out.lb]; exact hlt
              generalize (memsN (U.getD v 0))[i] = m at *
              generalize (memsN (U.getD v 0)).length = ml at *
              have PER2 := hid (PER.out.bumpA hma)
              have PER3 := hid (PER2.out.bumpB hvb)
              have cA := PER.out.cellA hma
              have frA := PER.out.oa.free m
              have cB := PER2.out.cellB hvb
              have frB := PER2.out.ob.free v
              have hxa := hsm.1
              have hxb := hsv.2
              have hmi : (m : Int) < (rs.length : Int) := by omega
              clear hsm hsv hml hm32 AH PER HUR2 hma hvb
              generalize aL.getD m 0 = xa at *
              generalize bL.getD v 0 = xb at *
              go_wp2
              go_roundw
              case rel => exact ⟨i + 1, _, _, by omega, by go_num, AH2.out, PER3.out⟩
              case measure => simp [intOf]; omega
            · obtain rfl : i = (memsN (U.getD v 0)).length := by omega
              have AH2 := hid (AH.out.done HU2.out h16)
              clear AH
              generalize (memsN (U.getD v 0)).length = ml at *
              clear hml HUR2
              go_wp2
              go_loopw [15] (fun x wr => ∃ (i : Nat) (aL bL : List Nat), i ≤ (memsN (S.getD v 0)).length ∧ x = .int .i64 i ∧ Ahead2 rs.length U S v i aL bL ∧ PerR rs.length w3 wr ga gb aL bL) (fun x _ => (memsN (S.getD v 0)).length - (intOf x).toNat)
              case atStart => exact ⟨0, aL, bL, Nat.zero_le _, rfl, AH2.out, PER.out⟩
              case round =>
                clear AH2 PER aL bL cu
                obtain ⟨i, aL, bL, hi, rfl, hah, hper⟩ := hrel
                have AH := hid hah; have PER := hid hper
                have cs := cellB hper.below HCS.out (by rw [hga]; exact Nat.le_refl _)
                have HSR2 := hid (HSR.out.below hper.below (by rw [hga]; exact Nat.le_refl _))
                have hml : (mems (S.getD v 0)).length = (memsN (S.getD v 0)).length := by unfold mems; rw [List.length_map]
                rw [hml] at cs
                have hl32 := memsN_len (S.getD v 0)
                clear hah hper
                by_cases hil : i < (memsN (S.getD v 0)).length
                · have hii : (i : Int) < ((memsN (S.getD v 0)).length : Int) := by omega
                  obtain ⟨rb, ro, hra, cr⟩ := HSR2.out i (by rw [hml]; exact hil)
                  obtain ⟨rb3, ro3, hra3, cr3⟩ := HSR.out i (by rw [hml]; exact hil)
                  obtain ⟨rfl, rfl⟩ : rb = rb3 ∧ ro = ro3 := by rw [hra] at hra3; simpa using hra3
                  have HCR3 := hid cr3
                  clear hra3 cr3
                  rw [mems_get hil] at cr
                  subst hra
                  have hm32 : S.getD v 0 < 4294967296 := by have := HS2.out v; have := HP2.out; omega
                  have hmn : (memsN (S.getD v 0))[i] < rs.length := (HS.out.lt HGA.out.comp ((memsN_mem hm32).1 (List.getElem_mem hil))).2
                  have AH2 := hid (AH.out.step hil hmn)
                  have hsm := AH.out.small h16 hlt (by omega) hmn
                  have hma : (memsN (S.getD v 0))[i] < aL.length := by rw [AH.out.la]; exact hmn
                  have hmb : (memsN (S.getD v 0))[i] < bL.length := by rw [AH.out.lb]; exact hmn
                  generalize (memsN (S.getD v 0))[i] = m at *
                  generalize (memsN (S.getD v 0)).length = ml at *
                  have PER2 := hid (PER.out.bumpA hma)
                  have PER3 := hid (PER2.out.bumpB hmb)
                  have cA := PER.out.cellA hma
                  have frA := PER.out.oa.free m
                  have cB := PER2.out.cellB hmb
                  have frB := PER2.out.ob.free m
                  have cs2 := cellB PER2.out.below HCS.out (by rw [hga]; exact Nat.le_refl _)
                  rw [hml] at cs2
                  have cr2 := cell_other cr (.int .i64 ((aL.getD m 0 : Nat) + 1)) (q := ⟨ga, m, none⟩) (by
                    have h9 := World.block_lt_of_cell? _ _ HCR3.out
                    simp only at h9 ⊢
                    omega)
                  have hxa := hsm.1
                  have hxb := hsm.2
                  have hmi : (m : Int) < (rs.length : Int) := by omega
                  clear HCR3
                  clear hsm hml hm32 AH PER HSR2 hma hmb
                  generalize aL.getD m 0 = xa at *
                  generalize bL.getD m 0 = xb at *
                  go_wp2
                  go_roundw
                  case rel => exact ⟨i + 1, _, _, by omega, by go_num, AH2.out, PER3.out⟩
                  case measure => simp [intOf]; omega
                · obtain rfl : i = (memsN (S.getD v 0)).length := by omega
                  have AH2 := hid (AH.out.done HS2.out h16)
                  clear AH
                  generalize (memsN (S.getD v 0)).length = ml at *
                  clear hml HSR2
                  go_wp2
                  go_roundw
                  case rel => exact ⟨v + 1, aL, bL, by omega, by go_num, AH2.out, PER.out⟩
                  case measure => simp [intOf]; omega
        · obtain rfl : v = rs.length := by omega
          have HPA := hid (fun v hv => posA_lt HGA.out HU.out HS.out (w := v) hv)
          have HPB := hid (fun v hv => posB_lt HGA.out HU.out HS.out (w := v) hv)
          have HXA := hid (fun v hv => (AH.out.le (w := v) hv).1)
          have HXB := hid (fun v hv => (AH.out.le (w := v) hv).2)
          have HLA := hid AH.out.la; have HLB := hid AH.out.lb
          have RA := hid (show Rd intV wr (some ⟨ga, 0, none⟩) aL from by
            obtain ⟨a', c', h1, h2, _⟩ := PER.out.oa.rd
            obtain ⟨rfl, _, rfl⟩ := slice_inj h1
            exact h2)
          have RB := hid (show Rd intV wr (some ⟨gb, 0, none⟩) bL from by
            obtain ⟨a', c', h1, h2, _⟩ := PER.out.ob.rd
            obtain ⟨rfl, _, rfl⟩ := slice_inj h1
            exact h2)
          have BW := hid (B3.out.trans (PER.out.below.mono (by rw [hga]; omega)))
          have hsw2 := PER.out.below.size
          clear AH PER
          go_wp2_with fail
          refine (l15Order_any ga rs.length rs.length aL (posA U S rs.length) _ HLA.out h16 HXA.out HPA.out RA.out).mono ?_
          rintro e w7 ⟨y0, rfl, hown7, hb7⟩
          have O7 := hid hown7; have RB7 := hid (RB.out.below hb7 (Nat.le_refl _)); have BW7 := hid (bon BW.out hb7)
          have hs7 := hb7.size
          clear hown7 hb7
          go_wp2_with fail
          refine (l15Order_any gb rs.length rs.length bL (posB U S rs.length) _ HLB.out h16 HXB.out HPB.out RB7.out).mono ?_
          rintro e w8 ⟨y1, rfl, hown8, hb8⟩
          have hbw0 := BW.out.size
          have O8 := hid hown8; have O78 := hid ((O7.out.past hb8 (Nat.le_refl _)).base (B' := w.heap.size) (by omega)); have BW8 := hid (bon BW7.out hb8)
          have HLT := hid (fun g hg => O7.out.lt g hg)
          have hs8 := hb8.size
          clear hown8 hb8
          go_wp2
          go_ret3
          rw [HEE.out]
          exact ⟨_, _, w7.heap.size, rfl, O78.out, O8.out, by omega, hs8, HLT.out, BW8.out⟩
set_option maxHeartbeats 1000000 in
theorem specPermutationIn_c (a : Option Addr) (rs : List Row) (c : Nat) (w : World) (b : Bool) (hb : (permG (nums rs)).isSome = b) (hr : RdM w a rs) (hn : Small rs) :
    Calls Tryd.prog 31 #[.agg #[.slice a rs.length c]] w fun e w' => e = .returned (.bool b) ∧ Below w.heap.size w w' := by
  have RA := hid hr; have HQ := hid hb; clear hr hb
  obtain ⟨w0, hw0⟩ : ∃ w0, w0 = (w.alloc (.cells #[.slice a rs.length c] 28)) := ⟨_, rfl⟩
  have B0 := hid (show Below w.heap.size w w0 by rw [hw0]; exact ((Below.refl _ _).alloc (Nat.le_refl _) _))
  have c0 : w0.cell? ⟨w.heap.size, 0, none⟩ = some (.slice a rs.length c) := by rw [hw0]; simp [go_sem]
  replace RA := hid (RA.out.below B0.out (Nat.le_refl _))
  have HW := hid hw0; clear hw0
  go_enter Tryd.func31, Tryd.ntmps31
  go_wp2_with fail
  rw [← HW.out]
  refine (specPermsOf_any a rs c _ RA.out hn).mono ?_
  rintro e w1 ⟨y0, y1, m, rfl, _, _, _, _, _, hb⟩
  have HBB := hid (bon B0.out hb)
  rw [HQ.out]
  clear hb
  go_wp2
  go_ret
  exact ⟨rfl, HBB.out⟩
set_option maxHeartbeats 1000000 in
theorem implPermutationIn_c (a : Option Addr) (rs : List Row) (c : Nat) (w : World) (b : Bool) (hb : (permG (nums rs)).isSome = b) (hr : RdM w a rs) (hn : Small rs) (hT : TabOk w) :
    Calls Tryd.prog 32 #[.agg #[.slice a rs.length c]] w fun e w' => e = .returned (.bool b) ∧ Below w.heap.size w w' := by
  have RA := hid hr; have RT := hid hT; have HQ := hid hb; clear hr hT hb
  obtain ⟨w0, hw0⟩ : ∃ w0, w0 = (w.alloc (.cells #[.slice a rs.length c] 28)) := ⟨_, rfl⟩
  have B0 := hid (show Below w.heap.size w w0 by rw [hw0]; exact ((Below.refl _ _).alloc (Nat.le_refl _) _))
  have c0 : w0.cell? ⟨w.heap.size, 0, none⟩ = some (.slice a rs.length c) := by rw [hw0]; simp [go_sem]
  replace RA := hid (RA.out.below B0.out (Nat.le_refl _))
  replace RT := hid (RT.out.below B0.out (Nat.le_refl _))
  have HW := hid hw0; clear hw0
  go_enter Tryd.func32, Tryd.ntmps32
  go_wp2_with fail
  rw [← HW.out]
  refine (implPermsOf_any a rs c _ RA.out hn RT.out).mono ?_
  rintro e w1 ⟨y0, y1, m, rfl, _, _, _, _, _, hb⟩
  have HBB := hid (bon B0.out hb)
  rw [HQ.out]
  clear hb
  go_wp2
  go_ret
  exact ⟨rfl, HBB.out⟩
/-- Two results in memory, one above the other. -/
def RetTwo (r0 r1 : List Int) (b : Bool) (w : World) (e : Ending) (w' : World) : Prop :=
  ∃ y0 y1 m, e = .returned (.tuple #[y0, y1, .bool b]) ∧ Own 2 w' w.heap.size y0 (r0.map (.int .i64)) ∧ Own 2 w' m y1 (r1.map (.int .i64)) ∧ w.heap.size ≤ m ∧ m ≤ w'.heap.size ∧ (∀ g, y0.ownBlock = some g → g < m) ∧ Below w.heap.size w w'
theorem specPermsOf_r (a : Option Addr) (rs : List Row) (c : Nat) (w : World) (r0 r1 : List Int) (b : Bool) (h0 : ((permG (nums rs)).map (·.1)).getD [] = r0) (h1 : ((permG (nums rs)).map (·.2)).getD [] = r1) (hb : (permG (nums rs)).isSome = b) (hr : RdM w a rs) (hn : Small rs) :
    Calls Tryd.prog 33 #[.agg #[.slice a rs.length c]] w (RetTwo r0 r1 b w) := by
  subst h0; subst h1; subst hb; exact specPermsOf_any a rs c w hr hn
theorem implPermsOf_r (a : Option Addr) (rs : List Row) (c : Nat) (w : World) (r0 r1 : List Int) (b : Bool) (h0 : ((permG (nums rs)).map (·.1)).getD [] = r0) (h1 : ((permG (nums rs)).map (·.2)).getD [] = r1) (hb : (permG (nums rs)).isSome = b) (hr : RdM w a rs) (hn : Small rs) (hT : TabOk w) :
    Calls Tryd.prog 34 #[.agg #[.slice a rs.length c]] w (RetTwo r0 r1 b w) := by
  subst h0; subst h1; subst hb; exact implPermsOf_any a rs c w hr hn hT
theorem line_len (n : Nat) (pos : Nat → Nat) : (lineL n pos).length = n := lineTo_len n pos n
theorem perm_small (g : List (List Int)) : (((permG g).map (·.1)).getD []).length ≤ 1048576 ∧ (((permG g).map (·.2)).getD []).length ≤ 1048576 := by
  unfold permG
  cases hu : oriG g with
  | none => simp
  | some U =>
    have h16 : g.length ≤ 16 := by
      unfold oriG at hu
      split at hu
      · rename_i h; exact h.le
      · cases hu
    cases hs : oriN g.length (compA g.length (g.map maskL)) with
    | none => simp
    | some S =>
      simp only [Option.bind_some, Option.map_some, Option.getD_some, line_len]
      omega
end
end Go.Proofs.YtggjmnihnjdoaaaDoor
