/- Chains of arrows: the reference's. -/
import Derived.Test.YtggjmnihnjdoaaaDoorClsS
import Derived.Test.YtggjmnihnjdoaaaDoorChnI
import Derived.Test.YtggjmnihnjdoaaaDoorOriS
namespace Go.Proofs.YtggjmnihnjdoaaaDoor
open Go.RowKit
section
def frE (par : Nat → Nat) (i : Nat) : Value := if i = 0 then .int .i64 (-1) else .int .i64 (par i : Nat)
def frV (par : Nat → Nat) (m : Nat) : List Value := (List.range m).map (frE par)
theorem frV_len (par : Nat → Nat) (m : Nat) : (frV par m).length = m := by simp [frV]
theorem frV_get (par : Nat → Nat) (m i : Nat) (h : i < (frV par m).length) : (frV par m)[i] = frE par i := by simp [frV]
theorem frV_push (par : Nat → Nat) {m : Nat} (h : 0 < m) (i : Nat) : frV (fun k => if k < m then par k else i) (m + 1) = frV par m ++ [.int .i64 (i : Nat)] := by
  unfold frV
  rw [List.range_succ, List.map_append]
  congr 1
  · apply List.map_congr_left
    intro k hk
    unfold frE
    simp only [if_pos (List.mem_range.1 hk)]
  · unfold frE
    simp
    omega
attribute [local irreducible] frL bq addAll bqE keyL chnM
def SChnPost (A : List Nat) (x : Nat) (w : World) (e : Ending) (w' : World) : Prop :=
  ∃ v qs, e = .returned (.tuple #[v, .bool (chnM A x).isSome]) ∧ nums qs = ((chnM A x).getD []).map prI ∧ OwnM 41 2 w' w.heap.size v qs ∧ Below w.heap.size w w'
/-- What the outer loop holds. -/
structure ChS (w0 wr : World) (lv fv : Value) (qs : List Row) (M : List Nat) (par : Nat → Nat) : Prop where
  list : Own 41 wr w0.heap.size lv (qs.map Row.val)
  som : ∃ g c, lv = .slice (some ⟨g, 0, none⟩) M.length c
  nl : nums qs = M.map prI
  from_ : Own 3 wr w0.heap.size fv (frV par M.length)
  fsom : ∃ g c, fv = .slice (some ⟨g, 0, none⟩) M.length c
  below : Below w0.heap.size w0 wr
theorem ChS.past {w0 wr w' : World} {lv fv : Value} {qs : List Row} {M : List Nat} {par : Nat → Nat} (h : ChS w0 wr lv fv qs M par) (hb : Below wr.heap.size wr w') : ChS w0 w' lv fv qs M par :=
  ⟨h.list.past hb (Nat.le_refl _), h.som, h.nl, h.from_.past hb (Nat.le_refl _), h.fsom, bonL h.below hb (Nat.le_refl _)⟩
theorem Inner.base {ei : TypeId} {w : World} {B B' : Nat} {rs : List Row} (h : Inner ei w B rs) (hB : B' ≤ B) : Inner ei w B' rs := ⟨fun r hr => (h.own r hr).base hB, h.apart⟩
theorem own_some {e : TypeId} {w : World} {B : Nat} {v : Value} {xs : List Value} (h : Own e w B v xs) (h0 : 0 < xs.length) : ∃ g c, v = .slice (some ⟨g, 0, none⟩) xs.length c := by
  rcases h.form with ⟨_, h2⟩ | ⟨g, cap, spare, h2, _⟩
  · rw [h2] at h0; simp at h0
  · exact ⟨g, cap, h2⟩
set_option maxRecDepth 100000 in
set_option maxHeartbeats 4000000 in
theorem l13Chain_any (a : Option Addr) (rs : List Row) (c n : Nat) (A : List Nat) (u v x : Nat) (w : World) (hx : cod u v = x) (hA : GA n A) (hnm : nums rs = A.map mems) (hr : RdM w a rs) (hu : u < n) (hv : v < n) (hed : edA A x = true) :
    Calls Tryd.prog 81 #[.agg #[.slice a rs.length c], .int .i64 u, .int .i64 v] w (SChnPost A x w) := by
  have HA := hid hA; have HNM := hid hnm; have RA := hid hr
  have h16 := hA.le
  have hx256 : x < 256 := by rw [← hx]; unfold cod; omega
  have hxa : u = x / 16 := by rw [← hx, cod_div (by omega)]
  have hxb : v = x % 16 := by rw [← hx, cod_mod (by omega)]
  have HXA := hid hxa; have HXB := hid hxb
  have HDN := hid (disN hA (edA_opp hA hed))
  have HCS := hid (fun d => chnM_some (A := A) (x := x) (d := d) HDN.out.ok)
  have HCN := hid (chnM_none (A := A) (x := x))
  have HPR := hid (show [Value.int .i64 (u : Int), .int .i64 (v : Int)] = (prI x).map (Value.int .i64) by unfold prI; rw [hxa, hxb]; rfl)
  have HBS := hid (Bfn.start hed)
  have HOP := hid (show ∀ y, y < 256 → (y / 16 = v ∧ y % 16 = u ↔ y = opp x) from fun y hy => by rw [hxa, hxb]; unfold opp cod; omega)
  clear hA hnm hr hxa hxb hed hx
  obtain ⟨w0, hw0⟩ : ∃ w0, w0 = (w.alloc (.cells #[.slice a rs.length c] 28)) := ⟨_, rfl⟩
  have B0 := hid (show Below w.heap.size w w0 by rw [hw0]; exact ((Below.refl _ _).alloc (Nat.le_refl _) _))
  have c0 : w0.cell? ⟨w.heap.size, 0, none⟩ = some (.slice a rs.length c) := by rw [hw0]; simp [go_sem]
  replace RA := hid (RA.out.below B0.out (Nat.le_refl _))
  have HW := hid hw0; clear hw0
  have HC0 := hid c0; have RA0 := hid RA.out; have B00 := hid B0.out
  have hsz0 : w0.heap.size = w.heap.size + 1 := by rw [HW.out]; simp
  obtain ⟨w1, hw1⟩ : ∃ w1, w1 = w0.alloc (.cells #[.int .i64 (u : Int), .int .i64 (v : Int)] 2) := ⟨_, rfl⟩
  have b1 : Below w0.heap.size w0 w1 := hw1 ▸ alloc_below _ _
  have s1 : w1.heap.size = w0.heap.size + 1 := by rw [hw1]; simp
  have r1 : Own 2 w1 w0.heap.size (.slice (some ⟨w0.heap.size, 0, none⟩) 2 2) ((prI x).map (Value.int .i64)) := by
    rw [hw1, ← HPR.out]; exact own_new 2 w0 [.int .i64 (u : Int), .int .i64 (v : Int)] (show (2 : Nat) ≤ maxLen by decide)
  obtain ⟨w2, hw2⟩ : ∃ w2, w2 = w1.alloc (.cells #[.slice (some ⟨w0.heap.size, 0, none⟩) 2 2] 41) := ⟨_, rfl⟩
  have b2 : Below w1.heap.size w1 w2 := hw2 ▸ alloc_below _ _
  have s2 : w2.heap.size = w1.heap.size + 1 := by rw [hw2]; simp
  have r2 : Own 41 w2 w1.heap.size (.slice (some ⟨w1.heap.size, 0, none⟩) 1 1) [.slice (some ⟨w0.heap.size, 0, none⟩) 2 2] := by
    rw [hw2]; exact own_new 41 w1 [.slice (some ⟨w0.heap.size, 0, none⟩) 2 2] (show (1 : Nat) ≤ maxLen by decide)
  obtain ⟨w3, hw3⟩ : ∃ w3, w3 = w2.alloc (.cells #[.int .i64 (-1)] 3) := ⟨_, rfl⟩
  have b3 : Below w2.heap.size w2 w3 := hw3 ▸ alloc_below _ _
  have r3 : Own 3 w3 w2.heap.size (.slice (some ⟨w2.heap.size, 0, none⟩) 1 1) [.int .i64 (-1)] := by
    rw [hw3]; exact own_new 3 w2 [.int .i64 (-1)] (show (1 : Nat) ≤ maxLen by decide)
  have START := hid (show ChS w0 w3 (.slice (some ⟨w1.heap.size, 0, none⟩) 1 1) (.slice (some ⟨w2.heap.size, 0, none⟩) 1 1) [⟨some ⟨w0.heap.size, 0, none⟩, prI x, 2⟩] [x] (fun _ => 0) from
    ⟨(r2.base (B' := w0.heap.size) (by omega)).past b3 (Nat.le_refl _), ⟨_, _, rfl⟩, rfl, r3.base (by omega), ⟨_, _, rfl⟩, (b1.trans (b2.mono (by omega))).trans (b3.mono (by omega))⟩)
  have INN := hid (show Inner 2 w3 w0.heap.size [⟨some ⟨w0.heap.size, 0, none⟩, prI x, 2⟩] from ⟨fun r hr => by
    simp at hr; subst hr
    exact ((r1.past b2 (Nat.le_refl _)).past b3 (Nat.le_refl _)), by simp⟩)
  rw [s2, s1] at START
  rw [hw1] at hw2
  rw [hw2] at hw3
  have HW3 := hid hw3
  clear r1 r2 r3 b1 b2 b3 s1 s2 B0 c0 RA hw1 hw2 hw3
  go_enter Tryd.func81, Tryd.ntmps81
  go_wp2
  rw [← HW.out]
  rw [show w.heap.size + 1 = w0.heap.size from hsz0.symm]
  rw [← HW3.out]
  clear hsz0
  have hszw : w.heap.size ≤ w0.heap.size := B00.out.size
  generalize bqE A (opp x) = Q at *
  go_loopw [8, 9, 10] (fun lv fv kv wr => ∃ (k : Nat) (qs : List Row) (M : List Nat) (P : List (List Nat)) (par : Nat → Nat), kv = .int .i64 k ∧ k ≤ M.length ∧ Bfn A x M P par k [] ∧ opp x ∉ M.take k ∧ ChS w0 wr lv fv qs M par ∧ Inner 2 wr w0.heap.size qs) (fun _ _ kv _ => 257 - (intOf kv).toNat)
  case atStart => exact ⟨0, _, [x], [[x]], _, rfl, Nat.zero_le _, HBS.out, by simp, START.out, INN.out⟩
  case round =>
    clear START INN HBS
    obtain ⟨k, qs, M, P, par, rfl, hk, hbf, hnt, hcs, hin⟩ := hrel
    have BF := hid hbf; have NT := hid hnt; have CS := hid hcs; have IN := hid hin
    have RA := hid (RA0.out.below hcs.below (Nat.le_refl _))
    have c0 := cellB hcs.below HC0.out (Nat.le_refl _)
    obtain ⟨lg, lc, rfl⟩ := hcs.som
    obtain ⟨fg, fc, rfl⟩ := hcs.fsom
    have hql : qs.length = M.length := by have := congrArg List.length hcs.nl; simpa [nums] using this
    have HQL := hid hql
    have hm256 : M.length ≤ 256 := by
      have h1 : M.length ≤ (List.range 256).length := hbf.nod.length_le_of_subset (fun y hy => List.mem_range.2 (edA_256 HA.out (hbf.edge y hy)))
      simpa using h1
    have hrm : RdM wr (some ⟨lg, 0, none⟩) qs := (show OwnM 41 2 wr w0.heap.size (.slice (some ⟨lg, 0, none⟩) M.length lc) qs from ⟨hcs.list, hin⟩).rdm
    have HRM := hid hrm
    clear hbf hnt hin hql
    by_cases hkl : k < M.length
    · have hki : (k : Int) < (M.length : Int) := by omega
      obtain ⟨b1, o1, ra, rc, hba, ck, hrd, rb, ro, hra, e0, e1⟩ := row_pr hrm hcs.nl hkl
      injection hba with hba
      injection hba with hb1 hb2
      subst hb1; subst hb2; subst hra
      rw [Nat.zero_add] at ck
      have hyed := BF.out.edge _ (List.getElem_mem hkl)
      have hyn := edA_lt HA.out hyed
      have hy256 := edA_256 HA.out hyed
      have HGD := hid (getD_in hkl)
      have HOY := hid (HOP.out M[k] hy256)
      have HTK := hid (List.take_succ_eq_append_getElem hkl)
      obtain ⟨y, hy⟩ : ∃ y, y = M[k] := ⟨_, rfl⟩
      rw [← hy] at e0 e1 hyn HGD HOY HTK hy256
      obtain ⟨ya, hya⟩ : ∃ ya, ya = y / 16 := ⟨_, rfl⟩
      obtain ⟨yb, hyb⟩ : ∃ yb, yb = y % 16 := ⟨_, rfl⟩
      rw [← hya] at e0 hyn HOY
      rw [← hyb] at e1 hyn HOY
      have HYC := hid (show cod ya yb = y by rw [hya, hyb]; exact cod_self y)
      have hyan := hyn.1
      have hybn := hyn.2
      clear hy hya hyb hyed hyn hrd hrm
      by_cases hfo : y = opp x
      · have hyv := (HOY.out.2 hfo).1
        have hyu := (HOY.out.2 hfo).2
        have d1 : ((ya : Int) == (v : Int)) = true := by rw [hyv]; simp
        have d2 : ((yb : Int) == (u : Int)) = true := by rw [hyu]; simp
        have HFD := hid (BF.out.found HDN.out hkl (by rw [HGD.out]; exact hfo))
        clear hyv hyu hfo
        obtain ⟨wo, rfl⟩ : ∃ wo, wo = wr := ⟨_, rfl⟩
        have HBA := hid (alloc_below wo (.cells #[] 41))
        have ONE := hid (own_new 41 wo [] (by decide))
        have CSr := hid CS.out
        go_wp2_with fail
        clear c0 ck e0 e1
        go_loopw [11, 12] (fun ov av wq => ∃ (T : List Nat) (ts : List Row) (g' c' : Nat), ov = .slice (some ⟨g', 0, none⟩) ts.length c' ∧ Own 41 wq wo.heap.size (.slice (some ⟨g', 0, none⟩) ts.length c') (ts.map Row.val) ∧ nums ts = T.map prI ∧ ((∃ i, i < M.length ∧ av = .int .i64 (i : Nat) ∧ P.getD k [] = P.getD i [] ++ T ∧ ts.Sublist (qs.drop (i + 1))) ∨ (av = .int .i64 (-1) ∧ P.getD k [] = T ∧ ts.Sublist qs)) ∧ Below wo.heap.size wo wq) (fun _ av _ => (intOf av + 1).toNat)
        case atStart => exact ⟨[], [], wo.heap.size, 0, rfl, ONE.out, rfl, .inl ⟨k, hkl, rfl, by simp, List.nil_sublist _⟩, HBA.out⟩
        case round =>
          clear HBA ONE
          obtain ⟨T, ts, g', c', rfl, ho, hnt, hcase, hb⟩ := hrel
          have OT := hid ho; have NTS := hid hnt; have BQ := hid hb
          clear ho hnt
          rcases hcase with ⟨i, hi, rfl, hP, hsub⟩ | ⟨rfl, hP, hsub⟩
          · have hi0 : (0 : Int) ≤ (i : Int) := by omega
            have hii : (i : Int) < (M.length : Int) := by omega
            have hiq : i < qs.length := by have := HQL.out; omega
            have hfl : i < (frV par M.length).length := by rw [frV_len]; exact hi
            have cf := cellB hb (CSr.out.from_.cell i hfl) (Nat.le_refl _)
            rw [frV_get] at cf
            obtain ⟨b2, o2, hb2, cq, hqok⟩ := (HRM.out.below hb (Nat.le_refl _)).at i hiq
            obtain ⟨rfl, rfl⟩ : lg = b2 ∧ 0 = o2 := by simpa using hb2
            rw [Nat.zero_add] at cq
            have hqz : qs[i].z = prI M[i] := by
              have h1 : (nums qs)[i]'(by rw [nums_length]; exact hiq) = (M.map prI)[i]'(by simpa using hi) := by simp only [CSr.out.nl]
              simpa [nums] using h1
            have HSUB := hid (show (qs[i] :: ts).Sublist (qs.drop i) from by rw [List.drop_eq_getElem_cons hiq]; exact hsub.cons_cons _)
            have HNT := hid (show nums (qs[i] :: ts) = (M[i] :: T).map prI from by
              show qs[i].z :: nums ts = _
              rw [hqz, NTS.out]; rfl)
            have HPI := hid (fun h0 : 0 < i => BF.out.path i h0 hi)
            have HP := hid hP
            have HGI := hid (getD_in hi)
            have hbA := alloc_below wr (.cells #[qs[i].val] 41)
            have hown := own_new 41 wr [qs[i].val] (show (1 : Nat) ≤ maxLen by decide)
            have ON := hid (show Own 41 (wr.alloc (.cells #[qs[i].val] 41)) wo.heap.size (.slice (some ⟨wr.heap.size, 0, none⟩) 1 1) [qs[i].val] from hown.base hb.size)
            have RT := hid (show Rd Row.val (wr.alloc (.cells #[qs[i].val] 41)) (some ⟨g', 0, none⟩) ts from by
              obtain ⟨a', c', h1, h2, _⟩ := (OT.out.past hbA (Nat.le_refl _)).rd
              obtain ⟨rfl, _, rfl⟩ := slice_inj h1
              exact h2)
            have BQA := hid (bon hb hbA)
            have HTSL := hid (show ts.length ≤ 256 from by
              have h1 := hsub.length_le
              rw [List.length_drop] at h1
              have := HQL.out
              omega)
            have hts := HTSL.out
            have CFO := hid (CSr.out.from_.cell i hfl)
            clear hown hbA hsub hP hqz hqok hb2
            unfold Row.val at ON
            generalize qs[i] = ri at *
            have hszo : wo.heap.size ≤ (wr.alloc (.cells #[.slice ri.a ri.z.length ri.c] 41)).heap.size := by have := hb.size; simp; omega
            go_wp2_with (at_builtin; refine law_append tRows _ rfl _ _ rfl Row.val wo.heap.size _ [.slice ri.a ri.z.length ri.c] rfl ON.out (some ⟨g', 0, none⟩) c' ts rfl RT.out (fun h => by cases h) ?c0 ?c1 ?c2 ?_)
            try (case c0 => intro y _; rfl)
            try (case c1 => simp; omega)
            try (case c2 => exact hszo)
            intro v8 w8 h1 h2
            have BN := hid (BQA.out.trans (grown_below h2 hszo (fun b hb => ON.out.ge b hb)))
            have cfw := cellB BN.out CFO.out (Nat.le_refl _)
            rw [frV_get] at cfw
            obtain ⟨g8, c8, hv8⟩ := own_some h1 (by simp)
            have hl8 : (Value.slice ri.a ri.z.length ri.c :: List.map Row.val ts).length = ts.length + 1 := by simp
            rw [hl8] at hv8
            have ON8 := hid (show Own 41 w8 wo.heap.size (.slice (some ⟨g8, 0, none⟩) (ri :: ts).length c8) ((ri :: ts).map Row.val) from by
              have h9 := h1
              rw [hv8] at h9
              exact h9)
            subst hv8
            clear h1 h2 hl8 cf cq
            by_cases hi0' : i = 0
            · have HFIN := hid (show P.getD k [] = M[i] :: T from by
                rw [HP.out]
                subst hi0'
                rw [BF.out.first.2, ← BF.out.first.1, HGI.out]; rfl)
              have HS0 := hid (show (ri :: ts).Sublist qs from by have h9 := HSUB.out; rw [hi0', List.drop_zero] at h9; exact h9)
              unfold frE at cfw
              rw [if_pos hi0'] at cfw
              clear hi0'
              go_wp2
              go_roundw
              case rel => exact ⟨_, ri :: ts, g8, c8, by simp, ON8.out, HNT.out, .inr ⟨rfl, HFIN.out, HS0.out⟩, BN.out⟩
              case measure => simp [intOf]
            · have hpi := HPI.out (by omega)
              have hpl := hpi.1
              have HFIN := hid (show P.getD k [] = P.getD (par i) [] ++ M[i] :: T from by
                rw [HP.out, hpi.2.2.2, HGI.out, List.append_assoc]; rfl)
              have HS0 := hid (show (ri :: ts).Sublist (qs.drop (par i + 1)) from by
                refine HSUB.out.trans ?_
                have h9 : qs.drop i = (qs.drop (par i + 1)).drop (i - (par i + 1)) := by rw [List.drop_drop]; congr 1; omega
                rw [h9]
                exact List.drop_sublist _ _)
              unfold frE at cfw
              rw [if_neg hi0'] at cfw
              clear hi0' hpi
              generalize par i = pi at *
              go_wp2
              go_roundw
              case rel => exact ⟨_, ri :: ts, g8, c8, by simp, ON8.out, HNT.out, .inl ⟨pi, by omega, rfl, HFIN.out, HS0.out⟩, BN.out⟩
              case measure => simp [intOf]; omega
          · have HRT := hid (show ∃ d, (x, d) ∈ Q ∧ T = downN A Q d x from by obtain ⟨d, h1, h2⟩ := HFD.out; exact ⟨d, h1, by rw [← hP]; exact h2⟩)
            have HCH := hid (show chnM A x = some T from by obtain ⟨d, h1, h2⟩ := HRT.out; rw [h2]; exact HCS.out d h1)
            have HIN := hid (IN.out.sub hsub)
            have hso : w0.heap.size ≤ wo.heap.size := CSr.out.below.size
            have OW := hid (show OwnM 41 2 wr w.heap.size (.slice (some ⟨g', 0, none⟩) ts.length c') ts from ⟨OT.out.base (by omega), (HIN.out.past hb (Nat.le_refl _)).base hszw⟩)
            have BW := hid (B00.out.trans ((CSr.out.below.mono hszw).trans (hb.mono (by omega))))
            clear hb hP hsub
            go_wp2
            go_ret2
            unfold SChnPost
            rw [HCH.out]
            exact ⟨_, ts, rfl, NTS.out, OW.out, BW.out⟩
      · have hcase : (((ya : Int) == (v : Int)) = true ∧ ((yb : Int) == (u : Int)) = false) ∨ ((ya : Int) == (v : Int)) = false := by
          by_cases h1 : ya = v
          · left
            refine ⟨by rw [h1]; simp, ?_⟩
            rw [beq_eq_false_iff_ne]
            intro h2
            exact hfo (HOY.out.1 ⟨h1, by omega⟩)
          · right
            rw [beq_eq_false_iff_ne]; omega
        have HNT := hid (show opp x ∉ M.take (k + 1) from by
          rw [HTK.out]
          intro h
          rcases List.mem_append.1 h with h | h
          · exact NT.out h
          · simp at h
            exact hfo h.symm)
        clear hfo HOY HTK
        have D3 : Drawn wr wr.drew := ⟨1, rfl⟩
        have f0 := dcell D3 c0
        have f1 := dcell D3 ck
        have f2 := dcell D3 e0
        have f3 := dcell D3 e1
        have RA3 := hid (RA.out.below (D3.below wr.heap.size) (Nat.le_refl _))
        have CS3 := hid (CS.out.past (D3.below wr.heap.size))
        have IN3 := hid (IN.out.past (D3.below wr.heap.size) (Nat.le_refl _))
        rcases hcase with ⟨d1, d2⟩ | d1
        all_goals (
          go_wp2_with fail
          clear c0 ck e0 e1
          go_region_held3 (fun w' => w'.cell? ⟨w.heap.size, 0, none⟩ = some (.slice a rs.length c) ∧ w'.cell? ⟨lg, k, none⟩ = some (.slice (some ⟨rb, ro, none⟩) 2 rc) ∧ w'.cell? ⟨rb, ro, none⟩ = some (.int .i64 ya) ∧ w'.cell? ⟨rb, ro + 1, none⟩ = some (.int .i64 yb)) (first | exact ⟨f0, f1, f2, f3⟩ | exact ⟨g0, g1, g2, g3⟩) ((first | (go_at_call 68; refine (l13Forces_any a rs c n A ya yb _ HA.out HNM.out RA3.out hyan hybn).mono ?_; rintro er w7 ⟨fv, fq, rfl, hown, hnu, hso, hb7⟩; obtain ⟨ng, nc, rfl⟩ := ownM_slice hown hso; have OF := hid hown; have NF := hid (HYC.out ▸ hnu); have g0 := cellB hb7 f0 (Nat.le_refl _); have g1 := cellB hb7 f1 (Nat.le_refl _); have g2 := cellB hb7 f2 (Nat.le_refl _); have g3 := cellB hb7 f3 (Nat.le_refl _); have CS7 := hid (CS3.out.past hb7); have IN7 := hid (IN3.out.past hb7 (Nat.le_refl _)); have HSZ7 := hid hb7.size; clear hown hnu hso hb7)))
          have hsz0w : w0.heap.size ≤ wr.heap.size := CS.out.below.size
          have HLG := hid (show lg < wr.heap.size from CS.out.list.lt lg rfl)
          have HNG := hid (show lg ≠ ng from by have h1 := OF.out.outer.ge ng rfl; have h2 := HLG.out; have h3 : wr.drew.heap.size = wr.heap.size := rfl; omega)
          have BASE := hid (show Inner 2 w7 w0.heap.size (qs ++ fq) from IN7.out.join OF.out.inner hsz0w (fun r hr g hg => (IN.out.own r hr).lt g hg))
          have HFL := hid (show fq.length = (frL A y).length by have h1 := congrArg List.length NF.out; rwa [nums_length, List.length_map] at h1)
          have OF0 := hid (OF.out.base hsz0w)
          have HKM := hid hkl
          clear f0 f1 f2 f3 g0 g1 g2 g3 RA3 CS3 IN3 OF HLG
          go_wp2
          have HYE := hid (show edA A y = true from by have h9 := BF.out.edge _ (getDn_mem hkl); rw [HGD.out] at h9; exact h9)
          have HFM := hid (fun z (hz : z ∈ frL A y) => (mem_frL' HA.out (A := A) (x := y) (y := z)).1 hz)
          have HFS := hid (frL_sorted A y)
          have hf256 := frL_lenS A y
          have BF0 := hid BF.out; have CS0 := hid CS7.out
          clear BF CS7 IN7 IN NT CS
          generalize hFR : frL A y = R at *
          have HFR := hid hFR
          clear hFR
          go_loopw [8, 9, 14] (fun lv fv iv wq => ∃ (j : Nat) (qs : List Row) (M : List Nat) (P : List (List Nat)) (par : Nat → Nat), iv = .int .i64 (j : Nat) ∧ j ≤ fq.length ∧ Bfn A x M P par k (R.take j) ∧ k < M.length ∧ M.getD k 0 = y ∧ opp x ∉ M.take (k + 1) ∧ ChS w0 wq lv fv qs M par ∧ (∀ g c n, lv = .slice (some ⟨g, 0, none⟩) n c → g ≠ ng) ∧ OwnM 41 2 wq w0.heap.size (.slice (some ⟨ng, 0, none⟩) fq.length nc) fq ∧ Inner 2 wq w0.heap.size (qs ++ fq.drop j)) (fun _ _ iv _ => fq.length - (intOf iv).toNat)
          case atStart => exact ⟨0, qs, M, P, par, rfl, Nat.zero_le _, by rw [List.take_zero]; exact BF0.out, HKM.out, HGD.out, HNT.out, CS0.out, (fun g c n hv => by injection hv with e1 _ _; injection e1 with e1; injection e1 with e1 _; rw [← e1]; exact HNG.out), OF0.out, BASE.out⟩
          case round =>
            clear BF0 CS0 OF0 BASE HNG HNT HGD HKM HRM HQL
            obtain ⟨j, qs, M, P, par, rfl, hj, hbf, hkM, hgd, hnt, hcs, hsep, hnx, hin⟩ := hrel
            have BF := hid hbf; have HKM := hid hkM; have HGD := hid hgd; have NT := hid hnt; have CS := hid hcs; have SEP := hid hsep; have NX := hid hnx; have IN := hid hin
            obtain ⟨lg, lc, rfl⟩ := hcs.som
            obtain ⟨fg, fc, rfl⟩ := hcs.fsom
            have hql : qs.length = M.length := by have := congrArg List.length hcs.nl; simpa [nums] using this
            have HQL := hid hql
            have hm256 : M.length ≤ 256 := by
              have h1 : M.length ≤ (List.range 256).length := hbf.nod.length_le_of_subset (fun y hy => List.mem_range.2 (edA_256 HA.out (hbf.edge y hy)))
              simpa using h1
            have hszq : w0.heap.size ≤ wr.heap.size := hcs.below.size
            clear hbf hkM hgd hnt hsep hnx hin hql
            by_cases hjl : j < fq.length
            · have hji : (j : Int) < (fq.length : Int) := by omega
              have hjR : j < R.length := by have := HFL.out; omega
              have HTK := hid (List.take_succ_eq_append_getElem hjR)
              have HZM := hid (HFM.out _ (List.getElem_mem hjR))
              have HZR := hid (List.getElem_mem hjR)
              have HZS := hid (show ∀ z' ∈ R.take j, z' < R[j] from fun z' hz' => by
                obtain ⟨i, hi, rfl⟩ := List.mem_iff_getElem.1 hz'
                rw [List.length_take] at hi
                rw [List.getElem_take]
                exact List.pairwise_iff_getElem.1 HFS.out i j (by omega) hjR (by omega))
              obtain ⟨nb, no, zra, zrc, hna, cn, hzrd, zb1, zo, hzra, ez0, ez1⟩ := row_pr NX.out.rdm NF.out hjR
              injection hna with hna
              injection hna with hn1 hn2
              subst hn1; subst hn2; subst hzra
              rw [Nat.zero_add] at cn
              have hdp := List.drop_eq_getElem_cons hjl
              obtain ⟨nb2, no2, hna2, cn2, _⟩ := NX.out.rdm.at j hjl
              obtain ⟨rfl, rfl⟩ : ng = nb2 ∧ 0 = no2 := by simpa using hna2
              rw [Nat.zero_add, cn] at cn2
              have hfv : fq[j].val = .slice (some ⟨zb1, zo, none⟩) 2 zrc := by
                unfold Row.val
                injection cn2 with cn2
                exact cn2.symm
              have hfz : fq[j].z = prI R[j] := by
                have h1 : (nums fq)[j]'(by rw [nums_length]; exact hjl) = (R.map prI)[j]'(by simpa using hjR) := by simp only [NF.out]
                simpa [nums] using h1
              rw [hdp] at IN
              obtain ⟨z, hz⟩ : ∃ z, z = R[j]'hjR := ⟨_, rfl⟩
              rw [← hz] at HTK HZM HZR HZS ez0 ez1 hfz
              generalize fq[j] = rj at *
              obtain ⟨za, hza⟩ : ∃ za, za = z / 16 := ⟨_, rfl⟩
              obtain ⟨zb, hzb⟩ : ∃ zb, zb = z % 16 := ⟨_, rfl⟩
              have hzc : cod za zb = z := by rw [hza, hzb]; exact cod_self z
              have hzb16 : zb < 16 := by omega
              have hzed := frB_edge HA.out HZM.out
              have HZED := hid hzed
              rw [← hza] at ez0
              rw [← hzb] at ez1
              have HZC := hid hzc
              have HFV := hid hfv; have HFZ := hid hfz
              have D3 : Drawn wr wr.drew := ⟨1, rfl⟩
              have f1 := dcell D3 cn
              have f2 := dcell D3 ez0
              have f3 := dcell D3 ez1
              have CS3 := hid (CS.out.past (D3.below wr.heap.size))
              have NX3 := hid (NX.out.past (D3.below wr.heap.size) (Nat.le_refl _))
              have IN3 := hid (IN.out.past (D3.below wr.heap.size) (Nat.le_refl _))
              have INQ := hid (IN3.out.sub (rs' := qs) (by simp))
              have RO3 := hid (show RdM wr.drew (some ⟨lg, 0, none⟩) qs from (show OwnM 41 2 wr.drew w0.heap.size (.slice (some ⟨lg, 0, none⟩) M.length lc) qs from ⟨CS3.out.list, INQ.out⟩).rdm)
              have NO3 := hid CS.out.nl
              have HQ16 := hid (show qs.length ≤ 16777216 by rw [HQL.out]; omega)
              have hszd : w0.heap.size ≤ wr.drew.heap.size := hszq
              clear hz hza hzb hzc hzed hna2 cn2 hfv hfz hdp hzrd
              by_cases hzM : z ∈ M
              · have HB1 := hid (show decide (z ∈ M) = true by rw [decide_eq_true_iff]; exact hzM)
                have BF2 := hid (show Bfn A x M P par k (R.take (j + 1)) from by rw [HTK.out]; exact BF.out.skip z hzM)
                have IN4 := hid (IN3.out.sub (rs' := qs ++ fq.drop (j + 1)) (List.Sublist.append_left (List.sublist_cons_self _ _) _))
                clear hzM
                go_wp2_with fail
                clear cn ez0 ez1
                go_region_held3 (fun w' => w'.cell? ⟨ng, j, none⟩ = some (.slice (some ⟨zb1, zo, none⟩) 2 zrc) ∧ w'.cell? ⟨zb1, zo, none⟩ = some (.int .i64 za) ∧ w'.cell? ⟨zb1, zo + 1, none⟩ = some (.int .i64 zb)) (first | exact ⟨f1, f2, f3⟩) ((first | (go_at_call 67; refine (l19Has_n _ qs _ _ M za zb z _ _ HQL.out NO3.out RO3.out HZC.out hzb16 HB1.out HQ16.out).mono ?_; rintro e w' ⟨rfl, rfl⟩)))
                go_wp2
                go_roundw
                case rel => exact ⟨j + 1, qs, M, P, par, by go_num, by omega, BF2.out, HKM.out, HGD.out, NT.out, CS3.out, SEP.out, NX3.out, IN4.out⟩
                case measure => simp [intOf]; omega
              · have HB1 := hid (show decide (z ∈ M) = false by rw [decide_eq_false_iff_not]; exact hzM)
                have BF2 := hid (show Bfn A x (M ++ [z]) (P ++ [P.getD k [] ++ [z]]) (fun i => if i < M.length then par i else k) k (R.take (j + 1)) from by
                  rw [HTK.out]
                  exact BF.out.take z HKM.out hzM HZED.out (by rw [HGD.out]; exact (mem_frL' HA.out).2 HZM.out) HZS.out)
                have HM0 : 0 < M.length := BF.out.pos
                have HFP := hid (frV_push par HM0 k)
                have HNUM := hid (show nums (qs ++ [rj]) = (M ++ [z]).map prI from by rw [List.map_append, ← CS.out.nl]; simp [nums, HFZ.out])
                have HGD2 := hid (show (M ++ [z]).getD k 0 = y from by rw [getDn_snoc M z k (by have := HKM.out; omega), if_pos HKM.out]; exact HGD.out)
                have HNT2 := hid (show opp x ∉ (M ++ [z]).take (k + 1) from by rw [List.take_append_of_le_length (by have := HKM.out; omega)]; exact NT.out)
                have HKM2 := hid (show k < (M ++ [z]).length from by rw [List.length_append]; have := HKM.out; omega)
                have HML2 := hid (show (M ++ [z]).length = M.length + 1 by simp)
                have HQL2 := hid (show (qs.map Row.val).length < 1099511627776 by rw [List.length_map, HQL.out]; omega)
                have HFL2 := hid (show (frV par M.length).length < 1099511627776 by rw [frV_len]; omega)
                clear hzM HM0
                go_wp2_with fail
                clear ez0 ez1
                go_region_held3 (fun w' => w'.cell? ⟨ng, j, none⟩ = some (.slice (some ⟨zb1, zo, none⟩) 2 zrc) ∧ w'.cell? ⟨zb1, zo, none⟩ = some (.int .i64 za) ∧ w'.cell? ⟨zb1, zo + 1, none⟩ = some (.int .i64 zb)) (first | exact ⟨f1, f2, f3⟩) ((first | (go_at_call 67; refine (l19Has_n _ qs _ _ M za zb z _ _ HQL.out NO3.out RO3.out HZC.out hzb16 HB1.out HQ16.out).mono ?_; rintro e w' ⟨rfl, rfl⟩)))
                clear f2 f3 cn
                generalize wr.drew = wd at *
                have TOK : True := trivial
                go_wp2_with (first | (at_builtin; clear TOK; refine law_push_w tRows _ rfl _ _ rfl w0.heap.size _ (qs.map Row.val) rfl CS3.out.list _ _ rfl rfl rfl HQL2.out hszd ?_; intro v8 w8 k1 k2 k3; have K1 := hid k1; have K2 := hid (show wd.grownBy w8 (Value.slice (some ⟨lg, 0, none⟩) M.length lc).ownBlock from k2); have K3 := hid (show v8.ownBlock = (Value.slice (some ⟨lg, 0, none⟩) M.length lc).ownBlock ∨ (∃ k, v8.ownBlock = some k ∧ wd.heap.size ≤ k) from k3); have FR8 := hid (CS3.out.from_.kept k2 (CS3.out.from_.ne CS3.out.list (by decide))); have hs8 : w0.heap.size ≤ w8.heap.size := Nat.le_trans hszd k2.size; clear k1 k2 k3) | (at_builtin; refine law_push tIntsL _ rfl _ _ rfl w0.heap.size _ (frV par M.length) rfl FR8.out _ _ rfl rfl rfl HFL2.out hs8 ?_; intro v9 w9 q1 q2))
                have OL8 := hid (show Own 41 w8 w0.heap.size v8 ((qs ++ [rj]).map Row.val) from by
                  have h9 := K1.out
                  rw [List.map_append, List.map_cons, List.map_nil, HFV.out]
                  exact h9)
                have OL9 := hid (OL8.out.kept q2 (OL8.out.ne FR8.out (by decide)))
                have IN8 := hid (IN3.out.kept_outer CS3.out.list (by decide) K2.out)
                have IN9 := hid (show Inner 2 w9 w0.heap.size ((qs ++ [rj]) ++ fq.drop (j + 1)) from by
                  have h9 := IN8.out.kept_outer FR8.out (by decide) q2
                  rw [List.append_assoc]
                  exact h9)
                have hsepl : lg ≠ ng := SEP.out lg lc M.length rfl
                have NX8 := hid (show OwnM 41 2 w8 w0.heap.size (.slice (some ⟨ng, 0, none⟩) fq.length nc) fq from ⟨NX3.out.outer.kept K2.out (.inr (by simpa [Value.ownBlock] using fun e : ng = lg => hsepl e.symm)), NX3.out.inner.kept_outer CS3.out.list (by decide) K2.out⟩)
                have NX9 := hid (show OwnM 41 2 w9 w0.heap.size (.slice (some ⟨ng, 0, none⟩) fq.length nc) fq from ⟨NX8.out.outer.kept q2 (NX8.out.outer.ne FR8.out (by decide)), NX8.out.inner.kept_outer FR8.out (by decide) q2⟩)
                have hngl := NX3.out.outer.lt ng rfl
                obtain ⟨g8, c8, hv8⟩ := own_some OL8.out (by simp)
                have hl8 : ((qs ++ [rj]).map Row.val).length = (M ++ [z]).length := by rw [List.length_map, List.length_append, List.length_append, HQL.out]; rfl
                rw [hl8] at hv8
                have SEP8 := hid (show ∀ g c n, v8 = .slice (some ⟨g, 0, none⟩) n c → g ≠ ng from fun g c n hv e => by
                  rcases K3.out with h9 | ⟨q, h9, hq⟩
                  · rw [hv] at h9
                    have : g = lg := by simpa [Value.ownBlock] using h9
                    exact hsepl (by rw [← this]; exact e)
                  · rw [hv] at h9
                    have : g = q := by simpa [Value.ownBlock] using h9
                    omega)
                have OF9 := hid (show Own 3 w9 w0.heap.size v9 (frV (fun i => if i < M.length then par i else k) (M ++ [z]).length) from by
                  rw [HML2.out, HFP.out]
                  exact q1)
                obtain ⟨g9, c9, hv9⟩ := own_some OF9.out (by rw [frV_len]; simp)
                rw [frV_len] at hv9
                have B9 := hid ((CS3.out.below.trans (grown_below K2.out hszd (fun b hb => CS3.out.list.ge b hb))).trans (grown_below q2 hs8 (fun b hb => FR8.out.ge b hb)))
                have CS9 := hid (show ChS w0 w9 v8 v9 (qs ++ [rj]) (M ++ [z]) (fun i => if i < M.length then par i else k) from ⟨OL9.out, ⟨g8, c8, hv8⟩, HNUM.out, OF9.out, ⟨g9, c9, hv9⟩, B9.out⟩)
                clear q1 q2 hl8 hv8 hv9
                go_wp2
                go_roundw
                case rel => exact ⟨j + 1, qs ++ [rj], M ++ [z], _, _, by go_num, by omega, BF2.out, HKM2.out, HGD2.out, HNT2.out, CS9.out, SEP8.out, NX9.out, IN9.out⟩
                case measure => simp [intOf]; omega
            · obtain rfl : j = fq.length := by omega
              have hRl : R.take fq.length = R := List.take_of_length_le (by have := HFL.out; omega)
              rw [hRl] at BF
              have BF2 := hid (show Bfn A x M P par (k + 1) [] from by
                have h9 := BF.out
                refine Bfn.leave ?_
                rw [HGD.out, HFR.out]
                exact h9)
              have INF := hid (IN.out.sub (rs' := qs) (by simp))
              clear hRl
              go_wp2
              go_roundw
              case rel => exact ⟨k + 1, qs, M, P, par, by go_num, HKM.out, BF2.out, NT.out, CS.out, INF.out⟩
              case measure => have := HKM.out; simp [intOf]; omega)
    · obtain rfl : k = M.length := by omega
      have HNO := hid (show chnM A x = none from HCN.out (fun d => BF.out.none HDN.out (by have h := NT.out; rwa [List.take_length] at h) d))
      have ON := hid (own_new 41 wr [] (by decide))
      have hszr : w0.heap.size ≤ wr.heap.size := CS.out.below.size
      have BW := hid (show Below w.heap.size w (wr.alloc (.cells #[] 41)) from (B00.out.trans (CS.out.below.mono hszw)).alloc (by omega) _)
      go_wp2
      go_ret2
      unfold SChnPost
      rw [HNO.out]
      exact ⟨_, [], rfl, rfl, ⟨ON.out.base (by omega), Inner.nil _ _ _⟩, BW.out⟩
theorem l13Chain_n (a : Option Addr) (rs : List Row) (c n : Nat) (A : List Nat) (u v x : Nat) (w : World) (hx : cod u v = x) (hA : GA n A) (hnm : nums rs = A.map mems) (hr : RdM w a rs) (hu : u < n) (hv : v < n) (hed : edA A x = true) :
    Calls Tryd.prog 81 #[.agg #[.slice a rs.length c], .int .i64 u, .int .i64 v] w fun e w' => ∃ y qs, e = .returned (.tuple #[y, .bool (chnM A x).isSome]) ∧ nums qs = ((chnM A x).getD []).map prI ∧ OwnM 41 2 w' w.heap.size y qs ∧ Below w.heap.size w w' := l13Chain_any a rs c n A u v x w hx hA hnm hr hu hv hed
set_option maxRecDepth 100000 in
set_option maxHeartbeats 4000000 in
theorem specOddChain_any (a : Option Addr) (rs : List Row) (c : Nat) (w : World) (hr : RdM w a rs) (hn : Small rs) :
    Calls Tryd.prog 27 #[.agg #[.slice a rs.length c]] w (RetOdd (oddG (nums rs)) w) := by
  have RA := hid hr; clear hr
  obtain ⟨w0, hw0⟩ : ∃ w0, w0 = (w.alloc (.cells #[.slice a rs.length c] 28)) := ⟨_, rfl⟩
  have B0 := hid (show Below w.heap.size w w0 by rw [hw0]; exact ((Below.refl _ _).alloc (Nat.le_refl _) _))
  have c0 : w0.cell? ⟨w.heap.size, 0, none⟩ = some (.slice a rs.length c) := by rw [hw0]; simp [go_sem]
  replace RA := hid (RA.out.below B0.out (Nat.le_refl _))
  have HW := hid hw0; clear hw0
  by_cases hg : GOk (nums rs)
  · have H1 := hid (show decide (GOk (nums rs)) = true by simpa using hg)
    have HGA := hid (show GA rs.length ((nums rs).map maskL) by have := GA.of hg; rwa [nums_length] at this)
    have HNM := hid (show nums rs = ((nums rs).map maskL).map mems by
      rw [List.map_map]
      apply List.ext_getElem (by simp)
      intro i h1 h2
      have hi : i < (nums rs).length := h1
      have h3 := mems_maskL (hg.inc i hi) (by have := hg.le; omega)
      rw [row_nat _ _ hi] at h3
      simp [h3])
    have HE := hid (show oddG (nums rs) = oddM rs.length ((nums rs).map maskL) by unfold oddG; rw [if_pos hg, nums_length])
    have h16 := HGA.out.le
    clear hg
    generalize (nums rs).map maskL = A at *
    go_enter Tryd.func27, Tryd.ntmps27
    go_wp2_with fail
    rw [← HW.out]
    go_wp2_with fail
    refine (specGraphOk_b a rs c _ true H1.out RA.out hn).mono ?_
    rintro e w1 ⟨rfl, hb⟩
    replace RA := hid (RA.out.below hb (Nat.le_refl _))
    replace B0 := hid (bon B0.out hb)
    replace c0 := cellB hb c0 (Nat.le_refl _)
    clear hb
    have HC1 := hid c0; have RA1 := hid RA.out; have HB1 := hid B0.out
    have hsz1 := B0.out.size
    have BL := hid (Below.refl w1.heap.size w1)
    go_wp2
    go_loopw [4, 5, 6, 7] (fun v _ _ _ wr => ∃ u : Nat, u ≤ rs.length ∧ v = .int .i64 u ∧ (∀ u', u' < u → oddU A u' = none) ∧ Below w1.heap.size w1 wr) (fun v _ _ _ _ => rs.length - (intOf v).toNat)
    case atStart => exact ⟨0, Nat.zero_le _, rfl, (fun u' hu => absurd hu (Nat.not_lt_zero u')), BL.out⟩
    case round =>
      clear BL RA c0 B0
      obtain ⟨u, hu, rfl, hno, hb⟩ := hrel
      have NO := hid hno; have BLu := hid hb
      have c0 := cellB hb HC1.out (Nat.le_refl _)
      clear hno
      by_cases hlt : u < rs.length
      · have hui : (u : Int) < (rs.length : Int) := by omega
        have HRZ := hid (rows_z HNM.out hlt)
        have hx16 : A.getD u 0 < 65536 := Nat.lt_of_lt_of_le (HGA.out.in2 u) (Nat.pow_le_pow_right (n := 2) (i := rs.length) (j := 16) (by decide) h16)
        generalize hX : A.getD u 0 = X at *
        have HX := hid hX
        have hml : (mems X).length = (memsN X).length := by unfold mems; rw [List.length_map]
        have HML := hid hml
        have hl32 := memsN_len X
        have BL2 := hid (Below.refl wr.heap.size wr)
        clear hX hb
        go_wp2
        go_loopw [5, 6, 7] (fun v _ _ wq => ∃ j : Nat, j ≤ (memsN X).length ∧ v = .int .i64 j ∧ (∀ i (hi : i < (memsN X).length), i < j → chnM A (cod u (memsN X)[i]) = none) ∧ Below w1.heap.size w1 wq) (fun v _ _ _ => (memsN X).length - (intOf v).toNat)
        case atStart => exact ⟨0, Nat.zero_le _, rfl, (fun i _ hi => absurd hi (Nat.not_lt_zero i)), BLu.out⟩
        case round =>
          clear BL2 c0
          obtain ⟨j, hj, rfl, hno, hb⟩ := hrel
          have NO2 := hid hno; have BQ := hid hb
          have c0 := cellB hb HC1.out (Nat.le_refl _)
          have RA := hid (RA1.out.below hb (Nat.le_refl _))
          obtain ⟨ab, ao, rfl, cr, hrok⟩ := RA.out.at u hlt
          have HRR := hid hrok.1
          rw [HRZ.out] at cr HRR
          rw [hml] at cr
          generalize rs[u].a = ra at *
          generalize rs[u].c = rc at *
          clear hno hrok
          by_cases hjl : j < (memsN X).length
          · have hji : (j : Int) < ((memsN X).length : Int) := by omega
            obtain ⟨rb, ro, hra, cj⟩ := HRR.out j (by rw [hml]; exact hjl)
            rw [mems_at hjl] at cj
            subst hra
            have hbit : bt A u (memsN X)[j] = true := by
              have h9 := (memsN_mem (m := X) (by omega)).1 (List.getElem_mem hjl)
              unfold bt
              rw [HX.out]
              exact h9
            have hvn := (HGA.out.lt hbit).2
            have hed : edA A (cod u (memsN X)[j]) = true := by rw [edA_cod (by omega)]; exact hbit
            have HED := hid hed
            have HSO := hid (fun L (h : chnM A (cod u (memsN X)[j]) = some L) => oddM_someX HX.out hlt NO.out hjl (fun i hi => NO2.out i (by omega) hi) h)
            have HNX := hid (fun (h : chnM A (cod u (memsN X)[j]) = none) => (show ∀ i (hi : i < (memsN X).length), i < j + 1 → chnM A (cod u (memsN X)[i]) = none from fun i hi hij => by
              by_cases e1 : i = j
              · subst e1; exact h
              · exact NO2.out i hi (by omega)))
            have BW := hid (HB1.out.trans (BQ.out.mono hsz1))
            clear hbit hed hml
            generalize (memsN X)[j] = v at *
            have D3 : Drawn wr wr.drew := ⟨1, rfl⟩
            have f0 := dcell D3 c0
            have f1 := dcell D3 cr
            have f2 := dcell D3 cj
            have RA3 := hid (RA.out.below (D3.below wr.heap.size) (Nat.le_refl _))
            have BW3 := hid (bon BW.out (D3.below wr.heap.size))
            have BQ3 := hid (bonL BQ.out (D3.below wr.heap.size) (Nat.le_refl _))
            have hszd : w.heap.size ≤ wr.drew.heap.size := BW3.out.size
            clear hb
            go_wp2_with fail
            clear c0 cr cj
            go_region_held3 (fun w' => w'.cell? ⟨w.heap.size, 0, none⟩ = some (.slice (some ⟨ab, ao, none⟩) rs.length c) ∧ w'.cell? ⟨ab, ao + u, none⟩ = some (.slice (some ⟨rb, ro, none⟩) (memsN X).length rc) ∧ w'.cell? ⟨rb, ro + j, none⟩ = some (.int .i64 v)) (first | exact ⟨f0, f1, f2⟩ | exact ⟨g0, g1, g2⟩) ((first | (go_at_call 81; refine (l13Chain_n _ rs c rs.length A u v (cod u v) _ rfl HGA.out HNM.out RA3.out hlt hvn HED.out).mono ?_; rintro er w7 ⟨y, qs, rfl, hnq, hoq, hb7⟩; have g0 := cellB hb7 f0 (Nat.le_refl _); have g1 := cellB hb7 f1 (Nat.le_refl _); have g2 := cellB hb7 f2 (Nat.le_refl _); have NQ := hid hnq; have OQ := hid hoq; have BW7 := hid (bon BW3.out hb7); have BQ7 := hid (bonL BQ3.out hb7 (Nat.le_refl _)); clear hnq hoq hb7)))
            clear f0 f1 f2 g0 g1 g2
            cases hc : chnM A (cod u v) with
            | some L =>
              have HEE := hid (show oddG (nums rs) = some L by rw [HE.out]; exact HSO.out L hc)
              rw [hc] at NQ
              simp only [Option.isSome_some]
              clear hc HSO HNX
              go_wp2
              go_ret2
              rw [HEE.out]
              exact ⟨_, qs, rfl, NQ.out, OQ.out.base hszd, BW7.out⟩
            | none =>
              have HNO2 := hid (HNX.out hc)
              simp only [Option.isSome_none]
              clear hc HSO HNX
              go_wp2
              go_roundw
              case rel => exact ⟨j + 1, by omega, by go_num, HNO2.out, BQ7.out⟩
              case measure => simp [intOf]; omega
          · obtain rfl : j = (memsN X).length := by omega
            have HNU := hid (show ∀ u', u' < u + 1 → oddU A u' = none from fun u' hu' => by
              by_cases e1 : u' = u
              · rw [e1]; exact oddU_noneX HX.out (fun i hi => NO2.out i hi hi)
              · exact NO.out u' (by omega))
            clear hb hml
            go_wp2
            go_roundw
            case rel => exact ⟨u + 1, by omega, by go_num, HNU.out, BQ.out⟩
            case measure => simp [intOf]; omega
      · obtain rfl : u = rs.length := by omega
        have HEE := hid (show oddG (nums rs) = none by rw [HE.out]; exact oddM_none NO.out)
        have BW := hid (HB1.out.trans (BLu.out.mono hsz1))
        have ON := hid (own_new 41 wr [] (by decide))
        have hszw := BW.out.size
        clear hb
        go_wp2
        go_ret2
        rw [HEE.out]
        exact ⟨_, [], rfl, rfl, ⟨ON.out.base hszw, Inner.nil _ _ _⟩, BW.out.alloc hszw _⟩
  · have H1 := hid (show decide (GOk (nums rs)) = false by simpa using hg)
    have HE := hid (show oddG (nums rs) = none by unfold oddG; rw [if_neg hg])
    clear hg
    go_enter Tryd.func27, Tryd.ntmps27
    go_wp2_with fail
    rw [← HW.out]
    go_wp2_with fail
    refine (specGraphOk_b a rs c _ false H1.out RA.out hn).mono ?_
    rintro e w2 ⟨rfl, hb⟩
    replace RA := hid (RA.out.below hb (Nat.le_refl _))
    replace B0 := hid (bon B0.out hb)
    replace c0 := cellB hb c0 (Nat.le_refl _)
    clear hb
    have ON := hid (own_new 41 w2 [] (by decide))
    have hsz := B0.out.size
    go_wp2
    go_ret2
    rw [HE.out]
    exact ⟨_, [], rfl, rfl, ⟨ON.out.base hsz, Inner.nil _ _ _⟩, B0.out.alloc hsz _⟩
theorem odd_small (g : List (List Int)) : SmallZ (((oddG g).getD []).map prI) := by
  cases h : oddG g with
  | none => exact ⟨by simp, fun r hr => by simp at hr⟩
  | some L =>
    have hl : L.length ≤ 257 := by
      unfold oddG at h
      split at h
      · exact oddM_len h
      · cases h
    refine ⟨by simp; omega, fun r hr => ?_⟩
    simp only [Option.getD_some] at hr
    obtain ⟨z, _, rfl⟩ := List.mem_map.1 hr
    simp [prI]
def RetOddR (r0 : List (List Int)) (b : Bool) (w : World) (e : Ending) (w' : World) : Prop :=
  ∃ v qs, e = .returned (.tuple #[v, .bool b]) ∧ nums qs = r0 ∧ OwnM 41 2 w' w.heap.size v qs ∧ Below w.heap.size w w'
theorem specOddChain_r (a : Option Addr) (rs : List Row) (c : Nat) (w : World) (r0 : List (List Int)) (b : Bool) (h0 : ((oddG (nums rs)).getD []).map prI = r0) (hb : (oddG (nums rs)).isSome = b) (hr : RdM w a rs) (hn : Small rs) :
    Calls Tryd.prog 27 #[.agg #[.slice a rs.length c]] w (RetOddR r0 b w) := by
  subst h0; subst hb; exact specOddChain_any a rs c w hr hn
theorem implOddChain_r (a : Option Addr) (rs : List Row) (c : Nat) (w : World) (r0 : List (List Int)) (b : Bool) (h0 : ((oddG (nums rs)).getD []).map prI = r0) (hb : (oddG (nums rs)).isSome = b) (hr : RdM w a rs) (hn : Small rs) (hT : TabOk w) :
    Calls Tryd.prog 28 #[.agg #[.slice a rs.length c]] w (RetOddR r0 b w) := by
  subst h0; subst hb; exact implOddChain_any a rs c w hr hn hT
end
end Go.Proofs.YtggjmnihnjdoaaaDoor
