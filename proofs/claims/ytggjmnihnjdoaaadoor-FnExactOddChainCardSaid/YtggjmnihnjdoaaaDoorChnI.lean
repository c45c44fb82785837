/- Chains of arrows: the program's. -/
import Derived.Test.YtggjmnihnjdoaaaDoorOriI
import Derived.Test.YtggjmnihnjdoaaaDoorChnM
namespace Go.Proofs.YtggjmnihnjdoaaaDoor
open Go.RowKit
section
/-- A box with an arrow in it. -/
def BoxA (w : World) (g y : Nat) : Prop := w.heap[g]? = some (.cells #[.int .i64 (y / 16 : Nat), .int .i64 (y % 16 : Nat)] 78 (0, 0))
theorem BoxA.c0 {w : World} {g y : Nat} (h : BoxA w g y) : w.cell? ⟨g, 0, none⟩ = some (.int .i64 (y / 16 : Nat)) := by simp [World.cell?, show w.heap[g]? = _ from h]
theorem BoxA.c1 {w : World} {g y : Nat} (h : BoxA w g y) : w.cell? ⟨g, 1, none⟩ = some (.int .i64 (y % 16 : Nat)) := by simp [World.cell?, show w.heap[g]? = _ from h]
theorem BoxA.lt {w : World} {g y : Nat} (h : BoxA w g y) : g < w.heap.size := (Array.getElem?_eq_some_iff.1 h).1
theorem BoxA.past {w w' : World} {g y : Nat} (h : BoxA w g y) (hb : Below w.heap.size w w') : BoxA w' g y := (hb.block g h.lt).trans h
theorem BoxA.kept {S : Nat → Prop} {w w' : World} {g y : Nat} (h : BoxA w g y) (hk : Kept S w w') (hn : ¬ S g) : BoxA w' g y := (hk.block g h.lt hn).trans h
theorem BoxA.f {w : World} {g y : Nat} (h : BoxA w g y) (i : Nat) : w.frozen? ⟨g, i, none⟩ = false := by simp [World.frozen?, show w.heap[g]? = _ from h]
theorem BoxA.put {w : World} {g y z : Nat} (h : BoxA w g y) {u v : Nat} (hu : u = z / 16) (hv : v = z % 16) : BoxA ((w.setCell ⟨g, 0, none⟩ (.int .i64 (u : Nat))).setCell ⟨g, 1, none⟩ (.int .i64 (v : Nat))) g z := by
  subst hu; subst hv
  unfold BoxA at *
  simp only [World.setCell, Array.getElem?_modify, h]
  simp
theorem law_mapOkD {ops : Array Oper} {rest : List Oper} {o : Oper} {a : Act} {K : Exit → Act → World → Prop} (w : World) (hg : o.guard = none) (m x : Operand) (hop : o.op = Op.lookup 82 m x true) (b : Nat) (Q : List (Nat × Nat)) (hm : a.eval m = .map (some b)) (h : MapA w b Q) (p d : Nat) (hp : p < 256) (hd : Hid ((p, d) ∈ Q)) (u1 u2 : Value) (hx : a.eval x = .agg #[u1, u2]) (h1 : u1 = .int .i64 (p / 16 : Nat)) (h2 : u2 = .int .i64 (p % 16 : Nat))
    (hK : wpList Tryd.prog ops K rest (a.put o.dst (.tuple #[.int .i64 (d : Nat), .bool true])) w) : wpList Tryd.prog ops K (o :: rest) a w := by
  refine law_mapOk w hg m x hop b Q hm h p hp u1 u2 hx h1 h2 fun c hc => ?_
  rw [hc d hd.out, show decide (p ∈ Q.map Prod.fst) = true from decide_eq_true (List.mem_map.2 ⟨_, hd.out, rfl⟩)]
  exact hK
theorem Own.neMap {e : TypeId} {w : World} {B b : Nat} {v : Value} {xs : List Value} {Q : List (Nat × Nat)} (h : Own e w B v xs) (hm : MapA w b Q) : v.ownBlock ≠ some b := by
  rcases h.form with ⟨rfl, _⟩ | ⟨g, cap, spare, rfl, _, hh, _⟩
  · simp [Value.ownBlock]
  · intro e1
    have : g = b := by simpa [Value.ownBlock] using e1
    subst this
    obtain ⟨D, ⟨es, clock, hb, _⟩, _⟩ := hm
    rw [hh] at hb
    cases hb
theorem ownM_some {eo ei : TypeId} {w : World} {B : Nat} {v : Value} {rs : List Row} (h : OwnM eo ei w B v rs) (h0 : 0 < rs.length) : ∃ a c, v = .slice (some a) rs.length c := by
  rcases h.outer.form with ⟨_, h2⟩ | ⟨g, cap, spare, h2, _⟩
  · have := congrArg List.length h2
    rw [List.length_map, List.length_nil] at this; omega
  · exact ⟨_, cap, by rw [h2, List.length_map]⟩
attribute [local irreducible] frL bq addAll bqE keyL
def ChnPost (A : List Nat) (x : Nat) (w : World) (e : Ending) (w' : World) : Prop :=
  Below w.heap.size w w' ∧ ((∃ L a c qs, chnM A x = some L ∧ e = .returned (.slice (some a) qs.length c) ∧ OwnM 41 2 w' w.heap.size (.slice (some a) qs.length c) qs ∧ nums qs = L.map prI) ∨ (chnM A x = none ∧ e = .returned (.slice none 0 0)))
theorem forcedFrom_n (a : Option Addr) (A : List Nat) (n c p q x : Nat) (w : World) (hx : cod p q = x) (hA : GA n A) (hr : Rd maskF w a A) (hp : p < n) (hq : q < n) (hT : TabOk w) :
    Calls Tryd.prog 77 #[.slice a n c, .agg #[.int .i64 p, .int .i64 q]] w fun e w' => ∃ bm, e = .returned (.map (some bm)) ∧ w.heap.size ≤ bm ∧ MapA w' bm (bqE A x) ∧ Below w.heap.size w w' := forcedFrom_any a A n c p q x w hx hA hr hp hq hT
set_option maxRecDepth 100000 in
set_option maxHeartbeats 4000000 in
theorem shortestChain_any (ab ao n c : Nat) (A : List Nat) (p q x : Nat) (w : World) (hx : cod p q = x) (hA : GA n A) (hr : Rd maskF w (some ⟨ab, ao, none⟩) A) (hp : p < n) (hq : q < n) (hed : edA A x = true) (hT : TabOk w) :
    Calls Tryd.prog 83 #[.slice (some ⟨ab, ao, none⟩) n c, .agg #[.int .i64 p, .int .i64 q]] w (ChnPost A x w) := by
  have RA := hid hr; have RT := hid hT; have HA := hid hA
  have RAg := hid hr; have RTg := hid hT
  have h16 := hA.le
  have hx256 : x < 256 := by rw [← hx]; unfold cod; omega
  have hxa : p = x / 16 := by rw [← hx, cod_div (by omega)]
  have hxb : q = x % 16 := by rw [← hx, cod_mod (by omega)]
  have HPX := hid hxa; have HQX := hid hxb
  have HXA := hid (show Value.int .i64 (p : Int) = .int .i64 (x / 16 : Nat) by rw [hxa])
  have HXB := hid (show Value.int .i64 (q : Int) = .int .i64 (x % 16 : Nat) by rw [hxb])
  have hop := opp_dm hx256
  have HOX := hid (show cod q p = opp x by rw [hxa, hxb]; rfl)
  have HDN := hid (disN hA (edA_opp hA hed))
  have HCS := hid (fun d => chnM_some (A := A) (x := x) (d := d) HDN.out.ok)
  have HCN := hid (chnM_none (A := A) (x := x))
  have HB256 := hid (show ∀ p ∈ bqE A (opp x), p.2 ≤ 256 from fun p hp => by unfold bqE at hp; exact bq_dist A (opp x) 256 p hp)
  clear hr hT hA hx hop hed
  obtain ⟨w0, hw0⟩ : ∃ w0, w0 = (w.alloc (.cells #[.int .i64 (p : Int), .int .i64 (q : Int)] 78)) := ⟨_, rfl⟩
  have B0 := hid (show Below w.heap.size w w0 by rw [hw0]; exact ((Below.refl _ _).alloc (Nat.le_refl _) _))
  have c0 : w0.cell? ⟨w.heap.size, 0, none⟩ = some (.int .i64 (p : Int)) := by rw [hw0]; simp [go_sem]
  have c0a : w0.cell? ⟨w.heap.size, 1, none⟩ = some (.int .i64 (q : Int)) := by rw [hw0]; simp [go_sem]
  replace RA := hid (RA.out.below B0.out (Nat.le_refl _))
  replace RT := hid (RT.out.below B0.out (Nat.le_refl _))
  have HW := hid hw0; clear hw0
  have hbox : BoxA w0 w.heap.size x := by
    unfold BoxA
    rw [HW.out, ← hxa, ← hxb]
    show (w.heap.push _)[w.heap.size]? = _
    simp
  have hsz0 : w0.heap.size = w.heap.size + 1 := by rw [HW.out]; simp
  have BX := hid hbox
  generalize hQE : bqE A (opp x) = Q at *
  have HQE := hid hQE
  clear hQE
  clear hxa hxb hbox
  go_enter Tryd.func83, Tryd.ntmps83
  go_wp2_with fail
  rw [← HW.out]
  refine (opposite_any _ _ w0).mono ?_
  rintro e w1 ⟨rfl, hb⟩
  have BX1 := hid (BX.out.past hb)
  replace RA := hid (RA.out.below hb (Nat.le_refl _))
  replace RT := hid (RT.out.below hb (Nat.le_refl _))
  replace B0 := hid (bon B0.out hb)
  replace c0 := cellB hb c0 (Nat.le_refl _)
  replace c0a := cellB hb c0a (Nat.le_refl _)
  clear hb
  go_wp2_with fail
  refine (forcedFrom_n (some ⟨ab, ao, none⟩) A n c q p (opp x) _ HOX.out HA.out RA.out hq hp RT.out).mono ?_
  rintro e w2 ⟨bm, rfl, hbm, hmp, hb⟩
  rw [HQE.out] at hmp
  have MP := hid hmp
  have BX2 := hid (BX1.out.past hb)
  have hbm0 : w.heap.size < bm := by have := BX1.out.lt; omega
  replace RA := hid (RA.out.below hb (Nat.le_refl _))
  replace RT := hid (RT.out.below hb (Nat.le_refl _))
  replace B0 := hid (bon B0.out hb)
  replace c0 := cellB hb c0 (Nat.le_refl _)
  replace c0a := cellB hb c0a (Nat.le_refl _)
  clear hb
  clear hmp hbm BX1 BX
  have hs2 := B0.out.size
  have hbml := MP.out.lt
  by_cases hin : x ∈ Q.map Prod.fst
  · have HDB := hid (show decide (x ∈ Q.map Prod.fst) = true by rw [decide_eq_true_iff]; exact hin)
    obtain ⟨⟨x', d0⟩, hd0, hx'⟩ := List.mem_map.1 hin
    simp only at hx'
    subst hx'
    have HD0 := hid hd0
    have HRES := hid (HCS.out d0 hd0)
    clear hin hd0
    go_wp2_with (at_lookup; refine law_mapOkB _ rfl _ _ rfl bm Q rfl MP.out x' hx256 _ _ rfl HXA.out HXB.out true HDB ?_; intro cd)
    refine (result_any x' p q _ HPX.out HQX.out).mono ?_
    rintro e w3 ⟨g0, rfl, hown, hb⟩
    have OR3 := hid hown
    have MP3 := hid (MP.out.past (hb.mono (Nat.succ_le_of_lt hbml)) (Nat.lt_succ_self _))
    have BX3 := hid (BX2.out.past hb)
    replace RA := hid (RA.out.below hb (Nat.le_refl _))
    replace RT := hid (RT.out.below hb (Nat.le_refl _))
    replace B0 := hid (bon B0.out hb)
    replace c0 := cellB hb c0 (Nat.le_refl _)
    replace c0a := cellB hb c0a (Nat.le_refl _)
    clear hb
    clear hown c0 c0a
    have hs3 := B0.out.size
    have hbml3 := MP3.out.lt
    have hbA := alloc_below w3 (.cells #[.slice (some ⟨g0, 0, none⟩) 2 2] 41)
    have hg0 := OR3.out.ge g0 rfl
    have START := hid (show OwnM 41 2 (w3.alloc (.cells #[.slice (some ⟨g0, 0, none⟩) 2 2] 41)) w0.heap.size (.slice (some ⟨w3.heap.size, 0, none⟩) 1 1) [⟨some ⟨g0, 0, none⟩, prI x', 2⟩] from by
      refine ⟨(own_new 41 w3 [.slice (some ⟨g0, 0, none⟩) 2 2] (show (1 : Nat) ≤ maxLen by decide)).base (by have := BX3.out.lt; omega), ⟨fun r hr => ?_, by simp⟩⟩
      simp at hr
      subst hr
      exact (OR3.out.past hbA (Nat.le_refl _)).base (by have := BX2.out.lt; omega))
    have MP4 := hid (MP3.out.past (hbA.mono (Nat.succ_le_of_lt hbml3)) (Nat.lt_succ_self _))
    have BX4 := hid (BX3.out.past hbA)
    have B4 := hid (bon B0.out hbA)
    clear hbA MP MP3 BX2 BX3 OR3 B0 HOX HXA HXB
    go_wp2
    generalize w3.alloc (.cells #[.slice (some ⟨g0, 0, none⟩) 2 2] 41) = w4 at *
    go_loopw [8] (fun v wr => ∃ (y d : Nat) (pre : List Nat) (oa : Addr) (oc : Nat) (ps : List Row), v = .slice (some oa) ps.length oc ∧ downN A Q d0 x' = pre ++ downN A Q d y ∧ (y, d) ∈ Q ∧ OwnM 41 2 wr w0.heap.size (.slice (some oa) ps.length oc) ps ∧ nums ps = (pre ++ [y]).map prI ∧ MapA wr bm Q ∧ BoxA wr w.heap.size y ∧ Below w.heap.size w wr) (fun v _ => d0 + 1 - lenV v)
    case atStart => exact ⟨x', d0, [], _, 1, [⟨some ⟨g0, 0, none⟩, prI x', 2⟩], rfl, rfl, HD0.out, START.out, by simp [nums], MP4.out, BX4.out, B4.out⟩
    case round =>
      clear START MP4 BX4 B4
      obtain ⟨y, d, pre, oa, oc, ps, rfl, hdn, hyd, hom, hnp, hmp, hbx, hb⟩ := hrel
      have OM := hid hom; have NP := hid hnp; have MP := hid hmp; have BX := hid hbx; have B0 := hid hb; have HYD := hid hyd; have HDW := hid hdn
      have RA := hid (RAg.out.below hb (Nat.le_refl _)); have RT := hid (RTg.out.below hb (Nat.le_refl _))
      have hy256 : y < 256 := HDN.out.ok.2 _ hyd
      have hyed := HDN.out.edge _ hyd
      have hd256 : d ≤ 256 := HB256.out _ hyd
      have hyn := edA_lt HA.out hyed
      have c0 := hbx.c0
      have c0a := hbx.c1
      have hpl : ps.length = pre.length + 1 := by have := congrArg List.length hnp; simpa [nums] using this
      have hdl : pre.length + d = d0 := by have := congrArg List.length hdn; rw [downN_len, List.length_append, downN_len] at this; omega
      obtain ⟨ya, hya⟩ : ∃ ya, ya = y / 16 := ⟨_, rfl⟩
      obtain ⟨yb, hyb⟩ : ∃ yb, yb = y % 16 := ⟨_, rfl⟩
      rw [← hya] at c0 hyn
      rw [← hyb] at c0a hyn
      have HYC := hid (show cod ya yb = y by rw [hya, hyb]; exact cod_self y)
      have HY1 := hid hya; have HY2 := hid hyb
      have HYA := hid (show Value.int .i64 (ya : Int) = .int .i64 (y / 16 : Nat) by rw [hya])
      have HYB := hid (show Value.int .i64 (yb : Int) = .int .i64 (y % 16 : Nat) by rw [hyb])
      have hyan := hyn.1
      have hybn := hyn.2
      have HPL := hid hpl; have HDL := hid hdl
      clear hom hnp hmp hbx hyd hdn hyn hyed hya hyb hpl hdl
      by_cases hd0 : d = 0
      · subst hd0
        have HFN := hid (show nums ps = (downN A Q d0 x').map prI by rw [HDW.out, NP.out]; rfl)
        clear hb
        go_wp2_with (at_lookup; refine law_mapAt _ rfl _ _ rfl bm Q rfl MP.out y 0 hy256 HYD.out _ _ rfl HYA.out HYB.out ?_)
        go_ret
        exact ⟨B0.out, .inl ⟨_, _, _, ps, HRES.out, rfl, OM.out.base (by omega), HFN.out⟩⟩
      · obtain ⟨e, he⟩ : ∃ e, d = e + 1 := ⟨d - 1, by omega⟩
        have hpos : (0 : Int) < (d : Int) := by omega
        have hsub : (d : Int) - 1 = (e : Int) := by omega
        have he256 : e ≤ 256 := by omega
        have HNX := hid (HDN.out.down y e (he ▸ HYD.out))
        have HDS := hid (show downN A Q d y = y :: downN A Q e (hopN (frL A y) Q e) by rw [he, downN_succ])
        have HE := hid he
        have HFL := hid (frL_lenS A y)
        have HFN := hid (fun (k : Nat) (hk : k < (frL A y).length) => hopN_at (R := frL A y) (Q := Q) (e := e) hk)
        have HFM := hid (fun z (hz : z ∈ frL A y) => (mem_frL' HA.out).1 hz)
        clear he hd0 hb
        go_wp2_with (first | (at_lookup; refine law_mapAt _ rfl _ _ rfl bm Q rfl MP.out y d hy256 HYD.out _ _ rfl HYA.out HYB.out ?_) | (go_at_call 74; refine (forces_x (some ⟨ab, ao, none⟩) A n c y ya yb _ HYC.out HA.out RA.out hyan hybn RT.out).mono ?_; rintro er w5 ⟨fg, fc, rfl, hown, hb5⟩; have OF := hid (hown.base (B' := w.heap.size) B0.out.size); have OM5 := hid (OM.out.past hb5 (Nat.le_refl _)); have MP5 := hid (MP.out.past (hb5.mono (Nat.succ_le_of_lt MP.out.lt)) (Nat.lt_succ_self _)); have BX5 := hid (BX.out.past hb5); have B5 := hid (bon B0.out hb5); clear hown hb5))
        have hfl := HFL.out
        generalize frL A y = R at *
        clear OM MP BX B0 RA RT c0 c0a
        go_loopw [36] (fun v wq => ∃ j : Nat, j ≤ R.length ∧ v = .int .i64 j ∧ (∀ i (hi : i < R.length), i < j → (R[i], e) ∉ Q) ∧ OwnA wq w.heap.size (.slice (some ⟨fg, 0, none⟩) R.length fc) R ∧ OwnM 41 2 wq w0.heap.size (.slice (some oa) ps.length oc) ps ∧ MapA wq bm Q ∧ BoxA wq w.heap.size y ∧ Below w.heap.size w wq) (fun v _ => R.length - (intOf v).toNat)
        case atStart => exact ⟨0, Nat.zero_le _, rfl, (fun i _ hi => absurd hi (Nat.not_lt_zero i)), OF.out, OM5.out, MP5.out, BX5.out, B5.out⟩
        case round =>
          clear OF OM5 MP5 BX5 B5
          obtain ⟨j, hj, rfl, hno, hof, hom, hmp, hbx, hb⟩ := hrel
          have NO := hid hno; have OF := hid hof; have OM := hid hom; have MP := hid hmp; have BX := hid hbx; have B0 := hid hb
          clear hno hom
          by_cases hjl : j < R.length
          · have hji : (j : Int) < (R.length : Int) := by omega
            have HZM := hid (HFM.out _ (List.getElem_mem hjl))
            have HAT := hid (fun h => HFN.out j hjl (fun i hi => NO.out i (by omega) hi) h)
            have HST := hid (fun (h : (R[j], e) ∉ Q) => (show ∀ i (hi : i < R.length), i < j + 1 → (R[i], e) ∉ Q from fun i hi hij => by
              by_cases e1 : i = j
              · subst e1; exact h
              · exact NO.out i hi (by omega)))
            obtain ⟨z, hz⟩ : ∃ z, z = R[j] := ⟨_, rfl⟩
            obtain ⟨za, hza⟩ : ∃ za, za = z / 16 := ⟨_, rfl⟩
            obtain ⟨zb, hzb⟩ : ∃ zb, zb = z % 16 := ⟨_, rfl⟩
            have hzc : cod za zb = R[j] := by rw [hza, hzb, ← hz]; exact cod_self z
            obtain ⟨cz0, cz1⟩ := hof.two (k := j) hjl hzc (by omega)
            rw [← hz] at HZM HAT HST
            have hzed := frB_edge HA.out HZM.out
            have hz256 := edA_256 HA.out hzed
            have HZA := hid (show Value.int .i64 (za : Int) = .int .i64 (z / 16 : Nat) by rw [hza])
            have HZB := hid (show Value.int .i64 (zb : Int) = .int .i64 (z % 16 : Nat) by rw [hzb])
            have HZ1 := hid hza; have HZ2 := hid hzb
            have hbA := alloc_below wr (.cells #[.int .i64 (za : Int), .int .i64 (zb : Int)] 78)
            have MPA := hid (hmp.past (hbA.mono (Nat.succ_le_of_lt hmp.lt)) (Nat.lt_succ_self _))
            have OFA := hid (hof.past hbA (Nat.le_refl _))
            have OMA := hid (OM.out.past hbA (Nat.le_refl _))
            have BXA := hid (hbx.past hbA)
            have BA := hid (bon hb hbA)
            have hbc0 := BXA.out.c0
            have hbc1 := BXA.out.c1
            rw [← HY1.out] at hbc0
            rw [← HY2.out] at hbc1
            have hbf0 := BXA.out.f 0
            have hbf1 := BXA.out.f 1
            have hat := MPA.out.at_ hy256 HYD.out HY1.out HY2.out
            clear hz hza hzb hzc hof hmp hbx hb hbA hzed
            by_cases hin : ∃ dz, (z, dz) ∈ Q
            · obtain ⟨dz, hdz⟩ := hin
              have HDZ := hid hdz
              by_cases hde : dz = e
              · have dq : ((dz : Int) == (e : Int)) = true := by rw [hde]; simp
                have HHOP := hid (HAT.out (hde ▸ hdz))
                have HZE := hid (hde ▸ hdz)
                clear hde hdz HAT HST
                go_wp2_with (first | (at_lookup; refine law_mapOkD _ rfl _ _ rfl bm Q rfl MPA.out z dz hz256 HDZ _ _ rfl HZA.out HZB.out ?_))
                have K9 := hid ((Kept.setCell (S := fun g => g = w.heap.size) (Kept.refl _ (wr.alloc (.cells #[.int .i64 (za : Int), .int .i64 (zb : Int)] 78))) (p := ⟨w.heap.size, 0, none⟩) rfl (.int .i64 (za : Nat))))
                have K9b := hid (K9.out.setCell (p := ⟨w.heap.size, 1, none⟩) rfl (.int .i64 (zb : Nat)))
                have BX9 := hid (BXA.out.put HZ1.out HZ2.out)
                generalize ((wr.alloc (.cells #[.int .i64 (za : Int), .int .i64 (zb : Int)] 78)).setCell ⟨w.heap.size, 0, none⟩ (.int .i64 (za : Nat))).setCell ⟨w.heap.size, 1, none⟩ (.int .i64 (zb : Nat)) = w9 at *
                have MP9 := hid (MPA.out.kept (kept_grown K9b.out) (fun e => by injection e with e; omega))
                have OM9 := hid (OMA.out.keptS K9b.out (by
                  refine OMA.out.blocks.mono (fun g hg e => ?_)
                  omega))
                have B9 := hid (BA.out.trans (K9b.out.below w.heap.size BA.out.size (fun k hk e => by omega)))
                have hsz9 := OM9.out.outer.lt
                have hs9 : w0.heap.size ≤ w9.heap.size := by have := BX9.out.lt; omega
                have HD256 := hid (HB256.out _ HD0.out)
                have HML := hid (show (ps.map Row.val).length < 1099511627776 by
                  have h1 := HPL.out; have h2 := HDL.out; have h3 := HD256.out
                  simp only at h3
                  rw [List.length_map]; omega)
                clear hsz9
                refine (result_any z za zb _ HZ1.out HZ2.out).mono ?_
                rintro er w10 ⟨g6, rfl, h1, h2⟩
                have OM10 := hid (OM9.out.past h2 (Nat.le_refl _))
                have IN10 := hid (OM9.out.inner.snoc h2 hs9 ⟨some ⟨g6, 0, none⟩, prI z, 2⟩ h1)
                have MP10 := hid (MP9.out.past (h2.mono (Nat.succ_le_of_lt MP9.out.lt)) (Nat.lt_succ_self _))
                have BX10 := hid (BX9.out.past h2)
                have B10 := hid (bon B9.out h2)
                have hs10 : w0.heap.size ≤ w10.heap.size := by have := h2.size; omega
                clear h1 h2 hat hbc0 hbc1 hbf0 hbf1 cz0 cz1
                go_wp2_with (at_builtin; refine law_push tRows _ rfl _ _ rfl w0.heap.size _ (ps.map Row.val) rfl OM10.out.outer _ _ rfl rfl rfl HML.out hs10 ?_; intro v8 w8 k1 k2)
                have OM8 := hid (show OwnM 41 2 w8 w0.heap.size v8 (ps ++ [⟨some ⟨g6, 0, none⟩, prI z, 2⟩]) from ⟨by rw [List.map_append]; exact k1, IN10.out.kept_outer OM10.out.outer (by decide) k2⟩)
                have MP8 := hid (MP10.out.kept k2 (fun e1 => OM10.out.outer.neMap MP10.out e1.symm))
                have BX8 := hid (show BoxA w8 w.heap.size z from (k2.block _ BX10.out.lt (fun e1 => by
                  have := OM10.out.outer.ge _ e1.symm
                  omega)).trans BX10.out)
                have B8 := hid (B10.out.trans (grown_below k2 B10.out.size (fun g hg => by have := OM10.out.outer.ge g hg; omega)))
                have HD8 := hid (show downN A Q d0 x' = (pre ++ [y]) ++ downN A Q e z by rw [HDW.out, HDS.out, HHOP.out, List.append_assoc]; rfl)
                have HN8 := hid (show nums (ps ++ [(⟨some ⟨g6, 0, none⟩, prI z, 2⟩ : Row)]) = ((pre ++ [y]) ++ [z]).map prI by rw [List.map_append, ← NP.out]; simp [nums])
                obtain ⟨oa8, oc8, hv8⟩ := ownM_some OM8.out (by simp)
                subst hv8
                clear k1 k2
                go_wp2
                go_roundw
                case rel => exact ⟨z, e, pre ++ [y], oa8, oc8, _, rfl, HD8.out, HZE.out, OM8.out, HN8.out, MP8.out, BX8.out, B8.out⟩
                case measure =>
                  have h1 := HPL.out; have h2 := HDL.out; have h3 := HE.out
                  simp [lenV]
                  omega
              · have dq : ((dz : Int) == (e : Int)) = false := by rw [beq_eq_false_iff_ne]; omega
                have HNO2 := hid (HST.out (fun h => hde (HDN.out.ok.uniq hdz h)))
                clear hde hdz HAT HST
                go_wp2_with (first | (at_lookup; refine law_mapOkD _ rfl _ _ rfl bm Q rfl MPA.out z dz hz256 HDZ _ _ rfl HZA.out HZB.out ?_))
                go_roundw
                case rel => exact ⟨j + 1, by omega, by go_num, HNO2.out, OFA.out, OMA.out, MPA.out, BXA.out, BA.out⟩
                case measure => simp [intOf]; omega
            · have HDB2 := hid (show decide (z ∈ Q.map Prod.fst) = false by
                rw [decide_eq_false_iff_not]
                intro h
                obtain ⟨⟨z', dz⟩, h1, h2⟩ := List.mem_map.1 h
                exact hin ⟨dz, by rw [← h2]; exact h1⟩)
              have HNO2 := hid (HST.out (fun h => hin ⟨e, h⟩))
              clear hin HAT HST
              go_wp2_with (first | (at_lookup; refine law_mapOkB _ rfl _ _ rfl bm Q rfl MPA.out z hz256 _ _ rfl HZA.out HZB.out false HDB2 ?_; intro cdz))
              go_roundw
              case rel => exact ⟨j + 1, by omega, by go_num, HNO2.out, OFA.out, OMA.out, MPA.out, BXA.out, BA.out⟩
              case measure => simp [intOf]; omega
          · exfalso
            obtain ⟨z, hz, hze⟩ := HNX.out
            obtain ⟨i, hi, rfl⟩ := List.mem_iff_getElem.1 hz
            exact NO.out i hi (by omega) hze
  · have HDB := hid (show decide (x ∈ Q.map Prod.fst) = false by rw [decide_eq_false_iff_not]; exact hin)
    have HRES := hid (HCN.out (fun d hd => hin (List.mem_map.2 ⟨_, hd, rfl⟩)))
    clear hin
    go_wp2_with (at_lookup; refine law_mapOkB _ rfl _ _ rfl bm Q rfl MP.out x hx256 _ _ rfl HXA.out HXB.out false HDB ?_; intro cd)
    go_ret
    exact ⟨B0.out, .inr ⟨HRES.out, rfl⟩⟩
/-- The chain of a graph, if there is one. -/
noncomputable def oddG (g : List (List Int)) : Option (List Nat) := if GOk g then oddM g.length (g.map maskL) else none
def RetOdd (x : Option (List Nat)) (w : World) (e : Ending) (w' : World) : Prop :=
  ∃ v qs, e = .returned (.tuple #[v, .bool x.isSome]) ∧ nums qs = (x.getD []).map prI ∧ OwnM 41 2 w' w.heap.size v qs ∧ Below w.heap.size w w'
theorem neq_nilR (a : Option Addr) (l c : Nat) (w : World) : (binOp .neq 22 (.slice a l c) (.slice none 0 0)).run Tryd.prog w = .ok (.bool (!a.isNone)) w := by
  simp only [binOp]
  simp [run_equal_slice_nil w 22 41 a l c Tryd.underlying22]
set_option maxRecDepth 100000 in
set_option maxHeartbeats 4000000 in
theorem implOddChain_any (a : Option Addr) (rs : List Row) (c : Nat) (w : World) (hr : RdM w a rs) (hn : Small rs) (hT : TabOk w) :
    Calls Tryd.prog 28 #[.agg #[.slice a rs.length c]] w (RetOdd (oddG (nums rs)) w) := by
  have RA := hid hr; have RT := hid hT; clear hr hT
  obtain ⟨w0, hw0⟩ : ∃ w0, w0 = (w.alloc (.cells #[.slice a rs.length c] 28)) := ⟨_, rfl⟩
  have B0 := hid (show Below w.heap.size w w0 by rw [hw0]; exact ((Below.refl _ _).alloc (Nat.le_refl _) _))
  have c0 : w0.cell? ⟨w.heap.size, 0, none⟩ = some (.slice a rs.length c) := by rw [hw0]; simp [go_sem]
  replace RA := hid (RA.out.below B0.out (Nat.le_refl _))
  replace RT := hid (RT.out.below B0.out (Nat.le_refl _))
  have HW := hid hw0; clear hw0
  by_cases hg : GOk (nums rs)
  · have H1 := hid (show decide (GOk (nums rs)) = true by simpa using hg)
    have HG := hid hg
    have HGA := hid (show GA rs.length ((nums rs).map maskL) by have := GA.of hg; rwa [nums_length] at this)
    have HE := hid (show oddG (nums rs) = oddM rs.length ((nums rs).map maskL) by unfold oddG; rw [if_pos hg, nums_length])
    have h16 := HGA.out.le
    have hpos := HGA.out.pos
    clear hg
    go_enter Tryd.func28, Tryd.ntmps28
    go_wp2_with fail
    rw [← HW.out]
    go_wp2_with fail
    refine (implGraphOk_b a rs c _ true H1.out RA.out hn).mono ?_
    rintro e w1 ⟨rfl, hb⟩
    replace RA := hid (RA.out.below hb (Nat.le_refl _))
    replace RT := hid (RT.out.below hb (Nat.le_refl _))
    replace B0 := hid (bon B0.out hb)
    replace c0 := cellB hb c0 (Nat.le_refl _)
    clear hb
    go_wp2_with fail
    refine (netsOf_any a rs c _ HG.out RA.out hn).mono ?_
    rintro e w2 ⟨nv, rfl, hown, hb⟩
    obtain ⟨na, nc, rfl, hsr, _, _, _, _⟩ := Own.rd (f := netF) hown
    have RN := hid hsr.masks
    rw [nums_length]
    obtain ⟨nb, no, hna⟩ : ∃ b o, na = some ⟨b, o, none⟩ := by
      obtain ⟨b, o, h1, _⟩ := RN.out 0 (by rw [HGA.out.len]; exact HGA.out.pos)
      exact ⟨b, o, h1⟩
    subst hna
    replace RT := hid (RT.out.below hb (Nat.le_refl _))
    replace B0 := hid (bon B0.out hb)
    clear hb
    clear hown hsr c0 RA
    generalize (nums rs).map maskL = A at *
    have BL := hid (Below.refl w2.heap.size w2)
    have hsz2 := B0.out.size
    go_wp2
    go_loopw [5, 6, 8, 9, 10, 18] (fun _ _ _ _ _ v wr => ∃ u : Nat, u ≤ rs.length ∧ v = .int .i64 u ∧ (∀ u', u' < u → oddU A u' = none) ∧ Below w2.heap.size w2 wr) (fun _ _ _ _ _ v _ => rs.length - (intOf v).toNat)
    case atStart => exact ⟨0, Nat.zero_le _, rfl, (fun u' hu => absurd hu (Nat.not_lt_zero u')), BL.out⟩
    case round =>
      clear BL
      obtain ⟨u, hu, rfl, hno, hb⟩ := hrel
      have NO := hid hno; have BL := hid hb
      clear hno
      by_cases hlt : u < rs.length
      · have hui : (u : Int) < (rs.length : Int) := by omega
        obtain ⟨b1, o1, h1, cu⟩ := (RN.out.below hb (Nat.le_refl _)) u (by rw [HGA.out.len]; exact hlt)
        obtain ⟨rfl, rfl⟩ : nb = b1 ∧ no = o1 := by simpa using h1
        rw [← getD_in (by rw [HGA.out.len]; exact hlt)] at cu
        have hx16 : A.getD u 0 < 65536 := Nat.lt_of_lt_of_le (HGA.out.in2 u) (Nat.pow_le_pow_right (n := 2) (i := rs.length) (j := 16) (by decide) h16)
        have RTr := hid (RT.out.below hb (Nat.le_refl _))
        unfold maskF at cu
        clear h1 hb
        generalize hX : A.getD u 0 = X at *
        have HX := hid hX
        clear hX
        go_wp2_with fail
        refine (list_any (X) _ RTr.out hx16).mono ?_
        rintro e w4 ⟨lv, rfl, hown, hb⟩
        obtain ⟨la, lc, hlv, hlr, _⟩ := Own.rd (f := Value.int .i64) hown
        subst hlv
        have RL := hid hlr
        have BL4 := hid (bonL BL.out hb (Nat.le_refl _))
        have hml : (mems X).length = (memsN X).length := by unfold mems; rw [List.length_map]
        have HML := hid hml
        have hl32 := memsN_len (X)
        rw [hml]
        clear hown hlr hb cu hml
        go_wp2
        go_loopw [8, 9, 10, 26] (fun _ _ _ v wq => ∃ j : Nat, j ≤ (memsN X).length ∧ v = .int .i64 j ∧ (∀ i (hi : i < (memsN X).length), i < j → chnM A (cod u (memsN X)[i]) = none) ∧ Below w4.heap.size w4 wq) (fun _ _ _ v _ => (memsN X).length - (intOf v).toNat)
        case atStart => exact ⟨0, Nat.zero_le _, rfl, (fun i _ hi => absurd hi (Nat.not_lt_zero i)), Below.refl _ _⟩
        case round =>
          obtain ⟨j, hj, rfl, hno, hb⟩ := hrel
          have NO2 := hid hno; have BQ := hid (bonL BL4.out hb (Nat.le_refl _))
          have RL2 := hid (RL.out.below hb (Nat.le_refl _))
          clear hno
          by_cases hjl : j < (memsN X).length
          · have hji : (j : Int) < ((memsN X).length : Int) := by omega
            obtain ⟨lb, lo, hla, cj⟩ := RL2.out j (by rw [HML.out]; exact hjl)
            rw [mems_at hjl] at cj
            subst hla
            have hbit : bt A u (memsN X)[j] = true := by
              have h9 := (memsN_mem (m := X) (by omega)).1 (List.getElem_mem hjl)
              unfold bt
              rw [HX.out]
              exact h9
            have hvn := (HGA.out.lt hbit).2
            have hed : edA A (cod u (memsN X)[j]) = true := by rw [edA_cod (by omega)]; exact hbit
            have HED := hid hed
            have RNq := hid (RN.out.below BQ.out (Nat.le_refl _)); have RTq := hid (RT.out.below BQ.out (Nat.le_refl _))
            have HSO := hid (fun L (h : chnM A (cod u (memsN X)[j]) = some L) => oddM_someX HX.out hlt NO.out hjl (fun i hi => NO2.out i (by omega) hi) h)
            have HNX := hid (fun (h : chnM A (cod u (memsN X)[j]) = none) => (show ∀ i (hi : i < (memsN X).length), i < j + 1 → chnM A (cod u (memsN X)[i]) = none from fun i hi hij => by
              by_cases e1 : i = j
              · subst e1; exact h
              · exact NO2.out i hi (by omega)))
            have BW := hid (B0.out.trans (BQ.out.mono hsz2))
            clear hbit hed
            generalize (memsN X)[j] = v at *
            have hba := alloc_below wr (.cells #[.int .i64 (u : Int), .int .i64 (v : Int)] 78)
            have RNa := hid (RNq.out.below hba (Nat.le_refl _)); have RTa := hid (RTq.out.below hba (Nat.le_refl _))
            have BWa := hid (bon BW.out hba)
            have BQa := hid (bonL BQ.out hba (Nat.le_refl _))
            have RLw := hid hba
            clear hba
            go_wp2_with fail
            refine (shortestChain_any nb no rs.length nc A u v (cod u v) _ rfl HGA.out RNa.out hlt hvn HED.out RTa.out).mono ?_
            rintro e w6 ⟨hb6, ⟨L, sa, sc, qs, hc, rfl, hoq, hnq⟩ | ⟨hc, rfl⟩⟩
            · have HEE := hid (show oddG (nums rs) = some L by rw [HE.out]; exact HSO.out L hc)
              have OQ := hid (hoq.base (B' := w.heap.size) (by have := RLw.out.size; have := BW.out.size; omega)); have NQ := hid hnq
              have BW6 := hid (bon BWa.out hb6)
              have hne := neq_nilR (some sa) qs.length sc w6
              clear hb6 hc hoq hnq
              go_wp2
              go_ret2
              rw [HEE.out]
              exact ⟨_, qs, rfl, NQ.out, OQ.out, BW6.out⟩
            · have HNO2 := hid (HNX.out hc)
              have BQ6 := hid (hb.trans ((RLw.out.mono hb.size).trans (hb6.mono (Nat.le_trans hb.size RLw.out.size))))
              have hne := neq_nilR none 0 0 w6
              clear hb6 hc
              go_wp2
              go_roundw
              case rel => exact ⟨j + 1, by omega, by go_num, HNO2.out, BQ6.out⟩
              case measure => simp [intOf]; omega
          · obtain rfl : j = (memsN X).length := by omega
            have HNU := hid (show ∀ u', u' < u + 1 → oddU A u' = none from fun u' hu' => by
              by_cases e1 : u' = u
              · rw [e1]; exact oddU_noneX HX.out (fun i hi => NO2.out i hi hi)
              · exact NO.out u' (by omega))
            clear hb
            go_wp2
            go_roundw
            case rel => exact ⟨u + 1, by omega, by go_num, HNU.out, BQ.out⟩
            case measure => simp [intOf]; omega
      · obtain rfl : u = rs.length := by omega
        have HEE := hid (show oddG (nums rs) = none by rw [HE.out]; exact oddM_none NO.out)
        have BW := hid (B0.out.trans (BL.out.mono hsz2))
        clear hb
        go_wp2
        go_ret2
        rw [HEE.out]
        exact ⟨_, [], rfl, rfl, ownM_nil _ _ _ _, BW.out⟩
  · have H1 := hid (show decide (GOk (nums rs)) = false by simpa using hg)
    have HE := hid (show oddG (nums rs) = none by unfold oddG; rw [if_neg hg])
    clear hg
    go_enter Tryd.func28, Tryd.ntmps28
    go_wp2_with fail
    rw [← HW.out]
    go_wp2_with fail
    refine (implGraphOk_b a rs c _ false H1.out RA.out hn).mono ?_
    rintro e w2 ⟨rfl, hb⟩
    replace RA := hid (RA.out.below hb (Nat.le_refl _))
    replace RT := hid (RT.out.below hb (Nat.le_refl _))
    replace B0 := hid (bon B0.out hb)
    replace c0 := cellB hb c0 (Nat.le_refl _)
    clear hb
    go_wp2
    go_ret2
    rw [HE.out]
    exact ⟨_, [], rfl, rfl, ownM_nil _ _ _ _, B0.out⟩
end
end Go.Proofs.YtggjmnihnjdoaaaDoor
