/- TextRows: both. -/
import Derived.Test.YtccohcdgcpcbjaaDoorSplit
import Derived.Test.YtccohcdgcpcbjaaDoorRowsT
namespace Go.Proofs.YtccohcdgcpcbjaaDoor
open Go.RowKit
section
/-- Where a line has a one. -/
def onesTo (p : List UInt8) (k : Nat) : List Int := ((List.range k).filter fun u => p.getD u 0 == 49).map fun u : Nat => (u : Int)
theorem onesTo_succ (p : List UInt8) (k : Nat) : onesTo p (k + 1) = onesTo p k ++ if p.getD k 0 = 49 then [(k : Int)] else [] := by
  unfold onesTo
  rw [List.range_succ, List.filter_append, List.map_append]
  by_cases h : p.getD k 0 = 49
  · rw [if_pos h]; simp only [List.filter_cons, List.filter_nil, h]; rfl
  · rw [if_neg h]
    have : (p.getD k 0 == 49) = false := by rw [beq_eq_false_iff_ne]; exact h
    simp only [List.filter_cons, List.filter_nil, this]; rfl
theorem onesTo_len (p : List UInt8) (k : Nat) : (onesTo p k).length ≤ k := by
  unfold onesTo
  rw [List.length_map]
  exact Nat.le_trans (List.length_filter_le _ _) (by simp)
def rowOf (p : List UInt8) : List Int := onesTo p p.length
/-- The rows that a text tells. -/
def grT (l : List UInt8) : List (List Int) := ((spl 10 l).take ((spl 10 l).length - 1)).map rowOf
def GoodR (l : List UInt8) : Prop := l.length ≤ 800 ∧ GOk (grT l) ∧ rowsTo (grT l) (grT l).length (grT l).length = l
open Classical in
noncomputable def trR (s : ByteArray) : List (List Int) × Bool := if GoodR s.data.toList then (grT s.data.toList, true) else ([], false)
theorem trR_good {l : List UInt8} (h : GoodR l) : trR (str l) = (grT l, true) := by
  unfold trR; rw [show (str l).data.toList = l by unfold str; simp, if_pos h]
theorem trR_bad {l : List UInt8} (h : ¬ GoodR l) : trR (str l) = ([], false) := by
  unfold trR; rw [show (str l).data.toList = l by unfold str; simp, if_neg h]
theorem grT_small (l : List UInt8) (h : l.length ≤ 1048575) : SmallZ (grT l) := by
  unfold grT
  have h1 := spl_len_le 10 l
  refine ⟨by rw [List.length_map, List.length_take]; omega, fun r hr => ?_⟩
  obtain ⟨p, hp, rfl⟩ := List.mem_map.1 hr
  have h2 := (spl_mem (List.mem_of_mem_take hp)).2
  have h3 := onesTo_len p p.length
  unfold rowOf
  omega
theorem trR_small (s : ByteArray) : SmallZ (trR s).1 := by
  unfold trR
  split
  · rename_i h
    exact grT_small _ (by have := h.1; omega)
  · exact ⟨by simp, fun r hr => by cases hr⟩
def RetGB (r0 : List (List Int)) (r1 : Bool) (w : World) (e : Ending) (w' : World) : Prop := ∃ y rs, e = .returned (.tuple #[.agg #[y], .bool r1]) ∧ nums rs = r0 ∧ OwnM 30 2 w' w.heap.size y rs ∧ Below w.heap.size w w'
theorem ret_cell_tmpR {fn : Func} {c d : Tmp} {t : TypeId} (h : fn.results = #[.cell c t, .tmp d]) (tmps : Array Value) (P : Program) (w : World) (ad : Addr) (v u : Value) (ha : tmps.getD c undef = .pointer (some ad)) (hu : tmps.getD d undef = u) (hl : (loadVar t ad).run P w = .ok v w) : (results fn tmps).run P w = .ok (.tuple #[v, u]) w := by
  have ha2 : tmps[c]?.getD undef = .pointer (some ad) := by rw [← Array.getD_eq_getD_getElem?]; exact ha
  have hu2 : tmps[d]?.getD undef = u := by rw [← Array.getD_eq_getD_getElem?]; exact hu
  simp [results, h, ha2, hu2, asAddr, hl]
theorem rdR {w : World} {B n c : Nat} {a : Option Addr} {ws : List (List UInt8)} (h : Own 9 w B (.slice a n c) (ws.map strF)) : Rd strF w a ws := by
  obtain ⟨a', c', e', hr', _⟩ := Own.rd h
  obtain ⟨rfl, _, _⟩ := slice_inj e'
  exact hr'
theorem l1Split_n10 (l : List UInt8) (c : UInt8) (x : Int) (w : World) (hx : (c.toNat : Int) = x) (hl : l.length ≤ 4194304) :
    Calls Tryd.prog 22 #[.string (str l), .int .u8 x] w (RetOwn 9 ((spl c l).map strF) w) := by
  subst hx; exact l1Split_any l c w hl
end
section
set_option maxRecDepth 100000 in
set_option maxHeartbeats 4000000 in
theorem specTextRows_any (s : ByteArray) (w : World) (r0 : List (List Int)) (r1 : Bool) (hx0 : (trR s).1 = r0) (hx1 : (trR s).2 = r1) (hs : s.size ≤ 1048576) :
    Calls Tryd.prog 6 #[.string s] w (RetGB r0 r1 w) := by
  obtain ⟨l, rfl⟩ : ∃ l, s = str l := ⟨s.data.toList, (str_data s).symm⟩
  have hl : l.length ≤ 1048576 := by rwa [str_size] at hs
  have hsz : (str l).size = l.length := str_size l
  have HNO := hid (show ¬ GoodR l → r0 = [] ∧ r1 = false from fun h => by
    rw [trR_bad h] at hx0 hx1
    exact ⟨hx0.symm, hx1.symm⟩)
  have HYES := hid (show GoodR l → r0 = grT l ∧ r1 = true from fun h => by
    rw [trR_good h] at hx0 hx1
    exact ⟨hx0.symm, hx1.symm⟩)
  clear hs hx0 hx1
  obtain ⟨w0, hw0⟩ : ∃ w0, w0 = (w.alloc (.cells #[.slice none 0 0] 24)) := ⟨_, rfl⟩
  have B0 := hid (show Below w.heap.size w w0 by rw [hw0]; exact ((Below.refl _ _).alloc (Nat.le_refl _) _))
  have c0 : w0.cell? ⟨w.heap.size, 0, none⟩ = some (.slice none 0 0) := by rw [hw0]; simp [go_sem]
  have HW := hid hw0; clear hw0
  have hsz0 : w0.heap.size = w.heap.size + 1 := by rw [HW.out]; simp
  have OR := hid (show Own 24 w0 w.heap.size (.slice (some ⟨w.heap.size, 0, none⟩) 1 1) [.slice none 0 0] by
    have h := own_new 24 w [.slice none 0 0] (by simp [maxLen])
    rw [HW.out]
    exact h)
  by_cases h8 : 800 < l.length
  · have h8i : (800 : Int) < (l.length : Int) := by omega
    obtain ⟨e0, e1⟩ := HNO.out (fun h => by have := h.1; omega)
    subst e0; subst e1
    have hfr := OR.out.free 0
    clear h8
    go_enter Tryd.func6, Tryd.ntmps6
    have HB0 := hid B0.out
    rw [HW.out] at HB0
    go_wp2
    refine bodyPost_ret (ret_cell_tmpR rfl _ _ _ ⟨w.heap.size, 0, none⟩ (.agg #[.slice none 0 0]) (.bool false) rfl rfl ?_) rfl ⟨.slice none 0 0, [], rfl, rfl, ⟨Own.nil _ _ _, Inner.nil _ _ _⟩, HB0.out⟩
    go_simp
  · have h8i : ¬ (800 : Int) < (l.length : Int) := by omega
    have hl8 : l.length ≤ 800 := by omega
    obtain ⟨ws, hw⟩ : ∃ ws, spl 10 l = ws := ⟨_, rfl⟩
    have hwm : ∀ p ∈ ws, p.length ≤ l.length := fun p hp => (spl_mem (by rw [hw]; exact hp)).2
    have hws := spl_len_le 10 l
    rw [hw] at hws
    have hwn : 0 < ws.length := by rw [← hw]; exact List.length_pos_iff.2 (spl_ne 10 l)
    have HW10 := hid hw; have HWM := hid hwm
    clear hw hwm h8
    go_enter Tryd.func6, Tryd.ntmps6
    go_wp2_with fail
    rw [← HW.out]
    refine (l1Split_n10 l 10 _ _ rfl (by omega)).mono ?_
    rintro e w1 ⟨vw, rfl, hown, hb⟩
    rw [HW10.out] at hown
    have OW1 := hid (hown.base (B' := w.heap.size) B0.out.size)
    obtain ⟨wa, wc, rfl, _⟩ := Own.rd hown
    have OR1 := hid (OR.out.past hb (Nat.le_refl _))
    have B1 := hid (bon B0.out hb)
    have hs01 := hb.size
    clear hown hb OR
    have hbA := alloc_below w1 (.cells #[.slice none 0 0] 24)
    have OZ2 := hid (own_new 24 w1 [.slice none 0 0] (by simp [maxLen]))
    have OW2 := hid (OW1.out.past hbA (Nat.le_refl _))
    have OR2 := hid (OR1.out.past hbA (Nat.le_refl _))
    have B2 := hid (bon B1.out hbA)
    have hs1 := B1.out.size
    clear hbA OW1 OR1
    have hlen1 : ((ws.length : Int) - 1) = ((ws.length - 1 : Nat) : Int) := by omega
    have hlb : w.heap.size + 1 ≤ w1.heap.size := by omega
    have HO1 := hid (show Own 30 (w1.alloc (.cells #[.slice none 0 0] 24)) (w1.heap.size + 1) (.slice none 0 0) (([] : List Row).map Row.val) from Own.nil _ _ _)
    have hsl : w1.heap.size < (w1.alloc (.cells #[.slice none 0 0] 24)).heap.size := by simp
    go_wp2
    generalize w1.alloc (.cells #[.slice none 0 0] 24) = wb at *
    generalize w1.heap.size = lb at *
    go_loopw [6] (fun x wr => ∃ (k : Nat) (v : Value) (ps : List Row), k ≤ ws.length - 1 ∧ x = .int .i64 k ∧ OwnM 30 2 wr (lb + 1) v ps ∧ nums ps = (ws.take k).map rowOf ∧ Own 24 wr lb (.slice (some ⟨lb, 0, none⟩) 1 1) [v] ∧ Own 24 wr w.heap.size (.slice (some ⟨w.heap.size, 0, none⟩) 1 1) [.slice none 0 0] ∧ Own 9 wr w.heap.size (.slice wa ws.length wc) (ws.map strF) ∧ Below w.heap.size w wr) (fun x _ => ws.length - 1 - (intOf x).toNat)
    case atStart => exact ⟨0, _, [], Nat.zero_le _, rfl, ⟨HO1.out, Inner.nil _ _ _⟩, rfl, OZ2.out, OR2.out, OW2.out, B2.out⟩
    case round =>
      clear HO1 OZ2 OR2 OW2 B2
      obtain ⟨k, v, ps, hk, rfl, ho, hps, hoz, hor, how, hb⟩ := hrel
      have OM := hid ho; have HPS := hid hps; have OZ := hid hoz; have OR := hid hor; have OW := hid how; have LB := hid hb
      have c03 := hoz.cell 0 (by simp)
      rw [List.getElem_cons_zero] at c03
      have hzr := hoz.lt lb rfl
      clear ho hps hoz hor how hb
      obtain ⟨pv, pc, hpv, _⟩ := OM.out.rd
      subst hpv
      have hpl := congrArg List.length HPS.out
      rw [nums_length, List.length_map, List.length_take] at hpl
      have HPL2 := hid (show (ps.map Row.val).length < 1099511627776 by rw [List.length_map]; omega)
      have HPL := hid hpl
      clear hpl
      by_cases hkl : k < ws.length - 1
      · have hki : (k : Int) < ((ws.length - 1 : Nat) : Int) := by omega
        have hkw : k < ws.length := by omega
        have hkj : (k : Int) < (ws.length : Int) := by omega
        obtain ⟨sb, so, rfl, ck⟩ := (rdR OW.out) k hkw
        have HTS := hid (List.take_succ_eq_append_getElem hkw)
        have hpl8 := HWM.out _ (List.getElem_mem hkw)
        generalize ws[k] = p at *
        have ck2 : wr.cell? ⟨sb, so + k, none⟩ = some (.string (str p)) := ck
        have hpz : (str p).size = p.length := str_size p
        have HCK := hid ck2
        have HC03 := hid c03
        have HE0 := hid (alloc_below wr (.cells #[] 2))
        have HO := hid (own_new 2 wr [] (by simp [maxLen]))
        clear ck c03
        obtain ⟨wo, hwo⟩ : ∃ z, z = wr := ⟨_, rfl⟩
        go_wp2
        subst hwo
        go_loopw [7, 8] (fun o x wi => ∃ u : Nat, u ≤ p.length ∧ x = .int .i64 u ∧ Own 2 wi wo.heap.size o ((onesTo p u).map (.int .i64)) ∧ Below wo.heap.size wo wi) (fun _ x _ => p.length - (intOf x).toNat)
        case atStart => exact ⟨0, Nat.zero_le _, rfl, HO.out, HE0.out⟩
        case round =>
          clear HO HE0 ck2
          obtain ⟨u, hu, rfl, hro, hbi⟩ := hrel
          have ORW := hid hro; have BI := hid hbi
          have ck := cellB hbi HCK.out (Nat.le_refl _)
          have hwi := hbi.size
          clear hro hbi
          by_cases hul : u < p.length
          · have hui : (u : Int) < (p.length : Int) := by omega
            have hgu := fun h : u < (str p).size => str_get p u h hul
            have hgd : p.getD u 0 = p[u] := by rw [List.getD_eq_getElem?_getD, List.getElem?_eq_getElem hul]; rfl
            have hsu := onesTo_succ p u
            obtain ⟨b, hb⟩ : ∃ b, p[u] = b := ⟨_, rfl⟩
            have hget : ∀ h : u < (str p).size, (str p)[u]'h = b := fun h => (hgu h).trans hb
            rw [hgd, hb] at hsu
            have HSU := hid hsu
            have hol := onesTo_len p u
            have hxl : ((onesTo p u).map (Value.int .i64)).length ≤ 801 := by rw [List.length_map]; omega
            clear hgu hgd hsu hb hol
            by_cases hbb : b = 49
            · have hbi : ((b.toNat : Int) == 49) = true := by rw [hbb]; rfl
              have HS2 := hid (show (onesTo p u).map (Value.int .i64) ++ [.int .i64 (u : Int)] = (onesTo p (u + 1)).map (Value.int .i64) by rw [HSU.out, if_pos hbb, List.map_append]; rfl)
              clear hbb HSU
              generalize (onesTo p u).map (Value.int .i64) = XS at *
              obtain ⟨xa, xc, hxo⟩ : ∃ xa xc, True := ⟨(none : Option Addr), 0, trivial⟩
              go_wp2_with (at_builtin; refine law_push tI64 _ rfl _ _ rfl wo.heap.size _ XS rfl ORW.out _ _ rfl ?c0 rfl ?c1 ?c2 ?_)
              case c0 => simp
              case c1 => exact Nat.lt_of_le_of_lt hxl (by decide)
              case c2 => exact hwi
              intro v' w' h1 h2
              have ON := hid (show Own 2 w' wo.heap.size v' ((onesTo p (u + 1)).map (.int .i64)) by rw [← HS2.out]; exact h1)
              have BN := hid (BI.out.trans (grown_below h2 hwi (fun g hg => ORW.out.ge g hg)))
              clear h1 h2
              go_wp2
              go_roundw
              case rel => exact ⟨u + 1, by omega, by go_num, ON.out, BN.out⟩
              case measure => simp [intOf]; omega
            · have hbi : ((b.toNat : Int) == 49) = false := by
                rw [beq_eq_false_iff_ne]
                intro e
                exact hbb (UInt8.toNat_inj.1 (by show b.toNat = 49; omega))
              have HS2 := hid (show (onesTo p u).map (Value.int .i64) = (onesTo p (u + 1)).map (Value.int .i64) by rw [HSU.out, if_neg hbb, List.append_nil])
              clear hbb HSU
              rw [HS2.out] at ORW
              go_wp2
              go_roundw
              case rel => exact ⟨u + 1, by omega, by go_num, ORW.out, BI.out⟩
              case measure => simp [intOf]; omega
          · obtain rfl : u = p.length := by omega
            have hui : ¬ ((p.length : Nat) : Int) < (p.length : Int) := by omega
            obtain ⟨ra, rc, hrv, _⟩ := Own.rd ORW.out
            subst hrv
            have HRO := hid (show onesTo p p.length = rowOf p from rfl)
            have hol := onesTo_len p p.length
            have c03 := cellB BI.out HC03.out (Nat.le_refl _)
            have OMi := hid (OM.out.past BI.out (Nat.le_refl _))
            have INi := hid (OM.out.inner.snoc BI.out (show lb + 1 ≤ wo.heap.size by omega) ⟨ra, onesTo p p.length, rc⟩ ORW.out)
            have OZi := hid (OZ.out.past BI.out (Nat.le_refl _))
            have ORi := hid (OR.out.past BI.out (Nat.le_refl _))
            have OWi := hid (OW.out.past BI.out (Nat.le_refl _))
            have LBi := hid (bon LB.out BI.out)
            have hzi : lb < wr.heap.size := by omega
            have HNS := hid (show nums (ps ++ [(⟨ra, onesTo p p.length, rc⟩ : Row)]) = (ws.take (k + 1)).map rowOf by
              rw [nums_push, HPS.out, HTS.out, List.map_append]; rfl)
            clear ORW OM OZ OR OW HCK BI
            generalize onesTo p p.length = R at *
            go_wp2_with (at_builtin; refine law_push tRows _ rfl _ _ rfl (lb + 1) _ (ps.map Row.val) rfl OMi.out.outer _ _ rfl ?c0 rfl ?c1 ?c2 ?_)
            try (case c0 => simp)
            try (case c1 => have h := HPL2.out; rw [List.length_map] at h; exact h)
            try (case c2 => omega)
            intro v' w5 h1 h2
            have OZ5 := hid (OZi.out.kept h2 (OZi.out.ne OMi.out.outer (by decide)))
            have OR5 := hid (ORi.out.kept h2 (ORi.out.ne OMi.out.outer (by decide)))
            have OW5 := hid (OWi.out.kept h2 (OWi.out.ne OMi.out.outer (by decide)))
            have hfr5 : w5.frozen? ⟨lb, 0, none⟩ = false := OZ5.out.free 0
            have k1 : w5.cell? ⟨lb, 0, none⟩ = some (.slice pv ps.length pc) := by have h := OZ5.out.cell 0 (by simp); simpa using h
            have LP5 := hid (grown_below h2 (show lb + 1 ≤ _ by omega) (fun g hg => OMi.out.outer.ge g hg))
            have LB5 := hid (LBi.out.trans (LP5.out.mono (by omega)))
            have OM5 := hid (rows_push (by decide) OMi.out.outer INi.out (by simpa [Row.val] using h1) h2)
            clear h1 h2
            obtain ⟨va, vc, hva, _⟩ := OM5.out.rd
            subst hva
            have e1 : (ps ++ [(⟨ra, R, rc⟩ : Row)]).length = ps.length + 1 := by simp
            rw [e1] at OM5
            have OM6 := hid (OM5.out.setCell_below (p := ⟨lb, 0, none⟩) (Nat.lt_succ_self _) (.slice va (ps.length + 1) vc))
            have OZ6 := hid (show Own 24 (w5.setCell ⟨lb, 0, none⟩ (.slice va (ps.length + 1) vc)) lb (.slice (some ⟨lb, 0, none⟩) 1 1) [.slice va (ps.length + 1) vc] from OZ5.out.store 0 (by simp) (.slice va (ps.length + 1) vc))
            have OR6 := hid (OR5.out.setCell_other ⟨lb, 0, none⟩ (.slice va (ps.length + 1) vc) (.inr (by simp [Value.ownBlock]; omega)))
            have OW6 := hid (OW5.out.setCell_other ⟨lb, 0, none⟩ (.slice va (ps.length + 1) vc) (by simpa [Value.ownBlock] using OW5.out.ne OZ5.out (by decide)))
            have LB6 := hid (Below.setCell LB5.out (p := ⟨lb, 0, none⟩) (show w.heap.size ≤ lb by omega) (.slice va (ps.length + 1) vc))
            have HE1 := hid e1
            clear e1 OM5 OZ5 LB5 LP5 OR5 OW5 OMi INi OZi ORi OWi LBi c03
            go_wp2
            go_roundw
            case rel => exact ⟨k + 1, _, _, by omega, by go_num, OM6.out, HNS.out, OZ6.out, OR6.out, OW6.out, LB6.out⟩
            case measure => simp [intOf]; omega
      · obtain rfl : k = ws.length - 1 := by omega
        have hki : ¬ (((ws.length - 1 : Nat) : Int) < ((ws.length - 1 : Nat) : Int)) := Int.lt_irrefl _
        have HGR := hid (show nums ps = grT l by unfold grT; rw [HW10.out, HPS.out])
        have hsm := small_of HGR.out (grT_small l (by omega))
        have hpe : (nums ps).length = ps.length := nums_length ps
        have HPE := hid hpe
        have RM := hid OM.out.rdm
        clear hkl hpe
        by_cases hg : GOk (nums ps)
        · have HG1 := hid (show decide (GOk (nums ps)) = true from decide_eq_true hg)
          obtain ⟨S, hS⟩ : ∃ S, rowsStr (nums ps) = S := ⟨_, rfl⟩
          have hS2 : str (rowsTo (nums ps) (nums ps).length (nums ps).length) = S := by rw [← hS]; unfold rowsStr; rw [if_pos hg]
          have HS := hid hS
          by_cases hst : S = str l
          · have hgood : GoodR l := ⟨hl8, by rw [← HGR.out]; exact hg, by rw [← HGR.out]; exact str_inj (hS2.trans hst)⟩
            obtain ⟨e0, e1⟩ := HYES.out hgood
            rw [← HGR.out] at e0
            subst e0; subst e1
            have hbq : (S.toList == (str l).toList) = true := by rw [hst]; exact beq_self_eq_true _
            clear hst hS hS2 hgood hg
            go_wp2_with fail
            refine (specGraphOk_b pv ps pc _ true HG1.out RM.out hsm).mono ?_
            rintro e w2 ⟨rfl, hb2⟩
            have c2 := cellB hb2 c03 (Nat.le_refl _)
            have OM2 := hid (OM.out.past hb2 (Nat.le_refl _))
            have OR2 := hid (OR.out.past hb2 (Nat.le_refl _))
            have LB2 := hid (bon LB.out hb2)
            have RM2 := hid OM2.out.rdm
            clear hb2 c03 OM OR OZ OW LB RM
            go_wp2_with fail
            refine (specRowsText_any pv ps pc _ S HS.out RM2.out hsm).mono ?_
            rintro e w3 ⟨rfl, hb3⟩
            have c3 := cellB hb3 c2 (Nat.le_refl _)
            have OM3 := hid (OM2.out.past hb3 (Nat.le_refl _))
            have OR3 := hid (OR2.out.past hb3 (Nat.le_refl _))
            have LB3 := hid (bon LB2.out hb3)
            clear hb3 c2 OM2 OR2 LB2 RM2
            have hfr := OR3.out.free 0
            have c4 := OR3.out.cell 0 (by simp)
            rw [List.getElem_cons_zero] at c4
            have OMF := hid ((OM3.out.setCell_below (p := ⟨w.heap.size, 0, none⟩) (show w.heap.size < lb + 1 by omega) (.slice pv ps.length pc)).base (B' := w.heap.size) (by omega))
            have LBF := hid (Below.setCell LB3.out (p := ⟨w.heap.size, 0, none⟩) (Nat.le_refl _) (.slice pv ps.length pc))
            have HC110 := hid (show (w3.setCell ⟨w.heap.size, 0, none⟩ (.slice pv ps.length pc)).cell? ⟨w.heap.size, 0, none⟩ = some (.slice pv ps.length pc) by
              have h := (OR3.out.store 0 (by simp) (.slice pv ps.length pc)).cell 0 (by simp)
              simpa using h)
            clear OM3 LB3
            go_wp2
            refine bodyPost_ret (ret_cell_tmpR rfl _ _ _ ⟨w.heap.size, 0, none⟩ (.agg #[.slice pv ps.length pc]) (.bool true) rfl rfl ?_) rfl ⟨_, ps, rfl, rfl, OMF.out, LBF.out⟩
            have c110 := HC110.out
            clear OMF LBF
            go_simp
          · have hbad : ¬ GoodR l := fun h => hst (by rw [← hS2, HGR.out, h.2.2])
            obtain ⟨e0, e1⟩ := HNO.out hbad
            subst e0; subst e1
            have hbq : (S.toList == (str l).toList) = false := by
              rw [beq_eq_false_iff_ne]
              intro e
              apply hst
              rw [Go.Lib.toList_data, Go.Lib.toList_data] at e
              rw [← str_data S, e, str_data]
            clear hst hS hS2 hbad hg
            go_wp2_with fail
            refine (specGraphOk_b pv ps pc _ true HG1.out RM.out hsm).mono ?_
            rintro e w2 ⟨rfl, hb2⟩
            have c2 := cellB hb2 c03 (Nat.le_refl _)
            have OM2 := hid (OM.out.past hb2 (Nat.le_refl _))
            have OR2 := hid (OR.out.past hb2 (Nat.le_refl _))
            have LB2 := hid (bon LB.out hb2)
            have RM2 := hid OM2.out.rdm
            clear hb2 c03 OM OR OZ OW LB RM
            go_wp2_with fail
            refine (specRowsText_any pv ps pc _ S HS.out RM2.out hsm).mono ?_
            rintro e w3 ⟨rfl, hb3⟩
            have OR3 := hid (OR2.out.past hb3 (Nat.le_refl _))
            have LB3 := hid (bon LB2.out hb3)
            clear hb3 c2 OM2 OR2 LB2 RM2
            have hfr := OR3.out.free 0
            have c4 := OR3.out.cell 0 (by simp)
            rw [List.getElem_cons_zero] at c4
            have LBF := hid (Below.setCell LB3.out (p := ⟨w.heap.size, 0, none⟩) (Nat.le_refl _) (.slice none 0 0))
            have HC110 := hid (show (w3.setCell ⟨w.heap.size, 0, none⟩ (.slice none 0 0)).cell? ⟨w.heap.size, 0, none⟩ = some (.slice none 0 0) by
              have h := (OR3.out.store 0 (by simp) (.slice none 0 0)).cell 0 (by simp)
              simpa using h)
            clear LB3
            go_wp2
            refine bodyPost_ret (ret_cell_tmpR rfl _ _ _ ⟨w.heap.size, 0, none⟩ (.agg #[.slice none 0 0]) (.bool false) rfl rfl ?_) rfl ⟨.slice none 0 0, [], rfl, rfl, ⟨Own.nil _ _ _, Inner.nil _ _ _⟩, LBF.out⟩
            have c110 := HC110.out
            clear LBF
            go_simp
        · have hbad : ¬ GoodR l := fun h => hg (by rw [HGR.out]; exact h.2.1)
          have HG1 := hid (show decide (GOk (nums ps)) = false from decide_eq_false hg)
          obtain ⟨e0, e1⟩ := HNO.out hbad
          subst e0; subst e1
          clear hbad hg
          go_wp2_with fail
          refine (specGraphOk_b pv ps pc _ false HG1.out RM.out hsm).mono ?_
          rintro e w2 ⟨rfl, hb2⟩
          have OR3 := hid (OR.out.past hb2 (Nat.le_refl _))
          have LB3 := hid (bon LB.out hb2)
          clear hb2 c03 OM OR OZ OW LB RM
          have hfr := OR3.out.free 0
          have c4 := OR3.out.cell 0 (by simp)
          rw [List.getElem_cons_zero] at c4
          have LBF := hid (Below.setCell LB3.out (p := ⟨w.heap.size, 0, none⟩) (Nat.le_refl _) (.slice none 0 0))
          have HC110 := hid (show (w2.setCell ⟨w.heap.size, 0, none⟩ (.slice none 0 0)).cell? ⟨w.heap.size, 0, none⟩ = some (.slice none 0 0) by
            have h := (OR3.out.store 0 (by simp) (.slice none 0 0)).cell 0 (by simp)
            simpa using h)
          clear LB3
          go_wp2
          refine bodyPost_ret (ret_cell_tmpR rfl _ _ _ ⟨w.heap.size, 0, none⟩ (.agg #[.slice none 0 0]) (.bool false) rfl rfl ?_) rfl ⟨.slice none 0 0, [], rfl, rfl, ⟨Own.nil _ _ _, Inner.nil _ _ _⟩, LBF.out⟩
          have c110 := HC110.out
          clear LBF
          go_simp
set_option maxRecDepth 100000 in
set_option maxHeartbeats 4000000 in
theorem implTextRows_any (s : ByteArray) (w : World) (r0 : List (List Int)) (r1 : Bool) (hx0 : (trR s).1 = r0) (hx1 : (trR s).2 = r1) (hs : s.size ≤ 1048576) :
    Calls Tryd.prog 7 #[.string s] w (RetGB r0 r1 w) := by
  obtain ⟨l, rfl⟩ : ∃ l, s = str l := ⟨s.data.toList, (str_data s).symm⟩
  have hl : l.length ≤ 1048576 := by rwa [str_size] at hs
  have hsz : (str l).size = l.length := str_size l
  have HNO := hid (show ¬ GoodR l → r0 = [] ∧ r1 = false from fun h => by
    rw [trR_bad h] at hx0 hx1
    exact ⟨hx0.symm, hx1.symm⟩)
  have HYES := hid (show GoodR l → r0 = grT l ∧ r1 = true from fun h => by
    rw [trR_good h] at hx0 hx1
    exact ⟨hx0.symm, hx1.symm⟩)
  clear hs hx0 hx1
  obtain ⟨w0, hw0⟩ : ∃ w0, w0 = (w.alloc (.cells #[.slice none 0 0] 24)) := ⟨_, rfl⟩
  have B0 := hid (show Below w.heap.size w w0 by rw [hw0]; exact ((Below.refl _ _).alloc (Nat.le_refl _) _))
  have c0 : w0.cell? ⟨w.heap.size, 0, none⟩ = some (.slice none 0 0) := by rw [hw0]; simp [go_sem]
  have HW := hid hw0; clear hw0
  have hsz0 : w0.heap.size = w.heap.size + 1 := by rw [HW.out]; simp
  have OR := hid (show Own 24 w0 w.heap.size (.slice (some ⟨w.heap.size, 0, none⟩) 1 1) [.slice none 0 0] by
    have h := own_new 24 w [.slice none 0 0] (by simp [maxLen])
    rw [HW.out]
    exact h)
  obtain ⟨ws, hw⟩ : ∃ ws, spl 10 l = ws := ⟨_, rfl⟩
  have hwm : ∀ p ∈ ws, p.length ≤ l.length := fun p hp => (spl_mem (by rw [hw]; exact hp)).2
  have hws := spl_len_le 10 l
  rw [hw] at hws
  have hwn : 0 < ws.length := by rw [← hw]; exact List.length_pos_iff.2 (spl_ne 10 l)
  have hgl : (grT l).length = ws.length - 1 := by unfold grT; rw [hw, List.length_map, List.length_take]; omega
  have HW10 := hid hw; have HWM := hid hwm; have HGL := hid hgl
  have hlen1 : ((ws.length : Int) - 1) = ((ws.length - 1 : Nat) : Int) := by omega
  have HL1 := hid hlen1
  have OR0 := hid OR.out
  clear hw hwm hgl hlen1
  by_cases h8 : 800 < l.length ∨ ws.length - 1 < 1 ∨ 16 < ws.length - 1
  · obtain ⟨e0, e1⟩ := HNO.out (fun h => by
      have h1 := h.1
      have h2 := h.2.1.pos
      have h3 := h.2.1.le
      rw [HGL.out] at h2 h3
      omega)
    subst e0; subst e1
    have h8i : (800 < (l.length : Int)) ∨ (¬ (800 < (l.length : Int)) ∧ (((ws.length - 1 : Nat) : Int) < 1 ∨ (¬ (((ws.length - 1 : Nat) : Int) < 1) ∧ (16 : Int) < ((ws.length - 1 : Nat) : Int)))) := by omega
    have hlb1 : (1 : Int) ≤ (ws.length : Int) := by omega
    clear h8
    go_enter Tryd.func7, Tryd.ntmps7
    go_wp2_with fail
    rw [← HW.out]
    refine (strSplit_any l 10 _ (by omega)).mono ?_
    rintro e w1 ⟨rfl, hown, hb⟩
    rw [HW10.out]
    have OR1 := hid (OR.out.past hb (Nat.le_refl _))
    have B1 := hid (bon B0.out hb)
    clear hown hb OR OR0
    have hlen1 := HL1.out
    have hfr := OR1.out.free 0
    have c4 := OR1.out.cell 0 (by simp)
    rw [List.getElem_cons_zero] at c4
    have LBF := hid (Below.setCell B1.out (p := ⟨w.heap.size, 0, none⟩) (Nat.le_refl _) (.slice none 0 0))
    have HC110 := hid (show (w1.setCell ⟨w.heap.size, 0, none⟩ (.slice none 0 0)).cell? ⟨w.heap.size, 0, none⟩ = some (.slice none 0 0) by
      have h := (OR1.out.store 0 (by simp) (.slice none 0 0)).cell 0 (by simp)
      simpa using h)
    clear B1
    rcases h8i with h8i | ⟨h8i, h8j | ⟨h8j, h8k⟩⟩
    all_goals (
      go_wp2
      refine bodyPost_ret (ret_cell_tmpR rfl _ _ _ ⟨w.heap.size, 0, none⟩ (.agg #[.slice none 0 0]) (.bool false) rfl rfl ?_) rfl ⟨.slice none 0 0, [], rfl, rfl, ⟨Own.nil _ _ _, Inner.nil _ _ _⟩, LBF.out⟩
      have c110 := HC110.out
      clear LBF
      go_simp)
  · have h8i : ¬ (800 : Int) < (l.length : Int) := by omega
    have hl8 : l.length ≤ 800 := by omega
    have hn1 : ¬ (((ws.length - 1 : Nat) : Int) < 1) := by omega
    have hn16 : ¬ ((16 : Int) < ((ws.length - 1 : Nat) : Int)) := by omega
    clear h8 OR0
    go_enter Tryd.func7, Tryd.ntmps7
    go_wp2_with fail
    rw [← HW.out]
    refine (strSplit_any l 10 _ (by omega)).mono ?_
    rintro e w1 ⟨rfl, hown, hb⟩
    rw [HW10.out] at hown ⊢
    have OW1 := hid (hown.base (B' := w.heap.size) B0.out.size)
    have OR1 := hid (OR.out.past hb (Nat.le_refl _))
    have B1 := hid (bon B0.out hb)
    have hs01 := hb.size
    clear hown hb OR
    rw [hsz0] at OW1
    have hbA := alloc_below w1 (.cells #[.slice none 0 0] 24)
    have OZ2 := hid (own_new 24 w1 [.slice none 0 0] (by simp [maxLen]))
    have OW2 := hid (OW1.out.past hbA (Nat.le_refl _))
    have OR2 := hid (OR1.out.past hbA (Nat.le_refl _))
    have B2 := hid (bon B1.out hbA)
    have hs1 := B1.out.size
    clear hbA OW1 OR1
    have hlen1 := HL1.out
    have hnc : (((ws.length - 1 : Nat) : Int) ≤ (ws.length : Int)) := by omega
    have hn0 : ((0 : Int) ≤ ((ws.length - 1 : Nat) : Int)) := by omega
    have hlb : w.heap.size + 1 ≤ w1.heap.size := by omega
    have HO1 := hid (show Own 30 (w1.alloc (.cells #[.slice none 0 0] 24)) (w1.heap.size + 1) (.slice none 0 0) (([] : List Row).map Row.val) from Own.nil _ _ _)
    have hsl : w1.heap.size < (w1.alloc (.cells #[.slice none 0 0] 24)).heap.size := by simp
    go_wp2
    generalize w1.alloc (.cells #[.slice none 0 0] 24) = wb at *
    generalize w1.heap.size = lb at *
    go_loopw [33] (fun x wr => ∃ (k : Nat) (v : Value) (ps : List Row), k ≤ ws.length - 1 ∧ x = .int .i64 k ∧ OwnM 30 2 wr (lb + 1) v ps ∧ nums ps = (ws.take k).map rowOf ∧ Own 24 wr lb (.slice (some ⟨lb, 0, none⟩) 1 1) [v] ∧ Own 24 wr w.heap.size (.slice (some ⟨w.heap.size, 0, none⟩) 1 1) [.slice none 0 0] ∧ Own 9 wr w.heap.size (.slice (some ⟨w.heap.size + 1, 0, none⟩) ws.length ws.length) (ws.map strF) ∧ Below w.heap.size w wr) (fun x _ => ws.length - 1 - (intOf x).toNat)
    case atStart => exact ⟨0, _, [], Nat.zero_le _, rfl, ⟨HO1.out, Inner.nil _ _ _⟩, rfl, OZ2.out, OR2.out, OW2.out, B2.out⟩
    case round =>
      clear HO1 OZ2 OR2 OW2 B2
      obtain ⟨k, v, ps, hk, rfl, ho, hps, hoz, hor, how, hb⟩ := hrel
      have OM := hid ho; have HPS := hid hps; have OZ := hid hoz; have OR := hid hor; have OW := hid how; have LB := hid hb
      have c03 := hoz.cell 0 (by simp)
      rw [List.getElem_cons_zero] at c03
      have hzr := hoz.lt lb rfl
      clear ho hps hoz hor how hb
      obtain ⟨pv, pc, hpv, _⟩ := OM.out.rd
      subst hpv
      have hpl := congrArg List.length HPS.out
      rw [nums_length, List.length_map, List.length_take] at hpl
      have HPL2 := hid (show (ps.map Row.val).length < 1099511627776 by rw [List.length_map]; omega)
      have HPL := hid hpl
      clear hpl
      by_cases hkl : k < ws.length - 1
      · have hki : (k : Int) < ((ws.length - 1 : Nat) : Int) := by omega
        have hkw : k < ws.length := by omega
        have hkj : (k : Int) < (ws.length : Int) := by omega
        obtain ⟨sb, so, hsb, ck⟩ := (rdR OW.out) k hkw
        obtain ⟨rfl, rfl⟩ : w.heap.size + 1 = sb ∧ 0 = so := by simpa using hsb
        rw [Nat.zero_add] at ck
        clear hsb
        have HTS := hid (List.take_succ_eq_append_getElem hkw)
        have hpl8 := HWM.out _ (List.getElem_mem hkw)
        generalize ws[k] = p at *
        have ck2 : wr.cell? ⟨w.heap.size + 1, k, none⟩ = some (.string (str p)) := ck
        have hpz : (str p).size = p.length := str_size p
        have HCK := hid ck2
        have HC03 := hid c03
        have HE0 := hid (alloc_below wr (.cells #[] 2))
        have HO := hid (own_new 2 wr [] (by simp [maxLen]))
        clear ck c03
        obtain ⟨wo, hwo⟩ : ∃ z, z = wr := ⟨_, rfl⟩
        go_wp2
        subst hwo
        go_loopw [9, 10] (fun o x wi => ∃ u : Nat, u ≤ p.length ∧ x = .int .i64 u ∧ Own 2 wi wo.heap.size o ((onesTo p u).map (.int .i64)) ∧ Below wo.heap.size wo wi) (fun _ x _ => p.length - (intOf x).toNat)
        case atStart => exact ⟨0, Nat.zero_le _, rfl, HO.out, HE0.out⟩
        case round =>
          clear HO HE0 ck2
          obtain ⟨u, hu, rfl, hro, hbi⟩ := hrel
          have ORW := hid hro; have BI := hid hbi
          have ck := cellB hbi HCK.out (Nat.le_refl _)
          have hwi := hbi.size
          clear hro hbi
          by_cases hul : u < p.length
          · have hui : (u : Int) < (p.length : Int) := by omega
            have hgu := fun h : u < (str p).size => str_get p u h hul
            have hgd : p.getD u 0 = p[u] := by rw [List.getD_eq_getElem?_getD, List.getElem?_eq_getElem hul]; rfl
            have hsu := onesTo_succ p u
            obtain ⟨b, hb⟩ : ∃ b, p[u] = b := ⟨_, rfl⟩
            have hget : ∀ h : u < (str p).size, (str p)[u]'h = b := fun h => (hgu h).trans hb
            rw [hgd, hb] at hsu
            have HSU := hid hsu
            have hol := onesTo_len p u
            have hxl : ((onesTo p u).map (Value.int .i64)).length ≤ 801 := by rw [List.length_map]; omega
            clear hgu hgd hsu hb hol
            by_cases hbb : b = 49
            · have hbi : ((b.toNat : Int) == 49) = true := by rw [hbb]; rfl
              have HS2 := hid (show (onesTo p u).map (Value.int .i64) ++ [.int .i64 (u : Int)] = (onesTo p (u + 1)).map (Value.int .i64) by rw [HSU.out, if_pos hbb, List.map_append]; rfl)
              clear hbb HSU
              generalize (onesTo p u).map (Value.int .i64) = XS at *
              obtain ⟨xa, xc, hxo⟩ : ∃ xa xc, True := ⟨(none : Option Addr), 0, trivial⟩
              go_wp2_with (at_builtin; refine law_push tI64 _ rfl _ _ rfl wo.heap.size _ XS rfl ORW.out _ _ rfl ?c0 rfl ?c1 ?c2 ?_)
              case c0 => simp
              case c1 => exact Nat.lt_of_le_of_lt hxl (by decide)
              case c2 => exact hwi
              intro v' w' h1 h2
              have ON := hid (show Own 2 w' wo.heap.size v' ((onesTo p (u + 1)).map (.int .i64)) by rw [← HS2.out]; exact h1)
              have BN := hid (BI.out.trans (grown_below h2 hwi (fun g hg => ORW.out.ge g hg)))
              clear h1 h2
              go_wp2
              go_roundw
              case rel => exact ⟨u + 1, by omega, by go_num, ON.out, BN.out⟩
              case measure => simp [intOf]; omega
            · have hbi : ((b.toNat : Int) == 49) = false := by
                rw [beq_eq_false_iff_ne]
                intro e
                exact hbb (UInt8.toNat_inj.1 (by show b.toNat = 49; omega))
              have HS2 := hid (show (onesTo p u).map (Value.int .i64) = (onesTo p (u + 1)).map (Value.int .i64) by rw [HSU.out, if_neg hbb, List.append_nil])
              clear hbb HSU
              rw [HS2.out] at ORW
              go_wp2
              go_roundw
              case rel => exact ⟨u + 1, by omega, by go_num, ORW.out, BI.out⟩
              case measure => simp [intOf]; omega
          · obtain rfl : u = p.length := by omega
            have hui : ¬ ((p.length : Nat) : Int) < (p.length : Int) := by omega
            obtain ⟨ra, rc, hrv, _⟩ := Own.rd ORW.out
            subst hrv
            have HRO := hid (show onesTo p p.length = rowOf p from rfl)
            have hol := onesTo_len p p.length
            have c03 := cellB BI.out HC03.out (Nat.le_refl _)
            have OMi := hid (OM.out.past BI.out (Nat.le_refl _))
            have INi := hid (OM.out.inner.snoc BI.out (show lb + 1 ≤ wo.heap.size by omega) ⟨ra, onesTo p p.length, rc⟩ ORW.out)
            have OZi := hid (OZ.out.past BI.out (Nat.le_refl _))
            have ORi := hid (OR.out.past BI.out (Nat.le_refl _))
            have OWi := hid (OW.out.past BI.out (Nat.le_refl _))
            have LBi := hid (bon LB.out BI.out)
            have hzi : lb < wr.heap.size := by omega
            have HNS := hid (show nums (ps ++ [(⟨ra, onesTo p p.length, rc⟩ : Row)]) = (ws.take (k + 1)).map rowOf by
              rw [nums_push, HPS.out, HTS.out, List.map_append]; rfl)
            clear ORW OM OZ OR OW HCK BI
            generalize onesTo p p.length = R at *
            go_wp2_with (at_builtin; refine law_push tRows _ rfl _ _ rfl (lb + 1) _ (ps.map Row.val) rfl OMi.out.outer _ _ rfl ?c0 rfl ?c1 ?c2 ?_)
            try (case c0 => simp)
            try (case c1 => have h := HPL2.out; rw [List.length_map] at h; exact h)
            try (case c2 => omega)
            intro v' w5 h1 h2
            have OZ5 := hid (OZi.out.kept h2 (OZi.out.ne OMi.out.outer (by decide)))
            have OR5 := hid (ORi.out.kept h2 (ORi.out.ne OMi.out.outer (by decide)))
            have OW5 := hid (OWi.out.kept h2 (OWi.out.ne OMi.out.outer (by decide)))
            have hfr5 : w5.frozen? ⟨lb, 0, none⟩ = false := OZ5.out.free 0
            have k1 : w5.cell? ⟨lb, 0, none⟩ = some (.slice pv ps.length pc) := by have h := OZ5.out.cell 0 (by simp); simpa using h
            have LP5 := hid (grown_below h2 (show lb + 1 ≤ _ by omega) (fun g hg => OMi.out.outer.ge g hg))
            have LB5 := hid (LBi.out.trans (LP5.out.mono (by omega)))
            have OM5 := hid (rows_push (by decide) OMi.out.outer INi.out (by simpa [Row.val] using h1) h2)
            clear h1 h2
            obtain ⟨va, vc, hva, _⟩ := OM5.out.rd
            subst hva
            have e1 : (ps ++ [(⟨ra, R, rc⟩ : Row)]).length = ps.length + 1 := by simp
            rw [e1] at OM5
            have OM6 := hid (OM5.out.setCell_below (p := ⟨lb, 0, none⟩) (Nat.lt_succ_self _) (.slice va (ps.length + 1) vc))
            have OZ6 := hid (show Own 24 (w5.setCell ⟨lb, 0, none⟩ (.slice va (ps.length + 1) vc)) lb (.slice (some ⟨lb, 0, none⟩) 1 1) [.slice va (ps.length + 1) vc] from OZ5.out.store 0 (by simp) (.slice va (ps.length + 1) vc))
            have OR6 := hid (OR5.out.setCell_other ⟨lb, 0, none⟩ (.slice va (ps.length + 1) vc) (.inr (by simp [Value.ownBlock]; omega)))
            have OW6 := hid (OW5.out.setCell_other ⟨lb, 0, none⟩ (.slice va (ps.length + 1) vc) (by simpa [Value.ownBlock] using OW5.out.ne OZ5.out (by decide)))
            have LB6 := hid (Below.setCell LB5.out (p := ⟨lb, 0, none⟩) (show w.heap.size ≤ lb by omega) (.slice va (ps.length + 1) vc))
            have HE1 := hid e1
            clear e1 OM5 OZ5 LB5 LP5 OR5 OW5 OMi INi OZi ORi OWi LBi c03
            go_wp2
            go_roundw
            case rel => exact ⟨k + 1, _, _, by omega, by go_num, OM6.out, HNS.out, OZ6.out, OR6.out, OW6.out, LB6.out⟩
            case measure => simp [intOf]; omega
      · obtain rfl : k = ws.length - 1 := by omega
        have hki : ¬ (((ws.length - 1 : Nat) : Int) < ((ws.length - 1 : Nat) : Int)) := Int.lt_irrefl _
        have HGR := hid (show nums ps = grT l by unfold grT; rw [HW10.out, HPS.out])
        have hsm := small_of HGR.out (grT_small l (by omega))
        have hpe : (nums ps).length = ps.length := nums_length ps
        have HPE := hid hpe
        have RM := hid OM.out.rdm
        clear hkl hpe
        by_cases hg : GOk (nums ps)
        · have HG1 := hid (show decide (GOk (nums ps)) = true from decide_eq_true hg)
          obtain ⟨S, hS⟩ : ∃ S, rowsStr (nums ps) = S := ⟨_, rfl⟩
          have hS2 : str (rowsTo (nums ps) (nums ps).length (nums ps).length) = S := by rw [← hS]; unfold rowsStr; rw [if_pos hg]
          have HS2 := hid (show str (rowsTo (nums ps) ps.length ps.length) = S by rw [← HPE.out]; exact hS2)
          have HG2 := hid hg
          by_cases hst : S = str l
          · have hgood : GoodR l := ⟨hl8, by rw [← HGR.out]; exact hg, by rw [← HGR.out]; exact str_inj (hS2.trans hst)⟩
            obtain ⟨e0, e1⟩ := HYES.out hgood
            rw [← HGR.out] at e0
            subst e0; subst e1
            have hbq : (S.toList == (str l).toList) = true := by rw [hst]; exact beq_self_eq_true _
            clear hst hS hS2 hgood hg
            go_wp2_with fail
            refine (implGraphOk_b pv ps pc _ true HG1.out RM.out hsm).mono ?_
            rintro e w2 ⟨rfl, hb2⟩
            have c2 := cellB hb2 c03 (Nat.le_refl _)
            have OM2 := hid (OM.out.past hb2 (Nat.le_refl _))
            have OR2 := hid (OR.out.past hb2 (Nat.le_refl _))
            have LB2 := hid (bon LB.out hb2)
            have RM2 := hid OM2.out.rdm
            clear hb2 c03 OM OR OZ OW LB RM
            go_wp2_with fail
            refine (rowsText_any pv ps pc _ HG2.out RM2.out hsm).mono ?_
            rintro e w3 ⟨rfl, hb3⟩
            rw [HS2.out]
            have c3 := cellB hb3 c2 (Nat.le_refl _)
            have OM3 := hid (OM2.out.past hb3 (Nat.le_refl _))
            have OR3 := hid (OR2.out.past hb3 (Nat.le_refl _))
            have LB3 := hid (bon LB2.out hb3)
            clear hb3 c2 OM2 OR2 LB2 RM2
            have hfr := OR3.out.free 0
            have c4 := OR3.out.cell 0 (by simp)
            rw [List.getElem_cons_zero] at c4
            have OMF := hid ((OM3.out.setCell_below (p := ⟨w.heap.size, 0, none⟩) (show w.heap.size < lb + 1 by omega) (.slice pv ps.length pc)).base (B' := w.heap.size) (by omega))
            have LBF := hid (Below.setCell LB3.out (p := ⟨w.heap.size, 0, none⟩) (Nat.le_refl _) (.slice pv ps.length pc))
            have HC110 := hid (show (w3.setCell ⟨w.heap.size, 0, none⟩ (.slice pv ps.length pc)).cell? ⟨w.heap.size, 0, none⟩ = some (.slice pv ps.length pc) by
              have h := (OR3.out.store 0 (by simp) (.slice pv ps.length pc)).cell 0 (by simp)
              simpa using h)
            clear OM3 LB3
            go_wp2
            refine bodyPost_ret (ret_cell_tmpR rfl _ _ _ ⟨w.heap.size, 0, none⟩ (.agg #[.slice pv ps.length pc]) (.bool true) rfl rfl ?_) rfl ⟨_, ps, rfl, rfl, OMF.out, LBF.out⟩
            have c110 := HC110.out
            clear OMF LBF
            go_simp
          · have hbad : ¬ GoodR l := fun h => hst (by rw [← hS2, HGR.out, h.2.2])
            obtain ⟨e0, e1⟩ := HNO.out hbad
            subst e0; subst e1
            have hbq : (S.toList == (str l).toList) = false := by
              rw [beq_eq_false_iff_ne]
              intro e
              apply hst
              rw [Go.Lib.toList_data, Go.Lib.toList_data] at e
              rw [← str_data S, e, str_data]
            clear hst hS hS2 hbad hg
            go_wp2_with fail
            refine (implGraphOk_b pv ps pc _ true HG1.out RM.out hsm).mono ?_
            rintro e w2 ⟨rfl, hb2⟩
            have c2 := cellB hb2 c03 (Nat.le_refl _)
            have OM2 := hid (OM.out.past hb2 (Nat.le_refl _))
            have OR2 := hid (OR.out.past hb2 (Nat.le_refl _))
            have LB2 := hid (bon LB.out hb2)
            have RM2 := hid OM2.out.rdm
            clear hb2 c03 OM OR OZ OW LB RM
            go_wp2_with fail
            refine (rowsText_any pv ps pc _ HG2.out RM2.out hsm).mono ?_
            rintro e w3 ⟨rfl, hb3⟩
            rw [HS2.out]
            have OR3 := hid (OR2.out.past hb3 (Nat.le_refl _))
            have LB3 := hid (bon LB2.out hb3)
            clear hb3 c2 OM2 OR2 LB2 RM2
            have hfr := OR3.out.free 0
            have c4 := OR3.out.cell 0 (by simp)
            rw [List.getElem_cons_zero] at c4
            have LBF := hid (Below.setCell LB3.out (p := ⟨w.heap.size, 0, none⟩) (Nat.le_refl _) (.slice none 0 0))
            have HC110 := hid (show (w3.setCell ⟨w.heap.size, 0, none⟩ (.slice none 0 0)).cell? ⟨w.heap.size, 0, none⟩ = some (.slice none 0 0) by
              have h := (OR3.out.store 0 (by simp) (.slice none 0 0)).cell 0 (by simp)
              simpa using h)
            clear LB3
            go_wp2
            refine bodyPost_ret (ret_cell_tmpR rfl _ _ _ ⟨w.heap.size, 0, none⟩ (.agg #[.slice none 0 0]) (.bool false) rfl rfl ?_) rfl ⟨.slice none 0 0, [], rfl, rfl, ⟨Own.nil _ _ _, Inner.nil _ _ _⟩, LBF.out⟩
            have c110 := HC110.out
            clear LBF
            go_simp
        · have hbad : ¬ GoodR l := fun h => hg (by rw [HGR.out]; exact h.2.1)
          have HG1 := hid (show decide (GOk (nums ps)) = false from decide_eq_false hg)
          obtain ⟨e0, e1⟩ := HNO.out hbad
          subst e0; subst e1
          clear hbad hg
          go_wp2_with fail
          refine (implGraphOk_b pv ps pc _ false HG1.out RM.out hsm).mono ?_
          rintro e w2 ⟨rfl, hb2⟩
          have OR3 := hid (OR.out.past hb2 (Nat.le_refl _))
          have LB3 := hid (bon LB.out hb2)
          clear hb2 c03 OM OR OZ OW LB RM
          have hfr := OR3.out.free 0
          have c4 := OR3.out.cell 0 (by simp)
          rw [List.getElem_cons_zero] at c4
          have LBF := hid (Below.setCell LB3.out (p := ⟨w.heap.size, 0, none⟩) (Nat.le_refl _) (.slice none 0 0))
          have HC110 := hid (show (w2.setCell ⟨w.heap.size, 0, none⟩ (.slice none 0 0)).cell? ⟨w.heap.size, 0, none⟩ = some (.slice none 0 0) by
            have h := (OR3.out.store 0 (by simp) (.slice none 0 0)).cell 0 (by simp)
            simpa using h)
          clear LB3
          go_wp2
          refine bodyPost_ret (ret_cell_tmpR rfl _ _ _ ⟨w.heap.size, 0, none⟩ (.agg #[.slice none 0 0]) (.bool false) rfl rfl ?_) rfl ⟨.slice none 0 0, [], rfl, rfl, ⟨Own.nil _ _ _, Inner.nil _ _ _⟩, LBF.out⟩
          have c110 := HC110.out
          clear LBF
          go_simp
end
end Go.Proofs.YtccohcdgcpcbjaaDoor
