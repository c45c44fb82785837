/- A graph without an edge: the reference's CutEdge. -/
import Derived.Test.YtdncmloajajiaaaDoorLink
import Derived.Test.YtdncmloajajiaaaDoorMem3
import Derived.Test.YtdncmloajajiaaaDoorElimM
import Derived.Deep.RegionLaw
import Derived.Test.YtdncmloajajiaaaDoorEdgeIn
namespace Go.Proofs.YtdncmloajajiaaaDoor
open Go.RowKit
section
def wouL (v : Int) (zs : List Int) : List Int := zs.filter fun x => decide (x ≠ v)
theorem wouL_take (v : Int) (zs : List Int) (k : Nat) (h : k < zs.length) : wouL v (zs.take (k + 1)) = wouL v (zs.take k) ++ if zs[k] ≠ v then [zs[k]] else [] := by
  unfold wouL
  rw [List.take_succ_eq_append_getElem h, List.filter_append]
  by_cases hm : zs[k] = v <;> simp [hm]
theorem wouL_len (v : Int) (zs : List Int) : (wouL v zs).length ≤ zs.length := List.length_filter_le _ _
set_option maxRecDepth 100000 in
set_option maxHeartbeats 4000000 in
theorem l2Without_any (a : Option Addr) (zs : List Int) (c : Nat) (v : Int) (w : World) (hr : Rd (Value.int .i64) w a zs) (hm : zs.length ≤ 1048576) :
    Calls Tryd.prog 65 #[.slice a zs.length c, .int .i64 v] w (RetOwn 2 ((wouL v zs).map (.int .i64)) w) := by
  have RZ := hid hr; clear hr
  have HO := hid (show Own 2 (w.alloc (.cells #[] 2)) w.heap.size (.slice (some ⟨w.heap.size, 0, none⟩) 0 0) [] from own_new 2 w [] (by decide))
  have B0 := hid (alloc_below w (.cells #[] 2))
  go_enter Tryd.func65, Tryd.ntmps65
  go_wp2
  go_loopw [5, 6] (fun o x wr => ∃ k : Nat, k ≤ zs.length ∧ x = .int .i64 k ∧ Own 2 wr w.heap.size o ((wouL v (zs.take k)).map (.int .i64)) ∧ Below w.heap.size w wr) (fun _ x _ => zs.length - (intOf x).toNat)
  case atStart => exact ⟨0, Nat.zero_le _, rfl, HO.out, B0.out⟩
  case round =>
    clear HO B0
    obtain ⟨k, hk, rfl, ho, hb⟩ := hrel
    have OM := hid ho; have LB := hid hb; clear ho hb
    have hsz1 := LB.out.size
    by_cases hlt : k < zs.length
    · have hki : (k : Int) < (zs.length : Int) := by omega
      obtain ⟨b', o, rfl, cf⟩ := (RZ.out.below LB.out (Nat.le_refl _)) k hlt
      have HS := hid (wouL_take v zs k hlt)
      have hwl := wouL_len v (zs.take k)
      have hxl : ((wouL v (zs.take k)).map (Value.int .i64)).length ≤ 1048576 := by rw [List.length_map]; rw [List.length_take] at hwl; omega
      clear hwl
      generalize zs[k] = d at *
      by_cases hd : d = v
      · have d1 : (d != v) = false := by simpa using hd
        have HS2 := hid (show (wouL v (zs.take (k + 1))).map (Value.int .i64) = (wouL v (zs.take k)).map (Value.int .i64) by rw [HS.out, if_neg (fun h => h hd), List.append_nil])
        clear hd
        go_wp2
        go_roundw
        case rel => exact ⟨k + 1, by omega, by go_num, by rw [HS2.out]; exact OM.out, LB.out⟩
        case measure => simp [intOf]; omega
      · have d1 : (d != v) = true := by simpa using hd
        have HS2 := hid (show (wouL v (zs.take (k + 1))).map (Value.int .i64) = (wouL v (zs.take k)).map (Value.int .i64) ++ [.int .i64 d] by rw [HS.out, if_pos hd, List.map_append]; rfl)
        clear hd
        generalize (wouL v (zs.take k)).map (Value.int .i64) = XS at *
        go_wp2_with (at_builtin; refine law_push tI64 _ rfl _ _ rfl w.heap.size _ XS rfl OM.out _ _ rfl ?c0 rfl ?c1 ?c2 ?_)
        case c0 => simp
        case c1 => exact Nat.lt_of_le_of_lt hxl (by decide)
        case c2 => exact hsz1
        intro v' w' h1 h2
        have HN := hid h1
        have HBB := hid (LB.out.trans (grown_below h2 hsz1 (fun g hg => OM.out.ge g hg)))
        clear h1 h2
        go_wp2
        go_roundw
        case rel => exact ⟨k + 1, by omega, by go_num, by rw [HS2.out]; exact HN.out, HBB.out⟩
        case measure => simp [intOf]; omega
    · obtain rfl : k = zs.length := by omega
      have hki : ¬ ((zs.length : Nat) : Int) < (zs.length : Int) := by omega
      rw [List.take_length] at OM
      go_wp2
      go_ret
      exact ⟨_, rfl, OM.out, LB.out⟩
end
section
theorem ownM_someC {eo ei : TypeId} {w : World} {B : Nat} {v : Value} {rs : List Row} (h : OwnM eo ei w B v rs) (h0 : 0 < rs.length) : ∃ g c, v = .slice (some ⟨g, 0, none⟩) rs.length c := by
  rcases h.outer.form with ⟨_, h2⟩ | ⟨g, cap, spare, h2, _⟩
  · have := congrArg List.length h2
    rw [List.length_map, List.length_nil] at this; omega
  · exact ⟨_, _, by rw [h2, List.length_map]⟩
set_option maxRecDepth 100000 in
set_option maxHeartbeats 4000000 in
theorem l1CopyGraph_cut (n gb cap : Nat) (A : List Nat) (ps : List Row) (w : World) (hA : GA n A) (hp : nums ps = A.map mems) (hl : ps.length = n) (hr : RdM w (some ⟨gb, 0, none⟩) ps) (hc : ∀ r ∈ ps, r.a = none → r.c = 0) :
    Calls Tryd.prog 64 #[.agg #[.slice (some ⟨gb, 0, none⟩) n cap]] w fun e w' => ∃ gb' cap', e = .returned (.agg #[.slice (some ⟨gb', 0, none⟩) n cap']) ∧ OwnG (fun _ => False) w' w.heap.size gb' n cap' A ∧ Below w.heap.size w w' := by
  have RP := hid hr; have HP := hid hp; have HL := hid hl; have HC := hid hc; have HGA := hid hA
  have hn16 := hA.le
  have hn1 := hA.pos
  clear hr hp hl hc hA
  obtain ⟨w0, hw0⟩ : ∃ w0, w0 = ((w.alloc (.cells #[.slice (some ⟨gb, 0, none⟩) n cap] 29)).alloc (.cells #[.slice none 0 0] 29)) := ⟨_, rfl⟩
  have B0 := hid (show Below w.heap.size w w0 by rw [hw0]; exact (((Below.refl _ _).alloc (Nat.le_refl _) _).alloc (by simp) _))
  have c0 : w0.cell? ⟨w.heap.size, 0, none⟩ = some (.slice (some ⟨gb, 0, none⟩) n cap) := by rw [hw0]; simp [go_sem]
  have c1 : w0.cell? ⟨w.heap.size + 1, 0, none⟩ = some (.slice none 0 0) := by rw [hw0]; simp [go_sem]
  replace RP := hid (RP.out.below B0.out (Nat.le_refl _))
  have HW := hid hw0; clear hw0
  have hsz0 : w0.heap.size = w.heap.size + 2 := by rw [HW.out]; simp
  have OR := hid (show Own 29 w0 (w.heap.size + 1) (.slice (some ⟨w.heap.size + 1, 0, none⟩) 1 1) [.slice none 0 0] by
    have h := own_new 29 (w.alloc (.cells #[.slice (some ⟨gb, 0, none⟩) n cap] 29)) [.slice none 0 0] (by simp [maxLen])
    rw [HW.out]
    simpa using h)
  have OZ := hid (show Own 29 (w0.alloc (.cells #[.slice none 0 0] 29)) w0.heap.size (.slice (some ⟨w0.heap.size, 0, none⟩) 1 1) [.slice none 0 0] from own_new 29 w0 [.slice none 0 0] (by simp [maxLen]))
  have hbA := alloc_below w0 (.cells #[.slice none 0 0] 29)
  have OR1 := hid (OR.out.past hbA (Nat.le_refl _))
  have BA := hid hbA
  have HO1 := hid (show Own 33 (w0.alloc (.cells #[.slice none 0 0] 29)) (w0.heap.size + 1) (.slice none 0 0) (([] : List Row).map Row.val) from Own.nil _ _ _)
  have hsA : (w0.alloc (.cells #[.slice none 0 0] 29)).heap.size = w0.heap.size + 1 := by simp
  clear hbA OR c1
  go_enter Tryd.func64, Tryd.ntmps64
  go_wp2
  rw [← HW.out]
  have hsx : w.heap.size + 2 = w0.heap.size := by omega
  rw [hsx]
  clear hsx
  have HSA := hid hsA; have HSZ := hid hsz0
  clear hsA hsz0
  generalize w0.alloc (.cells #[.slice none 0 0] 29) = W1 at *
  generalize hlb : w0.heap.size = lb at *
  have HLB := hid hlb
  clear hlb
  go_loopw [4] (fun x wr => ∃ (k : Nat) (v : Value) (qs : List Row), k ≤ n ∧ x = .int .i64 k ∧ OwnM 33 2 wr (lb + 1) v qs ∧ nums qs = (A.take k).map mems ∧ Own 29 wr lb (.slice (some ⟨lb, 0, none⟩) 1 1) [v] ∧ Own 29 wr (w.heap.size + 1) (.slice (some ⟨w.heap.size + 1, 0, none⟩) 1 1) [.slice none 0 0] ∧ Below lb w0 wr) (fun x _ => n - (intOf x).toNat)
  case atStart => exact ⟨0, _, [], Nat.zero_le _, rfl, ⟨HO1.out, Inner.nil _ _ _⟩, rfl, OZ.out, OR1.out, BA.out⟩
  case round =>
    clear HO1 OZ OR1 BA
    obtain ⟨k, v, qs, hk, rfl, ho, hqs, hoz, hor, hb⟩ := hrel
    have OM := hid ho; have HQS := hid hqs; have OZ := hid hoz; have OR := hid hor; have LB := hid hb
    have c03 := hoz.cell 0 (by simp)
    rw [List.getElem_cons_zero] at c03
    have hzr := hoz.lt lb rfl
    have cg := cellB hb c0 (Nat.le_of_eq HLB.out)
    have RPk := hid (RP.out.below hb (Nat.le_of_eq HLB.out))
    have hs1 := hb.size
    clear ho hqs hoz hor hb
    obtain ⟨pv, pc, hpv, _⟩ := OM.out.rd
    subst hpv
    have hql := congrArg List.length HQS.out
    rw [nums_length, List.length_map, List.length_take, HGA.out.len] at hql
    have HPL := hid (show (qs.map Row.val).length < 1099511627776 by rw [List.length_map]; omega)
    have HQL := hid hql
    clear hql
    by_cases hkn : k < n
    · have hki : (k : Int) < (n : Int) := by omega
      have hkp : k < ps.length := by rw [HL.out]; exact hkn
      obtain ⟨gb', go', hga, ch, hok⟩ := RPk.out.at k hkp
      obtain ⟨rfl, rfl⟩ : gb = gb' ∧ 0 = go' := by simpa using hga
      rw [Nat.zero_add] at ch
      have hz : ps[k].z = mems (A.getD k 0) := by
        have h1 : (nums ps)[k]'(by rw [nums_length]; exact hkp) = (A.map mems)[k]'(by rw [List.length_map, HGA.out.len]; exact hkn) := by simp only [HP.out]
        rw [List.getElem_map, ← getD_in (by rw [HGA.out.len]; exact hkn)] at h1
        simpa [nums] using h1
      have hnn := HC.out _ (List.getElem_mem hkp)
      have HNS := hid (show (A.take k).map mems ++ [mems (A.getD k 0)] = (A.take (k + 1)).map mems by
        rw [List.take_succ_eq_append_getElem (by rw [HGA.out.len]; exact hkn), List.map_append, getD_in (by rw [HGA.out.len]; exact hkn)]; rfl)
      have hrd := hok.1
      rw [hz] at ch hrd
      have h2n : 2 ^ n ≤ 65536 := Nat.pow_le_pow_right (n := 2) (i := n) (j := 16) (by decide) hn16
      have hm16 := mems16 (m := A.getD k 0) (by have := HGA.out.in2 k; omega)
      generalize ps[k].a = ra at *
      generalize ps[k].c = rc at *
      generalize mems (A.getD k 0) = M at *
      have RR := hid hrd
      have HNN := hid hnn
      have hml : M.length ≤ 1048576 := by omega
      clear hrd hok hz hga hnn h2n
      go_wp2_with fail
      have D3 : Drawn wr wr.drew := ⟨1, rfl⟩
      have f0 := dcell D3 cg
      have f1 := dcell D3 c03
      have f2 := dcell D3 ch
      have OM3 := hid (OM.out.past (D3.below wr.heap.size) (Nat.le_refl _))
      have OZ3 := hid (OZ.out.past (D3.below wr.heap.size) (Nat.le_refl _))
      have OR3 := hid (OR.out.past (D3.below wr.heap.size) (Nat.le_refl _))
      have RR3 := hid (RR.out.drawn D3)
      have LB3 := hid (LB.out.trans (D3.below lb))
      have hs3 : wr.drew.heap.size = wr.heap.size := rfl
      have hBw : lb + 1 ≤ wr.drew.heap.size := by rw [hs3]; omega
      clear OM OZ OR RR LB D3 RPk
      go_region_law ((first | (go_simp; go_at_call 73; refine (l1Copy_any2 ra M M.length rc _ rfl RR3.out hml HNN.out).mono ?_; rintro e w4 ⟨cv, rfl, hown, hb⟩; obtain ⟨ca, cc, rfl, _⟩ := Own.rd hown; have g1 := cellB hb f1 (Nat.le_refl _); have gA := cellB (alloc_below w4 (.cells #[.slice ca M.length cc] 33)) g1 (Nat.le_refl _); have OM4 := hid (OM3.out.past hb (Nat.le_refl _)); have IN4 := hid (OM3.out.inner.snoc hb hBw ⟨ca, M, cc⟩ hown); have OZ4 := hid (OZ3.out.past hb (Nat.le_refl _)); have OR4 := hid (OR3.out.past hb (Nat.le_refl _)); have LB4 := hid (LB3.out.trans (hb.mono (by omega))); have hBw4 := Nat.le_trans hBw hb.size; clear hown hb) | (refine step_push tRows _ (by rfl) _ _ (by rfl) (lb + 1) _ (qs.map Row.val) (by rfl) OM4.out.outer _ _ (by rfl) (by rfl) (by rfl) HPL.out hBw4 ?_; intro v' w5 h1 h2; have OZ5 := hid (OZ4.out.kept h2 (OZ4.out.ne OM4.out.outer (by decide))); have OR5 := hid (OR4.out.kept h2 (OR4.out.ne OM4.out.outer (by decide))); have hfr5 : w5.frozen? ⟨lb, 0, none⟩ = false := OZ5.out.free 0; have k1 : w5.cell? ⟨lb, 0, none⟩ = some (.slice pv qs.length pc) := OZ5.out.cell 0 (by simp); have LP5 := hid (grown_below h2 hBw4 (fun g hg => OM4.out.outer.ge g hg)); have OM5 := hid (rows_push (by decide) OM4.out.outer IN4.out h1 h2); clear h1 h2; obtain ⟨va, vc, hva, _⟩ := OM5.out.rd; subst hva)))
      all_goals (
        have LB5 := hid (LB4.out.trans (LP5.out.mono (Nat.le_succ lb)))
        have e1 : (qs ++ [(⟨ca, M, cc⟩ : Row)]).length = qs.length + 1 := by simp
        rw [e1] at OM5
        have OM6 := hid (OM5.out.setCell_below (p := ⟨lb, 0, none⟩) (Nat.lt_succ_self _) (.slice va (qs.length + 1) vc))
        have OZ6 := hid (show Own 29 (w5.setCell ⟨lb, 0, none⟩ (.slice va (qs.length + 1) vc)) lb (.slice (some ⟨lb, 0, none⟩) 1 1) [.slice va (qs.length + 1) vc] from OZ5.out.store 0 (by simp) (.slice va (qs.length + 1) vc))
        have OR6 := hid (OR5.out.setCell_other ⟨lb, 0, none⟩ (.slice va (qs.length + 1) vc) (.inr (by have := HSZ.out; simp [Value.ownBlock]; omega)))
        have LB6 := hid (Below.setCell LB5.out (p := ⟨lb, 0, none⟩) (Nat.le_refl _) (.slice va (qs.length + 1) vc))
        have HNS6 := hid (show nums (qs ++ [(⟨ca, M, cc⟩ : Row)]) = (A.take (k + 1)).map mems by rw [nums_push, HQS.out, ← HNS.out])
        clear e1 OM5 OZ5 LB5 LP5 OR5 OM4 IN4 OZ4 OR4 LB4 OM3 OZ3 OR3 LB3 RR3 f0 f1 f2 g1 gA hfr5 k1
        go_wp2
        go_roundw
        case rel => exact ⟨k + 1, _, _, by omega, by go_num, OM6.out, HNS6.out, OZ6.out, OR6.out, LB6.out⟩
        case measure => simp [intOf]; omega)
    · obtain rfl : k = n := by omega
      have hki : ¬ ((k : Int) < (k : Int)) := Int.lt_irrefl _
      have hqn : qs.length = k := by rw [HQL.out]; omega
      have HA2 := hid (show nums qs = A.map mems by rw [HQS.out, List.take_of_length_le (by rw [HGA.out.len]; exact Nat.le_refl _)])
      have hpos : 0 < (qs.map Row.val).length := by rw [List.length_map]; omega
      rw [hqn] at OM OZ c03
      obtain ⟨qg, qc, hqv⟩ := ownM_someC OM.out (by omega)
      rw [hqn] at hqv
      obtain ⟨rfl, _, rfl⟩ := slice_inj hqv
      have hfr := OR.out.free 0
      have c4 := OR.out.cell 0 (by simp)
      rw [List.getElem_cons_zero] at c4
      have hwl : w.heap.size + 1 < lb := by have := HSZ.out; omega
      have OMF := hid ((OM.out.setCell_below (p := ⟨w.heap.size + 1, 0, none⟩) (show w.heap.size + 1 < lb + 1 by omega) (.slice (some ⟨qg, 0, none⟩) k pc)).base (B' := w.heap.size) (by omega))
      have LBF := hid (Below.setCell (B0.out.trans (LB.out.mono (by omega))) (p := ⟨w.heap.size + 1, 0, none⟩) (show w.heap.size ≤ w.heap.size + 1 by omega) (.slice (some ⟨qg, 0, none⟩) k pc))
      have HC110 := hid (show (wr.setCell ⟨w.heap.size + 1, 0, none⟩ (.slice (some ⟨qg, 0, none⟩) k pc)).cell? ⟨w.heap.size + 1, 0, none⟩ = some (.slice (some ⟨qg, 0, none⟩) k pc) by
        have h := (OR.out.store 0 (by simp) (.slice (some ⟨qg, 0, none⟩) k pc)).cell 0 (by simp)
        simpa using h)
      clear hqv hpos hqn OM OZ LB HSA HLB HSZ
      go_wp2
      refine bodyPost_ret (ret_cell rfl _ _ _ ⟨w.heap.size + 1, 0, none⟩ (.agg #[.slice (some ⟨qg, 0, none⟩) k pc]) rfl ?_) rfl ⟨qg, pc, rfl, ⟨qs, OMF.out, HA2.out, fun r _ i _ h => h⟩, LBF.out⟩
      have c110 := HC110.out
      clear OMF LBF
      go_simp
end
section
theorem ret_cell_tmpC {fn : Func} {c d : Tmp} {t : TypeId} (h : fn.results = #[.cell c t, .tmp d]) (tmps : Array Value) (P : Program) (w : World) (ad : Addr) (v u : Value) (ha : tmps.getD c undef = .pointer (some ad)) (hu : tmps.getD d undef = u) (hl : (loadVar t ad).run P w = .ok v w) : (results fn tmps).run P w = .ok (.tuple #[v, u]) w := by
  have ha2 : tmps[c]?.getD undef = .pointer (some ad) := by rw [← Array.getD_eq_getD_getElem?]; exact ha
  have hu2 : tmps[d]?.getD undef = u := by rw [← Array.getD_eq_getD_getElem?]; exact hu
  simp [results, h, ha2, hu2, asAddr, hl]
theorem wouL_mems {m v : Nat} (hm : m < 65536) : wouL (v : Int) (mems m) = mems (dif m (2 ^ v)) := by
  have hd : dif m (2 ^ v) ≤ m := dif_le _ _
  refine sorted_ext ((mems_sorted m).filter _) (mems_sorted _) fun x => ?_
  unfold wouL
  rw [List.mem_filter, decide_eq_true_iff, mems_mem (by omega), mems_mem (by omega)]
  constructor
  · rintro ⟨⟨i, rfl, hi⟩, hne⟩
    refine ⟨i, rfl, ?_⟩
    rw [testBit_dif, hi, Nat.testBit_two_pow]
    have : v ≠ i := fun e => hne (by omega)
    simp [this]
  · rintro ⟨i, rfl, hi⟩
    rw [testBit_dif, Nat.testBit_two_pow] at hi
    simp at hi
    exact ⟨⟨i, rfl, hi.1⟩, fun e => hi.2 (by omega)⟩
/-- The graph without an edge. -/
def cutG (A : List Nat) (u v : Nat) : List Nat := (A.set u (dif (A.getD u 0) (2 ^ v))).set v (dif (A.getD v 0) (2 ^ u))
theorem cutG_bit {n : Nat} {A : List Nat} (hA : GA n A) {u v : Nat} (hu : u < n) (hv : v < n) (huv : u ≠ v) (a b : Nat) : bt (cutG A u v) a b = (bt A a b && !decide ((a = u ∧ b = v) ∨ (a = v ∧ b = u))) := by
  have hl := hA.len
  unfold bt cutG
  rw [setN_getD (by rw [List.length_set]; omega), setN_getD (by omega)]
  by_cases h1 : a = v
  · subst h1
    rw [if_pos rfl, testBit_dif, Nat.testBit_two_pow]
    congr 1
    by_cases h2 : u = b
    · subst h2; simp
    · simp [h2, Ne.symm h2]; exact .inl (fun e => huv e.symm)
  · rw [if_neg h1]
    by_cases h2 : a = u
    · subst h2
      rw [if_pos rfl, testBit_dif, Nat.testBit_two_pow]
      congr 1
      by_cases h3 : v = b
      · subst h3; simp
      · simp [h3, Ne.symm h3, h1]
    · rw [if_neg h2]; simp [h1, h2]
theorem cutG_ga {n : Nat} {A : List Nat} (hA : GA n A) {u v : Nat} (hu : u < n) (hv : v < n) (huv : u ≠ v) : GA n (cutG A u v) := by
  refine ⟨by unfold cutG; rw [List.length_set, List.length_set, hA.len], hA.pos, hA.le, fun a => ?_, fun a b => ?_⟩
  · rw [cutG_bit hA hu hv huv, hA.irr]; rfl
  · rw [cutG_bit hA hu hv huv, cutG_bit hA hu hv huv, hA.sym a b]
    congr 2
    rw [decide_eq_decide]
    constructor
    · rintro (⟨h1, h2⟩ | ⟨h1, h2⟩)
      · exact .inr ⟨h2, h1⟩
      · exact .inl ⟨h2, h1⟩
    · rintro (⟨h1, h2⟩ | ⟨h1, h2⟩)
      · exact .inr ⟨h2, h1⟩
      · exact .inl ⟨h2, h1⟩
theorem l1Edge_c (a : Option Addr) (rs : List Row) (c n : Nat) (u v : Int) (w : World) (b : Bool) (hl : rs.length = n) (h0 : 0 ≤ u) (h1 : u < n) (hb : decide (v ∈ row (nums rs) u) = b) (hr : RdM w a rs) (hn : Small rs) :
    Calls Tryd.prog 44 #[.agg #[.slice a n c], .int .i64 u, .int .i64 v] w fun e w' => e = .returned (.bool b) ∧ Below w.heap.size w w' := by
  subst hl; exact l1Edge_b a rs c u v w b h0 h1 hb hr hn
set_option maxHeartbeats 4000000 in
theorem l2Pair_t (a : Option Addr) (rs : List Row) (c n u v : Nat) (w : World) (hl : rs.length = n) (hg : GOk (nums rs)) (hu : u < n) (hv : v < n) (huv : u ≠ v) (hr : RdM w a rs) (hn : Small rs) :
    Calls Tryd.prog 63 #[.agg #[.slice a n c], .int .i64 u, .int .i64 v] w fun e w' => e = .returned (.bool true) ∧ Below w.heap.size w w' := by
  subst hl
  have RA := hid hr; clear hr
  have HG := hid (show decide (GOk (nums rs)) = true from decide_eq_true hg)
  have HU := hid (show decide (0 ≤ (u : Int) ∧ (u : Int) < rs.length) = true from decide_eq_true (by omega))
  have HV := hid (show decide (0 ≤ (v : Int) ∧ (v : Int) < rs.length) = true from decide_eq_true (by omega))
  have hne : ((u : Int) != (v : Int)) = true := by rw [bne_iff_ne]; intro e; omega
  have hn1 := hn.1
  clear huv hg
  obtain ⟨w0, hw0⟩ : ∃ w0, w0 = (w.alloc (.cells #[.slice a rs.length c] 29)) := ⟨_, rfl⟩
  have B0 := hid (show Below w.heap.size w w0 by rw [hw0]; exact ((Below.refl _ _).alloc (Nat.le_refl _) _))
  have c0 : w0.cell? ⟨w.heap.size, 0, none⟩ = some (.slice a rs.length c) := by rw [hw0]; simp [go_sem]
  replace RA := hid (RA.out.below B0.out (Nat.le_refl _))
  have HW := hid hw0; clear hw0
  go_enter Tryd.func63, Tryd.ntmps63
  go_wp2_with fail
  rw [← HW.out]
  refine (specGraphOk_b a rs c _ true HG.out RA.out hn).mono ?_
  rintro e w1 ⟨rfl, hb1⟩
  have c1 := cellB hb1 c0 (Nat.le_refl _)
  have B1 := hid (bon B0.out hb1)
  clear hb1
  go_wp2_with fail
  refine (l1There_b a rs c u _ true HU.out hn1).mono ?_
  rintro e w2 ⟨rfl, hb2⟩
  have c2 := cellB hb2 c1 (Nat.le_refl _)
  have B2 := hid (bon B1.out hb2)
  clear hb2
  go_wp2_with fail
  refine (l1There_b a rs c v _ true HV.out hn1).mono ?_
  rintro e w3 ⟨rfl, hb3⟩
  have B3 := hid (bon B2.out hb3)
  clear hb3
  go_wp2
  go_ret
  exact ⟨rfl, B3.out⟩
set_option maxRecDepth 100000 in
set_option maxHeartbeats 4000000 in
theorem cutEdge_any (B gb n cap u v : Nat) (A : List Nat) (ps : List Row) (w : World) (hA : GA n A) (hp : nums ps = A.map mems) (hl : ps.length = n) (ho : OwnM 33 2 w B (.slice (some ⟨gb, 0, none⟩) n cap) ps) (hn : Small ps) (hu : u < n) (hv : v < n) (huv : u ≠ v) (hb : bt A u v = true) :
    Calls Tryd.prog 28 #[.agg #[.slice (some ⟨gb, 0, none⟩) n cap], .int .i64 u, .int .i64 v] w fun e w' => ∃ gb' cap', e = .returned (.tuple #[.agg #[.slice (some ⟨gb', 0, none⟩) n cap'], .bool true]) ∧ OwnG (fun _ => False) w' w.heap.size gb' n cap' (cutG A u v) ∧ Below w.heap.size w w' := by
  have OM := hid ho
  have RP := hid ho.rdm
  have HP := hid hp; have HL := hid hl; have HGA := hid hA
  have HC := hid (show ∀ r ∈ ps, r.a = none → r.c = 0 from fun r hr hn => by
    obtain ⟨a', c', e1, _, _, _, h5, _⟩ := Own.rd (ho.inner.own r hr)
    obtain ⟨rfl, _, rfl⟩ := slice_inj e1
    exact h5 hn)
  have hgk : GOk (nums ps) := by rw [hp]; exact hA.gok
  have HGK := hid hgk
  have HED := hid (show decide ((v : Int) ∈ row (nums ps) (u : Int)) = true from decide_eq_true (by
    rw [hp, hA.row hu]
    have h1 := hA.in2 u
    have h2 : 2 ^ n ≤ 65536 := Nat.pow_le_pow_right (n := 2) (i := n) (j := 16) (by decide) hA.le
    rw [mems_mem (by omega)]
    exact ⟨v, rfl, hb⟩))
  have hui : (u : Int) < (n : Int) := by omega
  have hvi : (v : Int) < (n : Int) := by omega
  have hn16 := hA.le
  clear ho hp hA hgk hb hl
  obtain ⟨w0, hw0⟩ : ∃ w0, w0 = ((w.alloc (.cells #[.slice (some ⟨gb, 0, none⟩) n cap] 29)).alloc (.cells #[.slice none 0 0] 29)) := ⟨_, rfl⟩
  have B0 := hid (show Below w.heap.size w w0 by rw [hw0]; exact (((Below.refl _ _).alloc (Nat.le_refl _) _).alloc (by simp) _))
  have c0 : w0.cell? ⟨w.heap.size, 0, none⟩ = some (.slice (some ⟨gb, 0, none⟩) n cap) := by rw [hw0]; simp [go_sem]
  have c1 : w0.cell? ⟨w.heap.size + 1, 0, none⟩ = some (.slice none 0 0) := by rw [hw0]; simp [go_sem]
  replace RP := hid (RP.out.below B0.out (Nat.le_refl _))
  have HW := hid hw0; clear hw0
  have OR := hid (show Own 29 w0 (w.heap.size + 1) (.slice (some ⟨w.heap.size + 1, 0, none⟩) 1 1) [.slice none 0 0] by
    have h := own_new 29 (w.alloc (.cells #[.slice (some ⟨gb, 0, none⟩) n cap] 29)) [.slice none 0 0] (by simp [maxLen])
    rw [HW.out]
    simpa using h)
  have hsz0 : w0.heap.size = w.heap.size + 2 := by rw [HW.out]; simp
  clear c1 OM
  go_enter Tryd.func28, Tryd.ntmps28
  go_wp2_with fail
  rw [← HW.out]
  refine (l2Pair_t (some ⟨gb, 0, none⟩) ps cap n u v _ HL.out HGK.out hu hv huv RP.out hn).mono ?_
  rintro e w1 ⟨rfl, hb1⟩
  have c1 := cellB hb1 c0 (Nat.le_refl _)
  have B1 := hid (bon B0.out hb1)
  have hs01 := hb1.size
  have RP1 := hid (RP.out.below hb1 (Nat.le_refl _))
  have OR1 := hid (OR.out.past hb1 (Nat.le_refl _))
  clear hb1 c0 OR RP B0
  go_wp2_with fail
  refine (l1Edge_c (some ⟨gb, 0, none⟩) ps cap n u v _ true HL.out (by omega) (by omega) HED.out RP1.out hn).mono ?_
  rintro e w2 ⟨rfl, hb2⟩
  have c2 := cellB hb2 c1 (Nat.le_refl _)
  have B2 := hid (bon B1.out hb2)
  have hs12 := hb2.size
  have RP2 := hid (RP1.out.below hb2 (Nat.le_refl _))
  have OR2 := hid (OR1.out.past hb2 (Nat.le_refl _))
  clear hb2 c1 OR1 RP1 B1
  go_wp2_with fail
  refine (l1CopyGraph_cut n gb cap A ps _ HGA.out HP.out HL.out RP2.out HC.out).mono ?_
  rintro e w3 ⟨hbk, hcp, rfl, hog, hb3⟩
  obtain ⟨qs, hom, hnq, _⟩ := hog
  have OQ := hid hom; have HNQ := hid hnq; have HOL := hid (hom.outer.lt hbk rfl)
  have B3 := hid (bon B2.out hb3)
  have OR3 := hid (OR2.out.past hb3 (Nat.le_refl _))
  have hs23 := hb3.size
  have hs2 := B2.out.size
  clear hom hnq hb3 c2 OR2 RP2
  have hbA := alloc_below w3 (.cells #[.slice (some ⟨hbk, 0, none⟩) n hcp] 29)
  have OZ4 := hid (own_new 29 w3 [.slice (some ⟨hbk, 0, none⟩) n hcp] (by simp [maxLen]))
  have OQ4 := hid (OQ.out.past hbA (Nat.le_refl _))
  have OR4 := hid (OR3.out.past hbA (Nat.le_refl _))
  have B4 := hid (bon B3.out hbA)
  clear hbA OQ OR3
  have hql : qs.length = n := by
    have h1 := congrArg List.length HNQ.out
    rw [nums_length, List.length_map, HGA.out.len] at h1; exact h1
  have HQL := hid hql
  have hrow : ∀ i (hi : i < qs.length), qs[i].z = mems (A.getD i 0) := by
    intro i hi
    have h1 : (nums qs)[i]'(by rw [nums_length]; exact hi) = (A.map mems)[i]'(by rw [List.length_map, HGA.out.len, ← hql]; exact hi) := by simp only [HNQ.out]
    rw [List.getElem_map, ← getD_in (by rw [HGA.out.len, ← hql]; exact hi)] at h1
    simpa [nums] using h1
  have HROW := hid hrow
  clear hql hrow
  have hup : u < qs.length := by rw [HQL.out]; exact hu
  have hvp : v < qs.length := by rw [HQL.out]; exact hv
  have h2n : 2 ^ n ≤ 65536 := Nat.pow_le_pow_right (n := 2) (i := n) (j := 16) (by decide) hn16
  have hau : A.getD u 0 < 65536 := by have := HGA.out.in2 u; omega
  have hav : A.getD v 0 < 65536 := by have := HGA.out.in2 v; omega
  have HAU := hid hau; have HAV := hid hav
  have hmu := mems16 hau
  have hmv := mems16 hav
  have HUZ := hid (wouL_mems (m := A.getD u 0) (v := v) HAU.out)
  have HVZ := hid (wouL_mems (m := A.getD v 0) (v := u) HAV.out)
  have HNUM := hid (fun (r r2 : Row) (h1 : r.z = mems (dif (A.getD u 0) (2 ^ v))) (h2 : r2.z = mems (dif (A.getD v 0) (2 ^ u))) => (show nums ((qs.set u r).set v r2) = (cutG A u v).map mems by
    have e := HNQ.out
    unfold nums at e ⊢
    unfold cutG
    rw [List.map_set, List.map_set, List.map_set, List.map_set, e, h1, h2]))
  have hzl : w3.heap.size < (w3.alloc (.cells #[.slice (some ⟨hbk, 0, none⟩) n hcp] 29)).heap.size := by simp
  have hbl := OQ4.out.outer.lt hbk rfl
  have hbw := OQ4.out.outer.ge hbk rfl
  have hbn3 : hbk < w3.heap.size := HOL.out
  clear h2n hau hav
  go_wp2_with fail
  generalize w3.alloc (.cells #[.slice (some ⟨hbk, 0, none⟩) n hcp] 29) = w4 at *
  generalize hlz : w3.heap.size = lz at *
  have cz := OZ4.out.cell 0 (by simp)
  rw [List.getElem_cons_zero] at cz
  obtain ⟨b1, o1, hb1, cu, huok⟩ := OQ4.out.rdm.at u hup
  obtain ⟨rfl, rfl⟩ : hbk = b1 ∧ 0 = o1 := by simpa using hb1
  rw [Nat.zero_add] at cu
  have hru := huok.1
  rw [HROW.out u hup] at cu hru
  have HRV := hid (HROW.out v hvp)
  clear HROW HAU HAV
  generalize mems (A.getD u 0) = MU at *
  generalize mems (A.getD v 0) = MV at *
  have D4 : Drawn w4 w4.drew := ⟨1, rfl⟩
  have f0 := dcell D4 cz
  have fu := dcell D4 cu
  have RU := hid (hru.drawn D4)
  have OQ5 := hid (OQ4.out.past (D4.below w4.heap.size) (Nat.le_refl _))
  have OZ5 := hid (OZ4.out.past (D4.below w4.heap.size) (Nat.le_refl _))
  have OR5 := hid (OR4.out.past (D4.below w4.heap.size) (Nat.le_refl _))
  have B5 := hid (bon B4.out (D4.below w4.heap.size))
  have hs5 : w4.drew.heap.size = w4.heap.size := rfl
  clear hb1 huok hru cz cu OQ4 OZ4 OR4 B4 D4
  generalize qs[u].a = ra at *
  generalize qs[u].c = rc at *
  go_region_with ((first | (go_at_call 65; refine (l2Without_any ra MU rc v _ RU.out (by omega)).mono ?_; rintro e w6 ⟨cv, rfl, hown, hb⟩; obtain ⟨ca, cc, rfl, _⟩ := Own.rd hown; have g0 := cellB hb f0 (Nat.le_refl _); have gu := cellB hb fu (Nat.le_refl _); have HB6 := hid hb; have ON := hid hown; have hfr := (OQ5.out.past hb (Nat.le_refl _)).outer.free u; clear hown hb)))
  all_goals (
    have OQ7 := hid (show OwnM 33 2 (w6.setCell ⟨hbk, u, none⟩ (.slice ca (wouL (v : Int) MU).length cc)) w2.heap.size (.slice (some ⟨hbk, 0, none⟩) n hcp) (qs.set u ⟨ca, wouL (v : Int) MU, cc⟩) from OQ5.out.put (by decide) u hup ⟨ca, wouL (v : Int) MU, cc⟩ HB6.out (show w2.heap.size ≤ w4.drew.heap.size by omega) (.inr ON.out))
    have OZ7 := hid ((OZ5.out.past HB6.out (Nat.le_refl _)).setCell_other ⟨hbk, u, none⟩ (.slice ca (wouL (v : Int) MU).length cc) (.inr (by simp [Value.ownBlock]; omega)))
    have OR7 := hid ((OR5.out.past HB6.out (Nat.le_refl _)).setCell_other ⟨hbk, u, none⟩ (.slice ca (wouL (v : Int) MU).length cc) (.inr (by simp [Value.ownBlock]; omega)))
    have B7 := hid (Below.setCell (bon B5.out HB6.out) (p := ⟨hbk, u, none⟩) (show w.heap.size ≤ hbk by omega) (.slice ca (wouL (v : Int) MU).length cc))
    have hs7 : w4.heap.size ≤ (w6.setCell ⟨hbk, u, none⟩ (.slice ca (wouL (v : Int) MU).length cc)).heap.size := by have := HB6.out.size; simp [World.setCell]; exact this
    clear OQ5 OZ5 OR5 B5 f0 fu g0 gu hfr ON RU HB6
    generalize w6.setCell ⟨hbk, u, none⟩ (.slice ca (wouL (v : Int) MU).length cc) = w7 at *
    have hv7 : v < (qs.set u (⟨ca, wouL (v : Int) MU, cc⟩ : Row)).length := by rw [List.length_set]; exact hvp
    have hget : (qs.set u (⟨ca, wouL (v : Int) MU, cc⟩ : Row))[v] = qs[v] := List.getElem_set_ne huv _
    obtain ⟨b2, o2, hb2, cv, hvok⟩ := OQ7.out.rdm.at v hv7
    obtain ⟨rfl, rfl⟩ : hbk = b2 ∧ 0 = o2 := by simpa using hb2
    rw [Nat.zero_add] at cv
    rw [hget] at cv hvok
    have hrv := hvok.1
    rw [HRV.out] at cv hrv
    have cz := OZ7.out.cell 0 (by simp)
    rw [List.getElem_cons_zero] at cz
    have D7 : Drawn w7 w7.drew := ⟨1, rfl⟩
    have f0 := dcell D7 cz
    have fv := dcell D7 cv
    have RV := hid (hrv.drawn D7)
    have OQ8 := hid (OQ7.out.past (D7.below w7.heap.size) (Nat.le_refl _))
    have OZ8 := hid (OZ7.out.past (D7.below w7.heap.size) (Nat.le_refl _))
    have OR8 := hid (OR7.out.past (D7.below w7.heap.size) (Nat.le_refl _))
    have B8 := hid (bon B7.out (D7.below w7.heap.size))
    have hs8 : w7.drew.heap.size = w7.heap.size := rfl
    clear hb2 hvok hrv cz cv OQ7 OZ7 OR7 B7 D7 hget
    generalize hR : (⟨ca, wouL (v : Int) MU, cc⟩ : Row) = R at *
    have HRZ := hid (show R.z = mems (dif (A.getD u 0) (2 ^ v)) by rw [← hR]; exact HUZ.out)
    clear hR
    generalize qs[v].a = rb at *
    generalize qs[v].c = rd at *
    go_wp2_with fail
    go_region_with ((first | (go_at_call 65; refine (l2Without_any rb MV rd u _ RV.out (by omega)).mono ?_; rintro e w9 ⟨cv2, rfl, hown, hb⟩; obtain ⟨da, dc, rfl, _⟩ := Own.rd hown; have g0 := cellB hb f0 (Nat.le_refl _); have gv := cellB hb fv (Nat.le_refl _); have HB9 := hid hb; have ON := hid hown; have hfr := (OQ8.out.past hb (Nat.le_refl _)).outer.free v; clear hown hb)))
    all_goals (
      have OQ10 := hid (show OwnM 33 2 (w9.setCell ⟨hbk, v, none⟩ (.slice da (wouL (u : Int) MV).length dc)) w2.heap.size (.slice (some ⟨hbk, 0, none⟩) n hcp) ((qs.set u R).set v ⟨da, wouL (u : Int) MV, dc⟩) from OQ8.out.put (by decide) v hv7 ⟨da, wouL (u : Int) MV, dc⟩ HB9.out (show w2.heap.size ≤ w7.drew.heap.size by omega) (.inr ON.out))
      have OZ10 := hid ((OZ8.out.past HB9.out (Nat.le_refl _)).setCell_other ⟨hbk, v, none⟩ (.slice da (wouL (u : Int) MV).length dc) (.inr (by simp [Value.ownBlock]; omega)))
      have OR10 := hid ((OR8.out.past HB9.out (Nat.le_refl _)).setCell_other ⟨hbk, v, none⟩ (.slice da (wouL (u : Int) MV).length dc) (.inr (by simp [Value.ownBlock]; omega)))
      have B10 := hid (Below.setCell (bon B8.out HB9.out) (p := ⟨hbk, v, none⟩) (show w.heap.size ≤ hbk by omega) (.slice da (wouL (u : Int) MV).length dc))
      have HNN := hid (HNUM.out R ⟨da, wouL (u : Int) MV, dc⟩ HRZ.out HVZ.out)
      clear OQ8 OZ8 OR8 B8 f0 fv g0 gv hfr ON RV HB9
      generalize w9.setCell ⟨hbk, v, none⟩ (.slice da (wouL (u : Int) MV).length dc) = w10 at *
      generalize ((qs.set u R).set v (⟨da, wouL (u : Int) MV, dc⟩ : Row)) = QS at *
      have cz := OZ10.out.cell 0 (by simp)
      rw [List.getElem_cons_zero] at cz
      have hfr := OR10.out.free 0
      have c4 := OR10.out.cell 0 (by simp)
      rw [List.getElem_cons_zero] at c4
      have OMF := hid ((OQ10.out.setCell_below (p := ⟨w.heap.size + 1, 0, none⟩) (show w.heap.size + 1 < w2.heap.size by omega) (.slice (some ⟨hbk, 0, none⟩) n hcp)).base (B' := w.heap.size) (by omega))
      have LBF := hid (Below.setCell B10.out (p := ⟨w.heap.size + 1, 0, none⟩) (show w.heap.size ≤ w.heap.size + 1 by omega) (.slice (some ⟨hbk, 0, none⟩) n hcp))
      have HC110 := hid (show (w10.setCell ⟨w.heap.size + 1, 0, none⟩ (.slice (some ⟨hbk, 0, none⟩) n hcp)).cell? ⟨w.heap.size + 1, 0, none⟩ = some (.slice (some ⟨hbk, 0, none⟩) n hcp) by
        have h := (OR10.out.store 0 (by simp) (.slice (some ⟨hbk, 0, none⟩) n hcp)).cell 0 (by simp)
        simpa using h)
      clear OQ10 OZ10 B10
      go_wp2
      refine bodyPost_ret (ret_cell_tmpC rfl _ _ _ ⟨w.heap.size + 1, 0, none⟩ (.agg #[.slice (some ⟨hbk, 0, none⟩) n hcp]) (.bool true) rfl rfl ?_) rfl ⟨hbk, hcp, rfl, ⟨QS, OMF.out, HNN.out, fun r _ i _ h => h⟩, LBF.out⟩
      have c110 := HC110.out
      clear OMF LBF
      go_simp))
end
end Go.Proofs.YtdncmloajajiaaaDoor
