/- The longest list that begins with a vertex: the reference's. -/
import Derived.Test.YtahibjikcijnfaaDoorLongM
import Derived.Test.YtahibjikcijnfaaDoorTransI
import Derived.Test.YtahibjikcijnfaaDoorQuiet
import Derived.Test.YtahibjikcijnfaaDoorMem3
import Derived.Test.YtahibjikcijnfaaDoorBag
namespace Go.Proofs.YtahibjikcijnfaaDoor
open Go.RowKit
def li (l : List Nat) : List Int := l.map fun i : Nat => (i : Int)
theorem li_length (l : List Nat) : (li l).length = l.length := List.length_map _
set_option maxRecDepth 100000 in
set_option maxHeartbeats 4000000 in
theorem l13Long_any {n : Nat} {F : List Nat} (hD : Dag n F) (a : Option Addr) (qs : List Row) (c : Nat) (hql : qs.length = n) (hQ : ∀ v (hv : v < qs.length), qs[v].z = mems (F.getD v 0)) :
    ∀ (k v : Nat) (w : World), rkN F v < k → v < n → RdM w a qs → Calls Tryd.prog 85 #[.slice a n c, .int .i64 v] w (RetOwn 2 ((li (longN F v)).map (.int .i64)) w) := by
  intro k
  induction k with
  | zero => intro v w h; omega
  | succ k ih =>
    intro v w hk hv hr
    have RA := hid hr
    have IH := hid ih
    have HD := hid hD; have HQ := hid hQ
    have hvl : v < qs.length := by omega
    have h16 := hD.le
    have hz := hQ v hvl
    have hzl : qs[v].z.length = (memsN (F.getD v 0)).length := by rw [hz, mems_lenN]
    have hm32 := memsN_len (F.getD v 0)
    have HALL := hid (bestK_all hD v)
    have h17 := bestK_17 hD v
    have hvi : (v : Int) < (n : Int) := by omega
    clear hr hQ ih hD
    have HO := hid (show Own 2 (w.alloc (.cells #[] 2)) w.heap.size (.slice (some ⟨w.heap.size, 0, none⟩) 0 0) ((li (bestK F v 0)).map (.int .i64)) from own_new 2 w [] (by decide))
    have HE := hid (alloc_below w (.cells #[] 2))
    have RA0 := hid (RA.out.below HE.out (Nat.le_refl _))
    go_enter Tryd.func85, Tryd.ntmps85
    go_wp2_with fail
    generalize w.alloc (.cells #[] 2) = w0 at *
    go_loopw [5, 6, 7] (fun b i _ wr => ∃ (j : Nat) (g cap : Nat), j ≤ (memsN (F.getD v 0)).length ∧ i = .int .i64 j ∧ b = .slice (some ⟨g, 0, none⟩) (bestK F v j).length cap ∧ Own 2 wr w.heap.size (.slice (some ⟨g, 0, none⟩) (bestK F v j).length cap) ((li (bestK F v j)).map (.int .i64)) ∧ Below w.heap.size w wr) (fun _ i _ _ => (memsN (F.getD v 0)).length - (intOf i).toNat)
    case atStart => exact ⟨0, _, _, Nat.zero_le _, rfl, rfl, HO.out, HE.out⟩
    case round =>
      clear RA0 HO HE
      obtain ⟨j, g, cap, hj, rfl, rfl, ho, hb⟩ := hrel
      have OB := hid ho; have BL := hid hb
      have RA1 := hid (RA.out.below hb (Nat.le_refl _))
      clear ho hb
      obtain ⟨ab, ao, rfl, ck, hok⟩ := RA1.out.at v hvl
      rw [hzl] at ck
      have h17j := h17 j
      by_cases hlt : j < (memsN (F.getD v 0)).length
      · have hji : (j : Int) < ((memsN (F.getD v 0)).length : Int) := by omega
        obtain ⟨rb, ro, hra, cr⟩ := hok.1 j (by rw [hzl]; exact hlt)
        have hjz : j < (mems (F.getD v 0)).length := by rw [mems_lenN]; exact hlt
        have hget : qs[v].z[j]'(by rw [hzl]; exact hlt) = ((memsN (F.getD v 0))[j] : Nat) := by
          have h1 : qs[v].z[j]'(by rw [hzl]; exact hlt) = (mems (F.getD v 0))[j] := by simp [hz]
          rw [h1, memsN_get hjz]
        rw [hget] at cr
        rw [hra] at ck
        have hmem := List.getElem_mem hlt
        have hbt : bt F v ((memsN (F.getD v 0))[j]) = true := (memsN_mem (by have := HD.out.lt32 v; omega)).1 hmem
        have hrk := HD.out.rk hbt
        have hun := memsN_under HD.out hmem
        have HSU := hid (bestK_succ F v j hlt)
        have hl17 := longN_17 HD.out ((memsN (F.getD v 0))[j])
        have HC := hid hok.2
        clear hok hget hra hbt hmem
        generalize (memsN (F.getD v 0))[j] = u at *
        generalize hmm : (memsN (F.getD v 0)).length = m at *
        have HMM := hid hmm
        clear hmm
        go_wp2_with fail
        refine (IH.out u _ (by omega) hun RA1.out).mono ?_
        rintro e w2 ⟨xv, rfl, hown, hb⟩
        have hsz := BL.out.size
        have OX := hid (hown.base (B' := w.heap.size) hsz)
        obtain ⟨xa, xc, hxv, _⟩ := Own.rd (f := Value.int .i64) hown
        rw [li_length] at hxv
        subst hxv
        replace RA1 := hid (RA1.out.below hb (Nat.le_refl _))
        replace OB := hid (OB.out.past hb (Nat.le_refl _))
        replace BL := hid (bon BL.out hb)
        clear hb
        clear hown cr ck
        generalize longN F u = x at *
        by_cases hgt : (bestK F v j).length < x.length
        · have hgi : ((bestK F v j).length : Int) < (x.length : Int) := by omega
          have HS2 := hid (show bestK F v (j + 1) = x by rw [HSU.out]; unfold lgr; rw [if_pos hgt])
          have hxp : 0 < x.length := by omega
          obtain ⟨gx, hxa⟩ : ∃ gx, xa = some ⟨gx, 0, none⟩ := by
            rcases OX.out.form with ⟨h1, h2⟩ | ⟨gx, cx, sx, h1, _⟩
            · have := congrArg List.length h2
              rw [List.length_map, li_length, List.length_nil] at this
              omega
            · injection h1 with e1; exact ⟨gx, e1⟩
          subst hxa
          clear hgt HSU
          generalize (bestK F v j).length = bl at *
          go_wp2
          go_roundw
          case rel => exact ⟨j + 1, gx, xc, by omega, by go_num, by rw [HS2.out], by rw [HS2.out]; exact OX.out, BL.out⟩
          case measure => simp [intOf]; omega
        · have hgi : ¬ ((bestK F v j).length : Int) < (x.length : Int) := by omega
          have HS2 := hid (show bestK F v (j + 1) = bestK F v j by rw [HSU.out]; unfold lgr; rw [if_neg hgt])
          clear hgt HSU
          obtain ⟨bl, hbl⟩ : ∃ bl, (bestK F v j).length = bl := ⟨_, rfl⟩
          have HBL := hid hbl
          rw [hbl] at OB hgi
          rw [hbl]
          clear hbl
          go_wp2
          go_roundw
          case rel => exact ⟨j + 1, g, cap, by omega, by go_num, by rw [HS2.out, HBL.out], by rw [HS2.out, HBL.out]; exact OB.out, BL.out⟩
          case measure => simp [intOf]; omega
      · obtain rfl : j = (memsN (F.getD v 0)).length := by omega
        have HR := hid (show (li (longN F v)).map (Value.int .i64) = [Value.int .i64 (v : Int)] ++ (li (bestK F v (memsN (F.getD v 0)).length)).map (.int .i64) by rw [← HALL.out]; rfl)
        have hbl17 := h17 (memsN (F.getD v 0)).length
        obtain ⟨ba, bc, hbv, hbr, _⟩ := Own.rd (f := Value.int .i64) OB.out
        rw [li_length] at hbv
        injection hbv with e1 _ e3
        subst e1; subst e3
        have RB := hid hbr
        clear hbr
        have hszr := BL.out.size
        generalize bestK F v (memsN (F.getD v 0)).length = bb at *
        generalize (memsN (F.getD v 0)).length = m at *
        have hb1 := alloc_below wr (.cells #[.int .i64 (v : Int)] 2)
        have HN := hid (show Own 2 (wr.alloc (.cells #[.int .i64 (v : Int)] 2)) w.heap.size (.slice (some ⟨wr.heap.size, 0, none⟩) 1 1) [.int .i64 (v : Int)] from (own_new 2 wr [.int .i64 (v : Int)] (by simp [maxLen])).base hszr)
        have RB1 := hid (RB.out.below hb1 (Nat.le_refl _))
        have BL1 := hid (BL.out.trans (hb1.mono hszr))
        have hsz1 := BL1.out.size
        clear hb1 RB OB BL
        go_wp2_with (at_builtin; refine law_append tI64 _ rfl _ _ rfl (Value.int .i64) w.heap.size _ [.int .i64 (v : Int)] rfl HN.out (some ⟨g, 0, none⟩) cap (li bb) (by rw [li_length]; rfl) RB1.out (fun h => by cases h) ?c0 ?c1 hsz1 ?_)
        case c0 => intro y _; rfl
        case c1 =>
          rw [li_length]
          show 1 + _ ≤ _
          omega
        intro v' w6 h1 h2
        have OF := hid (show Own 2 w6 w.heap.size v' ((li (longN F v)).map (.int .i64)) by rw [HR.out]; exact h1)
        have BL6 := hid (BL1.out.trans (grown_below h2 hsz1 (fun g hg => HN.out.ge g hg)))
        clear h1 h2
        go_wp2
        go_ret
        exact ⟨_, rfl, OF.out, BL6.out⟩
section
theorem rows_dag {n : Nat} {up : List (List Int)} (hi : ∀ l ∈ up, Inc n l) (hn : n ≤ 16) (v : Nat) (hv : v < up.length) : up[v] = mems ((up.map maskL).getD v 0) := by
  rw [getD_in (by rw [List.length_map]; exact hv), List.getElem_map, mems_maskL (n := (n : Int)) (hi _ (List.getElem_mem hv)) (by omega)]
theorem bestV2_17 {n : Nat} {F : List Nat} (h : Dag n F) (k : Nat) : (bestV2 F k).length ≤ 17 := by
  unfold bestV2
  rcases bestOf_mem ((List.range k).map (longN F)) with h1 | h1
  · rw [h1]; simp
  · obtain ⟨u, _, h2⟩ := List.mem_map.1 h1
    rw [← h2]; exact longN_17 h u
set_option maxRecDepth 100000 in
set_option maxHeartbeats 4000000 in
theorem specLongestUp_any (a : Option Addr) (rs : List Row) (c : Nat) (a' : Option Addr) (qs : List Row) (c' : Nat) (w : World) (r : List Int) (hx : longestL (nums rs) (nums qs) = r) (hr : RdM w a rs) (hn : Small rs) (hq : RdM w a' qs) (hm : Small qs) :
    Calls Tryd.prog 29 #[.agg #[.slice a rs.length c], .slice a' qs.length c'] w (RetOwn 2 (r.map (.int .i64)) w) := by
  have RA := hid hr; have RQ := hid hq; have HX := hid hx; clear hr hq hx
  obtain ⟨w0, hw0⟩ : ∃ w0, w0 = (w.alloc (.cells #[.slice a rs.length c] 28)) := ⟨_, rfl⟩
  have B0 := hid (show Below w.heap.size w w0 by rw [hw0]; exact ((Below.refl _ _).alloc (Nat.le_refl _) _))
  have c0 : w0.cell? ⟨w.heap.size, 0, none⟩ = some (.slice a rs.length c) := by rw [hw0]; simp [go_sem]
  replace RA := hid (RA.out.below B0.out (Nat.le_refl _))
  replace RQ := hid (RQ.out.below B0.out (Nat.le_refl _))
  have HW := hid hw0; clear hw0
  have HSZW := hid (show w0.heap.size = w.heap.size + 1 by rw [HW.out]; simp)
  have HO := hid (show Own 2 (w0.alloc (.cells #[] 2)) w0.heap.size (.slice (some ⟨w0.heap.size, 0, none⟩) 0 0) ((li []).map (.int .i64)) from own_new 2 w0 [] (by decide))
  by_cases ht : TransP (nums rs) (nums qs)
  · have h2 := hid (show decide (TransP (nums rs) (nums qs)) = true by simpa using ht)
    have hdag := dag_of ht
    have hi := up_iff.1 ht.1
    have hql : qs.length = rs.length := by have := hi.len; rwa [nums_length, nums_length] at this
    have h16 : rs.length ≤ 16 := by have := hi.ok.le; rwa [nums_length] at this
    rw [nums_length, ← hql] at hdag
    have HD := hid hdag
    have HD16 := hid hdag.rk16
    have hq16 : qs.length ≤ 16 := by omega
    have HQ := hid (show ∀ v (hv : v < qs.length), qs[v].z = mems (((nums qs).map maskL).getD v 0) by
      intro v hv
      have h1 := rows_dag hi.inc hi.ok.le v (by rw [nums_length]; exact hv)
      rw [← h1]; simp [nums])
    have HFIN := hid (show li (bestV2 ((nums qs).map maskL) qs.length) = r by rw [← HX.out]; unfold longestL; rw [if_pos ht, nums_length, hql]; rfl)
    clear ht hdag hi HX hql
    generalize (nums qs).map maskL = F at *
    go_enter Tryd.func29, Tryd.ntmps29
    go_wp2_with fail
    rw [← HW.out]
    have hb := alloc_below w0 (.cells #[] 2)
    replace RA := hid (RA.out.below hb (Nat.le_refl _))
    replace RQ := hid (RQ.out.below hb (Nat.le_refl _))
    replace B0 := hid (bon B0.out hb)
    replace c0 := cellB hb c0 (Nat.le_refl _)
    clear hb
    have hx0 : w.heap.size + 1 = w0.heap.size := HSZW.out.symm
    rw [hx0]
    have hle0 : w.heap.size ≤ w0.heap.size := by omega
    clear hx0
    generalize w0.alloc (.cells #[] 2) = w1 at *
    refine (specTransitiveIn_b a rs c a' qs c' _ true h2.out RA.out hn RQ.out hm).mono ?_
    rintro e w2 ⟨rfl, hb⟩
    have OB := hid (HO.out.past hb (Nat.le_refl _))
    replace RQ := hid (RQ.out.below hb (Nat.le_refl _))
    replace B0 := hid (bon B0.out hb)
    clear hb
    clear HO RA c0
    have RQ0 := hid RQ.out; have B00 := hid B0.out
    have hs0 := OB.out.lt w0.heap.size rfl
    go_wp2
    go_loopw [5, 6, 7] (fun b x _ wr => ∃ (k g cap : Nat), k ≤ qs.length ∧ x = .int .i64 k ∧ b = .slice (some ⟨g, 0, none⟩) (bestV2 F k).length cap ∧ Own 2 wr w0.heap.size (.slice (some ⟨g, 0, none⟩) (bestV2 F k).length cap) ((li (bestV2 F k)).map (.int .i64)) ∧ Below w2.heap.size w2 wr) (fun _ x _ _ => qs.length - (intOf x).toNat)
    case atStart =>
      have h0 : bestV2 F 0 = [] := rfl
      exact ⟨0, w0.heap.size, 0, Nat.zero_le _, rfl, by rw [h0]; rfl, by rw [h0]; exact OB.out, Below.refl _ _⟩
    case round =>
      clear OB RQ B0
      obtain ⟨k, g, cap, hk, rfl, rfl, ho, hd⟩ := hrel
      have OB := hid ho; have BL := hid hd
      have RQ := hid (RQ0.out.below hd (Nat.le_refl _)); have B0 := hid (bon B00.out hd)
      have h17 := bestV2_17 HD.out k
      clear ho hd
      by_cases hlt : k < qs.length
      · have hki : (k : Int) < (qs.length : Int) := by omega
        have hrk := HD16.out k
        have hl17 := longN_17 HD.out k
        have HSU := hid (bestV2_succ F k)
        go_wp2_with fail
        refine (l13Long_any HD.out a' qs c' rfl HQ.out 17 k _ (by omega) hlt RQ.out).mono ?_
        rintro e w3 ⟨xv, rfl, hown, hb⟩
        have hsz := BL.out.size
        have OX := hid (hown.base (B' := w0.heap.size) (by omega))
        obtain ⟨xa, xc, hxv, _⟩ := Own.rd (f := Value.int .i64) hown
        rw [li_length] at hxv
        subst hxv
        replace RQ := hid (RQ.out.below hb (Nat.le_refl _))
        replace OB := hid (OB.out.past hb (Nat.le_refl _))
        replace BL := hid (bon BL.out hb)
        replace B0 := hid (bon B0.out hb)
        clear hb
        clear hown
        generalize longN F k = x at *
        by_cases hgt : (bestV2 F k).length < x.length
        · have hgi : ((bestV2 F k).length : Int) < (x.length : Int) := by omega
          have HS2 := hid (show bestV2 F (k + 1) = x by rw [HSU.out]; unfold lgr; rw [if_pos hgt])
          have hxp : 0 < x.length := by omega
          obtain ⟨gx, hxa⟩ : ∃ gx, xa = some ⟨gx, 0, none⟩ := by
            rcases OX.out.form with ⟨h1, h2⟩ | ⟨gx, cx, sx, h1, _⟩
            · have := congrArg List.length h2
              rw [List.length_map, li_length, List.length_nil] at this
              omega
            · injection h1 with e1; exact ⟨gx, e1⟩
          subst hxa
          clear hgt HSU
          generalize (bestV2 F k).length = bl at *
          go_wp2
          go_roundw
          case rel => exact ⟨k + 1, gx, xc, by omega, by go_num, by rw [HS2.out], by rw [HS2.out]; exact OX.out, BL.out⟩
          case measure => simp [intOf]; omega
        · have hgi : ¬ ((bestV2 F k).length : Int) < (x.length : Int) := by omega
          have HS2 := hid (show bestV2 F (k + 1) = bestV2 F k by rw [HSU.out]; unfold lgr; rw [if_neg hgt])
          clear hgt HSU
          obtain ⟨bl, hbl⟩ : ∃ bl, (bestV2 F k).length = bl := ⟨_, rfl⟩
          have HBL := hid hbl
          rw [hbl] at OB hgi
          rw [hbl]
          clear hbl
          go_wp2
          go_roundw
          case rel => exact ⟨k + 1, g, cap, by omega, by go_num, by rw [HS2.out, HBL.out], by rw [HS2.out, HBL.out]; exact OB.out, BL.out⟩
          case measure => simp [intOf]; omega
      · obtain rfl : k = qs.length := by omega
        have OF := hid (show Own 2 wr w.heap.size (.slice (some ⟨g, 0, none⟩) (bestV2 F qs.length).length cap) (r.map (.int .i64)) by rw [← HFIN.out]; exact OB.out.base (by omega))
        clear OB
        go_wp2
        go_ret
        exact ⟨_, rfl, OF.out, B0.out⟩
  · have h2 := hid (show decide (TransP (nums rs) (nums qs)) = false by simpa using ht)
    have HFIN := hid (show [] = r by rw [← HX.out]; unfold longestL; rw [if_neg ht])
    clear ht HX
    go_enter Tryd.func29, Tryd.ntmps29
    go_wp2_with fail
    rw [← HW.out]
    have hb := alloc_below w0 (.cells #[] 2)
    replace RA := hid (RA.out.below hb (Nat.le_refl _))
    replace RQ := hid (RQ.out.below hb (Nat.le_refl _))
    replace B0 := hid (bon B0.out hb)
    replace c0 := cellB hb c0 (Nat.le_refl _)
    clear hb
    have hx0 : w.heap.size + 1 = w0.heap.size := HSZW.out.symm
    rw [hx0]
    have hle0 : w.heap.size ≤ w0.heap.size := by omega
    clear hx0
    generalize w0.alloc (.cells #[] 2) = w1 at *
    refine (specTransitiveIn_b a rs c a' qs c' _ false h2.out RA.out hn RQ.out hm).mono ?_
    rintro e w2 ⟨rfl, hb⟩
    have OF := hid (show Own 2 w2 w.heap.size (.slice (some ⟨w0.heap.size, 0, none⟩) 0 0) (r.map (.int .i64)) by rw [← HFIN.out]; exact (HO.out.past hb (Nat.le_refl _)).base (by omega))
    replace B0 := hid (bon B0.out hb)
    clear hb
    clear HO RA c0
    go_wp2
    go_ret
    exact ⟨_, rfl, OF.out, B0.out⟩
end
end Go.Proofs.YtahibjikcijnfaaDoor
