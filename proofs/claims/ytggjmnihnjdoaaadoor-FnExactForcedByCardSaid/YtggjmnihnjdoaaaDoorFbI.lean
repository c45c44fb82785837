/- ForcedBy: the program's. -/
import Derived.Test.YtggjmnihnjdoaaaDoorFroI
import Derived.Test.YtggjmnihnjdoaaaDoorForS
namespace Go.Proofs.YtggjmnihnjdoaaaDoor
open Go.RowKit
section
noncomputable def forcedR (g : List (List Int)) (u v : Int) : List (List Int) := if EdgeP g u v then (keyL (bqE (g.map maskL) (cod u.toNat v.toNat))).map prI else []
/-- Sorted, what has come is all. -/
theorem keys_sorted {Q : List (Nat × Nat)} (h : QOk Q) {L L' : List Nat} (hn : L.Nodup) (hs : ∀ p ∈ L, p ∈ Q.map Prod.fst) (ha : ∀ p ∈ Q.map Prod.fst, p ∈ L) (hp : L'.Perm L) (ho : L'.Pairwise (· ≤ ·)) : L' = keyL Q := by
  apply sortedN_ext _ (keyL_sorted Q) (fun y => by rw [hp.mem_iff, keyL_mem h]; exact ⟨hs y, ha y⟩)
  exact (ho.and (hp.nodup_iff.2 hn)).imp (fun ⟨h1, h2⟩ => Nat.lt_of_le_of_ne h1 h2)
theorem RngA.facts {w : World} {b r : Nat} {Q : List (Nat × Nat)} {L : List Nat} (h : RngA w b r Q L) : L.Nodup ∧ ∀ p ∈ L, p ∈ Q.map Prod.fst := by
  obtain ⟨n, D, left, cnt, _, _, _, h1, h2, _⟩ := h
  exact ⟨h1, h2⟩
theorem keyL_len (Q : List (Nat × Nat)) : (keyL Q).length ≤ 256 := by
  have : (keyL Q).length ≤ (List.range 256).length := List.length_filter_le _ _
  simpa using this
theorem law_nextH {ops : Array Oper} {rest : List Oper} {o : Oper} {a : Act} {K : Exit → Act → World → Prop} (w : World) (hg : o.guard = none) (it : Operand) (hop : o.op = Op.next it false) (b r : Nat) (Q : List (Nat × Nat)) (hQ : QOk Q) (L : List Nat) (hit : a.eval it = .pointer (some ⟨r, 0, none⟩)) (h : RngA w b r Q L)
    (hDone : Hid (∀ p ∈ Q.map Prod.fst, p ∈ L) → wpList Tryd.prog ops K rest (a.put o.dst (.tuple #[.bool false])) w)
    (hMore : ∀ (p pa pb : Nat) (c : Int) (w' : World), Hid (pa = p / 16 ∧ pb = p % 16 ∧ p ∈ Q.map Prod.fst ∧ p ∉ L ∧ RngA w' b r Q (L ++ [p]) ∧ w'.rangeLeft b r < w.rangeLeft b r ∧ w.grownBy w' (some r) ∧ w'.heap.size = w.heap.size) → (Instr.entry (.pointer (some ⟨r, 0, none⟩))).run Tryd.prog w' = .ok (.tuple #[.agg #[.int .i64 (pa : Int), .int .i64 (pb : Int)], .int .i64 c]) w' → wpList Tryd.prog ops K rest (a.put o.dst (.tuple #[.bool true, .agg #[.int .i64 (pa : Int), .int .i64 (pb : Int)], .int .i64 c])) w') :
    wpList Tryd.prog ops K (o :: rest) a w :=
  law_nextA w hg it hop b r Q hQ L hit h (fun h => hDone (hid h)) (fun p c w' h1 h2 h3 h4 h5 h6 h7 => hMore p _ _ c w' (hid ⟨rfl, rfl, h1, h2, h3, h4, h5, h6⟩) h7)
theorem forcedR_small (g : List (List Int)) (u v : Int) : SmallZ (forcedR g u v) := by
  unfold forcedR
  split
  · refine ⟨by rw [List.length_map]; exact Nat.le_trans (keyL_len _) (by decide), fun r hr => ?_⟩
    obtain ⟨p, _, rfl⟩ := List.mem_map.1 hr
    simp [prI]
  · exact ⟨by decide, fun r hr => by cases hr⟩
attribute [local irreducible] frL bq addAll bqE keyL
theorem result_any (x : Nat) (u v : Nat) (w : World) (hu : u = x / 16) (hv : v = x % 16) :
    Calls Tryd.prog 80 #[.agg #[.int .i64 u, .int .i64 v]] w fun e w' => ∃ g, e = .returned (.slice (some ⟨g, 0, none⟩) 2 2) ∧ Own 2 w' w.heap.size (.slice (some ⟨g, 0, none⟩) 2 2) ((prI x).map (.int .i64)) ∧ Below w.heap.size w w' := by
  have HP := hid (show [Value.int .i64 (u : Int), .int .i64 (v : Int)] = (prI x).map (.int .i64) by unfold prI; rw [hu, hv]; rfl)
  have hb0 := alloc_below w (.cells #[.int .i64 (u : Int), .int .i64 (v : Int)] 78)
  have ON := hid (own_new 2 (w.alloc (.cells #[.int .i64 (u : Int), .int .i64 (v : Int)] 78)) [.int .i64 (u : Int), .int .i64 (v : Int)] (show (2 : Nat) ≤ maxLen by decide))
  have hb1 := hid (hb0.alloc (by simp) (.cells #[.int .i64 (u : Int), .int .i64 (v : Int)] 2))
  have hsz : (w.alloc (.cells #[.int .i64 (u : Int), .int .i64 (v : Int)] 78)).heap.size = w.heap.size + 1 := by simp
  clear hu hv
  rw [hsz] at ON
  have ON2 := hid (show Own 2 ((w.alloc (.cells #[.int .i64 (u : Int), .int .i64 (v : Int)] 78)).alloc (.cells #[.int .i64 (u : Int), .int .i64 (v : Int)] 2)) w.heap.size (.slice (some ⟨w.heap.size + 1, 0, none⟩) 2 2) ((prI x).map (.int .i64)) by rw [← HP.out]; exact ON.out.base (Nat.le_succ _))
  clear hsz hb0 ON
  go_enter Tryd.func80, Tryd.ntmps80
  go_wp2
  go_ret
  exact ⟨_, rfl, ON2.out, hb1.out⟩
set_option maxRecDepth 100000 in
set_option maxHeartbeats 8000000 in
theorem implForcedBy_any (a : Option Addr) (rs : List Row) (c : Nat) (u v : Int) (w : World) (hr : RdM w a rs) (hn : Small rs) (_hu : I64 u) (_hv : I64 v) (hT : TabOk w) :
    Calls Tryd.prog 23 #[.agg #[.slice a rs.length c], .int .i64 u, .int .i64 v] w (RetOwnM 41 2 (forcedR (nums rs) u v) w) := by
  have RA := hid hr; have RT := hid hT; clear hr hT _hu _hv
  obtain ⟨w0, hw0⟩ : ∃ w0, w0 = (w.alloc (.cells #[.slice a rs.length c] 28)) := ⟨_, rfl⟩
  have B0 := hid (show Below w.heap.size w w0 by rw [hw0]; exact ((Below.refl _ _).alloc (Nat.le_refl _) _))
  have c0 : w0.cell? ⟨w.heap.size, 0, none⟩ = some (.slice a rs.length c) := by rw [hw0]; simp [go_sem]
  replace RA := hid (RA.out.below B0.out (Nat.le_refl _))
  replace RT := hid (RT.out.below B0.out (Nat.le_refl _))
  have HW := hid hw0; clear hw0
  by_cases he : EdgeP (nums rs) u v
  · have H1 := hid (show decide (EdgeP (nums rs) u v) = true by simpa using he)
    have HR := hid (show forcedR (nums rs) u v = (keyL (bqE ((nums rs).map maskL) (cod u.toNat v.toNat))).map prI by unfold forcedR; rw [if_pos he])
    have HG := hid he.1.1
    obtain ⟨⟨hg, hu0, hu1⟩, hv⟩ := he
    have hv2 := row_mem hg hu0 hu1 hv
    have hg16 := hg.le
    rw [nums_length] at hu1 hg16 hv2
    obtain ⟨p, rfl⟩ := Int.eq_ofNat_of_zero_le hu0
    obtain ⟨q, rfl⟩ := Int.eq_ofNat_of_zero_le hv2.1
    have hpn : p < rs.length := by omega
    have hqn : q < rs.length := by omega
    have HGA := hid (show GA rs.length ((nums rs).map maskL) by have := GA.of hg; rwa [nums_length] at this)
    have hx256 : cod p q < 256 := by unfold cod; omega
    have HQ := hid (show QOk (bqE ((nums rs).map maskL) (cod p q)) from by unfold bqE; exact bq_ok hx256 256)
    simp only [Int.toNat_natCast] at HR
    clear hg hu0 hu1 hv hv2 hx256
    obtain ⟨x, hx⟩ : ∃ x, x = cod p q := ⟨_, rfl⟩
    rw [← hx] at HQ HR
    have HX := hid hx
    clear hx
    go_enter Tryd.func23, Tryd.ntmps23
    go_wp2_with fail
    rw [← HW.out]
    go_wp2_with fail
    refine (implEdgeIn_c a rs c _ _ _ true H1.out RA.out hn).mono ?_
    rintro e w1 ⟨rfl, hb⟩
    replace RA := hid (RA.out.below hb (Nat.le_refl _))
    replace RT := hid (RT.out.below hb (Nat.le_refl _))
    replace B0 := hid (bon B0.out hb)
    replace c0 := cellB hb c0 (Nat.le_refl _)
    clear hb
    obtain ⟨wn, rfl⟩ : ∃ wn, wn = w1 := ⟨_, rfl⟩
    have OV0 := hid (OwnA.new wn)
    have hbv := alloc_below wn (.cells #[] 78)
    have BV0 := hid hbv
    have c0w := cellB hbv c0 (Nat.le_refl _)
    go_wp2_with fail
    obtain ⟨wv, hwv⟩ : ∃ wv, wv = wn.alloc (.cells #[] 78) := ⟨_, rfl⟩
    rw [← hwv] at OV0 BV0 hbv ⊢
    clear c0w
    have c0v := cellB hbv c0 (Nat.le_refl _)
    have RAv := hid (RA.out.below hbv (Nat.le_refl _)); have RTv := hid (RT.out.below hbv (Nat.le_refl _))
    clear hwv hbv
    refine (netsOf_any a rs c _ HG.out RAv.out hn).mono ?_
    rintro e w2 ⟨nv, rfl, hown, hb⟩
    obtain ⟨na, nc, rfl, hsr, _, _, _, _⟩ := Own.rd (f := netF) hown
    have RN := hid hsr.masks
    rw [nums_length]
    have OV2 := hid (OV0.out.past hb (Nat.le_refl _)); have BV2 := hid (bon BV0.out hb); have RT2 := hid (RTv.out.below hb (Nat.le_refl _))
    clear hown hsr hb c0v
    go_wp2_with fail
    refine (forcedFrom_any na _ rs.length nc p q x _ HX.out.symm HGA.out RN.out hpn hqn RT2.out).mono ?_
    rintro e w3 ⟨bm, rfl, hbm, hmp, hb⟩
    have OV3 := hid (OV2.out.past hb (Nat.le_refl _)); have BV3 := hid (bon BV2.out hb)
    have MP3 := hid hmp
    have hsz3 := BV3.out.size
    clear hb hmp
    generalize bqE ((nums rs).map maskL) x = Q at *
    go_wp2_with (at_range; refine law_rangeA w3 rfl _ rfl bm Q HQ.out rfl MP3.out ?_; intro w4 hrg hg4 hs4)
    go_frame
    have RG4 := hid hrg
    have hb4 : Below w3.heap.size w3 w4 := grown_below hg4 (Nat.le_refl _) (fun k hk => by cases hk)
    have OV4 := hid (OV3.out.past hb4 (Nat.le_refl _)); have BV4 := hid (bon BV3.out hb4)
    have HBM := hid (show bm < w3.heap.size from MP3.out.lt)
    clear hrg hg4 hs4 hb4
    go_loopw [7] (fun l wr => ∃ L : List Nat, RngA wr bm w3.heap.size Q L ∧ OwnA wr wn.heap.size l L ∧ (∃ g, l.ownBlock = some g) ∧ l.ownBlock ≠ some w3.heap.size ∧ Below wn.heap.size wn wr) (fun _ wr => wr.rangeLeft bm w3.heap.size)
    case atStart => exact ⟨[], RG4.out, OV4.out, ⟨_, rfl⟩, (fun e => by
      have h1 := OV3.out.lt wn.heap.size rfl
      have h2 : some wn.heap.size = some w3.heap.size := e
      injection h2 with h2
      omega), BV4.out⟩
    case round =>
      clear RG4 OV4 BV4
      obtain ⟨L, hrg, ho, hog, hns, hb⟩ := hrel
      have RG := hid hrg; have OO := hid ho; have OG := hid hog; have NS := hid hns; have BL := hid hb
      clear hrg ho hog hns
      go_wp2_with (at_next; refine law_nextH _ rfl _ rfl bm w3.heap.size Q HQ.out L rfl RG.out ?_ ?_)
      · intro HA0
        obtain ⟨f1, f2⟩ := RG.out.facts
        have HALL := hid (fun L' hp ho => keys_sorted HQ.out f1 f2 (fun p hp => by obtain ⟨pp, hpp, rfl⟩ := List.mem_map.1 hp; exact HA0.out pp.1 pp.2 hpp) (L' := L') hp ho)
        have HL256 := hid (show ∀ y ∈ L, y < 256 from fun y hy => by
          obtain ⟨pp, hpp, rfl⟩ := List.mem_map.1 (f2 y hy)
          exact HQ.out.2 pp hpp)
        have HLN := hid (show L.length < 1000000 from by
          have h1 : L.length ≤ (Q.map Prod.fst).length := f1.length_le_of_subset f2
          have h2 := HQ.out.len
          rw [List.length_map] at h1
          omega)
        clear f1 f2
        obtain ⟨gs, gcap, rfl⟩ := ownA_slice OO.out OG.out
        have hszr := BL.out.size
        go_wp2_with (go_at_call 78; refine (sortA_any wn.heap.size L HL256.out HLN.out gs gcap _ OO.out).mono ?_; rintro e w9 ⟨rfl, L', h1, h2, h3, h4⟩; have hE := HALL.out L' h1 h2; have hLL := h1.length_eq; subst hE; have O9 := hid h3; have HLL := hid hLL; have B9 := hid (BL.out.trans (grown_below h4 hszr (fun g hg => by cases hg; exact OO.out.ge gs rfl))); have OM9 := hid (show OwnM 41 2 (w9.alloc (.cells #[] 41)) w9.heap.size (.slice (some ⟨w9.heap.size, 0, none⟩) 0 0) [] from ⟨own_new 41 w9 [] (by decide), Inner.nil _ _ _⟩); have BM9 := hid (alloc_below w9 (.cells #[] 41)); clear h1 h2 h3 h4 hLL)
        generalize w9.alloc (.cells #[] 41) = wz at *
        go_loopw [9, 38] (fun o ix wr => ∃ (k : Nat) (rs2 : List Row), ix = .int .i64 k ∧ k ≤ L.length ∧ OwnM 41 2 wr w9.heap.size o rs2 ∧ nums rs2 = ((keyL Q).take k).map prI ∧ Below w9.heap.size w9 wr) (fun _ ix _ => L.length - (intOf ix).toNat)
        case atStart => exact ⟨0, [], rfl, Nat.zero_le _, OM9.out, by rw [List.take_zero]; rfl, BM9.out⟩
        case round =>
          clear OM9 BM9 RG OO OG NS BL
          obtain ⟨k, rs2, rfl, hk, hom, hnu, hb⟩ := hrel
          have OM := hid hom; have NU := hid hnu; have BW := hid hb
          have hszw := hb.size
          have hl256 : L.length ≤ 256 := by rw [← HLL.out]; exact keyL_len Q
          clear hom hnu
          by_cases hlt : k < L.length
          · have hki : (k : Int) < (L.length : Int) := by omega
            have hkL : k < (keyL Q).length := by rw [HLL.out]; exact hlt
            have HTK := hid (List.take_succ_eq_append_getElem hkL)
            obtain ⟨z, hzz⟩ : ∃ z, z = (keyL Q)[k]'hkL := ⟨_, rfl⟩
            rw [← hzz] at HTK
            obtain ⟨za, hza⟩ : ∃ za, za = z / 16 := ⟨_, rfl⟩
            obtain ⟨zb, hzb⟩ : ∃ zb, zb = z % 16 := ⟨_, rfl⟩
            have hzc : cod za zb = z := by rw [hza, hzb]; exact cod_self z
            obtain ⟨cz0', cz1'⟩ := O9.out.two (k := k) hkL (hzc.trans hzz) (by omega)
            have cz0 := cellB hb cz0' (Nat.le_refl _)
            have cz1 := cellB hb cz1' (Nat.le_refl _)
            obtain ⟨wb, hwb⟩ : ∃ wb, wb = wr.alloc (.cells #[.int .i64 (za : Int), .int .i64 (zb : Int)] 78) := ⟨_, rfl⟩
            have hbA : Below wr.heap.size wr wb := hwb ▸ alloc_below _ _
            have OMB := hid (OM.out.past hbA (Nat.le_refl _))
            have BWB := hid (bon BW.out hbA)
            have HRES := hid (result_any z za zb wb hza hzb)
            have HWB := hid hwb
            have HK1 := hid (show k + 1 ≤ L.length from hlt)
            clear hzz hza hzb hzc cz0' cz1' hwb hbA
            go_wp2_with (first | (go_at_call 80; rw [← HWB.out]; refine HRES.out.mono ?_; rintro e w6 ⟨g6, rfl, h1, h2⟩; have RZ := hid h1; have OM6 := hid (OMB.out.past h2 (Nat.le_refl _)); have BW6 := hid (bon BWB.out h2); have HI6 := hid (OMB.out.inner.snoc h2 BWB.out.size ⟨some ⟨g6, 0, none⟩, prI z, 2⟩ h1); have HML := hid (show (rs2.map Row.val).length < 1099511627776 by (have h9 := congrArg List.length NU.out; rw [nums_length, List.length_map, List.length_take] at h9; rw [List.length_map]; omega)); have hs6 := BW6.out.size; clear h1 h2) | (at_builtin; refine law_push tRows _ rfl _ _ rfl w9.heap.size _ (rs2.map Row.val) rfl OM6.out.outer _ _ rfl rfl rfl HML.out hs6 ?_; intro v8 w8 k1 k2))
            have OM8 := hid (show OwnM 41 2 w8 w9.heap.size v8 (rs2 ++ [⟨some ⟨g6, 0, none⟩, prI z, 2⟩]) from ⟨by rw [List.map_append]; exact k1, HI6.out.kept_outer OM6.out.outer (by decide) k2⟩)
            have BW8 := hid (BW6.out.trans (grown_below k2 hs6 (fun g hg => OM6.out.outer.ge g hg)))
            have NU8 := hid (show nums (rs2 ++ [(⟨some ⟨g6, 0, none⟩, prI z, 2⟩ : Row)]) = ((keyL Q).take (k + 1)).map prI by
              rw [HTK.out, List.map_append, ← NU.out]; simp [nums])
            clear k1 k2
            go_wp2
            go_roundw
            case rel => exact ⟨k + 1, _, by go_num, HK1.out, OM8.out, NU8.out, BW8.out⟩
            case measure => have h7 := HK1.out; simp [intOf]; omega
          · obtain rfl : k = L.length := by omega
            have HFN := hid (show nums rs2 = forcedR (nums rs) p q by rw [HR.out, NU.out, ← HLL.out, List.take_length])
            have hs9 : w.heap.size ≤ w9.heap.size := (B0.out.trans (B9.out.mono B0.out.size)).size
            go_wp2
            go_ret
            exact ⟨_, rs2, rfl, HFN.out, OM.out.base hs9, (B0.out.trans (B9.out.mono B0.out.size)).trans (BW.out.mono hs9)⟩
      · intro p1 pa pb cc w5 H8 hen5
        have hp256 : p1 < 256 := by
          obtain ⟨d1, hd1⟩ := H8.out.2.2.1
          exact HQ.out.2 (p1, d1) hd1
        have HPV := hid (show Value.int .i64 (pa : Int) = .int .i64 (p1 / 16 : Nat) by rw [H8.out.1])
        have HPW := hid (show Value.int .i64 (pb : Int) = .int .i64 (p1 % 16 : Nat) by rw [H8.out.2.1])
        have RG5 := hid H8.out.2.2.2.2.1
        have HLT5 := hid H8.out.2.2.2.2.2.1
        have hg5 := H8.out.2.2.2.2.2.2.1
        have B5 := hid (BL.out.trans (grown_below hg5 BL.out.size (fun k hk => by cases hk; exact hsz3)))
        have O5 := hid (OO.out.kept hg5 (.inr NS.out))
        have HRW := hid (show w3.heap.size < w5.heap.size from RG5.out.lt)
        have HLL := hid (show L.length < 1099511627776 from by
          obtain ⟨f1, f2⟩ := RG.out.facts
          have h1 : L.length ≤ (Q.map Prod.fst).length := f1.length_le_of_subset f2
          have h2 := HQ.out.len
          rw [List.length_map] at h1
          omega)
        clear hg5
        obtain ⟨wb, hwb⟩ : ∃ wb, wb = w5.alloc (.cells #[.int .i64 (pa : Int), .int .i64 (pb : Int)] 78) := ⟨_, rfl⟩
        have hga : w5.grownBy wb none := hwb ▸ World.grownBy_alloc _ _ none
        have hba : Below w5.heap.size w5 wb := hwb ▸ alloc_below _ _
        have OB := hid (O5.out.past hba (Nat.le_refl _))
        have BB := hid (bon B5.out hba)
        have RB := hid (RG5.out.kept hga (by simp) (by simp))
        have HLK := hid (RG5.out.left_kept hga (by simp) (by simp))
        have hsb := BB.out.size
        have hsb5 := hba.size
        have HWB := hid hwb
        have HSB := hid (show w5.heap.size + 1 = wb.heap.size by rw [hwb]; simp)
        clear hwb hga hba
        go_wp2_with (at_builtin; rw [← HWB.out]; refine law_pushA_w tArrows _ rfl _ _ rfl wn.heap.size _ _ rfl OB.out p1 _ rfl HSB.out _ _ HPV.out HPW.out HLL.out hsb ?_; intro v8 w8 k1 k2 k3)
        have hnb : some bm ≠ _ := RB.out.owns.neOwn OB.out
        have hnr := NS.out
        have RG8 := hid (RB.out.kept k2 hnb (fun e => hnr e.symm))
        have HL8 := hid (RB.out.left_kept k2 hnb (fun e => hnr e.symm))
        have O8 := hid k1
        have B8 := hid (BB.out.trans (grown_below k2 hsb (fun g hg => OB.out.ge g hg)))
        have N8 := hid (show v8.ownBlock ≠ some w3.heap.size from fun e => by
          rcases k3 with k4 | k4
          · exact hnr (k4.symm.trans e)
          · rw [k4] at e
            injection e with e
            have := HRW.out
            omega)
        clear k1 k2 k3 hnb hnr
        go_wp2
        go_roundw
        case rel => exact ⟨L ++ [p1], RG8.out, O8.out, ownA_some O8.out (by simp), N8.out, B8.out⟩
        case measure => rw [HL8.out, HLK.out]; exact HLT5.out
  · have H1 := hid (show decide (EdgeP (nums rs) u v) = false by simpa using he)
    have HR := hid (show forcedR (nums rs) u v = [] by unfold forcedR; rw [if_neg he])
    clear he
    go_enter Tryd.func23, Tryd.ntmps23
    go_wp2_with fail
    rw [← HW.out]
    go_wp2_with fail
    refine (implEdgeIn_c a rs c _ _ _ false H1.out RA.out hn).mono ?_
    rintro e w2 ⟨rfl, hb⟩
    replace RA := hid (RA.out.below hb (Nat.le_refl _))
    replace RT := hid (RT.out.below hb (Nat.le_refl _))
    replace B0 := hid (bon B0.out hb)
    replace c0 := cellB hb c0 (Nat.le_refl _)
    clear hb
    go_wp2
    go_ret
    exact ⟨_, [], rfl, HR.out.symm, ownM_nil _ _ _ _, B0.out⟩
end
end Go.Proofs.YtggjmnihnjdoaaaDoor
