/- The tree width by the reference: the recursion. -/
import Derived.Test.YtdncmloajajiaaaDoorTwC
import Derived.Test.YtdncmloajajiaaaDoorBag
namespace Go.Proofs.YtdncmloajajiaaaDoor
open Go.RowKit
section
def bstI (g : Nat → Nat) (l : List Nat) : Int := if l = [] then -1 else (((l.map g).foldl min 16 : Nat) : Int)
theorem bstI_nil (g : Nat → Nat) : bstI g [] = -1 := rfl
theorem bstI_ge (g : Nat → Nat) (l : List Nat) : -1 ≤ bstI g l := by unfold bstI; split <;> omega
theorem bstI_snoc (g : Nat → Nat) (l : List Nat) (w : Nat) (hg : g w ≤ 16) : bstI g (l ++ [w]) = if bstI g l < 0 ∨ (g w : Int) < bstI g l then (g w : Int) else bstI g l := by
  have h1 : l ++ [w] ≠ [] := by simp
  unfold bstI
  rw [if_neg h1, List.map_append, List.foldl_append]
  by_cases hl : l = []
  · subst hl
    simp
    omega
  · rw [if_neg hl]
    generalize (l.map g).foldl min 16 = m
    simp only [List.map_cons, List.map_nil, List.foldl_cons, List.foldl_nil]
    rw [Nat.min_def]
    split <;> split <;> omega
structure MemoOk (A : List Nat) (n P : Nat) (K : List Int) : Prop where
  len : K.length = P
  ok : ∀ T, (h : T < K.length) → K[T] = -1 ∨ K[T] = (twV (bhN A) (2 ^ n - 1) T : Nat)
theorem MemoOk.start (A : List Nat) (n P : Nat) : MemoOk A n P (List.replicate P (-1)) := ⟨by simp, fun T h => .inl (by simp)⟩
theorem MemoOk.set {A : List Nat} {n P T : Nat} {K : List Int} {r : Int} (h : MemoOk A n P K) (hr : r = (twV (bhN A) (2 ^ n - 1) T : Nat)) : MemoOk A n P (K.set T r) := by
  refine ⟨by rw [List.length_set]; exact h.len, fun U hU => ?_⟩
  rw [List.getElem_set]
  by_cases e : T = U
  · subst e; rw [if_pos rfl]; exact .inr hr
  · rw [if_neg e]
    exact h.ok U (by simpa using hU)
theorem bst_final {A : List Nat} {n S : Nat} (hn : n ≤ 16) : max (bstI (fun w => max (bhN A S w) (twV (bhN A) (2 ^ n - 1) (S ||| 2 ^ w))) (leftN (dif (2 ^ n - 1) S) n)) 0 = (twV (bhN A) (2 ^ n - 1) S : Nat) := by
  by_cases h0 : dif (2 ^ n - 1) S = 0
  · have e : leftN (dif (2 ^ n - 1) S) n = [] := by
      rw [h0]; unfold leftN
      rw [List.filter_eq_nil_iff]
      intro x _; simp
    rw [e, bstI_nil, twV_full _ h0]; rfl
  · have hd := dif_le (2 ^ n - 1) S
    have hp := Nat.two_pow_pos n
    have hm := memsN_left (S := dif (2 ^ n - 1) S) (n := n) (by omega) (by omega)
    have hne : leftN (dif (2 ^ n - 1) S) n ≠ [] := by
      rw [← hm]
      intro e
      exact h0 ((memsN_nil (by have := f16 hn; omega)).1 (by rw [e]; rfl))
    unfold bstI
    rw [if_neg hne, twV_step _ (f16 hn) h0, hm]
    generalize List.foldl min 16 _ = m
    rw [Int.max_def]; split <;> omega
theorem left_step {F S v : Nat} (hF : F.testBit v = true) : leftN (dif F S) (v + 1) = leftN (dif F S) v ++ if S.testBit v = false then [v] else [] := by
  rw [leftN_succ, testBit_dif, hF]
  cases S.testBit v <;> rfl
theorem max_cast (a b : Nat) : max (a : Int) (b : Int) = ((max a b : Nat) : Int) := by
  rw [Int.max_def, Nat.max_def]; split <;> split <;> omega
def TfPost (A : List Nat) (n P gb kb S B : Nat) (w : World) (e : Ending) (w' : World) : Prop :=
  ∃ K' : List Int, e = .returned (.int .i64 (twV (bhN A) (2 ^ n - 1) S : Nat)) ∧ MemoOk A n P K' ∧ Own 4 w' B (.slice (some ⟨gb, 0, none⟩) n n) ((gnL S n).map Value.bool) ∧ Own 2 w' B (.slice (some ⟨kb, 0, none⟩) P P) (K'.map (.int .i64)) ∧ Kept (fun k => k = gb ∨ k = kb) w w'
set_option maxRecDepth 100000 in
set_option maxHeartbeats 8000000 in
theorem l10From_any (a : Option Addr) (rs : List Row) (c : Nat) (A : List Nat) (n P : Nat) (wB : World) (gb kb : Nat) (hA : GA n A) (hq : nums rs = A.map mems) (hn : rs.length = n) (hP : 2 ^ n = P) (hr : RdM wB a rs) (hgb : wB.heap.size ≤ gb) (hkb : wB.heap.size ≤ kb) :
    ∀ (f S : Nat) (K : List Int) (w : World), (memsN (dif (2 ^ n - 1) S)).length = f → S < P → MemoOk A n P K → Own 4 w wB.heap.size (.slice (some ⟨gb, 0, none⟩) n n) ((gnL S n).map Value.bool) → Own 2 w wB.heap.size (.slice (some ⟨kb, 0, none⟩) P P) (K.map (.int .i64)) → Below wB.heap.size wB w →
      Calls Tryd.prog 89 #[.agg #[.slice a n c], .slice (some ⟨gb, 0, none⟩) n n, .slice (some ⟨kb, 0, none⟩) P P] w (TfPost A n P gb kb S wB.heap.size w) := by
  have HKB := hid (show ∀ (w0 wr : World), Below wB.heap.size wB w0 → Kept (fun k => k = gb ∨ k = kb) w0 wr → Below wB.heap.size wB wr from fun w0 wr h1 h2 => h1.trans (h2.below wB.heap.size h1.size (fun k hk hs => by omega)))
  have HGA := hid hA; have HQ := hid hq; have HN := hid hn; have HP := hid hP; have RB := hid hr
  have hn16 := hA.le
  have hP16 : P ≤ 65536 := by rw [← hP]; exact Nat.pow_le_pow_right (n := 2) (i := n) (j := 16) (by decide) hn16
  clear hA hq hn hP hr
  intro f
  induction f using Nat.strongRecOn with
  | _ f ih =>
    intro S K w hf hS hK hog hok hbw
    have IH := hid ih; have HF := hid hf; have HK := hid hK; have OG := hid hog; have OK := hid hok; have BW := hid hbw
    have hgl := hog.lt gb rfl
    have hkl := hok.lt kb rfl
    have hgk : gb ≠ kb := by
      have h := hog.ne hok (by decide)
      simpa [Value.ownBlock] using h
    have hS16 : S < 65536 := by omega
    have HSP := hid (show S < 2 ^ n by rw [HP.out]; exact hS)
    have hkl2 : K.length = P := hK.len
    have HKL := hid hkl2
    have hwB := hbw.size
    clear ih hf hog hok hbw
    obtain ⟨w0, hw0⟩ : ∃ w0, w0 = (w.alloc (.cells #[.slice a n c] 29)) := ⟨_, rfl⟩
    have B0 := hid (show Below w.heap.size w w0 by rw [hw0]; exact ((Below.refl _ _).alloc (Nat.le_refl _) _))
    have c0 : w0.cell? ⟨w.heap.size, 0, none⟩ = some (.slice a n c) := by rw [hw0]; simp [go_sem]
    have HW := hid hw0; clear hw0
    have hsz0 : w0.heap.size = w.heap.size + 1 := by rw [HW.out]; simp
    have OG0 := hid (OG.out.past B0.out (Nat.le_refl _))
    have OK0 := hid (OK.out.past B0.out (Nat.le_refl _))
    have BW0 := hid (BW.out.trans (B0.out.mono hwB))
    have RGo := hid (ownB_rd OG0.out)
    have RKo := hid (ownL_rd OK0.out)
    have cK := OK0.out.cell S (by rw [List.length_map]; omega)
    rw [List.getElem_map] at cK
    have hKS := hK.ok S (by omega)
    have hSi : (S : Int) < (P : Int) := by omega
    clear hK
    by_cases hknown : K[S]'(by omega) = -1
    · have HFIN := hid (bst_final (A := A) (S := S) hn16)
      have HG16 := hid (fun v => (show max (bhN A S v) (twV (bhN A) (2 ^ n - 1) (S ||| 2 ^ v)) ≤ 16 from Nat.max_le.2 ⟨bhN_le A S v, twV_le16 _ (f16 hn16)⟩))
      rw [hknown] at cK
      clear hknown hKS
      have hneg : ¬ ((-1 : Int) ≥ 0) := by omega
      go_enter Tryd.func89, Tryd.ntmps89
      go_wp2_with (first | (rw [← HW.out]; go_at_call 100; refine (l10Code_any _ S n n _ hn16 HSP.out RGo.out).mono ?_; rintro e w' ⟨rfl, rfl⟩))
      have K0 := hid (Kept.refl (fun k => k = gb ∨ k = kb) w0)
      go_loopw [8, 9, 10] (fun b x _ wr => ∃ (v : Nat) (K2 : List Int), v ≤ n ∧ x = .int .i64 (v : Nat) ∧ b = .int .i64 (bstI (fun u => max (bhN A S u) (twV (bhN A) (2 ^ n - 1) (S ||| 2 ^ u))) (leftN (dif (2 ^ n - 1) S) v)) ∧ MemoOk A n P K2 ∧ Own 4 wr wB.heap.size (.slice (some ⟨gb, 0, none⟩) n n) ((gnL S n).map Value.bool) ∧ Own 2 wr wB.heap.size (.slice (some ⟨kb, 0, none⟩) P P) (K2.map (.int .i64)) ∧ Kept (fun k => k = gb ∨ k = kb) w0 wr) (fun _ x _ _ => n - (intOf x).toNat)
      case atStart => exact ⟨0, K, Nat.zero_le _, rfl, rfl, HK.out, OG0.out, OK0.out, K0.out⟩
      case round =>
        clear OG0 OK0 RGo RKo cK K0 HK HKL hkl2
        obtain ⟨v, K2, hv, rfl, rfl, hk2, ho1, ho2, hkp⟩ := hrel
        have HK2 := hid hk2; have OG2 := hid ho1; have OK2 := hid ho2; have KP := hid hkp
        have cr := cellK hkp c0 (by simp only; omega)
        clear hk2 ho1 ho2
        by_cases hvl : v < n
        · have hvi : (v : Int) < (n : Int) := by omega
          have HLS := hid (left_step (F := 2 ^ n - 1) (S := S) (v := v) (full_bitM hvl))
          go_wp2_with fail
          refine (l1Size_n a n c wr (by omega)).mono ?_
          rintro e w1 ⟨rfl, hb⟩
          have OG3 := hid (OG2.out.past hb (Nat.le_refl _))
          have OK3 := hid (OK2.out.past hb (Nat.le_refl _))
          have KP3 := hid (KP.out.trans (Kept.of_below _ hb))
          replace cr := cellB hb cr (Nat.le_refl _)
          have cg := OG3.out.cell v (by rw [List.length_map, gnL_len]; exact hvl)
          rw [List.getElem_map, gnL_get] at cg
          clear hb OG2 OK2 KP hkp
          by_cases hSv : S.testBit v = true
          · rw [hSv] at cg
            rw [if_neg (by rw [hSv]; decide), List.append_nil] at HLS
            clear hSv
            go_wp2
            go_roundw
            case rel => exact ⟨v + 1, K2, by omega, by go_num, by rw [HLS.out], HK2.out, OG3.out, OK3.out, KP3.out⟩
            case measure => simp [intOf]; omega
          · have hSf : S.testBit v = false := by simpa using hSv
            rw [hSf] at cg
            rw [if_pos hSf] at HLS
            have HSF := hid hSf
            have HBN := hid (show bstI (fun u => max (bhN A S u) (twV (bhN A) (2 ^ n - 1) (S ||| 2 ^ u))) (leftN (dif (2 ^ n - 1) S) (v + 1)) = if bstI (fun u => max (bhN A S u) (twV (bhN A) (2 ^ n - 1) (S ||| 2 ^ u))) (leftN (dif (2 ^ n - 1) S) v) < 0 ∨ ((max (bhN A S v) (twV (bhN A) (2 ^ n - 1) (S ||| 2 ^ v)) : Nat) : Int) < bstI (fun u => max (bhN A S u) (twV (bhN A) (2 ^ n - 1) (S ||| 2 ^ u))) (leftN (dif (2 ^ n - 1) S) v) then ((max (bhN A S v) (twV (bhN A) (2 ^ n - 1) (S ||| 2 ^ v)) : Nat) : Int) else bstI (fun u => max (bhN A S u) (twV (bhN A) (2 ^ n - 1) (S ||| 2 ^ u))) (leftN (dif (2 ^ n - 1) S) v) by
              rw [HLS.out]
              exact bstI_snoc (fun u => max (bhN A S u) (twV (bhN A) (2 ^ n - 1) (S ||| 2 ^ u))) (leftN (dif (2 ^ n - 1) S) v) v (HG16.out v))
            have HBH := bhN_le A S v
            have HTW := twV_le16 (bhN A) (S := S ||| 2 ^ v) (f16 hn16)
            have HMC := hid (max_cast (bhN A S v) (twV (bhN A) (2 ^ n - 1) (S ||| 2 ^ v)))
            have hor : S ||| 2 ^ v < P := by
              rw [← HP.out] at hS ⊢
              exact Nat.or_lt_two_pow hS (Nat.pow_lt_pow_right (by decide) hvl)
            have hfl : (memsN (dif (2 ^ n - 1) (S ||| 2 ^ v))).length < f := by
              have hd : dif (2 ^ n - 1) S < 4294967296 := by have := dif_le (2 ^ n - 1) S; have := f16 hn16; omega
              have hbt : (dif (2 ^ n - 1) S).testBit v = true := by rw [testBit_dif, full_bitM hvl, hSf]; rfl
              have := memsN_dif hd hbt
              rw [← dif_or] at this
              have := HF.out
              omega
            have HFL := hid hfl
            clear hSv hSf hfl
            have hRA := RB.out.below (HKB.out _ _ BW0.out KP3.out) (Nat.le_refl _)
            have HRA := hid hRA; clear hRA
            go_wp2_with fail
            refine (l10Behind_any a rs c A (some ⟨gb, 0, none⟩) S n v n w1 HGA.out HQ.out HN.out HRA.out (ownB_rd OG3.out) hvl).mono ?_
            rintro e w2 ⟨ba, bc, rfl, hb⟩
            have OG4 := hid (OG3.out.past hb (Nat.le_refl _))
            have OK4 := hid (OK3.out.past hb (Nat.le_refl _))
            have KP4 := hid (KP3.out.trans (Kept.of_below _ hb))
            replace cr := cellB hb cr (Nat.le_refl _)
            replace cg := cellB hb cg (Nat.le_refl _)
            have hf4 := OG4.out.free v
            have OG5 := hid (show Own 4 (w2.setCell ⟨gb, v, none⟩ (.bool true)) wB.heap.size (.slice (some ⟨gb, 0, none⟩) n n) ((gnL (S ||| 2 ^ v) n).map Value.bool) from by
              have h := OG4.out.store v (by rw [List.length_map, gnL_len]; exact hvl) (.bool true)
              rw [← List.map_set, gnL_on] at h
              exact h)
            have OK5 := hid (OK4.out.setCell_other ⟨gb, v, none⟩ (.bool true) (.inr (by simp [Value.ownBlock]; omega)))
            have KP5 := hid (KP4.out.setCell (p := ⟨gb, v, none⟩) (.inl rfl) (.bool true))
            have cr5 := cell_other cr (.bool true) (q := ⟨gb, v, none⟩) (by simp only; omega)
            have hbh : bhN A S v = bhN A S v := rfl
            clear hb OG3 OK3 KP3 HRA hbh OG4 OK4
            generalize hBV : bhN A S v = bv at *
            go_wp2_with fail
            refine (IH.out _ HFL.out (S ||| 2 ^ v) K2 _ rfl hor HK2.out OG5.out OK5.out (HKB.out _ _ BW0.out KP5.out)).mono ?_
            rintro e w4 ⟨K4, rfl, hk4, ho1, ho2, hkp4⟩
            have HK4 := hid hk4
            have KP6 := hid (KP5.out.trans hkp4)
            replace cr5 := cellK hkp4 cr5 (by simp only; omega)
            have OG6 := hid ho1
            have cg6 := ho1.cell v (by rw [List.length_map, gnL_len]; exact hvl)
            have hf6 := ho1.free v
            rw [List.getElem_map, gnL_get] at cg6
            have OG7 := hid (show Own 4 (w4.setCell ⟨gb, v, none⟩ (.bool false)) wB.heap.size (.slice (some ⟨gb, 0, none⟩) n n) ((gnL S n).map Value.bool) from by
              have h := ho1.store v (by rw [List.length_map, gnL_len]; exact hvl) (.bool false)
              rw [← List.map_set, gnL_off HSF.out] at h
              exact h)
            have OK7 := hid (ho2.setCell_other ⟨gb, v, none⟩ (.bool false) (.inr (by simp [Value.ownBlock]; omega)))
            have KP7 := hid (KP6.out.setCell (p := ⟨gb, v, none⟩) (.inl rfl) (.bool false))
            clear hk4 ho1 ho2 hkp4 OG5 OK5 KP5 KP6 OG6 cg hf4 cr
            generalize twV (bhN A) (2 ^ n - 1) (S ||| 2 ^ v) = tv at *
            generalize hb9 : bstI (fun u => max (bhN A S u) (twV (bhN A) (2 ^ n - 1) (S ||| 2 ^ u))) (leftN (dif (2 ^ n - 1) S) v) = b at *
            clear hb9 hBV
            have hm16 : max bv tv ≤ 16 := Nat.max_le.2 ⟨HBH, HTW⟩
            generalize max bv tv = m at *
            by_cases hb0 : b < 0
            · have HB2 := hid (show bstI (fun u => max (bhN A S u) (twV (bhN A) (2 ^ n - 1) (S ||| 2 ^ u))) (leftN (dif (2 ^ n - 1) S) (v + 1)) = (m : Int) by rw [HBN.out, if_pos (.inl hb0)])
              go_wp2_with (first | (go_at_call 60; refine (l1Max_any (bv : Int) (tv : Int) _).mono ?_; rintro e w' ⟨rfl, rfl⟩; rw [HMC.out]))
              go_roundw
              case rel => exact ⟨v + 1, K4, by omega, by go_num, by rw [HB2.out], HK4.out, OG7.out, OK7.out, KP7.out⟩
              case measure => simp [intOf]; omega
            · by_cases hmb : (m : Int) < b
              · have HB2 := hid (show bstI (fun u => max (bhN A S u) (twV (bhN A) (2 ^ n - 1) (S ||| 2 ^ u))) (leftN (dif (2 ^ n - 1) S) (v + 1)) = (m : Int) by rw [HBN.out, if_pos (.inr hmb)])
                go_wp2_with (first | (go_at_call 60; refine (l1Max_any (bv : Int) (tv : Int) _).mono ?_; rintro e w' ⟨rfl, rfl⟩; rw [HMC.out]))
                go_roundw
                case rel => exact ⟨v + 1, K4, by omega, by go_num, by rw [HB2.out], HK4.out, OG7.out, OK7.out, KP7.out⟩
                case measure => simp [intOf]; omega
              · have HB2 := hid (show bstI (fun u => max (bhN A S u) (twV (bhN A) (2 ^ n - 1) (S ||| 2 ^ u))) (leftN (dif (2 ^ n - 1) S) (v + 1)) = b by rw [HBN.out, if_neg (by omega)])
                go_wp2_with (first | (go_at_call 60; refine (l1Max_any (bv : Int) (tv : Int) _).mono ?_; rintro e w' ⟨rfl, rfl⟩; rw [HMC.out]))
                go_roundw
                case rel => exact ⟨v + 1, K4, by omega, by go_num, by rw [HB2.out], HK4.out, OG7.out, OK7.out, KP7.out⟩
                case measure => simp [intOf]; omega
        · obtain rfl : v = n := by omega
          have hvi : ¬ (v : Int) < (v : Int) := by omega
          go_wp2_with fail
          refine (l1Size_n a v c wr (by omega)).mono ?_
          rintro e w1 ⟨rfl, hb⟩
          have OG3 := hid (OG2.out.past hb (Nat.le_refl _))
          have OK3 := hid (OK2.out.past hb (Nat.le_refl _))
          have KP3 := hid (KP.out.trans (Kept.of_below _ hb))
          have hk2l : S < (K2.map (Value.int .i64)).length := by rw [List.length_map, HK2.out.len]; exact hS
          have hck := OK3.out.cell S hk2l
          have hfk := OK3.out.free S
          have OK4 := hid (show Own 2 (w1.setCell ⟨kb, S, none⟩ (.int .i64 (twV (bhN A) (2 ^ v - 1) S : Nat))) wB.heap.size (.slice (some ⟨kb, 0, none⟩) P P) ((K2.set S (twV (bhN A) (2 ^ v - 1) S : Nat)).map (.int .i64)) from by
            have h := OK3.out.store S hk2l (.int .i64 (twV (bhN A) (2 ^ v - 1) S : Nat))
            rwa [← List.map_set] at h)
          have OG4 := hid (OG3.out.setCell_other ⟨kb, S, none⟩ (.int .i64 (twV (bhN A) (2 ^ v - 1) S : Nat)) (.inr (by simp [Value.ownBlock]; omega)))
          have KP4 := hid (KP3.out.setCell (p := ⟨kb, S, none⟩) (.inr rfl) (.int .i64 (twV (bhN A) (2 ^ v - 1) S : Nat)))
          have HK4 := hid (HK2.out.set (T := S) (r := (twV (bhN A) (2 ^ v - 1) S : Nat)) rfl)
          have KP5 := hid ((Kept.of_below (fun k => k = gb ∨ k = kb) B0.out).trans KP4.out)
          have c9 := OK4.out.cell S (by rw [List.length_map, List.length_set, HK2.out.len]; exact hS)
          simp only [List.getElem_map, List.getElem_set_self] at c9
          clear hb OG2 OK2 KP hkp OG3 OK3 KP3 KP4 cr
          rw [List.getElem_map] at hck
          generalize K2[S]'(by simpa using hk2l) = q9 at *
          clear hk2l
          generalize bstI (fun u => max (bhN A S u) (twV (bhN A) (2 ^ v - 1) (S ||| 2 ^ u))) (leftN (dif (2 ^ v - 1) S) v) = b at *
          go_wp2_with (first | (go_at_call 60; refine (l1Max_any b 0 _).mono ?_; rintro e w' ⟨rfl, rfl⟩; rw [HFIN.out]))
          go_ret
          exact ⟨_, rfl, HK4.out, OG4.out, OK4.out, KP5.out⟩
    · have hkt : K[S]'(by omega) = (twV (bhN A) (2 ^ n - 1) S : Nat) := hKS.elim (fun h => absurd h hknown) id
      rw [hkt] at cK
      clear hkt hknown hKS
      have KP := hid (Kept.of_below (fun k => k = gb ∨ k = kb) B0.out)
      go_enter Tryd.func89, Tryd.ntmps89
      go_wp2_with (first | (rw [← HW.out]; go_at_call 100; refine (l10Code_any _ S n n _ hn16 HSP.out RGo.out).mono ?_; rintro e w' ⟨rfl, rfl⟩))
      go_ret
      exact ⟨K, rfl, HK.out, OG0.out, OK0.out, KP.out⟩
end
end Go.Proofs.YtdncmloajajiaaaDoor
