/- What an arrow forces: the program's. -/
import Derived.Test.YtggjmnihnjdoaaaDoorForM
import Derived.Test.YtggjmnihnjdoaaaDoorArrC
import Derived.Test.YtggjmnihnjdoaaaDoorGreedy
import Derived.Test.YtggjmnihnjdoaaaDoorOrderI
namespace Go.Proofs.YtggjmnihnjdoaaaDoor
open Go.RowKit
section
theorem ownA_some {w : World} {B : Nat} {v : Value} {L : List Nat} (h : OwnA w B v L) (h0 : L ≠ []) : ∃ g, v.ownBlock = some g := by
  rcases h.form with ⟨_, h1⟩ | ⟨g, cap, cur, rfl, _⟩
  · exact absurd h1 h0
  · exact ⟨g, rfl⟩
theorem ownA_slice {w : World} {B : Nat} {v : Value} {L : List Nat} (h : OwnA w B v L) (h0 : ∃ g, v.ownBlock = some g) : ∃ g cap, v = .slice (some ⟨g, 0, none⟩) L.length cap := by
  rcases h.form with ⟨rfl, h1⟩ | ⟨g, cap, cur, rfl, _⟩
  · obtain ⟨g, hg⟩ := h0; cases hg
  · exact ⟨g, cap, rfl⟩
theorem frRaw_cod {n : Nat} {A : List Nat} (h : GA n A) {p q : Nat} (hq : q < n) : frRaw A (cod p q) = (memsN (outM A p q)).map (fun c => cod p c) ++ (memsN (outM A q p)).map (fun c => cod c q) := by
  unfold frRaw
  rw [cod_div (by have := h.le; omega), cod_mod (by have := h.le; omega)]
set_option maxRecDepth 100000 in
set_option maxHeartbeats 4000000 in
theorem forces_any (a : Option Addr) (A : List Nat) (n c p q : Nat) (w : World) (hA : GA n A) (hr : Rd maskF w a A) (hp : p < n) (hq : q < n) (hT : TabOk w) :
    Calls Tryd.prog 74 #[.slice a n c, .agg #[.int .i64 p, .int .i64 q]] w fun e w' => ∃ v, e = .returned v ∧ OwnA w' w.heap.size v (frL A (cod p q)) ∧ (∃ g, v.ownBlock = some g) ∧ Below w.heap.size w w' := by
  have RA := hid hr; have RT := hid hT; have HA := hid hA
  have h16 := hA.le
  have hp16 : 2 ^ n ≤ 65536 := Nat.pow_le_pow_right (n := 2) (i := n) (j := 16) (by decide) h16
  have hpl : p < A.length := by rw [hA.len]; exact hp
  have hql : q < A.length := by rw [hA.len]; exact hq
  have hxp := hA.in2 p
  have hxq := hA.in2 q
  have HO1 := hid (outM_lt hA p q)
  have HO2 := hid (outM_lt hA q p)
  have HS := hid (fun (L : List Nat) (hp : L.Perm (frRaw A (cod p q))) hs => fr_sorted hA hp hs)
  have HRW := hid (frRaw_cod hA (p := p) hq)
  have HLT := hid (fun y (hy : y ∈ frRaw A (cod p q)) => frRaw_lt hA hy)
  have HB1 := hid (fun j (hj : j < (memsN (outM A p q)).length) => (bit_under (outM_lt hA p q) ((memsN_mem (show outM A p q < 4294967296 by have := outM_lt hA p q; omega)).1 (List.getElem_mem hj))))
  have HB2 := hid (fun j (hj : j < (memsN (outM A q p)).length) => (bit_under (outM_lt hA q p) ((memsN_mem (show outM A q p < 4294967296 by have := outM_lt hA q p; omega)).1 (List.getElem_mem hj))))
  have HE1 := hid (show dif (dif (A.getD p 0) (A.getD q 0)) (2 ^ q) = outM A p q from rfl)
  have HE2 := hid (show dif (dif (A.getD q 0) (A.getD p 0)) (2 ^ p) = outM A q p from rfl)
  clear hr hT hA
  obtain ⟨w0, hw0⟩ : ∃ w0, w0 = (w.alloc (.cells #[.int .i64 (p : Int), .int .i64 (q : Int)] 78)) := ⟨_, rfl⟩
  have B0 := hid (show Below w.heap.size w w0 by rw [hw0]; exact ((Below.refl _ _).alloc (Nat.le_refl _) _))
  have c0 : w0.cell? ⟨w.heap.size, 0, none⟩ = some (.int .i64 (p : Int)) := by rw [hw0]; simp [go_sem]
  have c0a : w0.cell? ⟨w.heap.size, 1, none⟩ = some (.int .i64 (q : Int)) := by rw [hw0]; simp [go_sem]
  replace RA := hid (RA.out.below B0.out (Nat.le_refl _))
  replace RT := hid (RT.out.below B0.out (Nat.le_refl _))
  have HW := hid hw0; clear hw0
  have hsz0 : w0.heap.size = w.heap.size + 1 := by rw [HW.out]; simp
  have HC0 := hid c0; have HC0a := hid c0a
  have RT0 := hid RT.out; have RA0 := hid RA.out; have B00 := hid B0.out
  have OV := hid (OwnA.new w0)
  have hb := alloc_below w0 (.cells #[] 78)
  have BV := hid hb
  replace RA := hid (RA.out.below hb (Nat.le_refl _))
  replace RT := hid (RT.out.below hb (Nat.le_refl _))
  replace B0 := hid (bon B0.out hb)
  replace c0 := cellB hb c0 (Nat.le_refl _)
  replace c0a := cellB hb c0a (Nat.le_refl _)
  clear hb
  go_enter Tryd.func74, Tryd.ntmps74
  go_wp2_with fail
  rw [← HW.out]
  rw [show w.heap.size + 1 = w0.heap.size from hsz0.symm]
  have hle0 : w.heap.size ≤ w0.heap.size := by omega
  have HSZ0 := hid hsz0
  clear hsz0
  generalize w0.alloc (.cells #[] 78) = w1 at *
  obtain ⟨ab, ao, rfl, ca⟩ := RA.out p hpl
  obtain ⟨ab', ao', he', cb⟩ := RA.out q hql
  obtain ⟨rfl, rfl⟩ : ab = ab' ∧ ao = ao' := by simp at he'; exact he'
  rw [← getD_in hpl] at ca
  rw [← getD_in hql] at cb
  have CA0 := hid (show w0.cell? ⟨ab, ao + p, none⟩ = some (maskF (A.getD p 0)) by
    obtain ⟨b1, o1, h1, h2⟩ := RA0.out p hpl
    simp at h1
    rw [h1.1, h1.2, getD_in hpl]; exact h2)
  have CB0 := hid (show w0.cell? ⟨ab, ao + q, none⟩ = some (maskF (A.getD q 0)) by
    obtain ⟨b1, o1, h1, h2⟩ := RA0.out q hql
    simp at h1
    rw [h1.1, h1.2, getD_in hql]; exact h2)
  have hpi : (p : Int) < (n : Int) := by omega
  have hqi : (q : Int) < (n : Int) := by omega
  unfold maskF at ca cb
  have hpq16 : p < 16 ∧ q < 16 := by omega
  clear he' hpl hql RA RA0
  generalize A.getD p 0 = X at *
  generalize A.getD q 0 = Y at *
  generalize hM1 : outM A p q = M1 at *
  generalize hM2 : outM A q p = M2 at *
  have h1lt := HO1.out
  have h2lt := HO2.out
  have hP : 2 ^ p < 65536 := Nat.pow_lt_pow_right (by decide) hpq16.1
  have hQ : 2 ^ q < 65536 := Nat.pow_lt_pow_right (by decide) hpq16.2
  have hd1 := u32_dif X Y (by omega) (by omega)
  have hl1 := dif_le X Y
  have hd2 := u32_dif (dif X Y) (2 ^ q) (by omega) (by omega)
  have hd3 := u32_dif Y X (by omega) (by omega)
  have hl3 := dif_le Y X
  have hd4 := u32_dif (dif Y X) (2 ^ p) (by omega) (by omega)
  rw [HE1.out] at hd2
  rw [HE2.out] at hd4
  generalize dif X Y = E1 at *
  generalize dif Y X = E2 at *
  generalize hPP : 2 ^ p = P1 at *
  generalize hQQ : 2 ^ q = P2 at *
  clear hM1 hM2 HE1 HE2
  have hml1 := mems_len M1
  have hml2 := mems_len M2
  have HLN1 := hid (mems_lenN M1)
  have HLN2 := hid (mems_lenN M2)
  have D3 : Drawn w1 w1.drew := ⟨1, rfl⟩
  have f0 := dcell D3 c0
  have f1 := dcell D3 c0a
  have f2 := dcell D3 ca
  have f3 := dcell D3 cb
  have RT3 := hid (RT.out.below (D3.below w1.heap.size) (Nat.le_refl _))
  have OV3 := hid (OV.out.past (D3.below w1.heap.size) (Nat.le_refl _))
  have BV3 := hid (bon BV.out (D3.below w1.heap.size))
  clear RT OV BV c0 c0a ca cb B0
  go_region_held3 (fun w' => w'.cell? ⟨w.heap.size, 0, none⟩ = some (.int .i64 p) ∧ w'.cell? ⟨w.heap.size, 1, none⟩ = some (.int .i64 q) ∧ w'.cell? ⟨ab, ao + p, none⟩ = some (.int .u32 X) ∧ w'.cell? ⟨ab, ao + q, none⟩ = some (.int .u32 Y)) (first | exact ⟨f0, f1, f2, f3⟩ | exact ⟨g0, g1, g2, g3⟩) ((first | (go_at_call 100; refine (one_p q P2 _ (by omega) hQQ).mono ?_; rintro e w' ⟨rfl, rfl⟩) | (go_at_call 82; refine (list_any M1 _ RT3.out (by omega)).mono ?_; rintro e w4 ⟨lv, rfl, hown, hb⟩; obtain ⟨la, lc, hlv, _⟩ := Own.rd (f := Value.int .i64) hown; subst hlv; have OL4 := hid (hown.base (Nat.zero_le _)); have g0 := cellB hb f0 (Nat.le_refl _); have g1 := cellB hb f1 (Nat.le_refl _); have g2 := cellB hb f2 (Nat.le_refl _); have g3 := cellB hb f3 (Nat.le_refl _); have OV4 := hid (OV3.out.past hb (Nat.le_refl _)); have BV4 := hid (bon BV3.out hb); clear hown hb)))
  go_wp2
  go_loopw [5, 7, 28] (fun o _ i wr => ∃ k : Nat, k ≤ (memsN M1).length ∧ i = .int .i64 (k : Nat) ∧ OwnA wr w0.heap.size o (((memsN M1).take k).map (fun c => cod p c)) ∧ (∃ g, o.ownBlock = some g) ∧ Own 3 wr 0 (.slice la (mems M1).length lc) ((mems M1).map (.int .i64)) ∧ Below w0.heap.size w0 wr) (fun _ _ i _ => (memsN M1).length - (intOf i).toNat)
  case atStart => exact ⟨0, Nat.zero_le _, rfl, by simpa using OV4.out, ⟨_, rfl⟩, OL4.out, BV4.out⟩
  case round =>
    obtain ⟨k, hk, rfl, ho, hog, hol, hb⟩ := hrel
    have OO := hid ho; have OG := hid hog; have OL := hid hol; have BL := hid hb
    have c0 := cellB hb HC0.out (Nat.le_refl _)
    have c0a := cellB hb HC0a.out (Nat.le_refl _)
    have hsz := hb.size
    have hm32 := memsN_len M1
    clear ho hog hol
    by_cases hlt : k < (memsN M1).length
    · have hltm : k < (mems M1).length := by have := HLN1.out; omega
      obtain ⟨lb, lo, hla, ck⟩ := (ownL_rd OL.out) k hltm
      subst hla
      have hki : (k : Int) < ((mems M1).length : Int) := by omega
      rw [memsN_get] at ck
      have hcn := HB1.out k hlt
      have HTK := hid (List.take_succ_eq_append_getElem hlt)
      generalize (memsN M1)[k] = cc at *
      have hc16 : cc < 16 := by omega
      have HLL := hid (show (((memsN M1).take k).map (fun c => cod p c)).length < 1099511627776 by simp only [List.length_map, List.length_take]; omega)
      go_wp2_with (at_builtin; refine law_pushA tArrows _ rfl _ _ rfl w0.heap.size _ _ rfl OO.out (cod p cc) _ rfl rfl _ _ ?c0 ?c1 ?c2 ?c3 ?_)
      try (case c0 => rw [cod_div hc16])
      try (case c1 => rw [cod_mod hc16])
      try (case c2 => exact HLL.out)
      try (case c3 => exact hsz)
      intro v' w5 h1 h2
      have O5 := hid (show OwnA w5 w0.heap.size v' (((memsN M1).take k).map (fun c => cod p c) ++ [cod p cc]) by rw [List.map_take]; exact h1)
      have B5 := hid (BL.out.trans (grown_below h2 hsz (fun g hg => OO.out.ge g hg)))
      have L5 := hid (OL.out.kept h2 (OL.out.neA OO.out (by decide)))
      clear h1 h2
      go_wp2
      go_roundw
      case rel => exact ⟨k + 1, by omega, by go_num, by rw [HTK.out, List.map_append, List.map_singleton]; exact O5.out, ownA_some O5.out (by simp), L5.out, B5.out⟩
      case measure => simp [intOf]; omega
    · obtain rfl : k = (memsN M1).length := by omega
      have hki : ¬ (((memsN M1).length : Int) < ((mems M1).length : Int)) := by have := HLN1.out; omega
      have hkf : (((memsN M1).length : Int) < ((mems M1).length : Int)) = False := by simpa using hki
      rw [List.take_length] at OO
      have c2 := cellB hb CA0.out (Nat.le_refl _)
      have c3 := cellB hb CB0.out (Nat.le_refl _)
      unfold maskF at c2 c3
      have RT5 := hid (RT0.out.below hb (Nat.le_refl _))
      obtain ⟨w5, rfl⟩ : ∃ w5, w5 = wr := ⟨_, rfl⟩
      have D6 : Drawn w5 w5.drew := ⟨1, rfl⟩
      have e0 := dcell D6 c0
      have e1 := dcell D6 c0a
      have e2 := dcell D6 c2
      have e3 := dcell D6 c3
      have RT6 := hid (RT5.out.below (D6.below w5.heap.size) (Nat.le_refl _))
      have OV6 := hid (OO.out.past (D6.below w5.heap.size) (Nat.le_refl _))
      have BV6 := hid (bon BL.out (D6.below w5.heap.size))
      clear c0 c0a c2 c3 f0 f1 f2 f3 g0 g1 g2 g3
      go_wp2
      go_region_held3 (fun w' => w'.cell? ⟨w.heap.size, 0, none⟩ = some (.int .i64 p) ∧ w'.cell? ⟨w.heap.size, 1, none⟩ = some (.int .i64 q) ∧ w'.cell? ⟨ab, ao + p, none⟩ = some (.int .u32 X) ∧ w'.cell? ⟨ab, ao + q, none⟩ = some (.int .u32 Y)) (first | exact ⟨e0, e1, e2, e3⟩ | exact ⟨g0, g1, g2, g3⟩) ((first | (go_at_call 100; refine (one_p p P1 _ (by omega) hPP).mono ?_; rintro e w' ⟨rfl, rfl⟩) | (go_at_call 82; refine (list_any M2 _ RT6.out (by omega)).mono ?_; rintro e w7 ⟨lv, rfl, hown, hb⟩; obtain ⟨la2, lc2, hlv, _⟩ := Own.rd (f := Value.int .i64) hown; subst hlv; have OL7 := hid (hown.base (Nat.zero_le _)); have g0 := cellB hb e0 (Nat.le_refl _); have g1 := cellB hb e1 (Nat.le_refl _); have g2 := cellB hb e2 (Nat.le_refl _); have g3 := cellB hb e3 (Nat.le_refl _); have OV7 := hid (OV6.out.past hb (Nat.le_refl _)); have BV7 := hid (bon BV6.out hb); clear hown hb)))
      go_wp2
      go_loopw [5, 9, 57] (fun o _ i wr => ∃ k : Nat, k ≤ (memsN M2).length ∧ i = .int .i64 (k : Nat) ∧ OwnA wr w0.heap.size o ((memsN M1).map (fun c => cod p c) ++ ((memsN M2).take k).map (fun c => cod c q)) ∧ (∃ g, o.ownBlock = some g) ∧ Own 3 wr 0 (.slice la2 (mems M2).length lc2) ((mems M2).map (.int .i64)) ∧ Below w0.heap.size w0 wr) (fun _ _ i _ => (memsN M2).length - (intOf i).toNat)
      case atStart => exact ⟨0, Nat.zero_le _, rfl, by simpa using OV7.out, OG.out, OL7.out, BV7.out⟩
      case round =>
        obtain ⟨k, hk, rfl, ho, hog, hol, hb⟩ := hrel
        have OO := hid ho; have OG := hid hog; have OL := hid hol; have BL := hid hb
        have c0 := cellB hb HC0.out (Nat.le_refl _)
        have c0a := cellB hb HC0a.out (Nat.le_refl _)
        have hsz := hb.size
        have hm32 := memsN_len M2
        clear ho hog hol
        by_cases hlt : k < (memsN M2).length
        · have hltm : k < (mems M2).length := by have := HLN2.out; omega
          obtain ⟨lb, lo, hla, ck⟩ := (ownL_rd OL.out) k hltm
          subst hla
          have hki : (k : Int) < ((mems M2).length : Int) := by omega
          rw [memsN_get] at ck
          have hcn := HB2.out k hlt
          have HTK := hid (List.take_succ_eq_append_getElem hlt)
          generalize (memsN M2)[k] = cc at *
          have hc16 : cc < 16 := by omega
          have HLL := hid (show ((memsN M1).map (fun c => cod p c) ++ ((memsN M2).take k).map (fun c => cod c q)).length < 1099511627776 by simp only [List.length_append, List.length_map, List.length_take]; have := memsN_len M1; omega)
          go_wp2_with (at_builtin; refine law_pushA tArrows _ rfl _ _ rfl w0.heap.size _ _ rfl OO.out (cod cc q) _ rfl rfl _ _ ?c0 ?c1 ?c2 ?c3 ?_)
          try (case c0 => rw [cod_div hpq16.2])
          try (case c1 => rw [cod_mod hpq16.2])
          try (case c2 => exact HLL.out)
          try (case c3 => exact hsz)
          intro v' w5 h1 h2
          have O5 := hid (show OwnA w5 w0.heap.size v' ((memsN M1).map (fun c => cod p c) ++ ((memsN M2).take k).map (fun c => cod c q) ++ [cod cc q]) by rw [List.append_assoc, List.map_take]; exact h1)
          have B5 := hid (BL.out.trans (grown_below h2 hsz (fun g hg => OO.out.ge g hg)))
          have L5 := hid (OL.out.kept h2 (OL.out.neA OO.out (by decide)))
          clear h1 h2
          go_wp2
          go_roundw
          case rel => exact ⟨k + 1, by omega, by go_num, by rw [HTK.out, List.map_append, ← List.append_assoc, List.map_singleton]; exact O5.out, ownA_some O5.out (by simp), L5.out, B5.out⟩
          case measure => simp [intOf]; omega
        · obtain rfl : k = (memsN M2).length := by omega
          have hki : ¬ (((memsN M2).length : Int) < ((mems M2).length : Int)) := by have := HLN2.out; omega
          rw [List.take_length] at OO
          have HRAW := hid (show (memsN M1).map (fun c => cod p c) ++ (memsN M2).map (fun c => cod c q) = frRaw A (cod p q) from HRW.out.symm)
          have O8 := hid (show OwnA wr w0.heap.size _ (frRaw A (cod p q)) from HRAW.out ▸ OO.out)
          obtain ⟨gs, caps, hvs⟩ := ownA_slice O8.out OG.out
          subst hvs
          have HLN := hid (show (frRaw A (cod p q)).length < 1000000 by rw [← HRAW.out]; simp only [List.length_append, List.length_map]; have := memsN_len M1; omega)
          go_wp2_with (go_at_call 78; refine (sortA_any w0.heap.size _ HLT.out HLN.out gs caps _ O8.out).mono ?_; rintro e w9 ⟨rfl, L', h1, h2, h3, h4⟩; have hE := HS.out L' h1 h2; subst hE; have O9 := hid h3; have B9 := hid (BL.out.trans (grown_below h4 hsz (fun g hg => by cases hg; exact O8.out.ge gs rfl))); clear h1 h2 h3 h4)
          go_ret
          exact ⟨_, rfl, O9.out.base hle0, ⟨gs, rfl⟩, B00.out.trans (B9.out.mono hle0)⟩
theorem forces_x (a : Option Addr) (A : List Nat) (n c x p q : Nat) (w : World) (hx : cod p q = x) (hA : GA n A) (hr : Rd maskF w a A) (hp : p < n) (hq : q < n) (hT : TabOk w) :
    Calls Tryd.prog 74 #[.slice a n c, .agg #[.int .i64 p, .int .i64 q]] w fun e w' => ∃ g cap, e = .returned (.slice (some ⟨g, 0, none⟩) (frL A x).length cap) ∧ OwnA w' w.heap.size (.slice (some ⟨g, 0, none⟩) (frL A x).length cap) (frL A x) ∧ Below w.heap.size w w' := by
  subst hx
  refine (forces_any a A n c p q w hA hr hp hq hT).mono ?_
  rintro e w' ⟨v, rfl, h1, h2, h3⟩
  obtain ⟨g, cap, rfl⟩ := ownA_slice h1 h2
  exact ⟨g, cap, rfl, h1, h3⟩
end
end Go.Proofs.YtggjmnihnjdoaaaDoor
