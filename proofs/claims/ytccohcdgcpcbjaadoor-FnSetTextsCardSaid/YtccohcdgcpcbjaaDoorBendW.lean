/- A text bent: the reference's walk. -/
import Derived.Test.YtccohcdgcpcbjaaDoorBend
import Derived.Test.YtccohcdgcpcbjaaDoorSplit
namespace Go.Proofs.YtccohcdgcpcbjaaDoor
open Go.RowKit
section
theorem Rd.keepK {α : Type} {f : α → Value} {S : Nat → Prop} {w w' : World} {b o : Nat} {zs : List α} (h : Rd f w (some ⟨b, o, none⟩) zs) (hk : Kept S w w') (hb : ¬ S b) : Rd f w' (some ⟨b, o, none⟩) zs := by
  intro i hi
  obtain ⟨b', o', hab, cz⟩ := h i hi
  obtain ⟨rfl, rfl⟩ : b = b' ∧ o = o' := by simpa using hab
  exact ⟨b, o, rfl, cellK hk cz hb⟩
theorem Rd.belowB {α : Type} {f : α → Value} {w w' : World} {b o B : Nat} {zs : List α} (h : Rd f w (some ⟨b, o, none⟩) zs) (hb : Below B w w') (hB : b < B) : Rd f w' (some ⟨b, o, none⟩) zs :=
  h.keepK (S := fun j => B ≤ j) ⟨hb.os, hb.tape, hb.output, hb.size, fun k _ hn => hb.block k (by omega)⟩ (by omega)
theorem ins_len (T D : List Int) (y : Int) : (T ++ [y] ++ D).length = T.length + D.length + 1 := by
  rw [List.length_append, List.length_append]
  simp only [List.length_cons, List.length_nil]
  omega
theorem bytes_sub {zs xs : List Int} (h : ∀ z ∈ zs, 0 ≤ z ∧ z < 256) (hx : ∀ x ∈ xs, x ∈ zs) : ∀ z ∈ xs, 0 ≤ z ∧ z < 256 := fun z hz => h z (hx z hz)
set_option maxRecDepth 100000 in
set_option maxHeartbeats 8000000 in
theorem l1Bend_any (g : Nat) (s : ByteArray) (L : List UInt8) (w : World) (hc : Cur w g) (hs : s.size ≤ 200) (hL : 0 < L.length) (hL2 : L.length ≤ 100) :
    Calls Tryd.prog 43 #[.pointer (some ⟨g, 0, none⟩), .string s, .string (str L)] w fun e w' => ∃ u : ByteArray, e = .returned (.string u) ∧ u.size ≤ 300 ∧ Cur w' g ∧ Kept (fun k => k = g) w w' := by
  have hgw := hc.lt
  have CU := hid hc
  clear hc
  have hcv := run_bytes_of_string (P := Tryd.prog) w 9 35 5 s Tryd.underlying9 Tryd.underlying35 Tryd.underlying5
  have BF := hid (buf_new w s (by unfold maxLen; omega))
  have HSL := hid (intsOf_len s)
  have B1 := hid (show Below w.heap.size w (w.drew.alloc (.cells (bytesRow s (grownCap w s.size 0 5)) 5 ((bytesRow s (grownCap w s.size 0 5)).size, (bytesRow s (grownCap w s.size 0 5)).size + 1))) from (belowE (Below.refl w.heap.size w)).trans (alloc_below w.drew _))
  have hsz : (str L).size = L.length := str_size L
  generalize hw1 : w.drew.alloc (.cells (bytesRow s (grownCap w s.size 0 5)) 5 ((bytesRow s (grownCap w s.size 0 5)).size, (bytesRow s (grownCap w s.size 0 5)).size + 1)) = w1 at *
  clear hw1
  generalize grownCap w s.size 0 5 = cap0 at *
  go_enter Tryd.func43, Tryd.ntmps43
  go_wp2_with fail
  refine (l1Below_any g 3 _ _ rfl (CU.out.past B1.out (Nat.le_refl _)) (by decide) (by decide)).mono ?_
  rintro e w2 ⟨n0, rfl, hn0, hc, hk⟩
  have BF2 := hid (BF.out.keep hk (fun j hj hs => by omega))
  have CU2 := hid hc
  have KP2 := hid ((Kept.of_below (fun k => k = g) B1.out).trans hk)
  clear hc hk hcv BF B1 CU
  go_wp2
  go_loopw [7, 8] (fun b x wr => ∃ (k c : Nat) (a : Option Addr) (zs : List Int), x = .int .i64 (k : Nat) ∧ b = .slice a zs.length c ∧ Buf wr w.heap.size a c zs ∧ zs.length + k ≤ 202 ∧ k ≤ 2 ∧ Cur wr g ∧ Kept (fun k => k = g) w wr) (fun _ x _ => (intOf x).toNat)
  case atStart => exact ⟨n0, cap0, _, _, rfl, by rw [HSL.out], BF2.out, by rw [HSL.out]; omega, by omega, CU2.out, KP2.out⟩
  case round =>
    clear BF2 CU2 KP2 HSL
    obtain ⟨k, c, a, zs, rfl, rfl, hbf, hlen, hk2, hcu, hkp⟩ := hrel
    have BF := hid hbf; have CU := hid hcu; have KP := hid hkp
    have HLEN := hid hlen
    clear hbf hcu hkp
    obtain ⟨wj, rfl⟩ : ∃ z, z = wr := ⟨_, rfl⟩
    by_cases hk0 : 0 < k
    · have hki : (k : Int) > 0 := by omega
      by_cases hz0 : 0 < zs.length
      · have hzi : (zs.length : Int) > 0 := by omega
        have hzd : decide (0 < zs.length) = true := decide_eq_true hz0
        have hzm : zs.length ≤ 202 := by omega
        clear hlen
        obtain ⟨mb, rfl, hmb⟩ := BF.out.some hz0
        obtain ⟨k', rfl⟩ : ∃ k', k = k' + 1 := ⟨k - 1, by omega⟩
        go_wp2_with fail
        refine (l1Below_any g zs.length _ _ rfl CU.out hz0 (by omega)).mono ?_
        rintro e w3 ⟨i, rfl, hi, hc, hk3⟩
        replace BF := hid (BF.out.keep hk3 (fun j hj hs => by omega))
        replace CU := hid hc
        replace KP := hid (KP.out.trans hk3)
        clear hc hk3
        go_wp2_with fail
        refine (l1Below_any g 4 _ _ rfl CU.out (by decide) (by decide)).mono ?_
        rintro e w4 ⟨x, rfl, hx, hc, hk4⟩
        replace BF := hid (BF.out.keep hk4 (fun j hj hs => by omega))
        replace CU := hid hc
        replace KP := hid (KP.out.trans hk4)
        clear hc hk4
        have hii : (i : Int) < (zs.length : Int) := by omega
        have hzc := BF.out.le
        by_cases h0 : x = 0
        · subst h0
          go_wp2_with fail
          refine (l1Below_any g L.length _ _ rfl CU.out hL (by omega)).mono ?_
          rintro e w5 ⟨y, rfl, hy, hc, hk5⟩
          replace BF := hid (BF.out.keep hk5 (fun j hj hs => by omega))
          replace CU := hid hc
          replace KP := hid (KP.out.trans hk5)
          clear hc hk5
          have hyi : (y : Int) < (L.length : Int) := by omega
          have hg0 := fun h : y < (str L).size => str_get L y h hy
          obtain ⟨bb, hb⟩ : ∃ b, L[y] = b := ⟨_, rfl⟩
          have hget : ∀ h : y < (str L).size, (str L)[y]'h = bb := fun h => (hg0 h).trans hb
          have hbb : (0 : Int) ≤ (bb.toNat : Int) ∧ (bb.toNat : Int) < 256 := by have := bb.toNat_lt; omega
          obtain ⟨b', o', hab, cz⟩ := BF.out.rd i hi
          obtain ⟨rfl, rfl⟩ : mb = b' ∧ 0 = o' := by simp at hab; exact hab
          rw [Nat.zero_add] at cz
          obtain ⟨b', hab2, _, _, hfz⟩ := BF.out.own _ rfl
          obtain rfl : mb = b' := by simpa using hab2
          have hfr := hfz i hi
          have BF6 := hid (BF.out.store i hi _ hbb)
          have CU6 := hid (CU.out.setc (p := ⟨mb, i, none⟩) (by show g < mb; omega) (.int .u8 (bb.toNat : Int)))
          have KP6 := hid (KP.out.setCell_new (p := ⟨mb, i, none⟩) hmb (.int .u8 (bb.toNat : Int)))
          have HL6 := hid (show (zs.set i (bb.toNat : Int)).length = zs.length from List.length_set)
          generalize zs[i] = zi at *
          clear hg0 hb hab hab2 hfz BF CU KP
          go_wp2
          go_roundw
          case rel => exact ⟨k', c, _, _, by go_num, by rw [HL6.out], BF6.out, by rw [HL6.out]; have := HLEN.out; omega, by omega, CU6.out, KP6.out⟩
          case measure => simp [intOf]; try omega
        · have e0 : ((x : Int) == 0) = false := by rw [beq_eq_false_iff_ne]; omega
          by_cases h1 : x = 1
          · subst h1
            have hic : (i : Int) ≤ (c : Int) := by omega
            have BF6 := hid (BF.out.take i)
            have HL6 := hid (show (zs.take i).length = i by rw [List.length_take]; omega)
            clear BF
            go_wp2
            go_roundw
            case rel => exact ⟨k', c, _, zs.take i, by go_num, by rw [HL6.out], BF6.out, by rw [HL6.out]; have := HLEN.out; omega, by omega, CU.out, KP.out⟩
            case measure => simp [intOf]; try omega
          · have e1 : ((x : Int) == 1) = false := by rw [beq_eq_false_iff_ne]; omega
            have hic : (i : Int) ≤ (c : Int) := by omega
            have HTL := hid (show (zs.take i).length = i by rw [List.length_take]; omega)
            have D5 : Drawn w4 w4.drew := ⟨1, rfl⟩
            have BF5 := hid (BF.out.keep (Kept.of_below (fun _ => False) (D5.below w4.heap.size)) (fun j hj hs => hs))
            have CU5 := hid (CU.out.past (D5.below w4.heap.size) (Nat.le_refl _))
            have KP5 := hid (KP.out.trans (Kept.of_below _ (D5.below w4.heap.size)))
            have hs5 := KP5.out.size
            have OA := hid (show Own 5 (w4.drew.alloc (.cells #[] 5)) w4.drew.heap.size (.slice (some ⟨w4.drew.heap.size, 0, none⟩) 0 0) ([] : List Value) from own_new 5 w4.drew [] (by decide))
            have BA := hid (alloc_below w4.drew (.cells #[] 5))
            have hom : ([] : List Value).length + i ≤ 1099511627776 := by simp; omega
            have RDA := hid (BF5.out.rd.below BA.out (Nat.le_refl _))
            clear BF CU KP
            by_cases h2 : x = 2
            · subst h2
              obtain ⟨k1, hk1⟩ : ∃ k1, k1 = i + 1 := ⟨_, rfl⟩
              have hwr : IntKind.i64.wrap ((i : Int) + 1) = (k1 : Int) := by rw [IntKind.wrap_i64]; omega
              have hk1m : k1 ≤ zs.length := by omega
              have hk1i : (k1 : Int) ≤ (zs.length : Int) := by omega
              have hk10 : (0 : Int) ≤ (k1 : Int) := by omega
              have htd : (zs.take i ++ zs.drop k1).length + 1 = zs.length := by rw [List.length_append, List.length_take, List.length_drop]; omega
              have hdl : (zs.drop k1).length = zs.length - k1 := List.length_drop
              have hom2 : ((zs.take i).map (Value.int .u8)).length + (zs.length - k1) ≤ 1099511627776 := by rw [List.length_map, HTL.out]; omega
              have HBY := hid (show ∀ z ∈ zs.take i ++ zs.drop k1, 0 ≤ z ∧ z < 256 from bytes_sub BF5.out.byte (fun x hx => by
                rcases List.mem_append.1 hx with h | h
                · exact List.mem_of_mem_take h
                · exact List.mem_of_mem_drop h))
              obtain ⟨of, hof, hrd⟩ : ∃ of, (if c = k1 then (some ⟨mb, 0, none⟩ : Option Addr) else some ⟨mb, k1, none⟩) = some ⟨mb, of, none⟩ ∧ Rd (Value.int .u8) w4.drew (some ⟨mb, of, none⟩) (zs.drop k1) := by
                by_cases hmk : c = k1
                · refine ⟨0, by rw [if_pos hmk], ?_⟩
                  have h0 : zs.drop k1 = [] := List.eq_nil_of_length_eq_zero (by rw [List.length_drop]; omega)
                  rw [h0]; exact Rd.nil _ _ _
                · refine ⟨k1, by rw [if_neg hmk], ?_⟩
                  have h := BF5.out.rd.drop k1
                  rwa [Nat.zero_add] at h
              have RD5 := hid hrd
              have HTD := hid htd; have HDL := hid hdl
              clear hk1 htd hdl hrd
              go_wp2_with fail
              go_region_law ((first | (refine step_appD tBytes _ (by rfl) _ _ (by rfl) (Value.int .u8) w4.drew.heap.size _ ([] : List Value) (by rfl) OA.out mb 0 _ _ (zs.take i) (by rfl) HTL.out (RDA.out.take i) (fun y _ => rfl) hom BA.out.size ?_; intro v6 w6 h1 h2; have O6 := hid (show Own 5 w6 w4.drew.heap.size v6 ((zs.take i).map (.int .u8)) by simpa using h1); have B6 := hid (BA.out.trans (grown_below h2 BA.out.size (fun j hj => OA.out.ge j hj))); have RD6 := hid (RD5.out.below B6.out (Nat.le_refl _)); clear h1 h2) | (refine step_appD tBytes _ (by rfl) _ _ (by rfl) (Value.int .u8) w4.drew.heap.size _ ((zs.take i).map (.int .u8)) (by rfl) O6.out mb of _ _ (zs.drop k1) (by rfl) HDL.out RD6.out (fun y _ => rfl) hom2 B6.out.size ?_; intro v7 w7 h1 h2; have O7 := hid (show Own 5 w7 w4.drew.heap.size v7 ((zs.take i ++ zs.drop k1).map (.int .u8)) by rw [List.map_append]; exact h1); have B7 := hid (B6.out.trans (grown_below h2 B6.out.size (fun j hj => O6.out.ge j hj))); clear h1 h2)))
              all_goals (
                have CU7 := hid (CU5.out.past B7.out (Nat.le_refl _))
                have KP7 := hid (KP5.out.trans (Kept.of_below _ B7.out))
                obtain ⟨ra, rc, hrv, hrest⟩ := Own.rd (f := Value.int .u8) O7.out
                clear hrest
                subst hrv
                have BF7 := hid (Buf.of_own (O7.out.base hs5) HBY.out)
                have HL7 := hid (show (zs.take i ++ zs.drop k1).length + k' ≤ 202 by have h1 := HTD.out; have h2 := HLEN.out; omega)
                clear O7 O6 OA B6 B7 BA RD6 RD5 RDA HTD HBY CU5 KP5 BF5
                generalize zs.take i ++ zs.drop k1 = T at *
                go_wp2
                exact ⟨⟨k', rc, _, T, rfl, rfl, BF7.out, HL7.out, by omega, CU7.out, KP7.out⟩, by simp [intOf]; try omega⟩)
            · obtain rfl : x = 3 := by omega
              have hci : ¬ c = i := by omega
              have hile : i ≤ zs.length := by omega
              have hsi : i < 1099511627776 := by omega
              have hdl : (zs.drop i).length = zs.length - i := List.length_drop
              have RD5 := hid (show Rd (Value.int .u8) w4.drew (some ⟨mb, i, none⟩) (zs.drop i) from by
                have h := BF5.out.rd.drop i
                rwa [Nat.zero_add] at h)
              have hmbs : mb < w4.drew.heap.size := by
                obtain ⟨b', hab2, _, hlt, _⟩ := BF5.out.own _ rfl
                obtain rfl : mb = b' := by simpa using hab2
                exact hlt
              have hgs : g < w4.drew.heap.size := by omega
              have HDL := hid hdl
              clear hdl
              go_wp2_with fail
              go_region_law ((first | (refine step_appD tBytes _ (by rfl) _ _ (by rfl) (Value.int .u8) w4.drew.heap.size _ ([] : List Value) (by rfl) OA.out mb 0 _ _ (zs.take i) (by rfl) HTL.out (RDA.out.take i) (fun y _ => rfl) hom BA.out.size ?_; intro v6 w6 h1 h2; have O6 := hid (show Own 5 w6 w4.drew.heap.size v6 ((zs.take i).map (.int .u8)) by simpa using h1); have B6 := hid (BA.out.trans (grown_below h2 BA.out.size (fun j hj => OA.out.ge j hj))); have RD6 := hid (RD5.out.below B6.out (Nat.le_refl _)); have CU6 := hid (CU5.out.past B6.out (Nat.le_refl _)); clear h1 h2) | (go_simp; go_at_call 56; refine (l1Below_any g L.length _ _ rfl CU6.out hL (by omega)).mono ?_; rintro e w7 ⟨y, rfl, hy, hc, hk⟩; have CU7 := hid hc; have K7 := hid hk; have O7 := hid (O6.out.keptS hk (fun j hj hs => by have := O6.out.ge j hj; omega)); have RD7 := hid (RD6.out.keepK hk (by show ¬ mb = g; omega)); have hs7 : w4.drew.heap.size ≤ w7.heap.size := Nat.le_trans B6.out.size hk.size; have hyi : (y : Int) < (L.length : Int) := (by omega); have hg0 := (fun h : y < (str L).size => str_get L y h hy); obtain ⟨bb, hb⟩ : ∃ b, L[y] = b := ⟨_, rfl⟩; have hget : ∀ h : y < (str L).size, (str L)[y]'h = bb := (fun h => (hg0 h).trans hb); have hbb : (0 : Int) ≤ (bb.toNat : Int) ∧ (bb.toNat : Int) < 256 := (by have := bb.toNat_lt; omega); clear hc hk hg0 hb) | (refine step_pushD tBytes _ (by rfl) _ _ (by rfl) w4.drew.heap.size _ ((zs.take i).map (.int .u8)) (by rfl) (O7.out.past (B' := w7.heap.size) (by repeat (first | exact Below.refl _ _ | refine belowE ?_ | refine Below.alloc ?_ (Nat.le_refl _) _)) (Nat.le_refl _)) (.int .u8 (bb.toNat : Int)) _ (by rfl) (by exact blkD _ _ _ rfl) (by rfl) i (by rw [List.length_map]; exact HTL.out) hsi (Nat.le_trans hs7 (Below.size (B := w7.heap.size) (w := w7) (by repeat (first | exact Below.refl _ _ | refine belowE ?_ | refine Below.alloc ?_ (Nat.le_refl _) _)))) ?_; intro g' cap' w8 h1 h2 h3; have O8 := hid (show Own 5 w8 w4.drew.heap.size (.slice (some ⟨g', 0, none⟩) (i + 1) cap') ((zs.take i ++ [(bb.toNat : Int)]).map (.int .u8)) by rw [List.map_append]; exact h1); have B8 := hid (show Below w4.drew.heap.size w7 w8 from Below.trans (b := _) (Below.mono (B := w7.heap.size) (by repeat (first | exact Below.refl _ _ | refine belowE ?_ | refine Below.alloc ?_ (Nat.le_refl _) _)) hs7) (grown_below h2 (Nat.le_trans hs7 (Below.size (B := w7.heap.size) (w := w7) (by repeat (first | exact Below.refl _ _ | refine belowE ?_ | refine Below.alloc ?_ (Nat.le_refl _) _)))) (fun g hg => O7.out.ge g hg))); have RD8 := hid (RD7.out.belowB B8.out hmbs); have hs8 := Nat.le_trans hs7 B8.out.size; have hom2 : ((zs.take i ++ [(bb.toNat : Int)]).map (Value.int .u8)).length + (zs.length - i) ≤ 1099511627776 := (by rw [List.length_map, List.length_append, HTL.out]; simp only [List.length_cons, List.length_nil]; omega); clear h1 h2 h3) | (refine step_appD tBytes _ (by rfl) _ _ (by rfl) (Value.int .u8) w4.drew.heap.size _ ((zs.take i ++ [(bb.toNat : Int)]).map (.int .u8)) (by rfl) O8.out mb i _ _ (zs.drop i) (by rfl) HDL.out RD8.out (fun y _ => rfl) hom2 hs8 ?_; intro v9 w9 h1 h2; have O9 := hid (show Own 5 w9 w4.drew.heap.size v9 ((zs.take i ++ [(bb.toNat : Int)] ++ zs.drop i).map (.int .u8)) by rw [List.map_append]; exact h1); have B9 := hid (grown_below h2 hs8 (fun j hj => O8.out.ge j hj)); clear h1 h2)))
              all_goals (
                have CU9 := hid ((CU7.out.belowB B8.out hgs).belowB B9.out hgs)
                have KP9 := hid ((((KP5.out.trans (Kept.of_below _ B6.out)).trans K7.out).belowT B8.out hs5).belowT B9.out hs5)
                have HBY := hid (show ∀ z ∈ zs.take i ++ [(bb.toNat : Int)] ++ zs.drop i, 0 ≤ z ∧ z < 256 from fun z hz => by
                  rcases List.mem_append.1 hz with hz | hz
                  · rcases List.mem_append.1 hz with hz | hz
                    · exact BF5.out.byte z (List.mem_of_mem_take hz)
                    · rw [List.mem_singleton] at hz
                      rw [hz]; exact hbb
                  · exact BF5.out.byte z (List.mem_of_mem_drop hz))
                have hins := ins_len (zs.take i) (zs.drop i) (bb.toNat : Int)
                rw [HTL.out, HDL.out] at hins
                have HL9 := hid (show (zs.take i ++ [(bb.toNat : Int)] ++ zs.drop i).length + k' ≤ 202 by have h2 := HLEN.out; omega)
                obtain ⟨ra, rc, hrv, hrest⟩ := Own.rd (f := Value.int .u8) O9.out
                clear hrest
                subst hrv
                have BF9 := hid (Buf.of_own (O9.out.base hs5) HBY.out)
                clear O9 O8 O7 O6 OA B6 B8 B9 BA RD5 RD6 RD7 RD8 RDA HBY CU5 CU6 CU7 KP5 K7 BF5 hins hom2
                generalize zs.take i ++ [(bb.toNat : Int)] ++ zs.drop i = T at *
                go_wp2
                exact ⟨⟨k', rc, _, T, rfl, rfl, BF9.out, HL9.out, by omega, CU9.out, KP9.out⟩, by simp [intOf]; try omega⟩)
      · have hz00 : zs.length = 0 := by omega
        have hzi : ¬ (zs.length : Int) > 0 := by omega
        have hzd : decide (0 < zs.length) = false := decide_eq_false hz0
        have hcvt := run_text BF.out
        rw [hz00] at hcvt
        have hsz9 := textOf_size zs
        have HU := hid (show (textOf zs).size ≤ 300 by omega)
        clear hsz9
        generalize textOf zs = u at *
        go_wp2
        go_ret
        exact ⟨u, rfl, HU.out, CU.out, KP.out⟩
    · have hki : ¬ (k : Int) > 0 := by omega
      have hcvt := run_text BF.out
      have hsz9 := textOf_size zs
      have HU := hid (show (textOf zs).size ≤ 300 by omega)
      clear hsz9
      generalize textOf zs = u at *
      go_wp2
      go_ret
      exact ⟨u, rfl, HU.out, CU.out, KP.out⟩
end
end Go.Proofs.YtccohcdgcpcbjaaDoor
