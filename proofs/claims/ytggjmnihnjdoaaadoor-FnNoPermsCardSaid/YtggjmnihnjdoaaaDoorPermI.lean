/- Permutation graphs: the program's. -/
import Derived.Test.YtggjmnihnjdoaaaDoorOriI
import Derived.Test.YtggjmnihnjdoaaaDoorPermM
import Derived.Test.YtggjmnihnjdoaaaDoorOriS
namespace Go.Proofs.YtggjmnihnjdoaaaDoor
open Go.RowKit
section
set_option maxHeartbeats 2000000 in
theorem complement_any (ab ao c n : Nat) (A : List Nat) (w : World) (hA : GA n A) (hr : Rd maskF w (some ⟨ab, ao, none⟩) A) :
    Calls Tryd.prog 86 #[.slice (some ⟨ab, ao, none⟩) n c] w fun e w' => ∃ g cap, e = .returned (.slice (some ⟨g, 0, none⟩) n cap) ∧ Own 89 w' w.heap.size (.slice (some ⟨g, 0, none⟩) n cap) ((compA n A).map maskF) ∧ Below w.heap.size w w' := by
  have RA := hid hr
  have h16 := hA.le
  have hpos := hA.pos
  have HLEN := hid hA.len
  have HA2 := hid hA.in2
  clear hr hA
  have hpow : 2 ^ n ≤ 65536 := Nat.pow_le_pow_right (n := 2) (i := n) (j := 16) (by decide) h16
  obtain ⟨F, hF⟩ : ∃ F, F = 2 ^ n - 1 := ⟨_, rfl⟩
  have hF16 : F < 65536 := by have := Nat.two_pow_pos n; omega
  have HF := hid hF
  clear hF hpow
  have B0 := hid (alloc_below w (.cells #[] 89))
  have HO := hid (show Own 89 (w.alloc (.cells #[] 89)) w.heap.size (.slice (some ⟨w.heap.size, 0, none⟩) 0 0) (((compA n A).take 0).map maskF) from by
    simpa using own_new 89 w [] (by decide))
  go_enter Tryd.func86, Tryd.ntmps86
  go_wp2
  go_loopw [3, 4, 5, 9] (fun o _ _ i wr => ∃ k, k ≤ n ∧ i = .int .i64 (k : Nat) ∧ Own 89 wr w.heap.size o (((compA n A).take k).map maskF) ∧ Below w.heap.size w wr) (fun _ _ _ i _ => n - (intOf i).toNat)
  case atStart => exact ⟨0, Nat.zero_le _, rfl, HO.out, B0.out⟩
  case round =>
    obtain ⟨k, hk, rfl, ho, hb⟩ := hrel
    have HOM := hid ho; have HB := hid hb; clear ho hb
    by_cases hlt : k < n
    · have hkA : k < A.length := by have := HLEN.out; omega
      obtain ⟨b', o', hadd, hc⟩ := (RA.out.below HB.out (Nat.le_refl _)) k hkA
      obtain ⟨rfl, rfl⟩ : ab = b' ∧ ao = o' := by simpa using hadd
      rw [← getD_in hkA] at hc
      have hx := HA2.out k
      have hki : (k : Int) < (n : Int) := by omega
      have HS := hid (show (compA n A).take (k + 1) = (compA n A).take k ++ [dif (dif F (A.getD k 0)) (2 ^ k)] from by
        rw [List.take_succ_eq_append_getElem (by rw [compA_len]; exact hlt)]
        congr 2
        simp [compA, HF.out])
      have hpl : (((compA n A).take k).map maskF).length ≤ 16 := by rw [List.length_map, List.length_take]; omega
      have hBs := HB.out.size
      have hP : 2 ^ k < 65536 := Nat.pow_lt_pow_right (by decide) (show k < 16 by omega)
      have hpw : 2 ^ n ≤ 65536 := Nat.pow_le_pow_right (n := 2) (i := n) (j := 16) (by decide) h16
      have HFE := hid (show 2 ^ n - 1 = F from HF.out.symm)
      have hx16 : A.getD k 0 < 65536 := by omega
      clear hadd hx hpw
      generalize A.getD k 0 = X at *
      have HPE := hid (show 2 ^ k = 2 ^ k from rfl)
      generalize hPk : 2 ^ k = P at *
      have HPK := hid hPk
      clear hPk HPE
      have hd1 := u32_dif F X (by omega) (by omega)
      have hle1 : dif F X ≤ F := dif_le F X
      generalize dif F X = D1 at *
      have hd2 := u32_dif D1 P (by omega) (by omega)
      generalize dif D1 P = D2 at *
      unfold maskF at hc
      clear hle1
      go_wp2_with (first | (go_at_call 104; refine (all_p _ _ _ F _ h16 HFE.out).mono ?_; rintro e w' ⟨rfl, rfl⟩) | (go_at_call 100; refine (one_p k P _ (by omega) HPK.out).mono ?_; rintro e w' ⟨rfl, rfl⟩) | (at_builtin; refine law_push tNets _ rfl _ _ rfl w.heap.size _ (((compA n A).take k).map maskF) rfl HOM.out _ _ rfl ?c0 rfl ?c1 ?c2 ?_))
      case c0 => simp
      case c1 => omega
      case c2 => omega
      intro v' w' h1 h2
      have HN := hid h1
      have HBB := hid (HB.out.trans (grown_below h2 hBs (fun g hg => HOM.out.ge g hg)))
      clear h1 h2 HOM HB hc
      go_wp2
      go_roundw
      case rel => exact ⟨k + 1, by omega, by go_num, by rw [HS.out, List.map_append, List.map_take]; exact HN.out, HBB.out⟩
      case measure => simp [intOf]; omega
    · obtain rfl : k = n := by omega
      have HE := hid (show (compA k A).take k = compA k A from List.take_of_length_le (by rw [compA_len]; exact Nat.le_refl _))
      rw [HE.out] at HOM
      have HOM2 := hid HOM.out
      obtain ⟨g, cap, hg⟩ : ∃ g cap, u3 = .slice (some ⟨g, 0, none⟩) k cap := by
        rcases HOM.out.form with ⟨_, h2⟩ | ⟨g, cap, spare, h2, _⟩
        · have h3 := congrArg List.length h2
          simp [compA_len] at h3
          omega
        · exact ⟨g, cap, by rw [h2]; simp [compA_len]⟩
      subst hg
      go_wp2
      go_ret
      exact ⟨g, cap, rfl, HOM2.out, HB.out⟩
set_option maxHeartbeats 2000000 in
theorem lineBy_any (xb n cap : Nat) (X : List Nat) (pos : Nat → Nat) (w : World) (hl : X.length = n) (h16 : n ≤ 16) (hx : ∀ v, v < n → pcN 16 (X.getD v 0) + pos v + 1 = n) (hlt : ∀ v, X.getD v 0 < 65536) (hr : Rd maskF w (some ⟨xb, 0, none⟩) X) :
    Calls Tryd.prog 87 #[.slice (some ⟨xb, 0, none⟩) n cap] w (RetOwn 2 ((lineL n pos).map (.int .i64)) w) := by
  have RX := hid hr; have HL := hid hl; have HX := hid hx; have HLT := hid hlt
  clear hr hl hx hlt
  go_enter Tryd.func87, Tryd.ntmps87
  go_wp2_with (at_make; refine law_make tI64 _ rfl _ _ rfl n _ _ rfl rfl (by omega) ?_; intro wm hown hb hsz; have HO := hid hown; have B0 := hid hb; clear hown hb)
  have HO0 := hid (show Own 2 wm w.heap.size (.slice (some ⟨w.heap.size, 0, none⟩) n n) ((lineTo n pos 0).map (.int .i64)) from by
    have h := HO.out
    unfold lineTo
    simpa using h)
  clear HO
  go_loopw [4, 5, 11] (fun _ _ i wr => ∃ k, k ≤ n ∧ i = .int .i64 (k : Nat) ∧ Own 2 wr w.heap.size (.slice (some ⟨w.heap.size, 0, none⟩) n n) ((lineTo n pos k).map (.int .i64)) ∧ Below w.heap.size w wr) (fun _ _ i _ => n - (intOf i).toNat)
  case atStart => exact ⟨0, Nat.zero_le _, rfl, HO0.out, B0.out⟩
  case round =>
    obtain ⟨k, hk, rfl, ho, hb⟩ := hrel
    have HOM := hid ho; have HB := hid hb; clear ho hb
    by_cases hlt : k < n
    · have hkX : k < X.length := by have := HL.out; omega
      obtain ⟨b', o', hadd, hc⟩ := (RX.out.below HB.out (Nat.le_refl _)) k hkX
      obtain ⟨rfl, rfl⟩ : xb = b' ∧ 0 = o' := by simpa using hadd
      rw [← getD_in hkX, Nat.zero_add] at hc
      have hki : (k : Int) < (n : Int) := by omega
      have hpc := HX.out k hlt
      have hx16 := HLT.out k
      have HS := hid (lineTo_succ n pos k)
      have HLL := hid (show ((lineTo n pos k).map (Value.int .i64)).length = n by rw [List.length_map, lineTo_len])
      clear hadd
      generalize X.getD k 0 = Xk at *
      have HSZ := hid (fun (w : World) => size_any Xk w hx16)
      generalize pcN 16 Xk = pc at *
      generalize pos k = ps at *
      have hs1 : (n : Int) - 1 - (pc : Int) = (ps : Int) := by omega
      have hpsn : (ps : Int) < (n : Int) := by omega
      have hpc16 : pc < 16 := by omega
      have hps16 : ps < n := by omega
      unfold maskF at hc
      clear hpc
      go_wp2_with (first | (go_at_call 132; refine (HSZ.out _).mono ?_; rintro e w6 ⟨rfl, hd⟩; have HOM6 := hid (HOM.out.past (Drawn.bel hd) (Nat.le_refl _)); have HB6 := hid (bon HB.out (Drawn.bel hd)); obtain ⟨v0, c6⟩ := HOM6.out.cellE ps hps16; have hfr := HOM6.out.free ps; clear hd))
      have hst := HOM6.out.store ps (by rw [HLL.out]; exact hps16) (.int .i64 k)
      rw [← List.map_set, ← HS.out] at hst
      have HST := hid hst
      have HB7 := hid (Below.setCell HB6.out (p := ⟨w.heap.size, ps, none⟩) (Nat.le_refl _) (.int .i64 (k : Nat)))
      clear hst
      go_roundw
      case rel => exact ⟨k + 1, by omega, by go_num, HST.out, HB7.out⟩
      case measure => simp [intOf]; omega
    · obtain rfl : k = n := by omega
      go_wp2
      go_ret
      exact ⟨_, rfl, HOM.out, HB.out⟩
/-- The two lines of a permutation graph. -/
noncomputable def permG (g : List (List Int)) : Option (List Int × List Int) :=
  (oriG g).bind fun U => (oriN g.length (compA g.length (g.map maskL))).map fun S => (lineL g.length (posA U S g.length), lineL g.length (posB U S g.length))
def RetLines (x : Option (List Int × List Int)) (w : World) (e : Ending) (w' : World) : Prop :=
  ∃ y0 y1 m, e = .returned (.tuple #[y0, y1, .bool x.isSome]) ∧ Own 2 w' w.heap.size y0 (((x.map (·.1)).getD []).map (.int .i64)) ∧ Own 2 w' m y1 (((x.map (·.2)).getD []).map (.int .i64)) ∧ w.heap.size ≤ m ∧ m ≤ w'.heap.size ∧ (∀ g, y0.ownBlock = some g → g < m) ∧ Below w.heap.size w w'
def PStart (n : Nat) (w : World) (f s : Value) (wc : World) : Prop :=
  ∃ fb sb, f = .slice (some ⟨fb, 0, none⟩) n n ∧ s = .slice (some ⟨sb, 0, none⟩) n n ∧ fb ≠ sb ∧ Own 89 wc w.heap.size (.slice (some ⟨fb, 0, none⟩) n n) ((List.replicate n 0).map maskF) ∧ Own 89 wc w.heap.size (.slice (some ⟨sb, 0, none⟩) n n) ((List.replicate n 0).map maskF) ∧ Below w.heap.size w wc
theorem ps_two (n : Nat) (w W : World) (hw : Below w.heap.size w W) (hn : n ≤ 16) (hsz : W.heap.size = w.heap.size) :
    let X := (W.alloc (.cells (madeCells #[.int .u32 0] n) 89)).alloc (.cells (madeCells #[.int .u32 0] n) 89)
    Own 89 X w.heap.size (.slice (some ⟨w.heap.size, 0, none⟩) n n) ((List.replicate n 0).map maskF) ∧ Own 89 X w.heap.size (.slice (some ⟨w.heap.size + 1, 0, none⟩) n n) ((List.replicate n 0).map maskF) ∧ Below w.heap.size w X := by
  intro X
  have h1 : (W.alloc (.cells (madeCells #[.int .u32 0] n) 89)).heap[w.heap.size]? = some (.cells (madeCells #[.int .u32 0] n) 89 (0, 0)) := by
    show (W.heap.push _)[w.heap.size]? = _
    rw [← hsz]; simp
  have h2 : X.heap[w.heap.size + 1]? = some (.cells (madeCells #[.int .u32 0] n) 89 (0, 0)) := by
    show ((W.heap.push _).push _)[w.heap.size + 1]? = _
    rw [← hsz]
    rw [Array.getElem?_push]
    simp
  have o1 := own_repO 89 _ w.heap.size w.heap.size n (Nat.le_refl _) h1 hn
  have o2 := own_repO 89 X w.heap.size (w.heap.size + 1) n (Nat.le_succ _) h2 hn
  exact ⟨o1.past (alloc_below _ _) (Nat.le_refl _), o2, (hw.alloc (by omega) _).alloc (by simp; omega) _⟩
theorem tVsets : SliceT Tryd.prog 73 89 (.int .u32 0) := ⟨Tryd.underlying73, 4, by decide, by kernel_rfl, rfl⟩
set_option maxHeartbeats 8000000 in
theorem implPermsOf_any (a : Option Addr) (rs : List Row) (c : Nat) (w : World) (hr : RdM w a rs) (hn : Small rs) (hT : TabOk w) :
    Calls Tryd.prog 34 #[.agg #[.slice a rs.length c]] w (RetLines (permG (nums rs)) w) := by
  have RA := hid hr; have RT := hid hT; clear hr hT
  obtain ⟨w0, hw0⟩ : ∃ w0, w0 = (w.alloc (.cells #[.slice a rs.length c] 28)) := ⟨_, rfl⟩
  have B0 := hid (show Below w.heap.size w w0 by rw [hw0]; exact ((Below.refl _ _).alloc (Nat.le_refl _) _))
  have c0 : w0.cell? ⟨w.heap.size, 0, none⟩ = some (.slice a rs.length c) := by rw [hw0]; simp [go_sem]
  replace RA := hid (RA.out.below B0.out (Nat.le_refl _))
  replace RT := hid (RT.out.below B0.out (Nat.le_refl _))
  have HW := hid hw0; clear hw0
  by_cases hg : GOk (nums rs)
  · have H1 := hid (show decide (GOk (nums rs)) = true by simpa using hg)
    have HG := hid hg
    have HGA := hid (show GA rs.length ((nums rs).map maskL) by have := GA.of hg; rwa [nums_length] at this)
    have HE := hid (show permG (nums rs) = (oriN rs.length ((nums rs).map maskL)).bind fun U => (oriN rs.length (compA rs.length ((nums rs).map maskL))).map fun S => (lineL rs.length (posA U S rs.length), lineL rs.length (posB U S rs.length)) by unfold permG oriG; rw [if_pos hg, nums_length])
    have h16 := HGA.out.le
    have hpos := HGA.out.pos
    clear hg
    go_enter Tryd.func34, Tryd.ntmps34
    go_wp2_with fail
    rw [← HW.out]
    go_wp2_with fail
    refine (implGraphOk_b a rs c _ true H1.out RA.out hn).mono ?_
    rintro e w1 ⟨rfl, hb⟩
    replace RA := hid (RA.out.below hb (Nat.le_refl _))
    replace RT := hid (RT.out.below hb (Nat.le_refl _))
    replace B0 := hid (bon B0.out hb)
    replace c0 := cellB hb c0 (Nat.le_refl _)
    clear hb
    go_wp2_with fail
    refine (netsOf_any a rs c _ HG.out RA.out hn).mono ?_
    rintro e w2 ⟨nv, rfl, hown, hb⟩
    obtain ⟨na, nc, rfl, hsr, _, _, _, _⟩ := Own.rd (f := netF) hown
    have RN2 := hid hsr.masks
    rw [nums_length]
    have BV2 := hid (bon B0.out hb); have RT2 := hid (RT.out.below hb (Nat.le_refl _))
    obtain ⟨nb, no, hna⟩ : ∃ b o, na = some ⟨b, o, none⟩ := by
      obtain ⟨b, o, h1, _⟩ := RN2.out 0 (by rw [HGA.out.len]; exact HGA.out.pos)
      exact ⟨b, o, h1⟩
    subst hna
    clear hown hsr hb c0
    generalize (nums rs).map maskL = A at *
    go_wp2_with fail
    refine (oriented_any nb no nc rs.length _ _ HGA.out RN2.out RT2.out).mono ?_
    rintro e w3 ⟨hb3, hc3⟩
    have BV3 := hid (bon BV2.out hb3); have RT3 := hid (RT2.out.below hb3 (Nat.le_refl _)); have RN3 := hid (RN2.out.below hb3 (Nat.le_refl _))
    have HC3 := hid hc3
    clear hc3
    obtain ⟨v3, hv3⟩ : ∃ v3, e = .returned v3 := by
      rcases HC3.out with ⟨H, g, cap, _, h, _⟩ | ⟨_, h⟩
      · exact ⟨_, h⟩
      · exact ⟨_, h⟩
    subst hv3
    go_wp2_with fail
    refine (complement_any nb no nc rs.length A _ HGA.out RN3.out).mono ?_
    rintro e w4 ⟨cg, cc, rfl, hown4, hb4⟩
    have BV4 := hid (bon BV3.out hb4); have RT4 := hid (RT3.out.below hb4 (Nat.le_refl _)); have RN4 := hid (RN3.out.below hb4 (Nat.le_refl _))
    have RC4 := hid (own_rdN hown4)
    clear hown4
    go_wp2_with fail
    refine (oriented_any cg 0 cc rs.length _ _ HGA.out.comp RC4.out RT4.out).mono ?_
    rintro e w5 ⟨hb5, hc5⟩
    have BV5 := hid (bon BV4.out hb5); have RT5 := hid (RT4.out.below hb5 (Nat.le_refl _)); have RN5 := hid (RN4.out.below hb5 (Nat.le_refl _))
    rcases HC3.out with ⟨U, ug, uc, hu, hv3, hou⟩ | ⟨hu, hv3⟩
    · injection hv3 with hv3
      subst hv3
      rcases hc5 with ⟨S, sg, sc, hs, rfl, hos⟩ | ⟨hs, rfl⟩
      · have RU5 := hid (own_rdN ((hou.past hb4 (Nat.le_refl _)).past hb5 (Nat.le_refl _)))
        have RS5 := hid (own_rdN hos)
        have HU := hid (oriN_ok HGA.out hu)
        have HS := hid (oriN_ok HGA.out.comp hs)
        have HEE := hid (show permG (nums rs) = some (lineL rs.length (posA U S rs.length), lineL rs.length (posB U S rs.length)) by rw [HE.out, hu, hs]; rfl)
        have hn1 := eql_nilN (some ⟨ug, 0, none⟩) rs.length uc w5
        have hn2 := eql_nilN (some ⟨sg, 0, none⟩) rs.length sc w5
        clear hou hos hu hs hb3 hb4 hb5 HC3
        have hmk := run_make_row' (P := Tryd.prog) 73 89 (.int .u32 0) 4 Tryd.underlying73 (by kernel_rfl) rfl .i64 .i64 rs.length (by omega) (by omega)
        go_wp2_with fail
        go_cut [8, 9] from 27 (fun f s wc => PStart rs.length w5 f s wc)
        case first =>
          go_region_held3 (fun _ => True) (first | exact trivial) (fail)
          all_goals (go_wp2_with fail; go_meet)
          all_goals (
            obtain ⟨q1, q2, q3⟩ := ps_two rs.length w5 w5 (Below.refl _ _) h16 rfl
            have q4 : ∀ B, Below B ((w5.alloc (.cells (madeCells #[.int .u32 0] rs.length) 89)).alloc (.cells (madeCells #[.int .u32 0] rs.length) 89)) ((w5.alloc (.cells (madeCells #[.int .u32 0] rs.length) 89)).alloc (.cells (madeCells #[.int .u32 0] rs.length) 89)).drew := fun B => Drawn.below ⟨1, rfl⟩ B
            first
            | exact ⟨_, _, rfl, rfl, by omega, q1.past (q4 _) (Nat.le_refl _), q2.past (q4 _) (Nat.le_refl _), q3.trans (q4 _)⟩
            | exact ⟨_, _, rfl, rfl, by omega, q2.past (q4 _) (Nat.le_refl _), q1.past (q4 _) (Nat.le_refl _), q3.trans (q4 _)⟩)
        case rest =>
          obtain ⟨fb, sb, rfl, rfl, hne, ho1, ho2, hb⟩ := hcut
          have OF0 := hid ho1; have OS0 := hid ho2; have BL0 := hid hb; have HNE := hid hne
          have HRZ := hid (show ∀ v, (List.replicate rs.length 0).getD v 0 < 65536 from fun x => by rw [List.getD_eq_getElem?_getD, List.getElem?_replicate]; split <;> decide)
          have HLA := hid HGA.out.len; have HLU := hid HU.out.len; have HLS := hid HS.out.len
          have HA2 := hid HGA.out.in2; have HU2 := hid (HU.out.in2 HGA.out); have HS2 := hid (HS.out.in2 HGA.out.comp)
          have HP2 := hid (show 2 ^ rs.length ≤ 65536 from Nat.pow_le_pow_right (n := 2) (i := rs.length) (j := 16) (by decide) h16)
          have RT6 := hid RT5.out
          clear ho1 ho2 hb hmk hn1 hn2 hne
          go_wp2
          go_loopw [10, 35] (fun _ x wr => ∃ (v : Nat) (X Y : List Nat), v ≤ rs.length ∧ x = .int .i64 v ∧ X.length = rs.length ∧ Y.length = rs.length ∧ (∀ u, u < v → X.getD u 0 = U.getD u 0 ||| S.getD u 0 ∧ Y.getD u 0 = dif (A.getD u 0) (U.getD u 0) ||| S.getD u 0) ∧ (∀ u, X.getD u 0 < 65536) ∧ (∀ u, Y.getD u 0 < 65536) ∧ Own 89 wr w5.heap.size (.slice (some ⟨fb, 0, none⟩) rs.length rs.length) (X.map maskF) ∧ Own 89 wr w5.heap.size (.slice (some ⟨sb, 0, none⟩) rs.length rs.length) (Y.map maskF) ∧ Below w5.heap.size w5 wr) (fun _ x _ => rs.length - (intOf x).toNat)
          case atStart => exact ⟨0, _, _, Nat.zero_le _, rfl, by simp, by simp, (fun u hu => absurd hu (Nat.not_lt_zero u)), HRZ.out, HRZ.out, OF0.out, OS0.out, BL0.out⟩
          case round =>
            obtain ⟨v, X, Y, hv, rfl, hxl, hyl, hxy, hx16, hy16, hox, hoy, hb⟩ := hrel
            have OX := hid hox; have OY := hid hoy; have BL := hid hb; have HXL := hid hxl; have HYL := hid hyl; have HXY := hid hxy; have HX16 := hid hx16; have HY16 := hid hy16
            have RNr := hid (RN5.out.below hb (Nat.le_refl _)); have RUr := hid (RU5.out.below hb (Nat.le_refl _)); have RSr := hid (RS5.out.below hb (Nat.le_refl _))
            clear hox hoy hb hxl hyl hxy hx16 hy16 OF0 OS0 BL0
            by_cases hlt : v < rs.length
            · have hvi : (v : Int) < (rs.length : Int) := by omega
              obtain ⟨b1, o1, h1, ca⟩ := RNr.out v (by rw [HLA.out]; exact hlt)
              obtain ⟨b2, o2, h2, cu⟩ := RUr.out v (by rw [HLU.out]; exact hlt)
              obtain ⟨b3, o3, h3, cs⟩ := RSr.out v (by rw [HLS.out]; exact hlt)
              obtain ⟨rfl, rfl⟩ : nb = b1 ∧ no = o1 := by simpa using h1
              obtain ⟨rfl, rfl⟩ : ug = b2 ∧ 0 = o2 := by simpa using h2
              obtain ⟨rfl, rfl⟩ : sg = b3 ∧ 0 = o3 := by simpa using h3
              obtain ⟨b4, o4, h4, ca5⟩ := RN5.out v (by rw [HLA.out]; exact hlt)
              obtain ⟨b5, o5, h5, cu5⟩ := RU5.out v (by rw [HLU.out]; exact hlt)
              obtain ⟨b6, o6, h6, cs5⟩ := RS5.out v (by rw [HLS.out]; exact hlt)
              obtain ⟨rfl, rfl⟩ : nb = b4 ∧ no = o4 := by simpa using h4
              obtain ⟨rfl, rfl⟩ : ug = b5 ∧ 0 = o5 := by simpa using h5
              obtain ⟨rfl, rfl⟩ : sg = b6 ∧ 0 = o6 := by simpa using h6
              rw [Nat.zero_add] at cu5 cs5
              clear h4 h5 h6
              rw [← getD_in (by rw [HLA.out]; exact hlt)] at ca
              rw [← getD_in (by rw [HLU.out]; exact hlt), Nat.zero_add] at cu
              rw [← getD_in (by rw [HLS.out]; exact hlt), Nat.zero_add] at cs
              have ha16 : A.getD v 0 < 65536 := Nat.lt_of_lt_of_le (HA2.out v) HP2.out
              have hu16 : U.getD v 0 < 65536 := Nat.lt_of_lt_of_le (HU2.out v) HP2.out
              have hs16 : S.getD v 0 < 65536 := Nat.lt_of_lt_of_le (HS2.out v) HP2.out
              have hor1 := u32_or_nat (U.getD v 0) (S.getD v 0) (by omega) (by omega)
              have hdf1 := u32_dif (A.getD v 0) (U.getD v 0) (by omega) (by omega)
              have hor2 := u32_or_nat (dif (A.getD v 0) (U.getD v 0)) (S.getD v 0) (by have := dif_le (A.getD v 0) (U.getD v 0); omega) (by omega)
              have HXE := hid (show U.getD v 0 ||| S.getD v 0 = U.getD v 0 ||| S.getD v 0 from rfl)
              have HX1 := hid (show U.getD v 0 ||| S.getD v 0 < 65536 from Nat.or_lt_two_pow (n := 16) hu16 hs16)
              have HY1 := hid (show dif (A.getD v 0) (U.getD v 0) ||| S.getD v 0 < 65536 from Nat.or_lt_two_pow (n := 16) (Nat.lt_of_le_of_lt (dif_le _ _) ha16) hs16)
              have HNX := hid (show ∀ u, u < v + 1 → (X.set v (U.getD v 0 ||| S.getD v 0)).getD u 0 = U.getD u 0 ||| S.getD u 0 ∧ (Y.set v (dif (A.getD v 0) (U.getD v 0) ||| S.getD v 0)).getD u 0 = dif (A.getD u 0) (U.getD u 0) ||| S.getD u 0 from by
                intro u hu
                rw [setN_getD (by rw [HXL.out]; exact hlt), setN_getD (by rw [HYL.out]; exact hlt)]
                by_cases e : u = v
                · subst e; rw [if_pos rfl, if_pos rfl]; exact ⟨rfl, rfl⟩
                · rw [if_neg e, if_neg e]; exact HXY.out u (by omega))
              clear h1 h2 h3 HXE
              generalize hGA : A.getD v 0 = xa at *
              generalize hGU : U.getD v 0 = xu at *
              generalize hGS : S.getD v 0 = xs at *
              clear hGA hGU hGS
              generalize xu ||| xs = x1 at *
              generalize dif xa xu = xd at *
              generalize xd ||| xs = y1 at *
              unfold maskF at ca cu cs ca5 cu5 cs5
              have HCA5 := hid ca5; have HCU5 := hid cu5; have HCS5 := hid cs5
              clear ca5 cu5 cs5
              have hfrx := OX.out.free v
              have hfry := OY.out.free v
              obtain ⟨vx, cx⟩ := OX.out.cellE v hlt
              obtain ⟨vy, cy⟩ := OY.out.cellE v hlt
              go_wp2_with fail
              have qca := fun (p : Bel _) => cellB p.h ca (Nat.le_refl _)
              have qcu := fun (p : Bel _) => cellB p.h cu (Nat.le_refl _)
              have qcs := fun (p : Bel _) => cellB p.h cs (Nat.le_refl _)
              refine wp_quiet_tail_b 11 (by kernel_rfl) (by kernel_rfl) ?_
              simp only [List.take_succ_cons, List.take_zero, List.drop_succ_cons, List.drop_zero]
              repeat (go_big_quiet_step (fail))
              refine wpQuiet_nil ?_
              intro _ hw'
              obtain ⟨⟨w2, hb⟩, rfl⟩ := hw'
              clear qca qcu qcs
              replace OX := hid (OX.out.past hb (Nat.le_refl _))
              replace OY := hid (OY.out.past hb (Nat.le_refl _))
              replace BL := hid (bon BL.out hb)
              replace RNr := hid (RNr.out.below hb (Nat.le_refl _))
              replace RUr := hid (RUr.out.below hb (Nat.le_refl _))
              replace RSr := hid (RSr.out.below hb (Nat.le_refl _))
              replace ca := cellB hb ca (Nat.le_refl _)
              replace cu := cellB hb cu (Nat.le_refl _)
              replace cs := cellB hb cs (Nat.le_refl _)
              clear hb
              rename_i wt
              have hst := OX.out.store v (by rw [List.length_map, HXL.out]; exact hlt) (maskF x1)
              rw [← List.map_set] at hst
              have hfr2 := OX.out.free v
              obtain ⟨vx2, cx2⟩ := OX.out.cellE v hlt
              have OX2 := hid hst
              have OY2 := hid (OY.out.setCell_other ⟨fb, v, none⟩ (maskF x1) (.inr (by simpa [Value.ownBlock] using fun e => HNE.out e.symm)))
              have K2 := hid (Kept.setCell (S := fun g => g = fb) (Kept.of_below _ (Below.refl wt.heap.size wt)) (p := ⟨fb, v, none⟩) rfl (maskF x1))
              have hfx := OX.out.ge fb rfl
              have hfxl := OX.out.lt fb rfl
              have BL2 := hid (Below.setCell BL.out (p := ⟨fb, v, none⟩) hfx (maskF x1))
              have hnb : nb ≠ fb := by
                have h9 := World.block_lt_of_cell? _ _ (show w5.cell? ⟨nb, no + v, none⟩ = some _ from HCA5.out)
                simp only at h9; omega
              have hub : ug ≠ fb := by
                have h9 := World.block_lt_of_cell? _ _ (show w5.cell? ⟨ug, v, none⟩ = some _ from HCU5.out)
                simp only at h9; omega
              have hsb : sg ≠ fb := by
                have h9 := World.block_lt_of_cell? _ _ (show w5.cell? ⟨sg, v, none⟩ = some _ from HCS5.out)
                simp only at h9; omega
              have ca2 := cellK K2.out ca hnb
              have cu2 := cellK K2.out cu hub
              have cs2 := cellK K2.out cs hsb
              unfold maskF at OX2 OY2 K2 BL2 ca2 cu2 cs2
              clear hst OX OY BL K2 RNr RUr RSr hfrx hfry cx cy
              go_wp2
              clear ca cu cs hfr2 cx2
              generalize wt.setCell ⟨fb, v, none⟩ (.int .u32 (x1 : Nat)) = wu at *
              have OX := hid (show Own 89 wu w5.heap.size (.slice (some ⟨fb, 0, none⟩) rs.length rs.length) ((X.set v x1).map maskF) from OX2.out); have OY := hid (show Own 89 wu w5.heap.size (.slice (some ⟨sb, 0, none⟩) rs.length rs.length) (Y.map maskF) from OY2.out); have BL := hid BL2.out; have ca := ca2; have cu := cu2; have cs := cs2
              clear OX2 OY2 BL2 ca2 cu2 cs2
              have qca := fun (p : Bel _) => cellB p.h ca (Nat.le_refl _)
              have qcu := fun (p : Bel _) => cellB p.h cu (Nat.le_refl _)
              have qcs := fun (p : Bel _) => cellB p.h cs (Nat.le_refl _)
              refine wp_quiet_tail_b 16 (by kernel_rfl) (by kernel_rfl) ?_
              simp only [List.take_succ_cons, List.take_zero, List.drop_succ_cons, List.drop_zero]
              repeat (go_big_quiet_step (fail))
              refine wpQuiet_nil ?_
              intro _ hw'
              obtain ⟨⟨w3, hb⟩, rfl⟩ := hw'
              clear qca qcu qcs
              replace OX := hid (OX.out.past hb (Nat.le_refl _))
              replace OY := hid (OY.out.past hb (Nat.le_refl _))
              replace BL := hid (bon BL.out hb)
              replace ca := cellB hb ca (Nat.le_refl _)
              replace cu := cellB hb cu (Nat.le_refl _)
              replace cs := cellB hb cs (Nat.le_refl _)
              clear hb
              rename_i wz
              have hst := OY.out.store v (by rw [List.length_map, HYL.out]; exact hlt) (maskF y1)
              rw [← List.map_set] at hst
              have hfr3 := OY.out.free v
              obtain ⟨vy2, cy2⟩ := OY.out.cellE v hlt
              have hsx := OY.out.ge sb rfl
              have OY3 := hid hst
              have OX3 := hid (OX.out.setCell_other ⟨sb, v, none⟩ (maskF y1) (.inr (by simpa [Value.ownBlock] using HNE.out)))
              have BL3 := hid (Below.setCell BL.out (p := ⟨sb, v, none⟩) hsx (maskF y1))
              have HX3 := hid (show ∀ u, (X.set v x1).getD u 0 < 65536 from fun u => by
                rw [setN_getD (by rw [HXL.out]; exact hlt)]
                split
                · exact HX1.out
                · exact HX16.out u)
              have HY3 := hid (show ∀ u, (Y.set v y1).getD u 0 < 65536 from fun u => by
                rw [setN_getD (by rw [HYL.out]; exact hlt)]
                split
                · exact HY1.out
                · exact HY16.out u)
              unfold maskF at OX3 OY3 BL3
              clear hst OX OY BL
              go_wp2
              go_roundw
              case rel => exact ⟨v + 1, X.set v x1, Y.set v y1, by omega, by go_num, by rw [List.length_set]; exact HXL.out, by rw [List.length_set]; exact HYL.out, HNX.out, HX3.out, HY3.out, OX3.out, OY3.out, BL3.out⟩
              case measure => simp [intOf]; omega
            · obtain rfl : v = rs.length := by omega
              have HPX := hid (show ∀ u, u < rs.length → pcN 16 (X.getD u 0) + posA U S rs.length u + 1 = rs.length from fun u hu => by rw [(HXY.out u hu).1]; exact first_size HGA.out HU.out HS.out hu)
              have HPY := hid (show ∀ u, u < rs.length → pcN 16 (Y.getD u 0) + posB U S rs.length u + 1 = rs.length from fun u hu => by rw [(HXY.out u hu).2]; exact second_size HGA.out HU.out HS.out hu)
              have RX := hid (own_rdN OX.out); have RY := hid (own_rdN OY.out)
              have hsz5 := BL.out.size
              have hw5 := BV5.out.size
              have BW := hid (BV5.out.trans (BL.out.mono hw5))
              clear OX OY BL
              go_wp2_with fail
              refine (lineBy_any fb rs.length rs.length X (posA U S rs.length) _ HXL.out h16 HPX.out HX16.out RX.out).mono ?_
              rintro e w7 ⟨y0, rfl, hown7, hb7⟩
              have O7 := hid hown7; have RY7 := hid (RY.out.below hb7 (Nat.le_refl _)); have BW7 := hid (bon BW.out hb7)
              have hs7 := hb7.size
              clear hown7 hb7
              go_wp2_with fail
              refine (lineBy_any sb rs.length rs.length Y (posB U S rs.length) _ HYL.out h16 HPY.out HY16.out RY7.out).mono ?_
              rintro e w8 ⟨y1, rfl, hown8, hb8⟩
              have O8 := hid hown8; have O78 := hid ((O7.out.past hb8 (Nat.le_refl _)).base (B' := w.heap.size) (by omega)); have BW8 := hid (bon BW7.out hb8)
              have HLT := hid (fun g hg => O7.out.lt g hg)
              have hs8 := hb8.size
              clear hown8 hb8
              go_wp2
              go_ret3
              rw [HEE.out]
              exact ⟨_, _, w7.heap.size, rfl, O78.out, O8.out, by omega, hs8, HLT.out, BW8.out⟩
      · have HEE := hid (show permG (nums rs) = none by rw [HE.out, hu, hs]; rfl)
        have hn1 := eql_nilN (some ⟨ug, 0, none⟩) rs.length uc w5
        have hn2 := eql_nilN none 0 0 w5
        clear hou hu hs hb3 hb4 hb5 HC3
        go_wp2
        go_ret3
        rw [HEE.out]
        exact ⟨_, _, w.heap.size, rfl, Own.nil _ _ _, Own.nil _ _ _, Nat.le_refl _, BV5.out.size, (fun g hg => by cases hg), BV5.out⟩
    · injection hv3 with hv3
      subst hv3
      have HEE := hid (show permG (nums rs) = none by rw [HE.out, hu]; rfl)
      have hn1 := eql_nilN none 0 0 w5
      clear hu hb3 hb4 hb5 HC3
      obtain ⟨v5, hv5⟩ : ∃ v5, e = .returned v5 := by
        rcases hc5 with ⟨H, g, cap, _, h, _⟩ | ⟨_, h⟩
        · exact ⟨_, h⟩
        · exact ⟨_, h⟩
      subst hv5
      clear hc5
      go_wp2
      go_ret3
      rw [HEE.out]
      exact ⟨_, _, w.heap.size, rfl, Own.nil _ _ _, Own.nil _ _ _, Nat.le_refl _, BV5.out.size, (fun g hg => by cases hg), BV5.out⟩
  · have H1 := hid (show decide (GOk (nums rs)) = false by simpa using hg)
    have HEE := hid (show permG (nums rs) = none by unfold permG oriG; rw [if_neg hg]; rfl)
    clear hg
    go_enter Tryd.func34, Tryd.ntmps34
    go_wp2_with fail
    rw [← HW.out]
    go_wp2_with fail
    refine (implGraphOk_b a rs c _ false H1.out RA.out hn).mono ?_
    rintro e w4 ⟨rfl, hb⟩
    replace RA := hid (RA.out.below hb (Nat.le_refl _))
    replace RT := hid (RT.out.below hb (Nat.le_refl _))
    replace B0 := hid (bon B0.out hb)
    replace c0 := cellB hb c0 (Nat.le_refl _)
    clear hb
    go_wp2
    go_ret3
    rw [HEE.out]
    exact ⟨_, _, w.heap.size, rfl, Own.nil _ _ _, Own.nil _ _ _, Nat.le_refl _, B0.out.size, (fun g hg => by cases hg), B0.out⟩
end
end Go.Proofs.YtggjmnihnjdoaaaDoor
