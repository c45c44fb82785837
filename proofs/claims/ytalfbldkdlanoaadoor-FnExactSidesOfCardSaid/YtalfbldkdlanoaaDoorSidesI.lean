/- SidesOf: the program's. -/
import Derived.Test.YtalfbldkdlanoaaDoorSidesS
import Derived.Test.YtalfbldkdlanoaaDoorDeg
import Derived.Test.YtalfbldkdlanoaaDoorBagM
namespace Go.Proofs.YtalfbldkdlanoaaDoor
open Go.RowKit
def MaskR (g : List (List Int)) (L : List Nat) (W : Nat) : Prop := ∀ v, W.testBit v = true ↔ v < g.length ∧ rootV g v ∈ L
theorem MaskR.lowest {g : List (List Int)} {r W : Nat} {L : List Nat} (h : MaskR g (r :: L) W) (hr : r < g.length) (hroot : rootV g r = r) (hmin : ∀ x ∈ L, r < x) (hW : W < 4294967296) : W ≠ 0 ∧ low W = r := by
  have hb : W.testBit r = true := (h r).2 ⟨hr, by rw [hroot]; simp⟩
  have h0 : W ≠ 0 := by rintro rfl; simp at hb
  refine ⟨h0, ?_⟩
  have h1 := low_least h0 hW hb
  obtain ⟨h2, h3⟩ := (h _).1 (low_bit h0 hW)
  have h4 := (root_spec g (low W)).2.1
  rcases List.mem_cons.1 h3 with h5 | h5
  · omega
  · have := hmin _ h5; omega
theorem MaskR.nil {g : List (List Int)} {W : Nat} (h : MaskR g [] W) : W = 0 := by
  apply Nat.eq_of_testBit_eq
  intro i
  rw [Nat.zero_testBit]
  cases hb : W.testBit i with
  | false => rfl
  | true => have := ((h i).1 hb).2; simp at this
theorem MaskR.tail {g : List (List Int)} {r W : Nat} {L : List Nat} (h : MaskR g (r :: L) W) (hmin : ∀ x ∈ L, r < x) : MaskR g L (dif W (maskL (partV g r))) := by
  intro v
  rw [testBit_dif, Bool.and_eq_true, h v, List.mem_cons]
  have e : (maskL (partV g r)).testBit v = decide ((v : Int) ∈ partV g r) := testBit_maskL _ v (fun x hx => by obtain ⟨u, _, _, rfl⟩ := partV_mem.1 hx; omega)
  rw [e]
  have e2 : (v : Int) ∈ partV g r ↔ v < g.length ∧ rootV g v = r := by
    rw [partV_mem]
    constructor
    · rintro ⟨u, h1, h2, h3⟩
      have : u = v := by omega
      subst this; exact ⟨h1, h2⟩
    · rintro ⟨h1, h2⟩; exact ⟨v, h1, h2, rfl⟩
  constructor
  · rintro ⟨⟨h1, h2⟩, h3⟩
    refine ⟨h1, h2.resolve_left (fun h4 => ?_)⟩
    have h5 : decide ((v : Int) ∈ partV g r) = true := by rw [decide_eq_true_iff, e2]; exact ⟨h1, h4⟩
    rw [h5] at h3; cases h3
  · rintro ⟨h1, h2⟩
    refine ⟨⟨h1, .inr h2⟩, ?_⟩
    have h5 : decide ((v : Int) ∈ partV g r) = false := by
      rw [decide_eq_false_iff_not, e2]
      rintro ⟨_, h4⟩
      have := hmin _ h2; omega
    rw [h5]; rfl
theorem part_mask {g : List (List Int)} (hg : GOk g) {r T R : Nat} {L : List Nat} (hr : r < g.length) (hroot : rootV g r = r) (hT : MaskR g (r :: L) T) (hR : ∀ u, R.testBit u = true ↔ Leads (g.map maskL) T r u) : R = maskL (partV g r) := by
  apply Nat.eq_of_testBit_eq
  intro v
  have e : (maskL (partV g r)).testBit v = decide ((v : Int) ∈ partV g r) := testBit_maskL _ v (fun x hx => by obtain ⟨u, _, _, rfl⟩ := partV_mem.1 hx; omega)
  rw [e, Bool.eq_iff_iff, hR v, decide_eq_true_iff, leads_part hg hr hroot (fun u hu => ((hT u).1 hu).1) (fun u hu h => (hT u).2 ⟨hu, by rw [h]; simp⟩) v, partV_mem]
  constructor
  · rintro ⟨h1, h2⟩; exact ⟨v, h1, h2, rfl⟩
  · rintro ⟨u, h1, h2, h3⟩
    have : u = v := by omega
    subst this; exact ⟨h1, h2⟩
noncomputable def partM (g : List (List Int)) (r : Nat) : Nat := maskL (partV g r)
theorem partM_lt (g : List (List Int)) (r : Nat) : partM g r < 2 ^ g.length := by
  refine mask_lt _ _ (fun i hi => ?_)
  unfold partM at hi
  rw [testBit_maskL _ i (fun x hx => by obtain ⟨u, _, _, rfl⟩ := partV_mem.1 hx; omega), decide_eq_true_iff] at hi
  obtain ⟨u, h1, _, h3⟩ := partV_mem.1 hi
  omega
theorem partM_bit {g : List (List Int)} (r u : Nat) : (partM g r).testBit u = true ↔ u < g.length ∧ rootV g u = r := by
  unfold partM
  rw [testBit_maskL _ u (fun x hx => by obtain ⟨u, _, _, rfl⟩ := partV_mem.1 hx; omega), decide_eq_true_iff, partV_mem]
  constructor
  · rintro ⟨v, h1, h2, h3⟩
    have : v = u := by omega
    subst this; exact ⟨h1, h2⟩
  · rintro ⟨h1, h2⟩; exact ⟨u, h1, h2, rfl⟩
set_option maxRecDepth 100000 in
set_option maxHeartbeats 4000000 in
theorem partsOf_any (a : Option Addr) (g : List (List Int)) (A : List Nat) (n c F : Nat) (w : World) (hg : GOk g) (hA : g.map maskL = A) (hn : A.length = n) (hF : 2 ^ n - 1 = F) (hT : TabOk w) (hr : Rd maskF w a A) :
    Calls Tryd.prog 94 #[.slice a n c, .int .u32 F] w (RetOwn 82 ((rootsTo g g.length).map fun r => maskF (partM g r)) w) := by
  have RA := hid hr; have RT := hid hT; clear hr hT
  have hgl : g.length = n := by rw [← hn, ← hA, List.length_map]
  have h16 : n ≤ 16 := by rw [← hgl]; exact hg.le
  have hp : 2 ^ n ≤ 65536 := Nat.pow_le_pow_right (n := 2) (i := n) (j := 16) (by decide) h16
  have HA16 := hid (show ∀ x ∈ A, x < 65536 by rw [← hA]; exact in16_of hg)
  obtain ⟨RTL, hRTL⟩ : ∃ L, rootsTo g g.length = L := ⟨_, rfl⟩
  have HROOT := hid (fun i (hi : i < RTL.length) => (show RTL[i] < g.length ∧ rootV g RTL[i] = RTL[i] from rootsTo_mem.1 (by rw [hRTL]; exact List.getElem_mem hi)))
  have HSORT := hid (show RTL.Pairwise (· < ·) by rw [← hRTL]; exact rootsTo_sorted _ _)
  have hrlen : RTL.length ≤ 16 := by rw [← hRTL]; exact Nat.le_trans (rootsTo_len _ _) hg.le
  have hpos := Nat.two_pow_pos n
  have HF0 := hid (show F < 2 ^ n by omega)
  have HM0 := hid (show MaskR g RTL F from fun v => by
    rw [← hF, Nat.testBit_two_pow_sub_one, ← hgl]
    constructor
    · intro h
      have hv : v < g.length := by simpa using h
      exact ⟨hv, by rw [← hRTL]; exact rootsTo_mem.2 ⟨by have := (root_spec g v).2.1; omega, root_idem _ _⟩⟩
    · rintro ⟨h, _⟩; simpa using h)
  have HO := hid (show Own 82 (w.alloc (.cells #[] 82)) w.heap.size (.slice (some ⟨w.heap.size, 0, none⟩) 0 0) [] from own_new 82 w [] (by decide))
  have B0 := hid (alloc_below w (.cells #[] 82))
  rw [hRTL]
  have HA := hid hA; have HLN := hid hn; have HGL := hid hgl
  clear hRTL hA hn hgl hF hpos
  go_enter Tryd.func94, Tryd.ntmps94
  go_wp2
  go_loopw [1, 5, 6] (fun x o _ wr => ∃ (W k : Nat), x = .int .u32 W ∧ W < 2 ^ n ∧ k ≤ RTL.length ∧ MaskR g (RTL.drop k) W ∧ Own 82 wr w.heap.size o ((RTL.take k).map fun r => maskF (partM g r)) ∧ Below w.heap.size w wr) (fun x _ _ _ => (intOf x).toNat)
  case atStart => exact ⟨F, 0, rfl, HF0.out, Nat.zero_le _, by rw [List.drop_zero]; exact HM0.out, HO.out, B0.out⟩
  case round =>
    clear HO B0
    obtain ⟨W, k, rfl, hW, hk, hm, ho, hb⟩ := hrel
    have OI := hid ho; have BL := hid hb
    have RA1 := hid (RA.out.below hb (Nat.le_refl _)); have RT1 := hid (RT.out.below hb (Nat.le_refl _))
    clear ho hb
    by_cases hlt : k < RTL.length
    · obtain ⟨hr1, hr2⟩ := HROOT.out k hlt
      have HNX := hid (List.take_succ_eq_append_getElem hlt)
      have hdrop : RTL.drop k = RTL[k] :: RTL.drop (k + 1) := List.drop_eq_getElem_cons hlt
      have hmin : ∀ x ∈ RTL.drop (k + 1), RTL[k] < x := by
        intro x hx
        obtain ⟨j, hj, rfl⟩ := List.mem_iff_getElem.1 hx
        rw [List.getElem_drop]
        exact List.pairwise_iff_getElem.1 HSORT.out k (k + 1 + j) hlt (by rw [List.length_drop] at hj; omega) (by omega)
      rw [hdrop] at hm
      generalize RTL[k] = r at *
      obtain ⟨h0, hlow⟩ := hm.lowest hr1 hr2 hmin (by omega)
      have d0 : ((W : Int) != 0) = true := by simp; omega
      have HM := hid hm
      have HT2 := hid (hm.tail hmin)
      have hPL := partM_lt g r
      rw [HGL.out] at hPL
      have hdf := u32_dif W (partM g r) (by omega) (by omega)
      have hdle := dif_le W (partM g r)
      have HDLT := hid (show dif W (partM g r) < W by
        have hb1 : W.testBit r = true := (hm r).2 ⟨hr1, by rw [hr2]; simp⟩
        have hb2 : (dif W (partM g r)).testBit r = false := by
          rw [testBit_dif, hb1, (partM_bit r r).2 ⟨hr1, hr2⟩]; rfl
        rcases Nat.lt_or_ge (dif W (partM g r)) W with h | h
        · exact h
        · have : dif W (partM g r) = W := by omega
          rw [this, hb1] at hb2; cases hb2)
      have hrn : r < A.length := by rw [HLN.out, ← HGL.out]; exact hr1
      have HRM := hid (fun R (h : ∀ u, R.testBit u = true ↔ Leads A W r u) => part_mask hg hr1 hr2 hm (R := R) (by rw [HA.out]; exact h))
      clear hm hmin hdrop
      go_wp2_with fail
      refine (least_any W _ RT1.out h0 (by omega)).mono ?_
      rintro e w1 ⟨rfl, hd⟩
      have hb := Drawn.bel hd
      replace RA1 := hid (RA1.out.below hb (Nat.le_refl _))
      replace RT1 := hid (RT1.out.below hb (Nat.le_refl _))
      replace OI := hid (OI.out.past hb (Nat.le_refl _))
      replace BL := hid (bon BL.out hb)
      clear hb hd
      rw [hlow]
      go_wp2_with fail
      have HRC := hid (reach_any a A c r W _ RT1.out RA1.out HA16.out (by rw [HLN.out]; exact h16) hrn (by rw [HLN.out]; exact hW))
      rw [HLN.out] at HRC
      refine HRC.out.mono ?_
      rintro e wz ⟨R, rfl, hR16, hRb, hb⟩
      have hRe : R = partM g r := HRM.out R hRb
      subst hRe
      replace RA1 := hid (RA1.out.below hb (Nat.le_refl _))
      replace RT1 := hid (RT1.out.below hb (Nat.le_refl _))
      replace OI := hid (OI.out.past hb (Nat.le_refl _))
      replace BL := hid (bon BL.out hb)
      clear hb
      clear HRC hRb
      have hszr := BL.out.size
      have hlen : ((RTL.take k).map fun r => maskF (partM g r)).length < 1099511627776 := by rw [List.length_map, List.length_take]; omega
      have HN := hid (show ((RTL.take (k + 1)).map fun r => maskF (partM g r)) = ((RTL.take k).map fun r => maskF (partM g r)) ++ [Value.int .u32 (partM g r : Nat)] by rw [HNX.out, List.map_append]; rfl)
      generalize ((RTL.take k).map fun r => maskF (partM g r)) = M at *
      generalize hpm : partM g r = pm at *
      have HPM := hid hpm; clear hpm
      generalize hdd : dif W pm = W2 at *
      have HDD := hid hdd; clear hdd
      have HW2 := hid (show W2 < 2 ^ n by omega)
      go_wp2_with (at_builtin; refine law_push tVsets _ rfl _ _ rfl w.heap.size _ M rfl OI.out _ _ rfl ?c0 rfl ?c1 ?c2 ?_)
      case c0 => simp
      case c1 => exact hlen
      case c2 => exact hszr
      intro v' w' h1 h2
      have OI2 := hid h1
      have BL2 := hid (BL.out.trans (grown_below h2 hszr (fun g hg => OI.out.ge g hg)))
      clear h1 h2
      have hlt2 := HDLT.out
      go_wp2
      go_roundw
      case rel => exact ⟨W2, k + 1, rfl, HW2.out, by omega, (by have h3 := HT2.out; rw [show maskL (partV g r) = pm from HPM.out, HDD.out] at h3; exact h3), by rw [HN.out]; exact OI2.out, BL2.out⟩
      case measure => simp [intOf]; omega
    · obtain rfl : k = RTL.length := by omega
      rw [List.drop_length] at hm
      obtain rfl := hm.nil
      rw [List.take_length] at OI
      go_wp2
      go_ret
      exact ⟨_, rfl, OI.out, BL.out⟩
theorem getN_in {A : List Nat} {u : Nat} (h : u < A.length) : A.getD u 0 = A[u] := by rw [List.getD_eq_getElem?_getD, List.getElem?_eq_getElem h]; rfl
theorem cells_rd {e : TypeId} {w : World} {B n c : Nat} {a : Option Addr} {α : Type} {f : α → Value} {zs : List α} (h : Own e w B (.slice a n c) (zs.map f)) : Rd f w a zs := by
  obtain ⟨a', c', h1, h2, _⟩ := h.rd
  obtain ⟨rfl, _, rfl⟩ := slice_inj h1
  exact h2
set_option maxRecDepth 100000 in
set_option maxHeartbeats 8000000 in
theorem implSidesOf_any (a : Option Addr) (rs : List Row) (c : Nat) (w : World) (r0 : List Int) (r1 : Bool) (hx : sidesL (nums rs) = r0) (hx2 : sidesB (nums rs) = r1) (hr : RdM w a rs) (hn : Small rs) (hT : TabOk w) :
    Calls Tryd.prog 40 #[.agg #[.slice a rs.length c]] w (RetOwnT 2 (r0.map (.int .i64)) r1 w) := by
  subst hx hx2
  have RA := hid hr; have RT := hid hT; clear hr hT
  have hn1 := hn.1
  obtain ⟨w0, hw0⟩ : ∃ w0, w0 = (w.alloc (.cells #[.slice a rs.length c] 29)) := ⟨_, rfl⟩
  have B0 := hid (show Below w.heap.size w w0 by rw [hw0]; exact ((Below.refl _ _).alloc (Nat.le_refl _) _))
  have c0 : w0.cell? ⟨w.heap.size, 0, none⟩ = some (.slice a rs.length c) := by rw [hw0]; simp [go_sem]
  replace RA := hid (RA.out.below B0.out (Nat.le_refl _))
  replace RT := hid (RT.out.below B0.out (Nat.le_refl _))
  have HW := hid hw0; clear hw0
  by_cases hg : GOk (nums rs)
  · have h1 := hid (show decide (GOk (nums rs)) = true by simpa using hg)
    have h16 : rs.length ≤ 16 := by have := hg.le; rwa [nums_length] at this
    have hgl : (nums rs).length = rs.length := nums_length rs
    have HGL := hid hgl
    have hp : 2 ^ rs.length ≤ 65536 := Nat.pow_le_pow_right (n := 2) (i := rs.length) (j := 16) (by decide) h16
    obtain ⟨RTL, hRTL⟩ : ∃ L, rootsTo (nums rs) (nums rs).length = L := ⟨_, rfl⟩
    have HRTL := hid hRTL
    have HROOT := hid (fun i (hi : i < RTL.length) => (show RTL[i] < rs.length ∧ rootV (nums rs) RTL[i] = RTL[i] by
      have := rootsTo_mem.1 (show RTL[i] ∈ rootsTo (nums rs) (nums rs).length by rw [hRTL]; exact List.getElem_mem hi)
      rwa [hgl] at this))
    have HIN := hid (fun v (hv : v < rs.length) => (show rootV (nums rs) v ∈ RTL by
      rw [← hRTL]; exact rootsTo_mem.2 ⟨by have := (root_spec (nums rs) v).2.1; rw [hgl]; omega, root_idem _ _⟩))
    have hrlen : RTL.length ≤ 16 := by rw [← hRTL]; exact Nat.le_trans (rootsTo_len _ _) hg.le
    have HAL := hid (show ((nums rs).map maskL).length = rs.length by rw [List.length_map, hgl])
    have HA16 := hid (in16_of hg)
    obtain ⟨F, hF⟩ : ∃ F, 2 ^ rs.length - 1 = F := ⟨_, rfl⟩
    clear hgl hRTL
    go_enter Tryd.func40, Tryd.ntmps40
    go_wp2_with fail
    rw [← HW.out]
    go_wp2_with fail
    refine (implGraphOk_b a rs c _ _ h1.out RA.out hn).mono ?_
    rintro e w1 ⟨rfl, hb⟩
    replace RA := hid (RA.out.below hb (Nat.le_refl _))
    replace RT := hid (RT.out.below hb (Nat.le_refl _))
    replace B0 := hid (bon B0.out hb)
    replace c0 := cellB hb c0 (Nat.le_refl _)
    clear hb
    go_wp2_with fail
    refine (netsOf_any a rs c _ hg RA.out hn).mono ?_
    rintro e w2 ⟨nv, rfl, hown, hb⟩
    replace RA := hid (RA.out.below hb (Nat.le_refl _))
    replace RT := hid (RT.out.below hb (Nat.le_refl _))
    replace B0 := hid (bon B0.out hb)
    replace c0 := cellB hb c0 (Nat.le_refl _)
    clear hb
    obtain ⟨na, nc, rfl, hsr, _, _, _, _⟩ := Own.rd (f := netF) hown
    have RN := hid hsr.masks; clear hown hsr RA c0 HW
    rw [HGL.out]
    obtain ⟨A, hA⟩ : ∃ A, (nums rs).map maskL = A := ⟨_, rfl⟩
    have HA := hid hA
    rw [hA] at RN HAL HA16
    clear hA
    have RT00 := hid RT.out; have RN00 := hid RN.out; have B00 := hid B0.out
    go_wp2_with (first | (at_make; refine law_make tI64 _ rfl _ _ rfl rs.length _ _ rfl rfl (by omega) ?_; intro wm hown hb hsz) | (go_at_call 95; refine (all_p _ _ _ F _ h16 hF).mono ?_; rintro e w' ⟨rfl, rfl⟩))
    have OS := hid hown; clear hown
    have BL := hid hb
    replace RT := hid (RT.out.below hb (Nat.le_refl _))
    replace RN := hid (RN.out.below hb (Nat.le_refl _))
    clear hb
    refine (partsOf_any na (nums rs) A rs.length nc F _ hg HA.out HAL.out hF RT.out RN.out).mono ?_
    rw [HRTL.out]
    rintro e wp ⟨pv, rfl, hown, hb⟩
    obtain ⟨pa, pc, hpv, _⟩ := Own.rd (f := fun r => maskF (partM (nums rs) r)) hown
    subst hpv
    have OP := hid hown
    replace OS := hid (OS.out.past hb (Nat.le_refl _))
    replace BL := hid (bon BL.out hb)
    have HOMB := hid hsz
    have hsm : w2.heap.size ≤ wm.heap.size := by omega
    have HST := hid (SideAt.start (nums rs))
    have HREP := hid (show List.replicate rs.length (Value.int .i64 0) = (List.replicate (nums rs).length (0 : Int)).map (.int .i64) by rw [HGL.out]; simp)
    rw [HREP.out] at OS
    clear hown hb hsz HREP RT RN B0 hF
    go_wp2
    go_loopw [7, 8, 9, 27] (fun _ _ _ x wr => ∃ (i : Nat) (Z : List Int), i ≤ RTL.length ∧ x = .int .i64 i ∧ SideAt (nums rs) (fun v => rootV (nums rs) v ∈ RTL.take i) Z ∧ Own 2 wr w2.heap.size (.slice (some ⟨w2.heap.size, 0, none⟩) rs.length rs.length) (Z.map (.int .i64)) ∧ Own 82 wr wm.heap.size (.slice pa RTL.length pc) (RTL.map fun r => maskF (partM (nums rs) r)) ∧ Below w2.heap.size w2 wr) (fun _ _ _ x _ => RTL.length - (intOf x).toNat)
    case atStart => exact ⟨0, _, Nat.zero_le _, rfl, HST.out.congr (fun v _ => by simp), OS.out, OP.out, BL.out⟩
    case round =>
      clear OS OP BL HST
      obtain ⟨i, Z, hi, rfl, hsa, hos, hop, hb⟩ := hrel
      have HSA := hid hsa; have OS := hid hos; have OP := hid hop; have BL := hid hb
      have RT := hid (RT00.out.below hb (Nat.le_refl _))
      have RN := hid (RN00.out.below hb (Nat.le_refl _))
      have B0 := hid (B00.out.trans (hb.mono B00.out.size))
      clear hsa hos hop hb
      by_cases hlt : i < RTL.length
      · have hii : (i : Int) < (RTL.length : Int) := by omega
        obtain ⟨hr1, hr2⟩ := HROOT.out i hlt
        have HNXT := hid (List.take_succ_eq_append_getElem hlt)
        obtain ⟨pb, po, rfl, cp⟩ := (cells_rd (f := fun r => maskF (partM (nums rs) r)) OP.out) i hlt
        generalize RTL[i] = r at *
        have hmr : MaskR (nums rs) [r] (partM (nums rs) r) := fun v => by rw [partM_bit]; simp
        have hpl := partM_lt (nums rs) r
        rw [HGL.out] at hpl
        obtain ⟨h0, hlow⟩ := hmr.lowest (by rw [HGL.out]; exact hr1) hr2 (fun x hx => by simp at hx) (by omega)
        replace cp : wr.cell? ⟨pb, po + i, none⟩ = some (.int .u32 (partM (nums rs) r : Nat)) := cp
        have HDP := hid (fun (x : Int) (u : Nat) (h : (∃ d : Nat, x = d ∧ DistA A (partM (nums rs) r) r u d) ∨ (x = -1 ∧ ¬ Leads A (partM (nums rs) r) r u)) => (show x = far (nums rs) (allL rs.length) (r : Int) (u : Int) by
          have h3 := dist_part hg (r := r) (T := partM (nums rs) r) (by rw [HGL.out]; exact hr1) hr2 (fun u hu => ((partM_bit r u).1 hu).1) (fun u hu h => (partM_bit r u).2 ⟨hu, h⟩) (x := x) (u := u) (by rw [HA.out]; exact h)
          rwa [HGL.out] at h3))
        clear hmr
        generalize partM (nums rs) r = pm at *
        go_wp2_with fail
        refine (least_any pm _ RT.out h0 (by omega)).mono ?_
        rintro e w3 ⟨rfl, hd⟩
        have hb := Drawn.bel hd
        replace RT := hid (RT.out.below hb (Nat.le_refl _))
        replace RN := hid (RN.out.below hb (Nat.le_refl _))
        replace B0 := hid (bon B0.out hb)
        replace OS := hid (OS.out.past hb (Nat.le_refl _))
        replace OP := hid (OP.out.past hb (Nat.le_refl _))
        replace BL := hid (bon BL.out hb)
        replace cp := cellB hb cp (Nat.le_refl _)
        clear hb hd
        rw [hlow]
        go_wp2_with fail
        have HDC := hid (distances_any na A nc r pm _ RT.out RN.out HA16.out (by rw [HAL.out]; exact h16) (by rw [HAL.out]; exact hr1) (by rw [HAL.out]; exact hpl))
        rw [HAL.out] at HDC
        refine HDC.out.mono ?_
        rintro e wd ⟨D, o, rfl, hown, hDl, hDd, hb⟩
        obtain ⟨da, dc, hdv, _⟩ := Own.rd hown
        subst hdv
        rw [hDl] at hown ⊢
        have HFAR := hid (fun u (hu : u < rs.length) => HDP.out _ u (hDd u hu))
        have HDL := hid hDl
        have OD := hid (hown.base (B' := wm.heap.size) (by have h3 := OP.out.ge pb rfl; have h4 := OP.out.lt pb rfl; omega))
        replace RT := hid (RT.out.below hb (Nat.le_refl _))
        replace RN := hid (RN.out.below hb (Nat.le_refl _))
        replace B0 := hid (bon B0.out hb)
        replace OS := hid (OS.out.past hb (Nat.le_refl _))
        replace OP := hid (OP.out.past hb (Nat.le_refl _))
        replace BL := hid (bon BL.out hb)
        replace cp := cellB hb cp (Nat.le_refl _)
        clear hb
        clear hown hDl hDd HDC cp HDP
        go_wp2
        go_loopw [8, 9, 37] (fun _ _ x wq => ∃ (k : Nat) (Z : List Int), k ≤ rs.length ∧ x = .int .i64 k ∧ SideAt (nums rs) (fun v => rootV (nums rs) v ∈ RTL.take i ∨ (v < k ∧ rootV (nums rs) v = r)) Z ∧ Own 2 wq w2.heap.size (.slice (some ⟨w2.heap.size, 0, none⟩) rs.length rs.length) (Z.map (.int .i64)) ∧ Own 82 wq wm.heap.size (.slice (some ⟨pb, po, none⟩) RTL.length pc) (RTL.map fun r => maskF (partM (nums rs) r)) ∧ Own 3 wq wm.heap.size (.slice da rs.length dc) (D.map (.int .i64)) ∧ Below w2.heap.size w2 wq) (fun _ _ x _ => rs.length - (intOf x).toNat)
        case atStart => exact ⟨0, Z, Nat.zero_le _, rfl, HSA.out.congr (fun v _ => by simp), OS.out, OP.out, OD.out, BL.out⟩
        case round =>
          clear OS OP OD BL HSA
          obtain ⟨k, Z, hk, rfl, hsa, hos, hop, hod, hb⟩ := hrel
          have HSA := hid hsa; have OS := hid hos; have OP := hid hop; have OD := hid hod; have BL := hid hb
          clear hsa hos hop hod hb
          by_cases hlk : k < rs.length
          · have hki : (k : Int) < (rs.length : Int) := by omega
            obtain ⟨db, dn, rfl, cd⟩ := (cells_rd OD.out) k (by rw [HDL.out]; exact hlk)
            have hDk : D[k]'(by rw [HDL.out]; exact hlk) = far (nums rs) (allL rs.length) (r : Int) (k : Int) := by
              rw [← getD_eq D k (by rw [HDL.out]; exact hlk)]; exact HFAR.out k hlk
            rw [hDk] at cd
            have HZL := hid (show Z.length = rs.length by rw [HSA.out.1, HGL.out])
            by_cases hrk : rootV (nums rs) k = r
            · have hway : Way (nums rs) (rootV (nums rs) k) k := (root_spec (nums rs) k).1
              obtain ⟨d, hd, hmt⟩ := side_far hway
              rw [hrk, HGL.out] at hd
              rw [hd] at cd
              have hset := HSA.out.set (R' := fun u => rootV (nums rs) u ∈ RTL.take i ∨ (u < k + 1 ∧ rootV (nums rs) u = r)) k (fun u _ => by
                constructor
                · rintro (h | ⟨h, h2⟩)
                  · exact .inl (.inl h)
                  · rcases Nat.lt_or_ge u k with h3 | h3
                    · exact .inl (.inr ⟨h3, h2⟩)
                    · exact .inr (by omega)
                · rintro ((h | ⟨h, h2⟩) | h)
                  · exact .inl h
                  · exact .inr ⟨by omega, h2⟩
                  · exact .inr ⟨by omega, by rw [h]; exact hrk⟩)
              have HSET := hid hset
              generalize sideV (nums rs) k = sv at *
              have hst := OS.out.store k (by rw [List.length_map, HZL.out]; exact hlk) (.int .i64 sv)
              have hce := OS.out.cell k (by rw [List.length_map, HZL.out]; exact hlk)
              have hfr := OS.out.free k
              rw [← List.map_set] at hst
              have OS2 := hid hst
              have OP2 := hid (OP.out.setCell_below (p := ⟨w2.heap.size, k, none⟩) (by simp only; exact HOMB.out) (.int .i64 sv))
              have OD2 := hid (OD.out.setCell_below (p := ⟨w2.heap.size, k, none⟩) (by simp only; exact HOMB.out) (.int .i64 sv))
              have BL2 := hid (BL.out.setCell (p := ⟨w2.heap.size, k, none⟩) (Nat.le_refl _) (.int .i64 sv))
              have hd0 : (d : Int) ≥ 0 := by omega
              clear hst OS OP OD BL hset hway hd hDk hrk
              go_wp2
              go_roundw
              case rel => exact ⟨k + 1, Z.set k sv, by omega, by go_num, HSET.out, OS2.out, OP2.out, OD2.out, BL2.out⟩
              case measure => simp [intOf]; omega
            · have hno : far (nums rs) (allL rs.length) (r : Int) (k : Int) = -1 := by
                apply far_none
                intro h
                have h3 : Way (nums rs) r k := by unfold Way; rw [HGL.out]; exact h
                exact hrk ((root_way hg (by rw [HGL.out]; exact hr1) hr2).2 h3)
              rw [hno] at cd
              have HSN := hid (HSA.out.congr (R' := fun u => rootV (nums rs) u ∈ RTL.take i ∨ (u < k + 1 ∧ rootV (nums rs) u = r)) (fun u _ => by
                constructor
                · rintro (h | ⟨h, h2⟩)
                  · exact .inl h
                  · rcases Nat.lt_or_ge u k with h3 | h3
                    · exact .inr ⟨h3, h2⟩
                    · have : u = k := by omega
                      rw [this] at h2; exact absurd h2 hrk
                · rintro (h | ⟨h, h2⟩)
                  · exact .inl h
                  · exact .inr ⟨by omega, h2⟩))
              clear hno hDk
              go_wp2
              go_roundw
              case rel => exact ⟨k + 1, Z, by omega, by go_num, HSN.out, OS.out, OP.out, OD.out, BL.out⟩
              case measure => simp [intOf]; omega
          · obtain rfl : k = rs.length := by omega
            have HSN := hid (HSA.out.congr (R' := fun v => rootV (nums rs) v ∈ RTL.take (i + 1)) (fun v hv => by
              rw [HGL.out] at hv
              rw [HNXT.out, List.mem_append, List.mem_singleton]
              constructor
              · rintro (h | h)
                · exact .inl h
                · exact .inr ⟨hv, h⟩
              · rintro (h | ⟨_, h⟩)
                · exact .inl h
                · exact .inr h))
            go_wp2
            go_roundw
            case rel => exact ⟨i + 1, Z, by omega, by go_num, HSN.out, OS.out, OP.out, BL.out⟩
            case measure => simp [intOf]; omega
      · obtain rfl : i = RTL.length := by omega
        have HZ := hid (SideAt.all HSA.out (fun v hv => by rw [List.take_length]; exact HIN.out v (by rw [HGL.out] at hv; exact hv)))
        rw [HZ.out, HGL.out] at OS
        have HSG := hid (fun v (hv : v < rs.length) => (show ((sideTo (nums rs) rs.length).map (Value.int .i64))[v]'(by simp [sideTo]; exact hv) = .int .i64 (sideV (nums rs) v) by simp [sideTo]))
        have HAU := hid (fun u (hu : u < rs.length) => (show ∃ M, A.getD u 0 = M ∧ M < 65536 ∧ mems M = row (nums rs) (u : Int) by
          refine ⟨_, rfl, ?_, ?_⟩
          · rw [getN_in (by rw [HAL.out]; exact hu)]; exact HA16.out _ (List.getElem_mem _)
          · rw [← HA.out, List.getD_eq_getElem?_getD, List.getElem?_map, List.getElem?_eq_getElem (by rw [HGL.out]; exact hu)]
            have h3 := hg.inc u (by rw [HGL.out]; exact hu)
            rw [row_nat _ _ (by rw [HGL.out]; exact hu)] at h3 ⊢
            exact mems_maskL h3 (by rw [HGL.out]; omega)))
        have HRG := hid (fun u (hu : u < rs.length) x (hx : x ∈ row (nums rs) (u : Int)) => (show 0 ≤ x ∧ x < rs.length by
          have := gok_range hg (u := (u : Int)) (v := x) (by omega) (by rw [HGL.out]; omega) hx
          rwa [HGL.out] at this))
        clear HZ HSA OP BL
        go_wp2
        go_loopw [10, 11, 13, 53] (fun _ _ _ x wq => ∃ u : Nat, u ≤ rs.length ∧ x = .int .i64 u ∧ (∀ u', u' < u → ∀ v : Nat, (v : Int) ∈ row (nums rs) (u' : Int) → sideV (nums rs) u' ≠ sideV (nums rs) v) ∧ Below wr.heap.size wr wq) (fun _ _ _ x _ => rs.length - (intOf x).toNat)
        case atStart => exact ⟨0, Nat.zero_le _, rfl, (fun u' h => absurd h (Nat.not_lt_zero _)), Below.refl _ _⟩
        case round =>
          obtain ⟨u, hu, rfl, hdf, hb⟩ := hrel
          have HDIF := hid hdf; clear hdf
          have BL := hid hb
          replace RT := hid (RT.out.below hb (Nat.le_refl _))
          replace RN := hid (RN.out.below hb (Nat.le_refl _))
          replace B0 := hid (bon B0.out hb)
          replace OS := hid (OS.out.past hb (Nat.le_refl _))
          clear hb
          by_cases hlu : u < rs.length
          · have hui : (u : Int) < (rs.length : Int) := by omega
            obtain ⟨M, hM, hM16, hms⟩ := HAU.out u hlu
            obtain ⟨ab, ao, rfl, ca⟩ := RN.out u (by rw [HAL.out]; exact hlu)
            rw [← getN_in (by rw [HAL.out]; exact hlu), hM] at ca
            unfold maskF at ca
            have csu := OS.out.cell u (by simp [sideTo]; exact hlu)
            rw [HSG.out u hlu] at csu
            have hRu := HRG.out u hlu
            obtain ⟨L, hL⟩ : ∃ L, row (nums rs) (u : Int) = L := ⟨_, rfl⟩
            have HL := hid hL
            rw [hL] at hms hRu
            have hml := mems_len M
            rw [hms] at hml
            have HRU := hid hRu; have HMS := hid hms
            clear hM hL hms hRu
            go_wp2_with fail
            refine (list_any M _ RT.out hM16).mono ?_
            rintro e wl ⟨lv, rfl, hown, hb⟩
            obtain ⟨la, lc, rfl, hlr, _, _, _, _⟩ := hown.rd
            rw [HMS.out] at hlr ⊢
            have RL := hid hlr
            clear hown hlr
            replace RT := hid (RT.out.below hb (Nat.le_refl _))
            replace RN := hid (RN.out.below hb (Nat.le_refl _))
            replace B0 := hid (bon B0.out hb)
            replace OS := hid (OS.out.past hb (Nat.le_refl _))
            replace BL := hid (bon BL.out hb)
            replace ca := cellB hb ca (Nat.le_refl _)
            replace csu := cellB hb csu (Nat.le_refl _)
            clear hb
            clear ca
            go_wp2
            go_loopw [13, 61] (fun _ x wq => ∃ k : Nat, k ≤ L.length ∧ x = .int .i64 k ∧ (∀ x ∈ L.take k, sideV (nums rs) u ≠ sideV (nums rs) x.toNat) ∧ Below wl.heap.size wl wq) (fun _ x _ => L.length - (intOf x).toNat)
            case atStart => exact ⟨0, Nat.zero_le _, rfl, (fun x h => by simp at h), Below.refl _ _⟩
            case round =>
              obtain ⟨k, hk, rfl, hdk, hb⟩ := hrel
              have HDK := hid hdk; clear hdk
              have BQ := hid hb
              replace RN := hid (RN.out.below hb (Nat.le_refl _))
              replace B0 := hid (bon B0.out hb)
              replace OS := hid (OS.out.past hb (Nat.le_refl _))
              replace BL := hid (bon BL.out hb)
              replace csu := cellB hb csu (Nat.le_refl _)
              replace RL := hid (RL.out.below hb (Nat.le_refl _))
              clear hb
              by_cases hlk : k < L.length
              · have hki : (k : Int) < (L.length : Int) := by omega
                have HTK := hid (List.take_succ_eq_append_getElem hlk)
                obtain ⟨lb, lo, rfl, cl⟩ := RL.out k hlk
                have hx := HRU.out _ (List.getElem_mem hlk)
                have hxm := List.getElem_mem hlk
                generalize L[k] = x at *
                obtain ⟨v, rfl⟩ := Int.eq_ofNat_of_zero_le hx.1
                have hv : v < rs.length := by omega
                have hvi : (v : Int) < (rs.length : Int) := by omega
                have csv := OS.out.cell v (by simp [sideTo]; exact hv)
                rw [HSG.out v hv] at csv
                have HXM := hid hxm; clear hxm hx
                by_cases hxy : sideV (nums rs) u = sideV (nums rs) v
                · have HNO := hid (show ¬ Halves (nums rs) from fun hh => hh u (by rw [HGL.out]; exact hlu) v (by rw [HL.out]; exact HXM.out) hxy)
                  have heb : (sideV (nums rs) u == sideV (nums rs) v) = true := by simpa using hxy
                  generalize sideV (nums rs) u = su at *
                  generalize sideV (nums rs) v = sv at *
                  go_wp2
                  have qcsu := fun (p : Bel _) => cellB p.h csu (Nat.le_refl _)
                  have qcsv := fun (p : Bel _) => cellB p.h csv (Nat.le_refl _)
                  refine wp_quiet_b (by kernel_rfl) (by kernel_rfl) ?_
                  repeat (go_big_quiet_step (fail))
                  refine wpQuiet_nil ?_
                  intro _ hw'
                  obtain ⟨⟨w4, hb⟩, rfl⟩ := hw'
                  clear qcsu qcsv
                  replace RN := hid (RN.out.below hb (Nat.le_refl _))
                  replace B0 := hid (bon B0.out hb)
                  replace OS := hid (OS.out.past hb (Nat.le_refl _))
                  replace BL := hid (bon BL.out hb)
                  replace csu := cellB hb csu (Nat.le_refl _)
                  replace csv := cellB hb csv (Nat.le_refl _)
                  clear hb
                  rename_i wi
                  have HR := hid (show sidesL (nums rs) = [] by unfold sidesL; rw [if_neg (fun h => HNO.out h.2)])
                  have HB := hid (show sidesB (nums rs) = false by unfold sidesB; rw [decide_eq_false_iff_not]; exact fun h => HNO.out h.2)
                  go_wp2
                  go_ret2
                  rw [HB.out]
                  exact ⟨_, rfl, by rw [HR.out]; exact Own.nil _ _ _, B0.out⟩
                · have HD2 := hid (show ∀ x ∈ L.take (k + 1), sideV (nums rs) u ≠ sideV (nums rs) x.toNat from fun x hx => by
                    rw [HTK.out, List.mem_append, List.mem_singleton] at hx
                    rcases hx with h4 | h4
                    · exact HDK.out x h4
                    · rw [h4]; exact hxy)
                  have heb : (sideV (nums rs) u == sideV (nums rs) v) = false := by simpa using hxy
                  generalize sideV (nums rs) u = su at *
                  generalize sideV (nums rs) v = sv at *
                  go_wp2
                  have qcsu := fun (p : Bel _) => cellB p.h csu (Nat.le_refl _)
                  have qcsv := fun (p : Bel _) => cellB p.h csv (Nat.le_refl _)
                  refine wp_quiet_b (by kernel_rfl) (by kernel_rfl) ?_
                  repeat (go_big_quiet_step (fail))
                  refine wpQuiet_nil ?_
                  intro _ hw'
                  obtain ⟨⟨w5, hb⟩, rfl⟩ := hw'
                  clear qcsu qcsv
                  replace BQ := hid (bon BQ.out hb)
                  replace csu := cellB hb csu (Nat.le_refl _)
                  replace csv := cellB hb csv (Nat.le_refl _)
                  clear hb
                  rename_i wi
                  go_wp2
                  go_roundw
                  case rel => exact ⟨k + 1, by omega, by go_num, HD2.out, BQ.out⟩
                  case measure => simp [intOf]; omega
              · obtain rfl : k = L.length := by omega
                have HD2 := hid (show ∀ u', u' < u + 1 → ∀ v : Nat, (v : Int) ∈ row (nums rs) (u' : Int) → sideV (nums rs) u' ≠ sideV (nums rs) v from fun u' h v hv => by
                  rcases Nat.lt_or_ge u' u with h3 | h3
                  · exact HDIF.out u' h3 v hv
                  · have e : u' = u := by omega
                    subst e
                    rw [HL.out] at hv
                    have := HDK.out (v : Int) (by rw [List.take_length]; exact hv)
                    simpa using this)
                go_wp2
                go_roundw
                case rel => exact ⟨u + 1, by omega, by go_num, HD2.out, BL.out⟩
                case measure => simp [intOf]; omega
          · obtain rfl : u = rs.length := by omega
            have HYES := hid (show Halves (nums rs) from fun u hu v hv => HDIF.out u (by rw [HGL.out] at hu; exact hu) v hv)
            have HR := hid (show sidesL (nums rs) = sideTo (nums rs) rs.length by unfold sidesL; rw [if_pos ⟨hg, HYES.out⟩, HGL.out])
            have HB := hid (show sidesB (nums rs) = true by unfold sidesB; rw [decide_eq_true_iff]; exact ⟨hg, HYES.out⟩)
            go_wp2
            go_ret2
            rw [HB.out]
            exact ⟨_, rfl, by rw [HR.out]; exact OS.out.base B00.out.size, B0.out⟩
  · have h1 := hid (show decide (GOk (nums rs)) = false by simpa using hg)
    have HR := hid (show sidesL (nums rs) = [] by unfold sidesL; rw [if_neg (fun h => hg h.1)])
    have HB := hid (show sidesB (nums rs) = false by unfold sidesB; rw [decide_eq_false_iff_not]; exact fun h => hg h.1)
    go_enter Tryd.func40, Tryd.ntmps40
    go_wp2_with fail
    rw [← HW.out]
    go_wp2_with fail
    refine (implGraphOk_b a rs c _ _ h1.out RA.out hn).mono ?_
    rintro e wq ⟨rfl, hb⟩
    replace B0 := hid (bon B0.out hb)
    clear hb
    go_wp2
    go_ret2
    rw [HB.out]
    exact ⟨_, rfl, by rw [HR.out]; exact Own.nil _ _ _, B0.out⟩
end Go.Proofs.YtalfbldkdlanoaaDoor
