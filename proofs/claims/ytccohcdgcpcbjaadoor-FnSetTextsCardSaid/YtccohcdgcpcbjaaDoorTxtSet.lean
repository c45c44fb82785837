/- TextSet: both. -/
import Derived.Test.YtccohcdgcpcbjaaDoorRead
import Derived.Test.YtccohcdgcpcbjaaDoorGOk
namespace Go.Proofs.YtccohcdgcpcbjaaDoor
open Go.RowKit
section
def RetOwnB (e : TypeId) (xs : List Value) (b : Bool) (w : World) (E : Ending) (w' : World) : Prop := ∃ v, E = .returned (.tuple #[v, .bool b]) ∧ Own e w' w.heap.size v xs ∧ Below w.heap.size w w'
def castV (vs : List Nat) : List Int := vs.map fun v : Nat => (v : Int)
theorem castV_len (vs : List Nat) : (castV vs).length = vs.length := List.length_map _
/-- The numbers of a text that is a list. -/
def GoodT (l : List UInt8) (vs : List Nat) : Prop := (∀ v ∈ vs, v < 16) ∧ vs.length ≤ 16 ∧ spl 44 l = vs.map dec
theorem map_dec_inj : ∀ {a b : List Nat}, (∀ v ∈ a, v < 16) → (∀ v ∈ b, v < 16) → a.map dec = b.map dec → a = b
  | [], [], _, _, _ => rfl
  | [], y :: b, _, _, h => by simp at h
  | x :: a, [], _, _, h => by simp at h
  | x :: a, y :: b, ha, hb, h => by
    simp only [List.map_cons, List.cons.injEq] at h
    rw [dec16_inj (ha x List.mem_cons_self) (hb y List.mem_cons_self) h.1, map_dec_inj (fun v hv => ha v (List.mem_cons_of_mem _ hv)) (fun v hv => hb v (List.mem_cons_of_mem _ hv)) h.2]
theorem GoodT.uniq {l : List UInt8} {a b : List Nat} (h : GoodT l a) (k : GoodT l b) : a = b := map_dec_inj h.1 k.1 (by rw [← h.2.2, k.2.2])
open Classical in
noncomputable def tsR (s : ByteArray) : List Int × Bool := if s.data.toList = [45] then ([], true) else if h : ∃ vs, GoodT s.data.toList vs then (castV h.choose, true) else ([], false)
theorem str_list (l : List UInt8) : (str l).data.toList = l := by unfold str; simp
theorem tsR_dash : tsR (str [45]) = ([], true) := by unfold tsR; rw [str_list, if_pos rfl]
theorem tsR_good {l : List UInt8} {vs : List Nat} (h0 : l ≠ [45]) (h : GoodT l vs) : tsR (str l) = (castV vs, true) := by
  unfold tsR
  have hx : ∃ vs, GoodT (str l).data.toList vs := ⟨vs, by rw [str_list]; exact h⟩
  rw [str_list, if_neg h0]
  have hx2 : ∃ vs, GoodT l vs := ⟨vs, h⟩
  rw [dif_pos hx2, hx2.choose_spec.uniq h]
theorem tsR_bad {l : List UInt8} (h0 : l ≠ [45]) (h : ∀ vs, ¬ GoodT l vs) : tsR (str l) = ([], false) := by
  unfold tsR
  rw [str_list, if_neg h0, dif_neg (fun ⟨vs, hv⟩ => h vs hv)]
theorem digs_cast (vs : List Nat) : (castV vs).map digs = vs.map dec := by
  unfold castV
  rw [List.map_map]
  apply List.map_congr_left
  intro v _
  show dec (v : Int).toNat = dec v
  rw [Int.toNat_natCast]
theorem GoodT.ok {l : List UInt8} {vs : List Nat} (h : GoodT l vs) : OkTxt (castV vs) := by
  refine ⟨by rw [castV_len]; exact h.2.1, fun v hv => ?_⟩
  obtain ⟨x, hx, rfl⟩ := List.mem_map.1 hv
  have := h.1 x hx
  omega
theorem GoodT.ne {l : List UInt8} {vs : List Nat} (h : GoodT l vs) : castV vs ≠ [] := by
  intro e
  have h1 : vs = [] := by simpa [castV] using e
  have h2 := h.2.2
  rw [h1] at h2
  exact spl_ne _ _ h2
theorem GoodT.join {l : List UInt8} {vs : List Nat} (h : GoodT l vs) : Go.Lib.join ((castV vs).map digs) [44] = l := by
  rw [digs_cast, ← h.2.2]; exact spl_join 44 l
theorem GoodT.set {l : List UInt8} {vs : List Nat} (h : GoodT l vs) : setStr (castV vs) = str l := by
  rw [setStr_ok h.ok h.ne, h.join]
theorem GoodT.short {l : List UInt8} {vs : List Nat} (h : GoodT l vs) : l.length ≤ 800 := by
  have h1 := join_len ((castV vs).map digs) [44] (by simp) (fun d hd => by
    obtain ⟨v, hv, rfl⟩ := List.mem_map.1 hd
    exact digs_len (h.ok.2 v hv).2) ((castV vs).map digs).length (Nat.le_refl _)
  rw [List.take_length, h.join, List.length_map, castV_len] at h1
  have := h.2.1
  omega
theorem dec_nocomma {v : Nat} (h : v < 16) : (44 : UInt8) ∉ dec v := by
  intro hm
  have := (dec16 h).2.1 44 hm
  have e : (44 : UInt8).toNat = 44 := rfl
  omega
/-- What is made of a list again tells the list. -/
theorem good_of_set {l : List UInt8} {ns : List Int} (h1 : l ≠ []) (h2 : ns ≠ []) (h : setStr ns = str l) : ∃ vs, GoodT l vs ∧ ns = castV vs := by
  by_cases hok : OkTxt ns
  · rw [setStr_ok hok h2] at h
    have hl := str_inj h
    refine ⟨ns.map Int.toNat, ⟨?_, by rw [List.length_map]; exact hok.1, ?_⟩, ?_⟩
    · intro v hv
      obtain ⟨x, hx, rfl⟩ := List.mem_map.1 hv
      have := hok.2 x hx; omega
    · rw [← hl, join_spl (by simpa using h2) (fun p hp => by
        obtain ⟨x, hx, rfl⟩ := List.mem_map.1 hp
        exact dec_nocomma (by have := hok.2 x hx; omega)), List.map_map]
      rfl
    · unfold castV
      rw [List.map_map]
      have e : ∀ x ∈ ns, ((fun v : Nat => (v : Int)) ∘ Int.toNat) x = x := fun x hx => by
        have := hok.2 x hx
        show ((x.toNat : Nat) : Int) = x
        omega
      rw [List.map_congr_left e]; simp
  · rw [setStr_no hok] at h
    exact absurd (str_inj (show str [] = str l from h)).symm h1
theorem str_toL (l : List UInt8) : (str l).toList = l := by rw [Go.Lib.toList_data]; simp [str]
theorem eq45 {l : List UInt8} (h : l = [45]) : ((str l).toList == [45]) = true := by rw [str_toL, h]; rfl
theorem eq45' {l : List UInt8} (h : l ≠ [45]) : ((str l).toList == [45]) = false := by rw [str_toL, beq_eq_false_iff_ne]; exact h
theorem GoodT.at' {l : List UInt8} {vs : List Nat} (h : GoodT l vs) (k : Nat) (hk : k < (spl 44 l).length) : ∃ v, v < 16 ∧ vs[k]? = some v ∧ (spl 44 l)[k] = dec v := by
  have hk2 : k < vs.length := by rw [h.2.2, List.length_map] at hk; exact hk
  refine ⟨vs[k], h.1 _ (List.getElem_mem hk2), List.getElem?_eq_getElem hk2, ?_⟩
  have e : (spl 44 l)[k]? = (vs.map dec)[k]? := by rw [h.2.2]
  rw [List.getElem?_eq_getElem hk, List.getElem?_map, List.getElem?_eq_getElem hk2] at e
  simpa using e
end
section
theorem rdS {w : World} {B g n c : Nat} {ws : List (List UInt8)} (h : Own 9 w B (.slice (some ⟨g, 0, none⟩) n c) (ws.map strF)) : Rd strF w (some ⟨g, 0, none⟩) ws := by
  obtain ⟨a', c', e', hr', _⟩ := Own.rd h
  obtain ⟨rfl, _, _⟩ := slice_inj e'
  exact hr'
set_option maxRecDepth 100000 in
set_option maxHeartbeats 4000000 in
theorem implTextSet_any (s : ByteArray) (w : World) (r0 : List Int) (r1 : Bool) (hx0 : (tsR s).1 = r0) (hx1 : (tsR s).2 = r1) (hs : s.size ≤ 1048576) (hT : NumOk w) :
    Calls Tryd.prog 12 #[.string s] w (RetOwnB 2 (r0.map (.int .i64)) r1 w) := by
  obtain ⟨l, rfl⟩ : ∃ l, s = str l := ⟨s.data.toList, (str_data s).symm⟩
  have hl : l.length ≤ 1048576 := by rwa [str_size] at hs
  have hsz : (str l).size = l.length := str_size l
  have HT := hid hT
  clear hs hT
  by_cases hd : l = [45]
  · subst hd
    rw [tsR_dash] at hx0 hx1
    subst hx0; subst hx1
    have hq := eq45 (l := [45]) rfl
    have B0 := hid (alloc_below w (.cells #[] 2))
    have ON := hid (own_new 2 w [] (by simp [maxLen]))
    go_enter Tryd.func12, Tryd.ntmps12
    go_wp2
    go_ret2
    exact ⟨.slice (some ⟨w.heap.size, 0, none⟩) 0 0, rfl, ON.out, B0.out⟩
  · have hq := eq45' hd
    have hws := spl_len_le 44 l
    obtain ⟨ws, hw⟩ : ∃ ws, spl 44 l = ws := ⟨_, rfl⟩
    have hwm : ∀ p ∈ ws, p.length ≤ l.length := fun p hp => (spl_mem (by rw [hw]; exact hp)).2
    have HNO := hid (show (∀ vs, ¬ GoodT l vs) → r0 = [] ∧ r1 = false from fun h => by
      rw [tsR_bad hd h] at hx0 hx1
      exact ⟨hx0.symm, hx1.symm⟩)
    have HYES := hid (show ∀ vs, GoodT l vs → r0 = castV vs ∧ r1 = true from fun vs h => by
      rw [tsR_good hd h] at hx0 hx1
      exact ⟨hx0.symm, hx1.symm⟩)
    have HW := hid hw; have HWM := hid hwm
    rw [hw] at hws
    have HO := hid (own_new 2 w [] (by simp [maxLen]))
    have B0 := hid (alloc_below w (.cells #[] 2))
    have HT0 := hid (HT.out.below B0.out (Nat.le_refl _))
    clear hd hw hwm hx0 hx1
    go_enter Tryd.func12, Tryd.ntmps12
    go_wp2_with fail
    refine (strSplit_any l 44 _ (by omega)).mono ?_
    rintro e w1 ⟨rfl, hown, hb⟩
    rw [HW.out] at hown ⊢
    have OW1 := hid (hown.base (B' := w.heap.size) B0.out.size)
    have O1 := hid (HO.out.past hb (Nat.le_refl _))
    have B1 := hid (bon B0.out hb)
    clear hown hb HO B0 HT0
    generalize (w.alloc (.cells #[] 2)).heap.size = wb at *
    go_wp2
    go_loopw [4, 16] (fun o x wr => ∃ vs : List Nat, vs.length ≤ ws.length ∧ vs.length ≤ 16 ∧ x = .int .i64 (vs.length : Nat) ∧ (∀ v ∈ vs, v < 16) ∧ ws.take vs.length = vs.map dec ∧ Own 2 wr w.heap.size o ((castV vs).map (.int .i64)) ∧ Below w.heap.size w wr ∧ Own 9 wr w.heap.size (.slice (some ⟨wb, 0, none⟩) ws.length ws.length) (ws.map strF)) (fun _ x _ => ws.length - (intOf x).toNat)
    case atStart => exact ⟨[], Nat.zero_le _, Nat.zero_le _, rfl, (fun v hv => by cases hv), rfl, O1.out, B1.out, OW1.out⟩
    case round =>
      clear O1 B1 OW1
      obtain ⟨vs, hk, hk16, rfl, hlt, htk, ho, hb, hb1⟩ := hrel
      have OV := hid ho; have BV := hid hb; have OW := hid hb1; have HLT := hid hlt; have HTK := hid htk
      clear ho hb hb1 hlt htk
      obtain ⟨oa, oc, hov, _⟩ := Own.rd OV.out
      rw [castV_len] at hov
      subst hov
      have hsw := BV.out.size
      by_cases hkl : vs.length < ws.length
      · have hki : (vs.length : Int) < (ws.length : Int) := by omega
        obtain ⟨wb', wo', hwa, ck⟩ := (rdS OW.out) vs.length hkl
        obtain ⟨rfl, rfl⟩ : wb = wb' ∧ 0 = wo' := by simpa using hwa
        rw [Nat.zero_add] at ck
        have HTS := hid (List.take_succ_eq_append_getElem hkl)
        have hpl := HWM.out _ (List.getElem_mem hkl)
        have HAT := hid (show ∀ xs, GoodT l xs → xs.length = ws.length ∧ ∃ v, v < 16 ∧ ws[vs.length] = dec v from fun xs hx => by
          have e := hx.2.2
          rw [HW.out] at e
          refine ⟨by rw [e, List.length_map], ?_⟩
          obtain ⟨v, h1, _, h2⟩ := hx.at' vs.length (by rw [HW.out]; exact hkl)
          refine ⟨v, h1, ?_⟩
          have h3 : (spl 44 l)[vs.length]? = some (dec v) := by rw [List.getElem?_eq_getElem (by rw [HW.out]; exact hkl), h2]
          rw [HW.out, List.getElem?_eq_getElem hkl] at h3
          exact Option.some.inj h3)
        have HTr := hid (HT.out.below BV.out (Nat.le_refl _))
        generalize ws[vs.length] = p at *
        have ck2 : wr.cell? ⟨wb, vs.length, none⟩ = some (.string (str p)) := ck
        clear ck hwa
        go_wp2_with fail
        refine (readNumber_any p _ (by omega) HTr.out).mono ?_
        rintro e w2 ⟨n, b, rfl, ⟨hn1, hn2, hv⟩, hc, hb2⟩
        have HV := hid hv; have HC := hid hc
        have OV2 := hid (OV.out.past hb2 (Nat.le_refl _))
        have BV2 := hid (bon BV.out hb2)
        have OW2 := hid (OW.out.past hb2 (Nat.le_refl _))
        have hsw2 := BV2.out.size
        clear hv hc hb2 ck2
        cases b with
        | false =>
          obtain ⟨e0, e1⟩ := HNO.out (fun xs hx => by
            obtain ⟨_, v, h1, h2⟩ := HAT.out xs hx
            have := (HV.out v h1 h2).2
            cases this)
          subst e0; subst e1
          go_wp2
          go_ret2
          exact ⟨.slice none 0 0, rfl, Own.nil _ _ _, BV2.out⟩
        | true =>
          by_cases hr : 0 ≤ n ∧ n ≤ 15
          · have hr1 : decide (0 ≤ n ∧ n ≤ 15) = true := decide_eq_true hr
            have hpd := HC.out rfl hr.1 hr.2
            obtain ⟨m, rfl⟩ := Int.eq_ofNat_of_zero_le hr.1
            rw [Int.toNat_natCast] at hpd
            have hm16 : m < 16 := by omega
            have HR1 := hid hr1; have HPD := hid hpd
            clear hr hr1 hpd
            by_cases h16 : vs.length = 16
            · have h16i : ((vs.length : Int) == 16) = true := by rw [h16]; rfl
              obtain ⟨e0, e1⟩ := HNO.out (fun xs hx => by
                have h1 := (HAT.out xs hx).1
                have h2 := hx.2.1
                omega)
              subst e0; subst e1
              clear h16
              go_wp2_with (go_at_call 33; refine (inRange_b _ _ _ _ _ HR1.out).mono ?_; rintro e w' ⟨rfl, rfl⟩)
              go_ret2
              exact ⟨.slice none 0 0, rfl, Own.nil _ _ _, BV2.out⟩
            · have h16i : ((vs.length : Int) == 16) = false := by rw [beq_eq_false_iff_ne]; omega
              have hxl : ((castV vs).map (Value.int .i64)).length ≤ 16 := by rw [List.length_map, castV_len]; exact hk16
              have HT2 := hid (show ws.take (vs ++ [m]).length = (vs ++ [m]).map dec by
                rw [List.length_append, List.length_singleton, HTS.out, HTK.out, HPD.out, List.map_append]; rfl)
              have HL2 := hid (show ∀ v ∈ vs ++ [m], v < 16 from fun v hv => by
                rcases List.mem_append.1 hv with h | h
                · exact HLT.out v h
                · rw [List.mem_singleton.1 h]; exact hm16)
              have hlen : (vs ++ [m]).length = vs.length + 1 := by simp
              have HLEN := hid hlen
              clear hlen
              go_wp2_with (first | (go_at_call 33; refine (inRange_b _ _ _ _ _ HR1.out).mono ?_; rintro e w' ⟨rfl, rfl⟩) | (at_builtin; refine law_push tI64 _ rfl _ _ rfl w.heap.size _ ((castV vs).map (.int .i64)) rfl OV2.out _ _ rfl ?c0 rfl ?c1 ?c2 ?_))
              case c0 => simp
              case c1 => exact Nat.lt_of_le_of_lt hxl (by decide)
              case c2 => exact hsw2
              intro v' w' h1 h2
              have ON := hid (show Own 2 w' w.heap.size v' ((castV (vs ++ [m])).map (.int .i64)) by unfold castV at h1 ⊢; rw [List.map_append, List.map_append]; exact h1)
              have hg := grown_below h2 hsw2 (fun g hg => OV2.out.ge g hg)
              have BN := hid (BV2.out.trans hg)
              have OWN := hid (OW2.out.kept h2 (OW2.out.ne OV2.out (by decide)))
              clear h1 h2 hg
              go_wp2
              go_roundw
              case rel => exact ⟨vs ++ [m], by rw [HLEN.out]; omega, by rw [HLEN.out]; omega, by rw [HLEN.out]; go_num, HL2.out, HT2.out, ON.out, BN.out, OWN.out⟩
              case measure => simp [intOf]; omega
          · have hr1 : decide (0 ≤ n ∧ n ≤ 15) = false := decide_eq_false hr
            obtain ⟨e0, e1⟩ := HNO.out (fun xs hx => by
              obtain ⟨_, v, h1, h2⟩ := HAT.out xs hx
              have := (HV.out v h1 h2).1
              exact hr (by omega))
            subst e0; subst e1
            have HR1 := hid hr1
            clear hr hr1
            go_wp2_with (go_at_call 33; refine (inRange_b _ _ _ _ _ HR1.out).mono ?_; rintro e w' ⟨rfl, rfl⟩)
            go_ret2
            exact ⟨.slice none 0 0, rfl, Own.nil _ _ _, BV2.out⟩
      · have hkl2 : vs.length = ws.length := by omega
        have hki : ¬ ((vs.length : Int) < (ws.length : Int)) := by omega
        obtain ⟨e0, e1⟩ := HYES.out vs ⟨HLT.out, hk16, by rw [HW.out, ← HTK.out, hkl2, List.take_length]⟩
        subst e0; subst e1
        clear hkl2 hkl
        go_wp2
        go_ret2
        exact ⟨_, rfl, OV.out, BV.out⟩
theorem l1Split_n (l : List UInt8) (c : UInt8) (x : Int) (w : World) (hx : (c.toNat : Int) = x) (hl : l.length ≤ 4194304) :
    Calls Tryd.prog 22 #[.string (str l), .int .u8 x] w (RetOwn 9 ((spl c l).map strF) w) := by
  subst hx; exact l1Split_any l c w hl
set_option maxRecDepth 100000 in
set_option maxHeartbeats 4000000 in
theorem specTextSet_any (s : ByteArray) (w : World) (r0 : List Int) (r1 : Bool) (hx0 : (tsR s).1 = r0) (hx1 : (tsR s).2 = r1) (hs : s.size ≤ 1048576) :
    Calls Tryd.prog 11 #[.string s] w (RetOwnB 2 (r0.map (.int .i64)) r1 w) := by
  obtain ⟨l, rfl⟩ : ∃ l, s = str l := ⟨s.data.toList, (str_data s).symm⟩
  have hl : l.length ≤ 1048576 := by rwa [str_size] at hs
  have hsz : (str l).size = l.length := str_size l
  clear hs
  have HO := hid (own_new 2 w [] (by simp [maxLen]))
  have B0 := hid (alloc_below w (.cells #[] 2))
  by_cases hd : l = [45]
  · subst hd
    rw [tsR_dash] at hx0 hx1
    subst hx0; subst hx1
    have hq := eq45 (l := [45]) rfl
    go_enter Tryd.func11, Tryd.ntmps11
    go_wp2
    go_ret2
    exact ⟨.slice (some ⟨w.heap.size, 0, none⟩) 0 0, rfl, HO.out, B0.out⟩
  · have hq := eq45' hd
    have HNO := hid (show (∀ vs, ¬ GoodT l vs) → r0 = [] ∧ r1 = false from fun h => by
      rw [tsR_bad hd h] at hx0 hx1
      exact ⟨hx0.symm, hx1.symm⟩)
    have HYES := hid (show ∀ vs, GoodT l vs → r0 = castV vs ∧ r1 = true from fun vs h => by
      rw [tsR_good hd h] at hx0 hx1
      exact ⟨hx0.symm, hx1.symm⟩)
    by_cases h8 : 800 < l.length
    · have h8i : (800 : Int) < (l.length : Int) := by omega
      obtain ⟨e0, e1⟩ := HNO.out (fun vs h => by have := h.short; omega)
      subst e0; subst e1
      clear hd hx0 hx1 h8
      go_enter Tryd.func11, Tryd.ntmps11
      go_wp2
      go_ret2
      exact ⟨.slice (some ⟨w.heap.size, 0, none⟩) 0 0, rfl, HO.out, B0.out⟩
    · have h8i : ¬ (800 : Int) < (l.length : Int) := by omega
      have hws := spl_len_le 44 l
      obtain ⟨ws, hw⟩ : ∃ ws, spl 44 l = ws := ⟨_, rfl⟩
      have hwm : ∀ p ∈ ws, p.length ≤ l.length := fun p hp => (spl_mem (by rw [hw]; exact hp)).2
      have hwn : 0 < ws.length := by rw [← hw]; exact List.length_pos_iff.2 (spl_ne 44 l)
      have HW := hid hw; have HWM := hid hwm; have HWN := hid hwn
      rw [hw] at hws
      clear hd hw hwm hx0 hx1 hwn
      go_enter Tryd.func11, Tryd.ntmps11
      go_wp2_with fail
      refine (l1Split_n l 44 _ _ rfl (by omega)).mono ?_
      rintro e w1 ⟨vw, rfl, hown, hb⟩
      rw [HW.out] at hown
      have OW1 := hid (hown.base (B' := w.heap.size) B0.out.size)
      obtain ⟨wa, wc, rfl, _⟩ := Own.rd hown
      have O1 := hid (HO.out.past hb (Nat.le_refl _))
      have B1 := hid (bon B0.out hb)
      clear hown hb HO B0
      go_wp2
      go_loopw [4, 6] (fun o x wr => ∃ ns : List Int, ns.length ≤ ws.length ∧ x = .int .i64 (ns.length : Nat) ∧ (∀ vs, GoodT l vs → ns = castV (vs.take ns.length)) ∧ (0 < ns.length → l ≠ []) ∧ Own 2 wr w.heap.size o (ns.map (.int .i64)) ∧ Below w.heap.size w wr ∧ Own 9 wr w.heap.size (.slice wa ws.length wc) (ws.map strF)) (fun _ x _ => ws.length - (intOf x).toNat)
      case atStart => exact ⟨[], Nat.zero_le _, rfl, (fun vs _ => rfl), (fun h => absurd h (Nat.lt_irrefl _)), O1.out, B1.out, OW1.out⟩
      case round =>
        clear O1 B1 OW1
        obtain ⟨ns, hk, rfl, hgd, hne, ho, hb, hb1⟩ := hrel
        have OV := hid ho; have BV := hid hb; have OW := hid hb1; have HGD := hid hgd; have HNE := hid hne
        clear ho hb hb1 hgd hne
        obtain ⟨oa, oc, rfl, _⟩ := Own.rd OV.out
        have hsw := BV.out.size
        by_cases hkl : ns.length < ws.length
        · have hki : (ns.length : Int) < (ws.length : Int) := by omega
          obtain ⟨_, _, ew, hrw, _⟩ := Own.rd OW.out
          obtain ⟨rfl, _, rfl⟩ := slice_inj ew
          obtain ⟨wb, wo, rfl, ck⟩ := hrw ns.length hkl
          have hpl := HWM.out _ (List.getElem_mem hkl)
          have HAT := hid (show ∀ xs, GoodT l xs → ∃ v, v < 16 ∧ xs[ns.length]? = some v ∧ ws[ns.length] = dec v from fun xs hx => by
            obtain ⟨v, h1, hv, h2⟩ := hx.at' ns.length (by rw [HW.out]; exact hkl)
            refine ⟨v, h1, hv, ?_⟩
            have h3 : (spl 44 l)[ns.length]? = some (dec v) := by rw [List.getElem?_eq_getElem (by rw [HW.out]; exact hkl), h2]
            rw [HW.out, List.getElem?_eq_getElem hkl] at h3
            exact Option.some.inj h3)
          have HNIL := hid (show ws[ns.length] ≠ [] → l ≠ [] from fun h1 h2 => by
            have h3 := HW.out
            rw [h2] at h3
            have h4 : ws[ns.length] ∈ spl 44 [] := by rw [h3]; exact List.getElem_mem hkl
            exact h1 (by simpa [spl] using h4))
          generalize ws[ns.length] = p at *
          have ck2 : wr.cell? ⟨wb, wo + ns.length, none⟩ = some (.string (str p)) := ck
          clear ck hrw ew
          go_wp2_with fail
          refine (l1Read_any p _ (by omega)).mono ?_
          rintro e w2 ⟨n, b, rfl, ⟨hn1, hn2, hv⟩, hc, rfl⟩
          have HV := hid hv; have HC := hid hc
          clear hv hc ck2
          cases b with
          | false =>
            obtain ⟨e0, e1⟩ := HNO.out (fun xs hx => by
              obtain ⟨v, h1, _, h2⟩ := HAT.out xs hx
              have := (HV.out v h1 h2).2
              cases this)
            subst e0; subst e1
            have ON := hid ((own_new 2 wr [] (by simp [maxLen])).base hsw)
            have BN := hid (bon BV.out (alloc_below wr (.cells #[] 2)))
            go_wp2
            go_ret2
            exact ⟨.slice (some ⟨wr.heap.size, 0, none⟩) 0 0, rfl, ON.out, BN.out⟩
          | true =>
            have hxl : (ns.map (Value.int .i64)).length ≤ 801 := by rw [List.length_map]; omega
            have HN2 := hid (show ∀ vs, GoodT l vs → ns ++ [n] = castV (vs.take (ns ++ [n]).length) from fun vs h => by
              obtain ⟨v, h1, hv, h2⟩ := HAT.out vs h
              have e := HGD.out vs h
              have hn := (HV.out v h1 h2).1
              obtain ⟨hkv, hv2⟩ := List.getElem?_eq_some_iff.1 hv
              rw [List.length_append, List.length_singleton, List.take_succ_eq_append_getElem hkv, hv2, hn]
              unfold castV at e ⊢
              rw [List.map_append, ← e]; rfl)
            have HE2 := hid (show 0 < (ns ++ [n]).length → l ≠ [] from fun _ => HNIL.out (HC.out rfl))
            have HLEN := hid (show (ns ++ [n]).length = ns.length + 1 by simp)
            go_wp2_with (at_builtin; refine law_push tI64 _ rfl _ _ rfl w.heap.size _ (ns.map (.int .i64)) rfl OV.out _ _ rfl ?c0 rfl ?c1 ?c2 ?_)
            case c0 => simp
            case c1 => exact Nat.lt_of_le_of_lt hxl (by decide)
            case c2 => exact hsw
            intro v' w' h1 h2
            have ON := hid (show Own 2 w' w.heap.size v' ((ns ++ [n]).map (.int .i64)) by rw [List.map_append]; exact h1)
            have BN := hid (BV.out.trans (grown_below h2 hsw (fun g hg => OV.out.ge g hg)))
            have OWN := hid (OW.out.kept h2 (OW.out.ne OV.out (by decide)))
            clear h1 h2
            go_wp2
            go_roundw
            case rel => exact ⟨ns ++ [n], by rw [HLEN.out]; omega, by rw [HLEN.out]; go_num, HN2.out, HE2.out, ON.out, BN.out, OWN.out⟩
            case measure => simp [intOf]; omega
        · have hkl2 : ns.length = ws.length := by omega
          have hki : ¬ ((ns.length : Int) < (ws.length : Int)) := by omega
          have hl0 : l ≠ [] := HNE.out (by have := HWN.out; omega)
          have hnn : ns ≠ [] := fun e => by rw [e] at hkl2; have := HWN.out; simp at hkl2; omega
          have hn8 : ns.length ≤ 1048576 := by omega
          obtain ⟨S, hS⟩ : ∃ S, setStr ns = S := ⟨_, rfl⟩
          have RN := hid (ownL_rd OV.out)
          have HS := hid hS
          by_cases hst : S = str l
          · obtain ⟨vs, hg, hnv⟩ := good_of_set hl0 hnn (hS.trans hst)
            obtain ⟨e0, e1⟩ := HYES.out vs hg
            rw [← hnv] at e0
            subst e0; subst e1
            have hbq : (S.toList == (str l).toList) = true := by rw [hst]; exact beq_self_eq_true _
            clear hst hS hg hnv hkl2 hkl
            go_wp2_with fail
            refine (specSetText_any oa r0 oc _ S HS.out RN.out hn8).mono ?_
            rintro e w2 ⟨rfl, hb2⟩
            have OV2 := hid (OV.out.past hb2 (Nat.le_refl _))
            have BV2 := hid (bon BV.out hb2)
            clear hb2
            go_wp2
            go_ret2
            exact ⟨_, rfl, OV2.out, BV2.out⟩
          · obtain ⟨e0, e1⟩ := HNO.out (fun vs hg => by
              have e := HGD.out vs hg
              have h1 := congrArg List.length hg.2.2
              rw [HW.out, List.length_map] at h1
              rw [show ns.length = vs.length by omega, List.take_length] at e
              exact hst (by rw [← hS, e, hg.set]))
            subst e0; subst e1
            have hbq : (S.toList == (str l).toList) = false := by
              rw [beq_eq_false_iff_ne]
              intro e
              apply hst
              rw [Go.Lib.toList_data, Go.Lib.toList_data] at e
              rw [← str_data S, e, str_data]
            clear hst hS hkl2 hkl
            go_wp2_with fail
            refine (specSetText_any oa ns oc _ S HS.out RN.out hn8).mono ?_
            rintro e w2 ⟨rfl, hb2⟩
            have BV2 := hid (bon BV.out hb2)
            have ON := hid ((own_new 2 w2 [] (by simp [maxLen])).base BV2.out.size)
            have BN := hid (bon BV2.out (alloc_below w2 (.cells #[] 2)))
            clear hb2
            go_wp2
            go_ret2
            exact ⟨.slice (some ⟨w2.heap.size, 0, none⟩) 0 0, rfl, ON.out, BN.out⟩
theorem tsR_small (s : ByteArray) : (tsR s).1.length ≤ 1048576 := by
  unfold tsR
  split
  · simp
  · split
    · rename_i h
      have := h.choose_spec.2.1
      show (castV h.choose).length ≤ _
      rw [castV_len]; omega
    · simp
end
end Go.Proofs.YtccohcdgcpcbjaaDoor
