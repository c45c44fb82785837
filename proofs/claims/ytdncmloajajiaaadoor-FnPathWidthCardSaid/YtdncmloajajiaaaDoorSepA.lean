/- The least separations: plain. · The least separations: the program's. · The least order by separations: the program's. · PathWidth, PathAtMost: the program's. -/
import Derived.Test.YtdncmloajajiaaaDoorLeft
import Derived.Test.YtdncmloajajiaaaDoorMem3
import Derived.Test.YtdncmloajajiaaaDoorPerfM
import Derived.Deep.RegionHeld3
namespace Go.Proofs.YtdncmloajajiaaaDoor
open Go.RowKit
section
def openB (A : List Nat) (S v : Nat) : Bool := S.testBit v && decide (dif (A.getD v 0) S ≠ 0)
def opN (A : List Nat) (S : Nat) : Nat := ((List.range 16).filter (openB A S)).length
def opM (A : List Nat) (S : Nat) : Nat := maskL (((memsN S).filter fun v => decide (dif (A.getD v 0) S ≠ 0)).map fun i : Nat => (i : Int))
theorem testBit_opM {A : List Nat} {S : Nat} (hS : S < 65536) (i : Nat) : (opM A S).testBit i = openB A S i := by
  unfold opM
  rw [testBit_maskL _ i (by intro v hv; obtain ⟨j, _, rfl⟩ := List.mem_map.1 hv; omega), Bool.eq_iff_iff, decide_eq_true_iff, List.mem_map]
  unfold openB
  constructor
  · rintro ⟨j, hj, he⟩
    obtain rfl : j = i := by omega
    rw [List.mem_filter] at hj
    rw [(memsN_mem (by omega)).1 hj.1, hj.2]; rfl
  · intro h
    rw [Bool.and_eq_true] at h
    exact ⟨i, List.mem_filter.2 ⟨(memsN_mem (by omega)).2 h.1, h.2⟩, rfl⟩
theorem opM_lt {A : List Nat} {S : Nat} (hS : S < 65536) : opM A S < 65536 := by
  apply mask_lt _ 16
  intro i hi
  rw [testBit_opM hS] at hi
  unfold openB at hi
  rw [Bool.and_eq_true] at hi
  exact bit_under (n := 16) hS hi.1
theorem opM_size {A : List Nat} {S : Nat} (hS : S < 65536) : pcN 16 (opM A S) = opN A S := by
  rw [pcN_filter]
  unfold opN
  congr 1
  apply List.filter_congr
  intro i _
  exact testBit_opM hS i
theorem opN_le (A : List Nat) (S : Nat) : opN A S ≤ 16 := by
  unfold opN
  refine Nat.le_trans (List.length_filter_le _ _) ?_
  simp
theorem opN_zero (A : List Nat) : opN A 0 = 0 := by
  unfold opN openB
  rw [List.length_eq_zero_iff, List.filter_eq_nil_iff]
  intro a _; simp
def sepF (A : List Nat) (F : Nat) : Nat → Nat → Nat
  | 0, _ => 0
  | f + 1, S => ((memsN (dif F S)).map fun v => max (opN A (S ||| 2 ^ v)) (sepF A F f (S ||| 2 ^ v))).foldl min 16
def sepV (A : List Nat) (F S : Nat) : Nat := sepF A F (memsN (dif F S)).length S
def spV (A : List Nat) (F S : Nat) : Nat := max (opN A S) (sepV A F S)
theorem dif_or {F S v : Nat} : dif F (S ||| 2 ^ v) = dif (dif F S) (2 ^ v) := by
  apply Nat.eq_of_testBit_eq
  intro i
  rw [testBit_dif, testBit_dif, testBit_dif, Nat.testBit_or]
  cases F.testBit i <;> cases S.testBit i <;> simp
theorem dif_self (F : Nat) : dif F F = 0 := (dif_zero F F).2 fun _ h => h
theorem sepV_full (A : List Nat) (F : Nat) : sepV A F F = 0 := by
  unfold sepV
  rw [dif_self, memsN_zero]; rfl
theorem sepV_step (A : List Nat) {F S : Nat} (hF : F < 65536) (h0 : dif F S ≠ 0) : sepV A F S = ((memsN (dif F S)).map fun v => spV A F (S ||| 2 ^ v)).foldl min 16 := by
  have hd : dif F S < 4294967296 := by have := dif_le F S; omega
  have hl : (memsN (dif F S)).length ≠ 0 := fun e => h0 ((memsN_nil hd).1 e)
  obtain ⟨f, hf⟩ : ∃ f, (memsN (dif F S)).length = f + 1 := ⟨(memsN (dif F S)).length - 1, by omega⟩
  unfold sepV
  rw [hf]
  show ((memsN (dif F S)).map fun v => max (opN A (S ||| 2 ^ v)) (sepF A F f (S ||| 2 ^ v))).foldl min 16 = _
  congr 1
  apply List.map_congr_left
  intro v hv
  have hb := (memsN_mem hd).1 hv
  have h1 := memsN_dif hd hb
  unfold spV sepV
  rw [dif_or, show (memsN (dif (dif F S) (2 ^ v))).length = f by omega]
theorem foldl_min_le (L : List Nat) (b : Nat) : L.foldl min b ≤ b := by
  induction L generalizing b with
  | nil => exact Nat.le_refl _
  | cons x L ih => exact Nat.le_trans (ih _) (Nat.min_le_left _ _)
theorem sepV_le (A : List Nat) {F S : Nat} (hF : F < 65536) : sepV A F S ≤ 16 := by
  by_cases h0 : dif F S = 0
  · unfold sepV; rw [h0, memsN_zero]; exact Nat.zero_le _
  · rw [sepV_step A hF h0]; exact foldl_min_le _ _
theorem spV_le (A : List Nat) {F S : Nat} (hF : F < 65536) : spV A F S ≤ 16 := Nat.max_le.2 ⟨opN_le A S, sepV_le A hF⟩
theorem foldl_min_mem (L : List Nat) (b : Nat) : L.foldl min b = b ∨ L.foldl min b ∈ L := by
  induction L generalizing b with
  | nil => exact .inl rfl
  | cons x L ih =>
    show L.foldl min (min b x) = b ∨ _
    rcases ih (min b x) with h | h
    · by_cases hbx : b ≤ x
      · left; rw [h]; exact Nat.min_eq_left hbx
      · right
        show L.foldl min (min b x) ∈ x :: L
        rw [h, Nat.min_eq_right (by omega)]; exact List.mem_cons_self
    · right; show L.foldl min (min b x) ∈ x :: L
      exact List.mem_cons_of_mem _ h
/-- Some vertex goes on as well as the best does. -/
theorem sepV_some (A : List Nat) {F S : Nat} (hF : F < 65536) (h0 : dif F S ≠ 0) : ∃ v ∈ memsN (dif F S), spV A F (S ||| 2 ^ v) ≤ sepV A F S := by
  rw [sepV_step A hF h0]
  rcases foldl_min_mem ((memsN (dif F S)).map fun v => spV A F (S ||| 2 ^ v)) 16 with h | h
  · have hd : dif F S < 4294967296 := by have := dif_le F S; omega
    refine ⟨low (dif F S), (memsN_mem hd).2 (low_bit h0 hd), ?_⟩
    rw [h]; exact spV_le A hF
  · obtain ⟨v, hv, he⟩ := List.mem_map.1 h
    exact ⟨v, hv, by rw [he]; exact Nat.le_refl _⟩
def nxtV (A : List Nat) (F : Nat) (k : Int) (S : Nat) : Option Nat := (memsN (dif F S)).find? fun v => decide ((spV A F (S ||| 2 ^ v) : Int) ≤ k)
def ordF (A : List Nat) (F : Nat) (k : Int) : Nat → Nat → List Nat
  | 0, _ => []
  | f + 1, S => match nxtV A F k S with
    | none => []
    | some v => v :: ordF A F k f (S ||| 2 ^ v)
theorem nxtV_some {A : List Nat} {F : Nat} {k : Int} {S : Nat} (hF : F < 65536) (h0 : dif F S ≠ 0) (hk : (sepV A F S : Int) ≤ k) : ∃ v, nxtV A F k S = some v ∧ v ∈ memsN (dif F S) ∧ (sepV A F (S ||| 2 ^ v) : Int) ≤ k := by
  obtain ⟨u, hu, hle⟩ := sepV_some A hF h0
  cases h : nxtV A F k S with
  | none =>
    have := List.find?_eq_none.1 h u hu
    simp at this; omega
  | some v =>
    have h1 := List.mem_of_find?_eq_some h
    have h2 := List.find?_some h
    have h3 : (spV A F (S ||| 2 ^ v) : Int) ≤ k := by simpa using h2
    have h4 : sepV A F (S ||| 2 ^ v) ≤ spV A F (S ||| 2 ^ v) := Nat.le_max_right _ _
    exact ⟨v, rfl, h1, by omega⟩
theorem ordF_step {A : List Nat} {F : Nat} {k : Int} {S v : Nat} (hF : F < 65536) (hv : nxtV A F k S = some v) : ordF A F k (memsN (dif F S)).length S = v :: ordF A F k (memsN (dif F (S ||| 2 ^ v))).length (S ||| 2 ^ v) := by
  have hd : dif F S < 4294967296 := by have := dif_le F S; omega
  have h1 := memsN_dif hd ((memsN_mem hd).1 (List.mem_of_find?_eq_some hv))
  rw [dif_or, ← h1]
  show (match nxtV A F k S with | none => [] | some v => v :: ordF A F k _ (S ||| 2 ^ v)) = _
  rw [hv]
end
section
def opTo (A : List Nat) (S k : Nat) : Nat := maskL ((((memsN S).take k).filter fun v => decide (dif (A.getD v 0) S ≠ 0)).map fun i : Nat => (i : Int))
theorem opTo_succ (A : List Nat) (S k : Nat) (h : k < (memsN S).length) : opTo A S (k + 1) = if dif (A.getD (memsN S)[k] 0) S ≠ 0 then opTo A S k ||| 2 ^ (memsN S)[k] else opTo A S k := by
  unfold opTo
  rw [List.take_succ_eq_append_getElem h, List.filter_append]
  by_cases hc : dif (A.getD (memsN S)[k] 0) S ≠ 0
  · rw [if_pos hc, List.filter_cons_of_pos (by simpa using hc), List.map_append]
    show maskL (_ ++ [(((memsN S)[k] : Nat) : Int)]) = _
    rw [maskL_snoc, Int.toNat_natCast]
  · rw [if_neg hc, List.filter_cons_of_neg (by simpa using hc), List.filter_nil, List.append_nil]
theorem opTo_lt (A : List Nat) {S : Nat} (hS : S < 65536) (k : Nat) : opTo A S k < 65536 := by
  unfold opTo
  apply maskL_lt _ 16
  intro v hv
  obtain ⟨j, hj, rfl⟩ := List.mem_map.1 hv
  have h1 := List.mem_of_mem_take (List.mem_filter.1 hj).1
  have := bit_under (n := 16) hS ((memsN_mem (by omega)).1 h1)
  omega
set_option maxRecDepth 100000 in
set_option maxHeartbeats 1000000 in
theorem openOf_b (a : Option Addr) (A : List Nat) (c n S : Nat) (w : World) (hlen : A.length = n) (hT : TabOk w) (hr : Rd maskF w a A) (hA : ∀ x ∈ A, x < 65536) (hAn : n ≤ 16) (hS : S < 2 ^ n) :
    Calls Tryd.prog 86 #[.slice a n c, .int .u32 S] w fun e w' => e = .returned (.int .u32 (opM A S : Nat)) ∧ Below w.heap.size w w' := by
  have RT := hid hT; have RA := hid hr; have HA := hid hA; have HLN := hid hlen
  have hp : 2 ^ n ≤ 65536 := Nat.pow_le_pow_right (n := 2) (i := n) (j := 16) (by decide) hAn
  have hS16 : S < 65536 := by omega
  have HS := hid hS
  clear hT hr hA hlen hS
  have B0 := hid (Below.refl w.heap.size w)
  go_enter Tryd.func86, Tryd.ntmps86
  go_wp2_with fail
  refine (list_any S _ RT.out hS16).mono ?_
  rintro e w1 ⟨lv, rfl, ho, hb⟩
  replace RT := hid (RT.out.below hb (Nat.le_refl _))
  replace RA := hid (RA.out.below hb (Nat.le_refl _))
  replace B0 := hid (bon B0.out hb)
  clear hb
  obtain ⟨la, lc, rfl, hlr, _, _, _, hlb⟩ := ho.rd
  have RL := hid hlr; clear hlr ho hlb
  have hml := mems_len S
  go_wp2
  go_loop [5, 7, 11] (fun o _ x => ∃ k : Nat, k ≤ (mems S).length ∧ x = .int .i64 k ∧ o = .int .u32 (opTo A S k : Nat)) (fun _ _ x => (mems S).length - (intOf x).toNat)
  case atStart => exact ⟨0, Nat.zero_le _, rfl, rfl⟩
  case round =>
    obtain ⟨k, hk, rfl, rfl⟩ := hrel
    by_cases hlt : k < (mems S).length
    · obtain ⟨lb, lo, rfl, cl⟩ := RL.out k hlt
      have hki : (k : Int) < ((mems S).length : Int) := by omega
      have hltN : k < (memsN S).length := by rw [← mems_lenN]; exact hlt
      have hvb := (memsN_mem (show S < 4294967296 by omega)).1 (List.getElem_mem hltN)
      have hvl := bit_under HS.out hvb
      have HSU := hid (opTo_succ A S k hltN)
      have hol := opTo_lt A hS16 k
      rw [memsN_get hlt] at cl
      clear hvb
      generalize (memsN S)[k] = v at *
      obtain ⟨ab, ao, rfl, cv⟩ := RA.out v (by rw [HLN.out]; exact hvl)
      have hAv := HA.out _ (List.getElem_mem (show v < A.length by rw [HLN.out]; exact hvl))
      have hge : A.getD v 0 = A[v]'(by rw [HLN.out]; exact hvl) := by rw [List.getD_eq_getElem?_getD, List.getElem?_eq_getElem (show v < A.length by rw [HLN.out]; exact hvl)]; rfl
      rw [hge] at HSU
      unfold maskF at cv
      have hvi : (v : Int) < (n : Int) := by omega
      clear hge
      generalize A[v]'(by rw [HLN.out]; exact hvl) = X at *
      have hdf := u32_dif X S (by omega) (by omega)
      generalize dif X S = Z at *
      by_cases hz : Z = 0
      · have dz : ((Z : Int) != 0) = false := by rw [hz]; rfl
        rw [if_neg (fun h => h hz)] at HSU
        go_wp2
        go_round
        case rel => exact ⟨k + 1, by omega, by go_num, by rw [HSU.out]⟩
        case measure => simp [intOf]; omega
      · have dz : ((Z : Int) != 0) = true := by simp; omega
        rw [if_pos hz] at HSU
        have hpw : 2 ^ v < 65536 := Nat.pow_lt_pow_right (by decide) (show v < 16 by omega)
        have hor := u32_or_nat (opTo A S k) (2 ^ v) (by omega) (by omega)
        rw [← HSU.out] at hor
        clear HSU
        generalize hO2 : opTo A S (k + 1) = O2 at *
        have HO2 := hid hO2; clear hO2
        generalize opTo A S k = O at *
        generalize hPP : 2 ^ v = P at *
        go_wp2_with (first | (go_at_call 41; refine (one_p v P _ (by omega) hPP).mono ?_; rintro e w' ⟨rfl, rfl⟩))
        go_round
        case rel => exact ⟨k + 1, by omega, by go_num, by rw [HO2.out]⟩
        case measure => simp [intOf]; omega
    · obtain rfl : k = (mems S).length := by omega
      have HF := hid (show opTo A S (mems S).length = opM A S by unfold opTo opM; rw [mems_lenN, List.take_length])
      rw [HF.out]
      go_wp2
      go_ret
      exact ⟨rfl, B0.out⟩
def iv (i : Nat) : Value := .int .i64 (i : Int)
theorem set_min (T : List Nat) (s : Nat) (a b : Nat) : (T.set s a).set s b = T.set s b := by rw [List.set_set]
theorem getD_setN (T : List Nat) (a b x : Nat) (hb : b < T.length) : (T.set a x).getD b 0 = if a = b then x else T.getD b 0 := by
  rw [List.getD_eq_getElem?_getD, List.getElem?_set, List.getD_eq_getElem?_getD]
  by_cases h : a = b
  · subst h; simp [hb]
  · simp [h]
theorem or_bounds {n S v : Nat} (hS : S < 2 ^ n) (hv : v < n) (hb : S.testBit v = false) : S < S ||| 2 ^ v ∧ S ||| 2 ^ v < 2 ^ n := by
  have h1 : S ||| 2 ^ v < 2 ^ n := Nat.or_lt_two_pow hS (Nat.pow_lt_pow_right (by decide) hv)
  refine ⟨?_, h1⟩
  have h2 : S ≤ S ||| 2 ^ v := Nat.left_le_or
  have h3 : S ≠ S ||| 2 ^ v := by
    intro e
    have := congrArg (fun m : Nat => m.testBit v) e
    simp only [Nat.testBit_or, Nat.testBit_two_pow_self, hb] at this
    simp at this
  omega
def minTo (A : List Nat) (F S k : Nat) : Nat := (((memsN (dif F S)).take k).map fun v => spV A F (S ||| 2 ^ v)).foldl min 16
theorem minTo_succ (A : List Nat) (F S k : Nat) (h : k < (memsN (dif F S)).length) : minTo A F S (k + 1) = min (minTo A F S k) (spV A F (S ||| 2 ^ (memsN (dif F S))[k])) := by
  unfold minTo
  rw [List.take_succ_eq_append_getElem h, List.map_append, List.foldl_append]
  rfl
theorem minTo_le (A : List Nat) (F S k : Nat) : minTo A F S k ≤ 16 := foldl_min_le _ _
set_option maxRecDepth 100000 in
set_option maxHeartbeats 2000000 in
theorem separations_any (a : Option Addr) (A : List Nat) (c n F : Nat) (w : World) (hF : 2 ^ n - 1 = F) (hlen : A.length = n) (hT : TabOk w) (hr : Rd maskF w a A) (hA : ∀ x ∈ A, x < 65536) (hAn : n ≤ 16) (hn1 : 1 ≤ n) :
    Calls Tryd.prog 57 #[.slice a n c] w fun e w' => ∃ (T : List Nat) (v : Value), e = .returned v ∧ Own 3 w' w.heap.size v (T.map iv) ∧ T.length = F + 1 ∧ (∀ r, r ≤ F → T.getD r 0 = sepV A F r) ∧ Below w.heap.size w w' := by
  have RT := hid hT; have RA := hid hr; have HA := hid hA; have HLN := hid hlen
  have hp : 2 ^ n ≤ 65536 := Nat.pow_le_pow_right (n := 2) (i := n) (j := 16) (by decide) hAn
  have hpos := Nat.two_pow_pos n
  have h2n : 2 ≤ 2 ^ n := Nat.le_trans (by decide) (Nat.pow_le_pow_right (n := 2) (i := 1) (j := n) (by decide) hn1)
  have hF1 : 1 ≤ F := by omega
  have hF16 : F < 65536 := by omega
  have HFN := hid (show 2 ^ n = F + 1 by omega)
  clear hT hr hA hlen hp hpos h2n
  have B0 := hid (Below.refl w.heap.size w)
  go_enter Tryd.func57, Tryd.ntmps57
  go_wp2_with (first | (go_at_call 48; refine (all_p _ _ _ F _ hAn hF).mono ?_; rintro e w' ⟨rfl, rfl⟩) | (at_make; refine law_make tIntsL _ rfl _ _ rfl (F + 1) _ _ rfl rfl (by omega) ?_; intro wm hown hb hsz))
  have OG0 := hid (show Own 3 wm w.heap.size (.slice (some ⟨w.heap.size, 0, none⟩) (F + 1) (F + 1)) ((List.replicate (F + 1) 0).map iv) by rw [List.map_replicate]; exact hown)
  have BG0 := hid hb; clear hown hb
  have hFi : 1 ≤ (F : Int) := by omega
  go_wp2
  go_loopw [5, 7, 8] (fun sv _ _ wr => ∃ (S : Nat) (T : List Nat), sv = .int .i64 ((S : Int) - 1) ∧ S ≤ F ∧ T.length = F + 1 ∧ (∀ r, S ≤ r → r ≤ F → T.getD r 0 = sepV A F r) ∧ Own 3 wr w.heap.size (.slice (some ⟨w.heap.size, 0, none⟩) (F + 1) (F + 1)) (T.map iv) ∧ Below w.heap.size w wr) (fun sv _ _ _ => (intOf sv + 1).toNat)
  case atStart =>
    refine ⟨F, List.replicate (F + 1) 0, rfl, Nat.le_refl _, by simp, ?_, OG0.out, BG0.out⟩
    intro r h1 h2
    obtain rfl : r = F := by omega
    rw [sepV_full, List.getD_eq_getElem?_getD, List.getElem?_replicate]
    simp
  case round =>
    obtain ⟨S, T, hsv, hSF, hTl, hTv, ho, hb⟩ := hrel
    have OT := hid ho; have BL := hid hb; have HTL := hid hTl; have HTV := hid hTv; clear ho hb hTl hTv
    rcases Nat.eq_zero_or_pos S with hS0 | hS0
    · have hsv2 := hsv.trans (show Value.int .i64 ((S : Int) - 1) = .int .i64 (-1) by rw [hS0]; rfl)
      clear hsv
      subst hsv2
      go_wp2
      go_ret
      exact ⟨T, _, rfl, OT.out, HTL.out, fun r hr => HTV.out r (by omega) hr, BL.out⟩
    · obtain ⟨s, rfl⟩ : ∃ s, S = s + 1 := ⟨S - 1, by omega⟩
      have hsv2 := hsv.trans (show Value.int .i64 (((s + 1 : Nat) : Int) - 1) = .int .i64 (s : Int) by congr 1; omega)
      clear hsv
      subst hsv2
      have hsi : (0 : Int) ≤ (s : Int) := by omega
      have hsF : (s : Int) < (F : Int) + 1 := by omega
      have hsn : s < 2 ^ n := by have := HFN.out; omega
      have h0 : dif F s ≠ 0 := by
        intro e
        rw [dif_zero] at e
        have h1 : F &&& s = F := by
          apply Nat.eq_of_testBit_eq
          intro i
          rw [Nat.testBit_and]
          cases hb : F.testBit i
          · rfl
          · rw [e i hb]; rfl
        have h2 : F &&& s ≤ s := Nat.and_le_right
        omega
      have hdf := u32_dif F s (by omega) (by omega)
      have hdl := dif_le F s
      have HSTP := hid (sepV_step A hF16 h0)
      -- the first store
      have hst := OT.out.store s (by rw [List.length_map, HTL.out]; omega) (iv 16)
      rw [← List.map_set] at hst
      have OT1 := hid hst; clear hst
      have hfr := OT.out.free s
      have hcs := OT.out.cell s (by rw [List.length_map, HTL.out]; omega)
      have BL1 := hid (show Below w.heap.size w (wr.setCell ⟨w.heap.size, s, none⟩ (.int .i64 16)) from BL.out.setCell (p := ⟨w.heap.size, s, none⟩) (Nat.le_refl _) (iv 16))
      have OT2 := hid (show Own 3 (wr.setCell ⟨w.heap.size, s, none⟩ (.int .i64 16)) w.heap.size (.slice (some ⟨w.heap.size, 0, none⟩) (F + 1) (F + 1)) ((T.set s (minTo A F s 0)).map iv) from OT1.out)
      have RT1 := hid (RT.out.below BL1.out (Nat.le_refl _))
      have hlts := OT2.out.lt w.heap.size rfl
      clear OT BL OT1
      go_wp2_with fail
      refine (list_any (dif F s) _ RT1.out (by omega)).mono ?_
      rintro e w3 ⟨lv, rfl, ho, hb⟩
      obtain ⟨la, lc, rfl, hlr, _, _, _, hlb⟩ := ho.rd
      have RL := hid hlr
      have HLB := hid hlb
      have OT3 := hid (OT2.out.past hb (Nat.le_refl _))
      have BL3 := hid (BL1.out.trans (hb.mono (Nat.le_of_lt hlts)))
      clear hlr ho hlb hb OT2 BL1 RT1
      have hml := mems_len (dif F s)
      go_wp2
      go_loopw [7, 8, 30] (fun _ _ x wq => ∃ k : Nat, k ≤ (mems (dif F s)).length ∧ x = .int .i64 k ∧ Own 3 wq w.heap.size (.slice (some ⟨w.heap.size, 0, none⟩) (F + 1) (F + 1)) ((T.set s (minTo A F s k)).map iv) ∧ Kept (fun g => g = w.heap.size) w3 wq ∧ Below w.heap.size w wq) (fun _ _ x _ => (mems (dif F s)).length - (intOf x).toNat)
      case atStart => exact ⟨0, Nat.zero_le _, rfl, OT3.out, Kept.refl _ _, BL3.out⟩
      case round =>
        clear OT3 BL3
        obtain ⟨k, hk, rfl, ho, hkp, hb⟩ := hrel
        have OT := hid ho; have BL := hid hb; have KP := hid hkp
        have RT1 := hid (RT.out.below hb (Nat.le_refl _)); have RA1 := hid (RA.out.below hb (Nat.le_refl _))
        clear ho hkp hb
        by_cases hlt : k < (mems (dif F s)).length
        · obtain ⟨lb, lo, hla, cl⟩ := RL.out k hlt
          have hlbb := (HLB.out lb lo hla).1
          have clq := cellK KP.out cl (by simp only; omega)
          have hatl := at_slice tIntsL hla (mems (dif F s)).length lc k hlt
          have HLA := hid hla; clear hla
          have hki : (k : Int) < ((mems (dif F s)).length : Int) := by omega
          have hltN : k < (memsN (dif F s)).length := by rw [← mems_lenN]; exact hlt
          have hvb := (memsN_mem (show dif F s < 4294967296 by omega)).1 (List.getElem_mem hltN)
          rw [testBit_dif, Bool.and_eq_true] at hvb
          have hvl := bit_under (n := n) (by have := HFN.out; omega) hvb.1
          have hvs : s.testBit (memsN (dif F s))[k] = false := by simpa using hvb.2
          have hob := or_bounds hsn hvl hvs
          have HMT := hid (minTo_succ A F s k hltN)
          rw [memsN_get hlt] at clq
          clear cl hvb hvs
          generalize (memsN (dif F s))[k] = v at *
          have hpw : 2 ^ v < 65536 := Nat.pow_lt_pow_right (by decide) (show v < 16 by omega)
          have hor := u32_or_nat s (2 ^ v) (by omega) (by omega)
          obtain ⟨hsN, hNn⟩ := hob
          have hNF : s ||| 2 ^ v ≤ F := by have := HFN.out; omega
          have hTN := HTV.out (s ||| 2 ^ v) (by omega) hNF
          unfold spV at HMT
          generalize hPP : 2 ^ v = P at *
          generalize s ||| P = N at *
          have hN16 : N < 65536 := by omega
          have HOM := hid (opM_lt (A := A) hN16)
          have HSZ := hid (fun (w : World) => (show Calls Tryd.prog 87 #[.int .u32 (opM A N : Nat)] w fun e w' => e = .returned (.int .i64 (opN A N : Nat)) ∧ Drawn w w' by rw [← opM_size hN16]; exact size_any _ w HOM.out))
          have ccs := OT.out.cell s (by rw [List.length_map, List.length_set, HTL.out]; omega)
          rw [List.getElem_map, List.getElem_set_self] at ccs
          have ccN := OT.out.cell N (by rw [List.length_map, List.length_set, HTL.out]; omega)
          rw [List.getElem_map, List.getElem_set_ne (by omega)] at ccN
          have hTNN : T[N]'(by rw [HTL.out]; omega) = sepV A F N := by
            rw [← hTN, List.getD_eq_getElem?_getD, List.getElem?_eq_getElem (show N < T.length by rw [HTL.out]; omega)]; rfl
          rw [hTNN] at ccN
          have ho16 := opN_le A N
          have hm16 := sepV_le A (F := F) (S := N) hF16
          have hc16 := minTo_le A F s k
          clear hTNN hTN
          unfold iv at ccs ccN
          generalize sepV A F N = m at *
          generalize opN A N = o at *
          generalize hc0 : minTo A F s k = c0 at *
          clear hc0
          have hsNi : (N : Int) < (F : Int) + 1 := by omega
          have BS := hid (Below.refl wr.heap.size wr)
          go_wp2_with (first | (go_at_call 41; refine (one_p v P _ (by omega) hPP).mono ?_; rintro e w' ⟨rfl, rfl⟩))
          rcases (show (o < m ∧ m < c0) ∨ (o < m ∧ ¬ m < c0) ∨ (¬ o < m ∧ o < c0) ∨ (¬ o < m ∧ ¬ o < c0) by omega) with ⟨j1, j2⟩ | ⟨j1, j2⟩ | ⟨j1, j2⟩ | ⟨j1, j2⟩
          · have i1 : (o : Int) < (m : Int) := by omega
            have i2 : (m : Int) < (c0 : Int) := by omega
            have HV := hid (show minTo A F s (k + 1) = m by rw [HMT.out]; omega)
            have qccs := fun (p : Bel _) => cellB p.h ccs (Nat.le_refl _)
            have qccN := fun (p : Bel _) => cellB p.h ccN (Nat.le_refl _)
            refine wp_quiet_tail_b 17 (by kernel_rfl) (by kernel_rfl) ?_
            simp only [List.take_succ_cons, List.take_zero, List.drop_succ_cons, List.drop_zero]
            repeat (go_big_quiet_step (first | (go_at_call 86; exact qb (openOf_b _ A _ n N _ HLN.out (RT1.out.bel _) (RA1.out.bel _) HA.out hAn hNn)) | (go_at_call 87; exact qbd (HSZ.out _))))
            refine wpQuiet_nil ?_
            intro _ hw'
            obtain ⟨⟨w1, hb⟩, rfl⟩ := hw'
            clear qccs qccN
            replace RT1 := hid (RT1.out.below hb (Nat.le_refl _))
            replace RA1 := hid (RA1.out.below hb (Nat.le_refl _))
            replace OT := hid (OT.out.past hb (Nat.le_refl _))
            replace BL := hid (bon BL.out hb)
            replace BS := hid (bon BS.out hb)
            replace ccs := cellB hb ccs (Nat.le_refl _)
            replace ccN := cellB hb ccN (Nat.le_refl _)
            clear hb
            have hst := OT.out.store s (by rw [List.length_map, List.length_set, HTL.out]; omega) (iv m)
            rw [← List.map_set, List.set_set] at hst
            have OT2 := hid hst; clear hst
            have hfr := OT.out.free s
            have BL2 := hid (BL.out.setCell (p := ⟨w.heap.size, s, none⟩) (Nat.le_refl _) (iv m))
            have KP2 := hid ((KP.out.trans (Kept.of_below _ BS.out)).setCell (p := ⟨w.heap.size, s, none⟩) rfl (iv m))
            clear OT BL KP
            go_wp2
            go_roundw
            case rel => exact ⟨k + 1, by omega, by go_num, by rw [HV.out]; exact OT2.out, KP2.out, BL2.out⟩
            case measure => simp [intOf]; omega
          · have i1 : (o : Int) < (m : Int) := by omega
            have i2 : ¬ (m : Int) < (c0 : Int) := by omega
            have HV := hid (show minTo A F s (k + 1) = c0 by rw [HMT.out]; omega)
            have qccs := fun (p : Bel _) => cellB p.h ccs (Nat.le_refl _)
            have qccN := fun (p : Bel _) => cellB p.h ccN (Nat.le_refl _)
            refine wp_quiet_tail_b 17 (by kernel_rfl) (by kernel_rfl) ?_
            simp only [List.take_succ_cons, List.take_zero, List.drop_succ_cons, List.drop_zero]
            repeat (go_big_quiet_step (first | (go_at_call 86; exact qb (openOf_b _ A _ n N _ HLN.out (RT1.out.bel _) (RA1.out.bel _) HA.out hAn hNn)) | (go_at_call 87; exact qbd (HSZ.out _))))
            refine wpQuiet_nil ?_
            intro _ hw'
            obtain ⟨⟨w2, hb⟩, rfl⟩ := hw'
            clear qccs qccN
            replace RT1 := hid (RT1.out.below hb (Nat.le_refl _))
            replace RA1 := hid (RA1.out.below hb (Nat.le_refl _))
            replace OT := hid (OT.out.past hb (Nat.le_refl _))
            replace BL := hid (bon BL.out hb)
            replace BS := hid (bon BS.out hb)
            replace ccs := cellB hb ccs (Nat.le_refl _)
            replace ccN := cellB hb ccN (Nat.le_refl _)
            clear hb
            have hst := OT.out.store s (by rw [List.length_map, List.length_set, HTL.out]; omega) (iv c0)
            rw [← List.map_set, List.set_set] at hst
            have OT2 := hid hst; clear hst
            have hfr := OT.out.free s
            have BL2 := hid (BL.out.setCell (p := ⟨w.heap.size, s, none⟩) (Nat.le_refl _) (iv c0))
            have KP2 := hid ((KP.out.trans (Kept.of_below _ BS.out)).setCell (p := ⟨w.heap.size, s, none⟩) rfl (iv c0))
            clear OT BL KP
            go_wp2
            go_roundw
            case rel => exact ⟨k + 1, by omega, by go_num, by rw [HV.out]; exact OT2.out, KP2.out, BL2.out⟩
            case measure => simp [intOf]; omega
          · have i1 : ¬ (o : Int) < (m : Int) := by omega
            have i2 : (o : Int) < (c0 : Int) := by omega
            have HV := hid (show minTo A F s (k + 1) = o by rw [HMT.out]; omega)
            have qccs := fun (p : Bel _) => cellB p.h ccs (Nat.le_refl _)
            have qccN := fun (p : Bel _) => cellB p.h ccN (Nat.le_refl _)
            refine wp_quiet_tail_b 17 (by kernel_rfl) (by kernel_rfl) ?_
            simp only [List.take_succ_cons, List.take_zero, List.drop_succ_cons, List.drop_zero]
            repeat (go_big_quiet_step (first | (go_at_call 86; exact qb (openOf_b _ A _ n N _ HLN.out (RT1.out.bel _) (RA1.out.bel _) HA.out hAn hNn)) | (go_at_call 87; exact qbd (HSZ.out _))))
            refine wpQuiet_nil ?_
            intro _ hw'
            obtain ⟨⟨w3, hb⟩, rfl⟩ := hw'
            clear qccs qccN
            replace RT1 := hid (RT1.out.below hb (Nat.le_refl _))
            replace RA1 := hid (RA1.out.below hb (Nat.le_refl _))
            replace OT := hid (OT.out.past hb (Nat.le_refl _))
            replace BL := hid (bon BL.out hb)
            replace BS := hid (bon BS.out hb)
            replace ccs := cellB hb ccs (Nat.le_refl _)
            replace ccN := cellB hb ccN (Nat.le_refl _)
            clear hb
            have hst := OT.out.store s (by rw [List.length_map, List.length_set, HTL.out]; omega) (iv o)
            rw [← List.map_set, List.set_set] at hst
            have OT2 := hid hst; clear hst
            have hfr := OT.out.free s
            have BL2 := hid (BL.out.setCell (p := ⟨w.heap.size, s, none⟩) (Nat.le_refl _) (iv o))
            have KP2 := hid ((KP.out.trans (Kept.of_below _ BS.out)).setCell (p := ⟨w.heap.size, s, none⟩) rfl (iv o))
            clear OT BL KP
            go_wp2
            go_roundw
            case rel => exact ⟨k + 1, by omega, by go_num, by rw [HV.out]; exact OT2.out, KP2.out, BL2.out⟩
            case measure => simp [intOf]; omega
          · have i1 : ¬ (o : Int) < (m : Int) := by omega
            have i2 : ¬ (o : Int) < (c0 : Int) := by omega
            have HV := hid (show minTo A F s (k + 1) = c0 by rw [HMT.out]; omega)
            have qccs := fun (p : Bel _) => cellB p.h ccs (Nat.le_refl _)
            have qccN := fun (p : Bel _) => cellB p.h ccN (Nat.le_refl _)
            refine wp_quiet_tail_b 17 (by kernel_rfl) (by kernel_rfl) ?_
            simp only [List.take_succ_cons, List.take_zero, List.drop_succ_cons, List.drop_zero]
            repeat (go_big_quiet_step (first | (go_at_call 86; exact qb (openOf_b _ A _ n N _ HLN.out (RT1.out.bel _) (RA1.out.bel _) HA.out hAn hNn)) | (go_at_call 87; exact qbd (HSZ.out _))))
            refine wpQuiet_nil ?_
            intro _ hw'
            obtain ⟨⟨w4, hb⟩, rfl⟩ := hw'
            clear qccs qccN
            replace RT1 := hid (RT1.out.below hb (Nat.le_refl _))
            replace RA1 := hid (RA1.out.below hb (Nat.le_refl _))
            replace OT := hid (OT.out.past hb (Nat.le_refl _))
            replace BL := hid (bon BL.out hb)
            replace BS := hid (bon BS.out hb)
            replace ccs := cellB hb ccs (Nat.le_refl _)
            replace ccN := cellB hb ccN (Nat.le_refl _)
            clear hb
            have hst := OT.out.store s (by rw [List.length_map, List.length_set, HTL.out]; omega) (iv c0)
            rw [← List.map_set, List.set_set] at hst
            have OT2 := hid hst; clear hst
            have hfr := OT.out.free s
            have BL2 := hid (BL.out.setCell (p := ⟨w.heap.size, s, none⟩) (Nat.le_refl _) (iv c0))
            have KP2 := hid ((KP.out.trans (Kept.of_below _ BS.out)).setCell (p := ⟨w.heap.size, s, none⟩) rfl (iv c0))
            clear OT BL KP
            go_wp2
            go_roundw
            case rel => exact ⟨k + 1, by omega, by go_num, by rw [HV.out]; exact OT2.out, KP2.out, BL2.out⟩
            case measure => simp [intOf]; omega
        · obtain rfl : k = (mems (dif F s)).length := by omega
          have HMF := hid (show minTo A F s (mems (dif F s)).length = sepV A F s by rw [HSTP.out]; unfold minTo; rw [mems_lenN, List.take_length])
          rw [HMF.out] at OT
          have HTV2 := hid (show ∀ r, s ≤ r → r ≤ F → (T.set s (sepV A F s)).getD r 0 = sepV A F r from fun r h1 h2 => by
            rw [getD_setN T s r _ (by rw [HTL.out]; omega)]
            by_cases e : s = r
            · subst e; rw [if_pos rfl]
            · rw [if_neg e]; exact HTV.out r (by omega) h2)
          go_wp2
          go_roundw
          case rel => exact ⟨s, T.set s (sepV A F s), by go_num, by omega, by rw [List.length_set]; exact HTL.out, HTV2.out, OT.out, BL.out⟩
          case measure => simp [intOf] <;> omega
end
section
def castN (l : List Nat) : List Int := l.map fun i : Nat => (i : Int)
theorem castN_snoc (l : List Nat) (v : Nat) : castN (l ++ [v]) = castN l ++ [(v : Int)] := by simp [castN]
theorem castN_len (l : List Nat) : (castN l).length = l.length := by simp [castN]
theorem dif_full {n F S : Nat} (hF : 2 ^ n - 1 = F) (hS : S < 2 ^ n) : dif F S = 0 ↔ S = F := by
  constructor
  · intro h
    rw [dif_zero] at h
    apply Nat.eq_of_testBit_eq
    intro i
    rw [← hF, Nat.testBit_two_pow_sub_one]
    by_cases hi : i < n
    · rw [h i (by rw [← hF, Nat.testBit_two_pow_sub_one]; simpa using hi)]; simp [hi]
    · have : S.testBit i = false := by
        cases hb : S.testBit i
        · rfl
        · exact absurd (bit_under hS hb) hi
      rw [this]; simp [hi]
  · rintro rfl; exact dif_self _
theorem ordF_len {A : List Nat} {F : Nat} {k : Int} (hF : F < 65536) : ∀ (f S : Nat), (memsN (dif F S)).length = f → (sepV A F S : Int) ≤ k → (ordF A F k f S).length = f := by
  intro f
  induction f with
  | zero => intro S _ _; rfl
  | succ f ih =>
    intro S hl hk
    have hd : dif F S < 4294967296 := by have := dif_le F S; omega
    have h0 : dif F S ≠ 0 := fun e => by rw [e, memsN_zero] at hl; simp at hl
    obtain ⟨v, hv, hm, hk2⟩ := nxtV_some hF h0 hk
    have h1 := memsN_dif hd ((memsN_mem hd).1 hm)
    rw [← dif_or] at h1
    show (match nxtV A F k S with | none => [] | some v => v :: ordF A F k f (S ||| 2 ^ v)).length = _
    rw [hv]
    show (ordF A F k f (S ||| 2 ^ v)).length + 1 = _
    rw [ih _ (by omega) hk2]
set_option maxRecDepth 100000 in
set_option maxHeartbeats 2000000 in
theorem narrowOrder_any (a : Option Addr) (A : List Nat) (c n F : Nat) (b : Option Addr) (T : List Nat) (d : Nat) (most : Int) (w : World) (hF : 2 ^ n - 1 = F) (hlen : A.length = n) (hT : TabOk w) (hr : Rd maskF w a A) (hA : ∀ x ∈ A, x < 65536) (hAn : n ≤ 16)
    (hq : Rd iv w b T) (hTl : T.length = F + 1) (hTv : ∀ r, r ≤ F → T.getD r 0 = sepV A F r) (hk : (sepV A F 0 : Int) ≤ most) :
    Calls Tryd.prog 58 #[.slice a n c, .slice b (F + 1) d, .int .i64 most] w (RetOwn 3 ((castN (ordF A F most n 0)).map (.int .i64)) w) := by
  have RT := hid hT; have RA := hid hr; have HA := hid hA; have HLN := hid hlen; have RQ := hid hq; have HTL := hid hTl; have HTV := hid hTv
  have hp : 2 ^ n ≤ 65536 := Nat.pow_le_pow_right (n := 2) (i := n) (j := 16) (by decide) hAn
  have hpos := Nat.two_pow_pos n
  have hF16 : F < 65536 := by omega
  have HFN := hid (show 2 ^ n = F + 1 by omega)
  have HFU := hid (fun S (hS : S < 2 ^ n) => dif_full hF hS)
  have hd0 : dif F 0 = F := by
    apply Nat.eq_of_testBit_eq; intro i; rw [testBit_dif]; simp
  have hfl : (memsN F).length = n := by rw [← hF]; exact memsN_full (by omega)
  have HT0 := hid (show ordF A F most n 0 = [] ++ ordF A F most (memsN (dif F 0)).length 0 by rw [hd0, hfl]; rfl)
  have HL0 := hid (show ([] : List Nat).length + (memsN (dif F 0)).length = n by rw [hd0, hfl]; simp)
  have HK0 := hid hk
  clear hT hr hA hlen hq hTl hTv hp hpos hd0 hfl hk
  have HO := hid (show Own 3 (w.alloc (.cells #[] 3)) w.heap.size (.slice (some ⟨w.heap.size, 0, none⟩) 0 0) ((castN []).map (.int .i64)) from own_new 3 w [] (by decide))
  have HE := hid (alloc_below w (.cells #[] 3))
  have h2 : 0 < 2 ^ n := Nat.two_pow_pos n
  go_enter Tryd.func58, Tryd.ntmps58
  go_wp2
  go_loopw [7, 8, 10, 11] (fun o sv _ _ wr => ∃ (S : Nat) (D : List Nat), sv = .int .u32 S ∧ S < 2 ^ n ∧ D.length + (memsN (dif F S)).length = n ∧ ordF A F most n 0 = D ++ ordF A F most (memsN (dif F S)).length S ∧ (sepV A F S : Int) ≤ most ∧ Own 3 wr w.heap.size o ((castN D).map (.int .i64)) ∧ Below w.heap.size w wr) (fun _ sv _ _ _ => 65536 - (intOf sv).toNat)
  case atStart => exact ⟨0, [], rfl, h2, HL0.out, HT0.out, HK0.out, HO.out, HE.out⟩
  case round =>
    obtain ⟨S, D, rfl, hS, hDl, hT, hk, ho, hb⟩ := hrel
    have OM := hid ho; have HT := hid hT; have BL := hid hb; have HK := hid hk
    have RT1 := hid (RT.out.below hb (Nat.le_refl _)); have RA1 := hid (RA.out.below hb (Nat.le_refl _)); have RQ1 := hid (RQ.out.below hb (Nat.le_refl _))
    clear ho hT hb hk
    have hFU := HFU.out S hS
    by_cases hSF : S = F
    · have dne : ((S : Int) != (F : Int)) = false := by rw [hSF]; simp
      have h0 := hFU.2 hSF
      have HD := hid (show ordF A F most n 0 = D by rw [HT.out, h0, memsN_zero]; simp [ordF])
      clear hFU h0
      go_wp2_with (first | (go_at_call 48; refine (all_p _ _ _ F _ hAn hF).mono ?_; rintro e w' ⟨rfl, rfl⟩))
      go_ret
      rw [HD.out]
      exact ⟨_, rfl, OM.out, BL.out⟩
    · have dne : ((S : Int) != (F : Int)) = true := by simp; omega
      have h0 : dif F S ≠ 0 := fun e => hSF (hFU.1 e)
      have hdf := u32_dif F S (by have := HFN.out; omega) (by have := HFN.out; omega)
      have hdl := dif_le F S
      obtain ⟨u, hu, hum, huk⟩ := nxtV_some hF16 h0 HK.out
      have HU := hid hu; have HUM := hid hum; have HUK := hid huk
      have HOS := hid (ordF_step hF16 hu)
      clear hu hum huk hFU
      have BS := hid (Below.refl wr.heap.size wr)
      go_wp2_with (first | (go_at_call 48; refine (all_p _ _ _ F _ hAn hF).mono ?_; rintro e w' ⟨rfl, rfl⟩) | fail)
      go_wp2_with fail
      refine (list_any (dif F S) _ RT1.out (by omega)).mono ?_
      rintro e w1 ⟨lv, rfl, ho, hb⟩
      replace RT1 := hid (RT1.out.below hb (Nat.le_refl _))
      replace RA1 := hid (RA1.out.below hb (Nat.le_refl _))
      replace RQ1 := hid (RQ1.out.below hb (Nat.le_refl _))
      replace OM := hid (OM.out.past hb (Nat.le_refl _))
      replace BL := hid (bon BL.out hb)
      replace BS := hid (bon BS.out hb)
      clear hb
      obtain ⟨la, lc, rfl, hlr, _, _, _, _⟩ := ho.rd
      have RL := hid hlr; clear hlr ho
      have hml := mems_len (dif F S)
      clear BS
      go_wp2
      go_loopw [7, 8, 10, 11, 23] (fun ov sv _ _ x wq => ∃ k : Nat, k ≤ (mems (dif F S)).length ∧ x = .int .i64 k ∧ sv = .int .u32 S ∧ Own 3 wq w.heap.size ov ((castN D).map (.int .i64)) ∧ (∀ j (hj : j < (memsN (dif F S)).length), j < k → most < (spV A F (S ||| 2 ^ (memsN (dif F S))[j]) : Int)) ∧ Below w1.heap.size w1 wq) (fun _ _ _ _ x _ => (mems (dif F S)).length - (intOf x).toNat)
      case atStart => exact ⟨0, Nat.zero_le _, rfl, rfl, OM.out, fun j _ hj => absurd hj (Nat.not_lt_zero j), Below.refl _ _⟩
      case round =>
        clear OM
        obtain ⟨k, hk, rfl, rfl, ho, hno, hb⟩ := hrel
        have HNO := hid hno; have BQ := hid hb; have OM := hid ho; clear hno ho
        replace RT1 := hid (RT1.out.below hb (Nat.le_refl _))
        replace RA1 := hid (RA1.out.below hb (Nat.le_refl _))
        replace RQ1 := hid (RQ1.out.below hb (Nat.le_refl _))
        replace RL := hid (RL.out.below hb (Nat.le_refl _))
        replace BL := hid (bon BL.out hb)
        clear hb
        by_cases hlt : k < (mems (dif F S)).length
        · obtain ⟨lb, lo, rfl, cl⟩ := RL.out k hlt
          have hki : (k : Int) < ((mems (dif F S)).length : Int) := by omega
          have hltN : k < (memsN (dif F S)).length := by rw [← mems_lenN]; exact hlt
          have hvb := (memsN_mem (show dif F S < 4294967296 by omega)).1 (List.getElem_mem hltN)
          have hvm := hvb
          rw [testBit_dif, Bool.and_eq_true] at hvb
          have hvl := bit_under (n := n) (by have := HFN.out; omega) hvb.1
          have hvs : S.testBit (memsN (dif F S))[k] = false := by simpa using hvb.2
          have hob := or_bounds hS hvl hvs
          have HYES := hid (fun (h : (spV A F (S ||| 2 ^ (memsN (dif F S))[k]) : Int) ≤ most) => (show nxtV A F most S = some (memsN (dif F S))[k] from find_at hltN (fun j hj => by simpa using HNO.out j (by omega) hj) (by simpa using h)))
          have HNX := hid (fun (h : most < (spV A F (S ||| 2 ^ (memsN (dif F S))[k]) : Int)) => (show ∀ j (hj : j < (memsN (dif F S)).length), j < k + 1 → most < (spV A F (S ||| 2 ^ (memsN (dif F S))[j]) : Int) from fun j hj hjk => by
            by_cases e : j = k
            · subst e; exact h
            · exact HNO.out j hj (by omega)))
          have HMD := hid (memsN_dif (show dif F S < 4294967296 by omega) hvm)
          have HSTEP := hid (fun h => ordF_step hF16 (HYES.out h))
          clear HYES
          rw [memsN_get hlt] at cl
          clear hvb hvs hvm
          generalize (memsN (dif F S))[k] = v at *
          rw [← dif_or] at HMD
          have hpw : 2 ^ v < 65536 := Nat.pow_lt_pow_right (by decide) (show v < 16 by omega)
          have hor := u32_or_nat S (2 ^ v) (by have := HFN.out; omega) (by omega)
          obtain ⟨hsN, hNn⟩ := hob
          have hNF : S ||| 2 ^ v ≤ F := by have := HFN.out; omega
          have hTN := HTV.out (S ||| 2 ^ v) hNF
          generalize hPP : 2 ^ v = P at *
          generalize S ||| P = N at *
          have hN16 : N < 65536 := by omega
          have HOM := hid (opM_lt (A := A) hN16)
          have HSZ := hid (fun (w : World) => (show Calls Tryd.prog 87 #[.int .u32 (opM A N : Nat)] w fun e w' => e = .returned (.int .i64 (opN A N : Nat)) ∧ Drawn w w' by rw [← opM_size hN16]; exact size_any _ w HOM.out))
          obtain ⟨zb, zo, rfl, cN⟩ := RQ1.out N (by rw [HTL.out]; omega)
          have hTNN : T[N]'(by rw [HTL.out]; omega) = sepV A F N := by
            rw [← hTN, List.getD_eq_getElem?_getD, List.getElem?_eq_getElem (show N < T.length by rw [HTL.out]; omega)]; rfl
          rw [hTNN] at cN
          have ho16 := opN_le A N
          have hm16 := sepV_le A (F := F) (S := N) hF16
          have HSP := hid (show spV A F N = max (opN A N) (sepV A F N) from rfl)
          clear hTNN hTN
          unfold iv at cN
          have hNi : (N : Int) < ((F + 1 : Nat) : Int) := by omega
          have HEN := hid (show sepV A F N = sepV A F N from rfl)
          generalize hmm : sepV A F N = m at *
          generalize opN A N = o at *
          generalize spV A F N = sp at *
          replace HEN := hid hmm
          clear hmm
          go_wp2_with (first | (go_at_call 41; refine (one_p v P _ (by omega) hPP).mono ?_; rintro e w' ⟨rfl, rfl⟩))
          rcases (show (o < m ∧ (sp : Int) ≤ most) ∨ (¬ o < m ∧ (sp : Int) ≤ most) ∨ (o < m ∧ most < (sp : Int)) ∨ (¬ o < m ∧ most < (sp : Int)) by omega) with ⟨j1, hc⟩ | ⟨j1, hc⟩ | ⟨j1, hc⟩ | ⟨j1, hc⟩
          · have i1 : (o : Int) < (m : Int) := by omega
            have i2 : (m : Int) ≤ most := by have := HSP.out; omega
            have qcl := fun (p : Bel _) => cellB p.h cl (Nat.le_refl _)
            have qcN := fun (p : Bel _) => cellB p.h cN (Nat.le_refl _)
            refine wp_quiet_b (by kernel_rfl) (by kernel_rfl) ?_
            repeat (go_big_quiet_step (first | (go_at_call 86; exact qb (openOf_b _ A _ n N _ HLN.out (RT1.out.bel _) (RA1.out.bel _) HA.out hAn hNn)) | (go_at_call 87; exact qbd (HSZ.out _))))
            refine wpQuiet_nil ?_
            intro _ hw'
            obtain ⟨⟨w2, hb⟩, rfl⟩ := hw'
            clear qcl qcN
            replace RT1 := hid (RT1.out.below hb (Nat.le_refl _))
            replace RA1 := hid (RA1.out.below hb (Nat.le_refl _))
            replace RQ1 := hid (RQ1.out.below hb (Nat.le_refl _))
            replace RL := hid (RL.out.below hb (Nat.le_refl _))
            replace OM := hid (OM.out.past hb (Nat.le_refl _))
            replace BL := hid (bon BL.out hb)
            replace BQ := hid (bon BQ.out hb)
            replace cl := cellB hb cl (Nat.le_refl _)
            replace cN := cellB hb cN (Nat.le_refl _)
            clear hb
            have HST := hid (HSTEP.out hc)
            have hkN : (m : Int) ≤ most := by have := HSP.out; omega
            have hszz := BL.out.size
            have hDl' : D.length ≤ 16 := by omega
            have HC := hid (show (castN (D ++ [v])).map (Value.int .i64) = (castN D).map (Value.int .i64) ++ [.int .i64 (v : Int)] by rw [castN_snoc, List.map_append]; rfl)
            have hxl : ((castN D).map (Value.int .i64)).length ≤ 16 := by rw [List.length_map, castN_len]; exact hDl'
            go_wp2_with (at_builtin; refine law_push tIntsL _ rfl _ _ rfl w.heap.size _ ((castN D).map (.int .i64)) rfl OM.out _ _ rfl ?c0 rfl ?c1 ?c2 ?_)
            try (case c0 => simp)
            try (case c1 => first | exact Nat.lt_of_le_of_lt hxl (by decide) | (rw [castN_len]; omega))
            try (case c2 => exact hszz)
            intro v' w' h1 h2
            rw [← HC.out] at h1
            have HN := hid h1
            have HBB := hid (BL.out.trans (grown_below h2 hszz (fun g hg => OM.out.ge g hg)))
            clear h1 h2
            go_wp2
            go_roundw
            case rel => exact ⟨N, D ++ [v], rfl, hNn, by have := HMD.out; simp; omega, by rw [HT.out, HST.out]; simp, by rw [HEN.out]; exact hkN, HN.out, HBB.out⟩
            case measure => simp [intOf]; omega
          · have i1 : ¬ (o : Int) < (m : Int) := by omega
            have i2 : (o : Int) ≤ most := by have := HSP.out; omega
            have qcl := fun (p : Bel _) => cellB p.h cl (Nat.le_refl _)
            have qcN := fun (p : Bel _) => cellB p.h cN (Nat.le_refl _)
            refine wp_quiet_b (by kernel_rfl) (by kernel_rfl) ?_
            repeat (go_big_quiet_step (first | (go_at_call 86; exact qb (openOf_b _ A _ n N _ HLN.out (RT1.out.bel _) (RA1.out.bel _) HA.out hAn hNn)) | (go_at_call 87; exact qbd (HSZ.out _))))
            refine wpQuiet_nil ?_
            intro _ hw'
            obtain ⟨⟨w3, hb⟩, rfl⟩ := hw'
            clear qcl qcN
            replace RT1 := hid (RT1.out.below hb (Nat.le_refl _))
            replace RA1 := hid (RA1.out.below hb (Nat.le_refl _))
            replace RQ1 := hid (RQ1.out.below hb (Nat.le_refl _))
            replace RL := hid (RL.out.below hb (Nat.le_refl _))
            replace OM := hid (OM.out.past hb (Nat.le_refl _))
            replace BL := hid (bon BL.out hb)
            replace BQ := hid (bon BQ.out hb)
            replace cl := cellB hb cl (Nat.le_refl _)
            replace cN := cellB hb cN (Nat.le_refl _)
            clear hb
            have HST := hid (HSTEP.out hc)
            have hkN : (m : Int) ≤ most := by have := HSP.out; omega
            have hszz := BL.out.size
            have hDl' : D.length ≤ 16 := by omega
            have HC := hid (show (castN (D ++ [v])).map (Value.int .i64) = (castN D).map (Value.int .i64) ++ [.int .i64 (v : Int)] by rw [castN_snoc, List.map_append]; rfl)
            have hxl : ((castN D).map (Value.int .i64)).length ≤ 16 := by rw [List.length_map, castN_len]; exact hDl'
            go_wp2_with (at_builtin; refine law_push tIntsL _ rfl _ _ rfl w.heap.size _ ((castN D).map (.int .i64)) rfl OM.out _ _ rfl ?c0 rfl ?c1 ?c2 ?_)
            try (case c0 => simp)
            try (case c1 => first | exact Nat.lt_of_le_of_lt hxl (by decide) | (rw [castN_len]; omega))
            try (case c2 => exact hszz)
            intro v' w' h1 h2
            rw [← HC.out] at h1
            have HN := hid h1
            have HBB := hid (BL.out.trans (grown_below h2 hszz (fun g hg => OM.out.ge g hg)))
            clear h1 h2
            go_wp2
            go_roundw
            case rel => exact ⟨N, D ++ [v], rfl, hNn, by have := HMD.out; simp; omega, by rw [HT.out, HST.out]; simp, by rw [HEN.out]; exact hkN, HN.out, HBB.out⟩
            case measure => simp [intOf]; omega
          · have i1 : (o : Int) < (m : Int) := by omega
            have i2 : ¬ (m : Int) ≤ most := by have := HSP.out; omega
            have qcl := fun (p : Bel _) => cellB p.h cl (Nat.le_refl _)
            have qcN := fun (p : Bel _) => cellB p.h cN (Nat.le_refl _)
            refine wp_quiet_b (by kernel_rfl) (by kernel_rfl) ?_
            repeat (go_big_quiet_step (first | (go_at_call 86; exact qb (openOf_b _ A _ n N _ HLN.out (RT1.out.bel _) (RA1.out.bel _) HA.out hAn hNn)) | (go_at_call 87; exact qbd (HSZ.out _))))
            refine wpQuiet_nil ?_
            intro _ hw'
            obtain ⟨⟨w4, hb⟩, rfl⟩ := hw'
            clear qcl qcN
            replace RT1 := hid (RT1.out.below hb (Nat.le_refl _))
            replace RA1 := hid (RA1.out.below hb (Nat.le_refl _))
            replace RQ1 := hid (RQ1.out.below hb (Nat.le_refl _))
            replace RL := hid (RL.out.below hb (Nat.le_refl _))
            replace OM := hid (OM.out.past hb (Nat.le_refl _))
            replace BL := hid (bon BL.out hb)
            replace BQ := hid (bon BQ.out hb)
            replace cl := cellB hb cl (Nat.le_refl _)
            replace cN := cellB hb cN (Nat.le_refl _)
            clear hb
            have HN2 := hid (HNX.out hc)
            go_wp2
            go_roundw
            case rel => exact ⟨k + 1, by omega, by go_num, rfl, OM.out, HN2.out, BQ.out⟩
            case measure => simp [intOf]; omega
          · have i1 : ¬ (o : Int) < (m : Int) := by omega
            have i2 : ¬ (o : Int) ≤ most := by have := HSP.out; omega
            have qcl := fun (p : Bel _) => cellB p.h cl (Nat.le_refl _)
            have qcN := fun (p : Bel _) => cellB p.h cN (Nat.le_refl _)
            refine wp_quiet_b (by kernel_rfl) (by kernel_rfl) ?_
            repeat (go_big_quiet_step (first | (go_at_call 86; exact qb (openOf_b _ A _ n N _ HLN.out (RT1.out.bel _) (RA1.out.bel _) HA.out hAn hNn)) | (go_at_call 87; exact qbd (HSZ.out _))))
            refine wpQuiet_nil ?_
            intro _ hw'
            obtain ⟨⟨w5, hb⟩, rfl⟩ := hw'
            clear qcl qcN
            replace RT1 := hid (RT1.out.below hb (Nat.le_refl _))
            replace RA1 := hid (RA1.out.below hb (Nat.le_refl _))
            replace RQ1 := hid (RQ1.out.below hb (Nat.le_refl _))
            replace RL := hid (RL.out.below hb (Nat.le_refl _))
            replace OM := hid (OM.out.past hb (Nat.le_refl _))
            replace BL := hid (bon BL.out hb)
            replace BQ := hid (bon BQ.out hb)
            replace cl := cellB hb cl (Nat.le_refl _)
            replace cN := cellB hb cN (Nat.le_refl _)
            clear hb
            have HN2 := hid (HNX.out hc)
            go_wp2
            go_roundw
            case rel => exact ⟨k + 1, by omega, by go_num, rfl, OM.out, HN2.out, BQ.out⟩
            case measure => simp [intOf]; omega
        · exfalso
          obtain ⟨j, hj, he⟩ := List.mem_iff_getElem.1 HUM.out
          have h1 := List.find?_some HU.out
          have h2 : (spV A F (S ||| 2 ^ u) : Int) ≤ most := by simpa using h1
          have h3 := HNO.out j hj (by rw [mems_lenN] at hlt; omega)
          rw [he] at h3
          omega
end
section
def RetOwnI (e : TypeId) (xs : List Value) (k : Int) (w : World) (E : Ending) (w' : World) : Prop := ∃ v, E = .returned (.tuple #[v, .int .i64 k]) ∧ Own e w' w.heap.size v xs ∧ Below w.heap.size w w'
def RetOwnT (e : TypeId) (xs : List Value) (b : Bool) (w : World) (E : Ending) (w' : World) : Prop := ∃ v, E = .returned (.tuple #[v, .bool b]) ∧ Own e w' w.heap.size v xs ∧ Below w.heap.size w w'
def sep0 (g : List (List Int)) : Nat := sepV (g.map maskL) (2 ^ g.length - 1) 0
noncomputable def pwO (g : List (List Int)) : List Int := if GOk g then castN (ordF (g.map maskL) (2 ^ g.length - 1) (sep0 g) g.length 0) else []
noncomputable def pwW (g : List (List Int)) : Int := if GOk g then sep0 g else -1
noncomputable def paO (g : List (List Int)) (k : Int) : List Int := if GOk g ∧ (sep0 g : Int) ≤ k then castN (ordF (g.map maskL) (2 ^ g.length - 1) k g.length 0) else []
def PaP (g : List (List Int)) (k : Int) : Prop := GOk g ∧ (sep0 g : Int) ≤ k
noncomputable instance (g : List (List Int)) (k : Int) : Decidable (PaP g k) := Classical.propDecidable _
theorem f16 {n : Nat} (h : n ≤ 16) : 2 ^ n - 1 < 65536 := by
  have hp : 2 ^ n ≤ 65536 := Nat.pow_le_pow_right (n := 2) (i := n) (j := 16) (by decide) h
  have := Nat.two_pow_pos n; omega
theorem full_len {n : Nat} (h : n ≤ 16) : (memsN (dif (2 ^ n - 1) 0)).length = n := by
  have hd0 : dif (2 ^ n - 1) 0 = 2 ^ n - 1 := by
    apply Nat.eq_of_testBit_eq; intro i; rw [testBit_dif]; simp
  rw [hd0]; exact memsN_full (by omega)
theorem pwO_len (g : List (List Int)) : (pwO g).length ≤ 1048576 := by
  unfold pwO
  split
  · rename_i h
    unfold sep0
    rw [castN_len, ordF_len (f16 h.le) _ _ (full_len h.le) (Int.le_refl _)]
    have := h.le; omega
  · simp
theorem paO_len (g : List (List Int)) (k : Int) : (paO g k).length ≤ 1048576 := by
  unfold paO
  split
  · rename_i h
    rw [castN_len, ordF_len (f16 h.1.le) _ _ (full_len h.1.le) h.2]
    have := h.1.le; omega
  · simp
theorem ordF_min {A : List Nat} {F : Nat} (hF : F < 65536) (k : Int) : ∀ (f S : Nat), ordF A F (min k 16) f S = ordF A F k f S := by
  intro f
  induction f with
  | zero => intro S; rfl
  | succ f ih =>
    intro S
    have hn : nxtV A F (min k 16) S = nxtV A F k S := by
      unfold nxtV
      congr 1
      funext v
      rw [decide_eq_decide]
      have := spV_le A (F := F) (S := S ||| 2 ^ v) hF
      omega
    show (match nxtV A F (min k 16) S with | none => [] | some v => v :: ordF A F (min k 16) f (S ||| 2 ^ v)) = (match nxtV A F k S with | none => [] | some v => v :: ordF A F k f (S ||| 2 ^ v))
    rw [hn]
    cases nxtV A F k S with
    | none => rfl
    | some v => show v :: _ = v :: _; rw [ih]
set_option maxRecDepth 100000 in
set_option maxHeartbeats 2000000 in
theorem implPathWidth_any (a : Option Addr) (rs : List Row) (c : Nat) (w : World) (r0 : List Int) (r1 : Int) (hx0 : pwO (nums rs) = r0) (hx1 : pwW (nums rs) = r1) (hr : RdM w a rs) (hn : Small rs) (hT : TabOk w) :
    Calls Tryd.prog 22 #[.agg #[.slice a rs.length c]] w (RetOwnI 2 (r0.map (.int .i64)) r1 w) := by
  have RA := hid hr; have HX0 := hid hx0; have HX1 := hid hx1; have RT := hid hT; clear hr hx0 hx1 hT
  obtain ⟨w0, hw0⟩ : ∃ w0, w0 = (w.alloc (.cells #[.slice a rs.length c] 29)) := ⟨_, rfl⟩
  have B0 := hid (show Below w.heap.size w w0 by rw [hw0]; exact ((Below.refl _ _).alloc (Nat.le_refl _) _))
  have c0 : w0.cell? ⟨w.heap.size, 0, none⟩ = some (.slice a rs.length c) := by rw [hw0]; simp [go_sem]
  replace RA := hid (RA.out.below B0.out (Nat.le_refl _))
  replace RT := hid (RT.out.below B0.out (Nat.le_refl _))
  have HW := hid hw0; clear hw0
  by_cases hg : GOk (nums rs)
  · have h1 := hid (show decide (GOk (nums rs)) = true by simpa using hg)
    have HG := hid hg
    have h16 : rs.length ≤ 16 := by have := hg.le; rwa [nums_length] at this
    have h01 : 1 ≤ rs.length := by have := hg.pos; rwa [nums_length] at this
    have HLR := hid (show ((nums rs).map maskL).length = rs.length by rw [List.length_map, nums_length])
    have HR0 := hid (show castN (ordF ((nums rs).map maskL) (2 ^ rs.length - 1) (sepV ((nums rs).map maskL) (2 ^ rs.length - 1) 0) rs.length 0) = r0 by rw [← HX0.out]; unfold pwO sep0; rw [if_pos hg, nums_length])
    have HR1 := hid (show ((sepV ((nums rs).map maskL) (2 ^ rs.length - 1) 0 : Nat) : Int) = r1 by rw [← HX1.out]; unfold pwW sep0; rw [if_pos hg, nums_length])
    have HRL := hid (show r0.length ≤ 1048576 by rw [← HX0.out]; exact pwO_len _)
    have HA16 := hid (in16_of hg)
    have hF16 := f16 h16
    clear HX0 HX1 hg
    generalize hA : (nums rs).map maskL = A at *
    generalize hF : 2 ^ rs.length - 1 = F at *
    go_enter Tryd.func22, Tryd.ntmps22
    go_wp2_with fail
    rw [← HW.out]
    go_wp2_with fail
    refine (implGraphOk_b a rs c _ true h1.out RA.out hn).mono ?_
    rintro e w1 ⟨rfl, hb⟩
    replace RA := hid (RA.out.below hb (Nat.le_refl _))
    replace RT := hid (RT.out.below hb (Nat.le_refl _))
    replace B0 := hid (bon B0.out hb)
    replace c0 := cellB hb c0 (Nat.le_refl _)
    clear hb
    go_wp2_with fail
    refine (netsOf_any a rs c _ HG.out RA.out hn).mono ?_
    rintro e w2 ⟨v, rfl, hown, hb⟩
    replace RA := hid (RA.out.below hb (Nat.le_refl _))
    replace RT := hid (RT.out.below hb (Nat.le_refl _))
    replace B0 := hid (bon B0.out hb)
    replace c0 := cellB hb c0 (Nat.le_refl _)
    clear hb
    obtain ⟨na, nc, rfl, hsr, _, _, _, _⟩ := Own.rd (f := netF) hown
    have RN := hid hsr.masks; clear hown hsr
    rw [nums_length]
    rw [hA] at RN
    go_wp2_with fail
    refine (separations_any na A nc rs.length F _ hF HLR.out RT.out RN.out HA16.out h16 h01).mono ?_
    rintro e w3 ⟨T, v, rfl, hown, hTl, hTv, hb⟩
    replace RT := hid (RT.out.below hb (Nat.le_refl _))
    replace RN := hid (RN.out.below hb (Nat.le_refl _))
    replace B0 := hid (bon B0.out hb)
    clear hb
    obtain ⟨ta, tc, rfl, htr, _⟩ := Own.rd (f := iv) hown
    have RQ := hid htr; have HTL := hid hTl; have HTV := hid hTv
    rw [hTl]
    clear hown htr hTl hTv
    obtain ⟨tb, tp, rfl, ct⟩ := RQ.out 0 (by rw [HTL.out]; omega)
    have hT0 : T[0]'(by rw [HTL.out]; omega) = sepV A F 0 := by
      rw [← HTV.out 0 (by omega), List.getD_eq_getElem?_getD, List.getElem?_eq_getElem (show 0 < T.length by rw [HTL.out]; omega)]; rfl
    rw [hT0, Nat.add_zero] at ct
    unfold iv at ct
    have hsl := sepV_le A (F := F) (S := 0) hF16
    have HSK := hid (Int.le_refl ((sepV A F 0 : Nat) : Int))
    clear hT0
    generalize hk0 : sepV A F 0 = k0 at *
    have HK0 := hid hk0; clear hk0
    go_wp2_with fail
    have D3 : Drawn w3 w3.drew := ⟨1, rfl⟩
    have RT3 := hid (RT.out.drawn D3); have RN3 := hid (RN.out.drawn D3); have RQ3 := hid (RQ.out.drawn D3)
    have B3 := hid (B0.out.trans (D3.below _))
    have f0 := dcell D3 ct
    go_region_held3 (fun w' => w'.cell? ⟨tb, tp, none⟩ = some (.int .i64 (k0 : Int))) (first | exact f0 | exact g0 | exact m0) ((first | (go_at_call 58; refine (narrowOrder_any _ A _ rs.length F _ T _ _ _ hF HLR.out RT3.out RN3.out HA16.out h16 RQ3.out HTL.out HTV.out (by rw [HK0.out]; exact HSK.out)).mono ?_; rw [HR0.out]; rintro e w5 ⟨pv, rfl, hown, hb⟩; obtain ⟨pa, pc, rfl, hpr, _⟩ := Own.rd hown; have RP5 := hid hpr; have g0 := cellB hb f0 (Nat.le_refl _); have B5 := hid (bon B3.out hb); clear hown hb hpr) | (go_at_call 36; refine (wide_any _ _ _ _ RP5.out HRL.out).mono ?_; rintro e w6 ⟨ov, rfl, hown, hb⟩; have OQ := hid (hown.base B5.out.size); have m0 := cellB hb g0 (Nat.le_refl _); have B6 := hid (bon B5.out hb); clear hown hb)))
    go_wp2
    go_ret2
    rw [← HR1.out]
    exact ⟨_, rfl, OQ.out, B6.out⟩
  · have h1 := hid (show decide (GOk (nums rs)) = false by simpa using hg)
    have HF0 := hid (show [] = r0 by rw [← HX0.out]; unfold pwO; rw [if_neg hg])
    have HF1 := hid (show (-1 : Int) = r1 by rw [← HX1.out]; unfold pwW; rw [if_neg hg])
    clear hg HX0 HX1
    go_enter Tryd.func22, Tryd.ntmps22
    go_wp2_with fail
    rw [← HW.out]
    go_wp2_with fail
    refine (implGraphOk_b a rs c _ false h1.out RA.out hn).mono ?_
    rintro e w4 ⟨rfl, hb⟩
    replace RA := hid (RA.out.below hb (Nat.le_refl _))
    replace RT := hid (RT.out.below hb (Nat.le_refl _))
    replace B0 := hid (bon B0.out hb)
    replace c0 := cellB hb c0 (Nat.le_refl _)
    clear hb
    go_wp2
    go_ret2
    rw [← HF0.out, ← HF1.out]
    exact ⟨_, rfl, Own.nil _ _ _, B0.out⟩
set_option maxRecDepth 100000 in
set_option maxHeartbeats 2000000 in
theorem implPathAtMost_any (a : Option Addr) (rs : List Row) (c : Nat) (k : Int) (w : World) (r0 : List Int) (r1 : Bool) (hx0 : paO (nums rs) k = r0) (hx1 : decide (PaP (nums rs) k) = r1) (hr : RdM w a rs) (hn : Small rs) (hk : I64 k) (hT : TabOk w) :
    Calls Tryd.prog 27 #[.agg #[.slice a rs.length c], .int .i64 k] w (RetOwnT 2 (r0.map (.int .i64)) r1 w) := by
  have RA := hid hr; have HX0 := hid hx0; have HX1 := hid hx1; have RT := hid hT; clear hr hx0 hx1 hT
  obtain ⟨w0, hw0⟩ : ∃ w0, w0 = (w.alloc (.cells #[.slice a rs.length c] 29)) := ⟨_, rfl⟩
  have B0 := hid (show Below w.heap.size w w0 by rw [hw0]; exact ((Below.refl _ _).alloc (Nat.le_refl _) _))
  have c0 : w0.cell? ⟨w.heap.size, 0, none⟩ = some (.slice a rs.length c) := by rw [hw0]; simp [go_sem]
  replace RA := hid (RA.out.below B0.out (Nat.le_refl _))
  replace RT := hid (RT.out.below B0.out (Nat.le_refl _))
  have HW := hid hw0; clear hw0
  by_cases hg : GOk (nums rs)
  · have h1 := hid (show decide (GOk (nums rs)) = true by simpa using hg)
    have HG := hid hg
    have h16 : rs.length ≤ 16 := by have := hg.le; rwa [nums_length] at this
    have h01 : 1 ≤ rs.length := by have := hg.pos; rwa [nums_length] at this
    have HLR := hid (show ((nums rs).map maskL).length = rs.length by rw [List.length_map, nums_length])
    have hF16 := f16 h16
    have HR := hid (show if ((sepV ((nums rs).map maskL) (2 ^ rs.length - 1) 0 : Nat) : Int) ≤ k then castN (ordF ((nums rs).map maskL) (2 ^ rs.length - 1) (min k 16) rs.length 0) = r0 ∧ true = r1 else [] = r0 ∧ false = r1 by
      rw [← HX0.out, ← HX1.out]
      unfold paO
      by_cases hc : (sep0 (nums rs) : Int) ≤ k
      · have hc2 := hc
        unfold sep0 at hc2
        rw [nums_length] at hc2
        rw [if_pos hc2, if_pos ⟨hg, hc⟩, nums_length, ordF_min hF16]
        exact ⟨rfl, (decide_eq_true (show PaP (nums rs) k from ⟨hg, hc⟩)).symm⟩
      · have hc2 := hc
        unfold sep0 at hc2
        rw [nums_length] at hc2
        rw [if_neg hc2, if_neg (fun h => hc h.2)]
        exact ⟨rfl, (decide_eq_false (show ¬ PaP (nums rs) k from fun h => hc h.2)).symm⟩)
    have HRL := hid (show r0.length ≤ 1048576 by rw [← HX0.out]; exact paO_len _ _)
    have HA16 := hid (in16_of hg)
    clear HX0 HX1 hg
    generalize hA : (nums rs).map maskL = A at *
    generalize hF : 2 ^ rs.length - 1 = F at *
    go_enter Tryd.func27, Tryd.ntmps27
    go_wp2_with fail
    rw [← HW.out]
    go_wp2_with fail
    refine (implGraphOk_b a rs c _ true h1.out RA.out hn).mono ?_
    rintro e w1 ⟨rfl, hb⟩
    replace RA := hid (RA.out.below hb (Nat.le_refl _))
    replace RT := hid (RT.out.below hb (Nat.le_refl _))
    replace B0 := hid (bon B0.out hb)
    replace c0 := cellB hb c0 (Nat.le_refl _)
    clear hb
    go_wp2_with fail
    refine (netsOf_any a rs c _ HG.out RA.out hn).mono ?_
    rintro e w2 ⟨v, rfl, hown, hb⟩
    replace RA := hid (RA.out.below hb (Nat.le_refl _))
    replace RT := hid (RT.out.below hb (Nat.le_refl _))
    replace B0 := hid (bon B0.out hb)
    replace c0 := cellB hb c0 (Nat.le_refl _)
    clear hb
    obtain ⟨na, nc, rfl, hsr, _, _, _, _⟩ := Own.rd (f := netF) hown
    have RN := hid hsr.masks; clear hown hsr
    rw [nums_length]
    rw [hA] at RN
    go_wp2_with fail
    refine (separations_any na A nc rs.length F _ hF HLR.out RT.out RN.out HA16.out h16 h01).mono ?_
    rintro e w3 ⟨T, v, rfl, hown, hTl, hTv, hb⟩
    replace RT := hid (RT.out.below hb (Nat.le_refl _))
    replace RN := hid (RN.out.below hb (Nat.le_refl _))
    replace B0 := hid (bon B0.out hb)
    clear hb
    obtain ⟨ta, tc, rfl, htr, _⟩ := Own.rd (f := iv) hown
    have RQ := hid htr; have HTL := hid hTl; have HTV := hid hTv
    rw [hTl]
    clear hown htr hTl hTv
    obtain ⟨tb, tp, rfl, ct⟩ := RQ.out 0 (by rw [HTL.out]; omega)
    have hT0 : T[0]'(by rw [HTL.out]; omega) = sepV A F 0 := by
      rw [← HTV.out 0 (by omega), List.getD_eq_getElem?_getD, List.getElem?_eq_getElem (show 0 < T.length by rw [HTL.out]; omega)]; rfl
    rw [hT0, Nat.add_zero] at ct
    unfold iv at ct
    have hsl := sepV_le A (F := F) (S := 0) hF16
    clear hT0
    generalize hk0 : sepV A F 0 = k0 at *
    have HK0 := hid hk0; clear hk0
    by_cases hc : (k0 : Int) ≤ k
    · obtain ⟨HR0, HR1⟩ := (show castN (ordF A F (min k 16) rs.length 0) = r0 ∧ true = r1 from by have h := HR.out; rw [if_pos hc] at h; exact h)
      have hcg : ¬ (k : Int) < (k0 : Int) := by omega
      have H0 := hid HR0; have H1 := hid HR1
      clear HR0 HR1 HR
      by_cases hk16 : k < 16
      · have hmin : min k 16 = k := by omega
        rw [hmin] at H0
        have hk17 : ¬ (16 : Int) < k := by omega
        go_wp2_with fail
        refine (narrowOrder_any _ A _ rs.length F _ T _ k _ hF HLR.out RT.out RN.out HA16.out h16 RQ.out HTL.out HTV.out (by rw [HK0.out]; exact hc)).mono ?_
        rw [H0.out]
        rintro e w5 ⟨pv, rfl, hown, hb⟩
        obtain ⟨pa, pc, rfl, hpr, _⟩ := Own.rd hown
        have RP5 := hid hpr; have B5 := hid (bon B0.out hb); clear hown hb hpr
        go_wp2_with fail
        refine (wide_any _ _ _ _ RP5.out HRL.out).mono ?_
        rintro e w6 ⟨ov, rfl, hown, hb⟩
        have OQ := hid (hown.base B5.out.size); have B6 := hid (bon B5.out hb); clear hown hb
        go_wp2
        go_ret2
        rw [← H1.out]
        exact ⟨_, rfl, OQ.out, B6.out⟩
      · by_cases hk18 : k = 16
        · have hmin : min k 16 = 16 := by omega
          rw [hmin] at H0
          clear hk16 hmin
          subst hk18
          go_wp2_with fail
          refine (narrowOrder_any _ A _ rs.length F _ T _ 16 _ hF HLR.out RT.out RN.out HA16.out h16 RQ.out HTL.out HTV.out (by rw [HK0.out]; omega)).mono ?_
          rw [H0.out]
          rintro e w5 ⟨pv, rfl, hown, hb⟩
          obtain ⟨pa, pc, rfl, hpr, _⟩ := Own.rd hown
          have RP5 := hid hpr; have B5 := hid (bon B0.out hb); clear hown hb hpr
          go_wp2_with fail
          refine (wide_any _ _ _ _ RP5.out HRL.out).mono ?_
          rintro e w6 ⟨ov, rfl, hown, hb⟩
          have OQ := hid (hown.base B5.out.size); have B6 := hid (bon B5.out hb); clear hown hb
          go_wp2
          go_ret2
          rw [← H1.out]
          exact ⟨_, rfl, OQ.out, B6.out⟩
        · have hmin : min k 16 = 16 := by omega
          rw [hmin] at H0
          have hk17 : (16 : Int) < k := by omega
          have hk19 : ¬ k < (16 : Int) := by omega
          go_wp2_with fail
          refine (narrowOrder_any _ A _ rs.length F _ T _ 16 _ hF HLR.out RT.out RN.out HA16.out h16 RQ.out HTL.out HTV.out (by rw [HK0.out]; omega)).mono ?_
          rw [H0.out]
          rintro e w5 ⟨pv, rfl, hown, hb⟩
          obtain ⟨pa, pc, rfl, hpr, _⟩ := Own.rd hown
          have RP5 := hid hpr; have B5 := hid (bon B0.out hb); clear hown hb hpr
          go_wp2_with fail
          refine (wide_any _ _ _ _ RP5.out HRL.out).mono ?_
          rintro e w6 ⟨ov, rfl, hown, hb⟩
          have OQ := hid (hown.base B5.out.size); have B6 := hid (bon B5.out hb); clear hown hb
          go_wp2
          go_ret2
          rw [← H1.out]
          exact ⟨_, rfl, OQ.out, B6.out⟩
    · obtain ⟨HR0, HR1⟩ := (show [] = r0 ∧ false = r1 from by have h := HR.out; rw [if_neg hc] at h; exact h)
      have hcg : (k : Int) < (k0 : Int) := by omega
      have H0 := hid HR0; have H1 := hid HR1
      clear HR HR0 HR1
      go_wp2
      go_ret2
      rw [← H0.out, ← H1.out]
      exact ⟨_, rfl, Own.nil _ _ _, B0.out⟩
  · have h1 := hid (show decide (GOk (nums rs)) = false by simpa using hg)
    have HF0 := hid (show [] = r0 by rw [← HX0.out]; unfold paO; rw [if_neg (fun h => hg h.1)])
    have HF1 := hid (show false = r1 by rw [← HX1.out]; exact (decide_eq_false (show ¬ PaP (nums rs) k from fun h => hg h.1)).symm)
    clear hg HX0 HX1
    go_enter Tryd.func27, Tryd.ntmps27
    go_wp2_with fail
    rw [← HW.out]
    go_wp2_with fail
    refine (implGraphOk_b a rs c _ false h1.out RA.out hn).mono ?_
    rintro e w4 ⟨rfl, hb⟩
    replace RA := hid (RA.out.below hb (Nat.le_refl _))
    replace RT := hid (RT.out.below hb (Nat.le_refl _))
    replace B0 := hid (bon B0.out hb)
    replace c0 := cellB hb c0 (Nat.le_refl _)
    clear hb
    go_wp2
    go_ret2
    rw [← HF0.out, ← HF1.out]
    exact ⟨_, rfl, Own.nil _ _ _, B0.out⟩
end
end Go.Proofs.YtdncmloajajiaaaDoor
