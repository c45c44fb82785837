/- The least separations: plain. · The least separations: the program's. · The least order by separations: the program's. · PathWidth, PathAtMost: the program's. -/
import Derived.Test.YtahibjikcijnfaaDoorLeft
import Derived.Test.YtahibjikcijnfaaDoorQTail
import Derived.Test.YtahibjikcijnfaaDoorPerfM
import Derived.Deep.RegionHeld3
namespace Go.Proofs.YtahibjikcijnfaaDoor
open Go.RowKit
section
def openB (A : List Nat) (S v : Nat) : Bool := S.testBit v && decide (dif (A.getD v 0) S ≠ 0)
def opN (A : List Nat) (S : Nat) : Nat := ((List.range 16).filter (openB A S)).length
def opM (A : List Nat) (S : Nat) : Nat := maskL (((memsN S).filter fun v => decide (dif (A.getD v 0) S ≠ 0)).map fun i : Nat => (i : Int))
theorem testBit_opM {A : List Nat} {S : Nat} (hS : S < 65536) (i : Nat) : (opM A S).testBit i = openB A S i := by
  unfold opM
  rw [testBit_maskL _ i (by intro v hv; obtain ⟨j, _, rfl⟩ := List.mem_map.1 hv; omega), Bool.eq_iff_iff, decide_eq_true_iff, List.mem_map]
  unfold openB
  constructor
  · rintro ⟨j, hj, he⟩
    obtain rfl : j = i := by omega
    rw [List.mem_filter] at hj
    rw [(memsN_mem (by omega)).1 hj.1, hj.2]; rfl
  · intro h
    rw [Bool.and_eq_true] at h
    exact ⟨i, List.mem_filter.2 ⟨(memsN_mem (by omega)).2 h.1, h.2⟩, rfl⟩
theorem opM_lt {A : List Nat} {S : Nat} (hS : S < 65536) : opM A S < 65536 := by
  apply mask_lt _ 16
  intro i hi
  rw [testBit_opM hS] at hi
  unfold openB at hi
  rw [Bool.and_eq_true] at hi
  exact bit_under (n := 16) hS hi.1
theorem opM_size {A : List Nat} {S : Nat} (hS : S < 65536) : pcN 16 (opM A S) = opN A S := by
  rw [pcN_filter]
  unfold opN
  congr 1
  apply List.filter_congr
  intro i _
  exact testBit_opM hS i
theorem opN_le (A : List Nat) (S : Nat) : opN A S ≤ 16 := by
  unfold opN
  refine Nat.le_trans (List.length_filter_le _ _) ?_
  simp
theorem opN_zero (A : List Nat) : opN A 0 = 0 := by
  unfold opN openB
  rw [List.length_eq_zero_iff, List.filter_eq_nil_iff]
  intro a _; simp
def sepF (A : List Nat) (F : Nat) : Nat → Nat → Nat
  | 0, _ => 0
  | f + 1, S => ((memsN (dif F S)).map fun v => max (opN A (S ||| 2 ^ v)) (sepF A F f (S ||| 2 ^ v))).foldl min 16
def sepV (A : List Nat) (F S : Nat) : Nat := sepF A F (memsN (dif F S)).length S
def spV (A : List Nat) (F S : Nat) : Nat := max (opN A S) (sepV A F S)
theorem dif_or {F S v : Nat} : dif F (S ||| 2 ^ v) = dif (dif F S) (2 ^ v) := by
  apply Nat.eq_of_testBit_eq
  intro i
  rw [testBit_dif, testBit_dif, testBit_dif, Nat.testBit_or]
  cases F.testBit i <;> cases S.testBit i <;> simp
theorem dif_self (F : Nat) : dif F F = 0 := (dif_zero F F).2 fun _ h => h
theorem sepV_full (A : List Nat) (F : Nat) : sepV A F F = 0 := by
  unfold sepV
  rw [dif_self, memsN_zero]; rfl
theorem sepV_step (A : List Nat) {F S : Nat} (hF : F < 65536) (h0 : dif F S ≠ 0) : sepV A F S = ((memsN (dif F S)).map fun v => spV A F (S ||| 2 ^ v)).foldl min 16 := by
  have hd : dif F S < 4294967296 := by have := dif_le F S; omega
  have hl : (memsN (dif F S)).length ≠ 0 := fun e => h0 ((memsN_nil hd).1 e)
  obtain ⟨f, hf⟩ : ∃ f, (memsN (dif F S)).length = f + 1 := ⟨(memsN (dif F S)).length - 1, by omega⟩
  unfold sepV
  rw [hf]
  show ((memsN (dif F S)).map fun v => max (opN A (S ||| 2 ^ v)) (sepF A F f (S ||| 2 ^ v))).foldl min 16 = _
  congr 1
  apply List.map_congr_left
  intro v hv
  have hb := (memsN_mem hd).1 hv
  have h1 := memsN_dif hd hb
  unfold spV sepV
  rw [dif_or, show (memsN (dif (dif F S) (2 ^ v))).length = f by omega]
theorem foldl_min_le (L : List Nat) (b : Nat) : L.foldl min b ≤ b := by
  induction L generalizing b with
  | nil => exact Nat.le_refl _
  | cons x L ih => exact Nat.le_trans (ih _) (Nat.min_le_left _ _)
theorem sepV_le (A : List Nat) {F S : Nat} (hF : F < 65536) : sepV A F S ≤ 16 := by
  by_cases h0 : dif F S = 0
  · unfold sepV; rw [h0, memsN_zero]; exact Nat.zero_le _
  · rw [sepV_step A hF h0]; exact foldl_min_le _ _
theorem spV_le (A : List Nat) {F S : Nat} (hF : F < 65536) : spV A F S ≤ 16 := Nat.max_le.2 ⟨opN_le A S, sepV_le A hF⟩
theorem foldl_min_mem (L : List Nat) (b : Nat) : L.foldl min b = b ∨ L.foldl min b ∈ L := by
  induction L generalizing b with
  | nil => exact .inl rfl
  | cons x L ih =>
    show L.foldl min (min b x) = b ∨ _
    rcases ih (min b x) with h | h
    · by_cases hbx : b ≤ x
      · left; rw [h]; exact Nat.min_eq_left hbx
      · right
        show L.foldl min (min b x) ∈ x :: L
        rw [h, Nat.min_eq_right (by omega)]; exact List.mem_cons_self
    · right; show L.foldl min (min b x) ∈ x :: L
      exact List.mem_cons_of_mem _ h
/-- Some vertex goes on as well as the best does. -/
theorem sepV_some (A : List Nat) {F S : Nat} (hF : F < 65536) (h0 : dif F S ≠ 0) : ∃ v ∈ memsN (dif F S), spV A F (S ||| 2 ^ v) ≤ sepV A F S := by
  rw [sepV_step A hF h0]
  rcases foldl_min_mem ((memsN (dif F S)).map fun v => spV A F (S ||| 2 ^ v)) 16 with h | h
  · have hd : dif F S < 4294967296 := by have := dif_le F S; omega
    refine ⟨low (dif F S), (memsN_mem hd).2 (low_bit h0 hd), ?_⟩
    rw [h]; exact spV_le A hF
  · obtain ⟨v, hv, he⟩ := List.mem_map.1 h
    exact ⟨v, hv, by rw [he]; exact Nat.le_refl _⟩
def nxtV (A : List Nat) (F : Nat) (k : Int) (S : Nat) : Option Nat := (memsN (dif F S)).find? fun v => decide ((spV A F (S ||| 2 ^ v) : Int) ≤ k)
def ordF (A : List Nat) (F : Nat) (k : Int) : Nat → Nat → List Nat
  | 0, _ => []
  | f + 1, S => match nxtV A F k S with
    | none => []
    | some v => v :: ordF A F k f (S ||| 2 ^ v)
theorem nxtV_some {A : List Nat} {F : Nat} {k : Int} {S : Nat} (hF : F < 65536) (h0 : dif F S ≠ 0) (hk : (sepV A F S : Int) ≤ k) : ∃ v, nxtV A F k S = some v ∧ v ∈ memsN (dif F S) ∧ (sepV A F (S ||| 2 ^ v) : Int) ≤ k := by
  obtain ⟨u, hu, hle⟩ := sepV_some A hF h0
  cases h : nxtV A F k S with
  | none =>
    have := List.find?_eq_none.1 h u hu
    simp at this; omega
  | some v =>
    have h1 := List.mem_of_find?_eq_some h
    have h2 := List.find?_some h
    have h3 : (spV A F (S ||| 2 ^ v) : Int) ≤ k := by simpa using h2
    have h4 : sepV A F (S ||| 2 ^ v) ≤ spV A F (S ||| 2 ^ v) := Nat.le_max_right _ _
    exact ⟨v, rfl, h1, by omega⟩
theorem ordF_step {A : List Nat} {F : Nat} {k : Int} {S v : Nat} (hF : F < 65536) (hv : nxtV A F k S = some v) : ordF A F k (memsN (dif F S)).length S = v :: ordF A F k (memsN (dif F (S ||| 2 ^ v))).length (S ||| 2 ^ v) := by
  have hd : dif F S < 4294967296 := by have := dif_le F S; omega
  have h1 := memsN_dif hd ((memsN_mem hd).1 (List.mem_of_find?_eq_some hv))
  rw [dif_or, ← h1]
  show (match nxtV A F k S with | none => [] | some v => v :: ordF A F k _ (S ||| 2 ^ v)) = _
  rw [hv]
end
section
def opTo (A : List Nat) (S k : Nat) : Nat := maskL ((((memsN S).take k).filter fun v => decide (dif (A.getD v 0) S ≠ 0)).map fun i : Nat => (i : Int))
theorem opTo_succ (A : List Nat) (S k : Nat) (h : k < (memsN S).length) : opTo A S (k + 1) = if dif (A.getD (memsN S)[k] 0) S ≠ 0 then opTo A S k ||| 2 ^ (memsN S)[k] else opTo A S k := by
  unfold opTo
  rw [List.take_succ_eq_append_getElem h, List.filter_append]
  by_cases hc : dif (A.getD (memsN S)[k] 0) S ≠ 0
  · rw [if_pos hc, List.filter_cons_of_pos (by simpa using hc), List.map_append]
    show maskL (_ ++ [(((memsN S)[k] : Nat) : Int)]) = _
    rw [maskL_snoc, Int.toNat_natCast]
  · rw [if_neg hc, List.filter_cons_of_neg (by simpa using hc), List.filter_nil, List.append_nil]
theorem opTo_lt (A : List Nat) {S : Nat} (hS : S < 65536) (k : Nat) : opTo A S k < 65536 := by
  unfold opTo
  apply maskL_lt _ 16
  intro v hv
  obtain ⟨j, hj, rfl⟩ := List.mem_map.1 hv
  have h1 := List.mem_of_mem_take (List.mem_filter.1 hj).1
  have := bit_under (n := 16) hS ((memsN_mem (by omega)).1 h1)
  omega
set_option maxRecDepth 100000 in
set_option maxHeartbeats 1000000 in
theorem openOf_b (a : Option Addr) (A : List Nat) (c n S : Nat) (w : World) (hlen : A.length = n) (hT : TabOk w) (hr : Rd maskF w a A) (hA : ∀ x ∈ A, x < 65536) (hAn : n ≤ 16) (hS : S < 2 ^ n) :
    Calls Tryd.prog 69 #[.slice a n c, .int .u32 S] w fun e w' => e = .returned (.int .u32 (opM A S : Nat)) ∧ Below w.heap.size w w' := by
  have RT := hid hT; have RA := hid hr; have HA := hid hA; have HLN := hid hlen
  have hp : 2 ^ n ≤ 65536 := Nat.pow_le_pow_right (n := 2) (i := n) (j := 16) (by decide) hAn
  have hS16 : S < 65536 := by omega
  have HS := hid hS
  clear hT hr hA hlen hS
  have B0 := hid (Below.refl w.heap.size w)
  go_enter Tryd.func69, Tryd.ntmps69
  go_wp2_with fail
  refine (list_any S _ RT.out hS16).mono ?_
  rintro e w1 ⟨lv, rfl, ho, hb⟩
  replace RT := hid (RT.out.below hb (Nat.le_refl _))
  replace RA := hid (RA.out.below hb (Nat.le_refl _))
  replace B0 := hid (bon B0.out hb)
  clear hb
  obtain ⟨la, lc, rfl, hlr, _, _, _, hlb⟩ := ho.rd
  have RL := hid hlr; clear hlr ho hlb
  have hml := mems_len S
  go_wp2
  go_loop [5, 7, 11] (fun o _ x => ∃ k : Nat, k ≤ (mems S).length ∧ x = .int .i64 k ∧ o = .int .u32 (opTo A S k : Nat)) (fun _ _ x => (mems S).length - (intOf x).toNat)
  case atStart => exact ⟨0, Nat.zero_le _, rfl, rfl⟩
  case round =>
    obtain ⟨k, hk, rfl, rfl⟩ := hrel
    by_cases hlt : k < (mems S).length
    · obtain ⟨lb, lo, rfl, cl⟩ := RL.out k hlt
      have hki : (k : Int) < ((mems S).length : Int) := by omega
      have hltN : k < (memsN S).length := by rw [← mems_lenN]; exact hlt
      have hvb := (memsN_mem (show S < 4294967296 by omega)).1 (List.getElem_mem hltN)
      have hvl := bit_under HS.out hvb
      have HSU := hid (opTo_succ A S k hltN)
      have hol := opTo_lt A hS16 k
      rw [memsN_get hlt] at cl
      clear hvb
      generalize (memsN S)[k] = v at *
      obtain ⟨ab, ao, rfl, cv⟩ := RA.out v (by rw [HLN.out]; exact hvl)
      have hAv := HA.out _ (List.getElem_mem (show v < A.length by rw [HLN.out]; exact hvl))
      have hge : A.getD v 0 = A[v]'(by rw [HLN.out]; exact hvl) := by rw [List.getD_eq_getElem?_getD, List.getElem?_eq_getElem (show v < A.length by rw [HLN.out]; exact hvl)]; rfl
      rw [hge] at HSU
      unfold maskF at cv
      have hvi : (v : Int) < (n : Int) := by omega
      clear hge
      generalize A[v]'(by rw [HLN.out]; exact hvl) = X at *
      have hdf := u32_dif X S (by omega) (by omega)
      generalize dif X S = Z at *
      by_cases hz : Z = 0
      · have dz : ((Z : Int) != 0) = false := by rw [hz]; rfl
        rw [if_neg (fun h => h hz)] at HSU
        go_wp2
        go_round
        case rel => exact ⟨k + 1, by omega, by go_num, by rw [HSU.out]⟩
        case measure => simp [intOf]; omega
      · have dz : ((Z : Int) != 0) = true := by simp; omega
        rw [if_pos hz] at HSU
        have hpw : 2 ^ v < 65536 := Nat.pow_lt_pow_right (by decide) (show v < 16 by omega)
        have hor := u32_or_nat (opTo A S k) (2 ^ v) (by omega) (by omega)
        rw [← HSU.out] at hor
        clear HSU
        generalize hO2 : opTo A S (k + 1) = O2 at *
        have HO2 := hid hO2; clear hO2
        generalize opTo A S k = O at *
        generalize hPP : 2 ^ v = P at *
        go_wp2_with (first | (go_at_call 68; refine (one_p v P _ (by omega) hPP).mono ?_; rintro e w' ⟨rfl, rfl⟩))
        go_round
        case rel => exact ⟨k + 1, by omega, by go_num, by rw [HO2.out]⟩
        case measure => simp [intOf]; omega
    · obtain rfl : k = (mems S).length := by omega
      have HF := hid (show opTo A S (mems S).length = opM A S by unfold opTo opM; rw [mems_lenN, List.take_length])
      rw [HF.out]
      go_wp2
      go_ret
      exact ⟨rfl, B0.out⟩
def iv (i : Nat) : Value := .int .i64 (i : Int)
theorem set_min (T : List Nat) (s : Nat) (a b : Nat) : (T.set s a).set s b = T.set s b := by rw [List.set_set]
theorem getD_setN (T : List Nat) (a b x : Nat) (hb : b < T.length) : (T.set a x).getD b 0 = if a = b then x else T.getD b 0 := by
  rw [List.getD_eq_getElem?_getD, List.getElem?_set, List.getD_eq_getElem?_getD]
  by_cases h : a = b
  · subst h; simp [hb]
  · simp [h]
theorem or_bounds {n S v : Nat} (hS : S < 2 ^ n) (hv : v < n) (hb : S.testBit v = false) : S < S ||| 2 ^ v ∧ S ||| 2 ^ v < 2 ^ n := by
  have h1 : S ||| 2 ^ v < 2 ^ n := Nat.or_lt_two_pow hS (Nat.pow_lt_pow_right (by decide) hv)
  refine ⟨?_, h1⟩
  have h2 : S ≤ S ||| 2 ^ v := Nat.left_le_or
  have h3 : S ≠ S ||| 2 ^ v := by
    intro e
    have := congrArg (fun m : Nat => m.testBit v) e
    simp only [Nat.testBit_or, Nat.testBit_two_pow_self, hb] at this
    simp at this
  omega
def minTo (A : List Nat) (F S k : Nat) : Nat := (((memsN (dif F S)).take k).map fun v => spV A F (S ||| 2 ^ v)).foldl min 16
theorem minTo_succ (A : List Nat) (F S k : Nat) (h : k < (memsN (dif F S)).length) : minTo A F S (k + 1) = min (minTo A F S k) (spV A F (S ||| 2 ^ (memsN (dif F S))[k])) := by
  unfold minTo
  rw [List.take_succ_eq_append_getElem h, List.map_append, List.foldl_append]
  rfl
theorem minTo_le (A : List Nat) (F S k : Nat) : minTo A F S k ≤ 16 := foldl_min_le _ _
end
section
def castN (l : List Nat) : List Int := l.map fun i : Nat => (i : Int)
theorem castN_snoc (l : List Nat) (v : Nat) : castN (l ++ [v]) = castN l ++ [(v : Int)] := by simp [castN]
theorem castN_len (l : List Nat) : (castN l).length = l.length := by simp [castN]
theorem dif_full {n F S : Nat} (hF : 2 ^ n - 1 = F) (hS : S < 2 ^ n) : dif F S = 0 ↔ S = F := by
  constructor
  · intro h
    rw [dif_zero] at h
    apply Nat.eq_of_testBit_eq
    intro i
    rw [← hF, Nat.testBit_two_pow_sub_one]
    by_cases hi : i < n
    · rw [h i (by rw [← hF, Nat.testBit_two_pow_sub_one]; simpa using hi)]; simp [hi]
    · have : S.testBit i = false := by
        cases hb : S.testBit i
        · rfl
        · exact absurd (bit_under hS hb) hi
      rw [this]; simp [hi]
  · rintro rfl; exact dif_self _
theorem ordF_len {A : List Nat} {F : Nat} {k : Int} (hF : F < 65536) : ∀ (f S : Nat), (memsN (dif F S)).length = f → (sepV A F S : Int) ≤ k → (ordF A F k f S).length = f := by
  intro f
  induction f with
  | zero => intro S _ _; rfl
  | succ f ih =>
    intro S hl hk
    have hd : dif F S < 4294967296 := by have := dif_le F S; omega
    have h0 : dif F S ≠ 0 := fun e => by rw [e, memsN_zero] at hl; simp at hl
    obtain ⟨v, hv, hm, hk2⟩ := nxtV_some hF h0 hk
    have h1 := memsN_dif hd ((memsN_mem hd).1 hm)
    rw [← dif_or] at h1
    show (match nxtV A F k S with | none => [] | some v => v :: ordF A F k f (S ||| 2 ^ v)).length = _
    rw [hv]
    show (ordF A F k f (S ||| 2 ^ v)).length + 1 = _
    rw [ih _ (by omega) hk2]
end
section
def RetOwnI (e : TypeId) (xs : List Value) (k : Int) (w : World) (E : Ending) (w' : World) : Prop := ∃ v, E = .returned (.tuple #[v, .int .i64 k]) ∧ Own e w' w.heap.size v xs ∧ Below w.heap.size w w'
def RetOwnT (e : TypeId) (xs : List Value) (b : Bool) (w : World) (E : Ending) (w' : World) : Prop := ∃ v, E = .returned (.tuple #[v, .bool b]) ∧ Own e w' w.heap.size v xs ∧ Below w.heap.size w w'
def sep0 (g : List (List Int)) : Nat := sepV (g.map maskL) (2 ^ g.length - 1) 0
noncomputable def pwO (g : List (List Int)) : List Int := if GOk g then castN (ordF (g.map maskL) (2 ^ g.length - 1) (sep0 g) g.length 0) else []
noncomputable def pwW (g : List (List Int)) : Int := if GOk g then sep0 g else -1
noncomputable def paO (g : List (List Int)) (k : Int) : List Int := if GOk g ∧ (sep0 g : Int) ≤ k then castN (ordF (g.map maskL) (2 ^ g.length - 1) k g.length 0) else []
def PaP (g : List (List Int)) (k : Int) : Prop := GOk g ∧ (sep0 g : Int) ≤ k
noncomputable instance (g : List (List Int)) (k : Int) : Decidable (PaP g k) := Classical.propDecidable _
theorem f16 {n : Nat} (h : n ≤ 16) : 2 ^ n - 1 < 65536 := by
  have hp : 2 ^ n ≤ 65536 := Nat.pow_le_pow_right (n := 2) (i := n) (j := 16) (by decide) h
  have := Nat.two_pow_pos n; omega
theorem full_len {n : Nat} (h : n ≤ 16) : (memsN (dif (2 ^ n - 1) 0)).length = n := by
  have hd0 : dif (2 ^ n - 1) 0 = 2 ^ n - 1 := by
    apply Nat.eq_of_testBit_eq; intro i; rw [testBit_dif]; simp
  rw [hd0]; exact memsN_full (by omega)
theorem pwO_len (g : List (List Int)) : (pwO g).length ≤ 1048576 := by
  unfold pwO
  split
  · rename_i h
    unfold sep0
    rw [castN_len, ordF_len (f16 h.le) _ _ (full_len h.le) (Int.le_refl _)]
    have := h.le; omega
  · simp
theorem paO_len (g : List (List Int)) (k : Int) : (paO g k).length ≤ 1048576 := by
  unfold paO
  split
  · rename_i h
    rw [castN_len, ordF_len (f16 h.1.le) _ _ (full_len h.1.le) h.2]
    have := h.1.le; omega
  · simp
theorem ordF_min {A : List Nat} {F : Nat} (hF : F < 65536) (k : Int) : ∀ (f S : Nat), ordF A F (min k 16) f S = ordF A F k f S := by
  intro f
  induction f with
  | zero => intro S; rfl
  | succ f ih =>
    intro S
    have hn : nxtV A F (min k 16) S = nxtV A F k S := by
      unfold nxtV
      congr 1
      funext v
      rw [decide_eq_decide]
      have := spV_le A (F := F) (S := S ||| 2 ^ v) hF
      omega
    show (match nxtV A F (min k 16) S with | none => [] | some v => v :: ordF A F (min k 16) f (S ||| 2 ^ v)) = (match nxtV A F k S with | none => [] | some v => v :: ordF A F k f (S ||| 2 ^ v))
    rw [hn]
    cases nxtV A F k S with
    | none => rfl
    | some v => show v :: _ = v :: _; rw [ih]
end
end Go.Proofs.YtahibjikcijnfaaDoor
