/- FnPathWidth, plain: least separation, a cut edge, the tree width. -/
import Derived.Test.YtdncmloajajiaaaDoorSepA
import Derived.Test.YtdncmloajajiaaaDoorSeps
import Derived.Test.YtdncmloajajiaaaDoorElimM
namespace Go.Proofs.YtdncmloajajiaaaDoor
open Go.RowKit
section
theorem foldl_min_leM {L : List Nat} {b x : Nat} (hx : x ∈ L) : L.foldl min b ≤ x := by
  induction L generalizing b with
  | nil => cases hx
  | cons y L ih =>
    rw [List.foldl_cons]
    rcases List.mem_cons.1 hx with rfl | hx
    · exact Nat.le_trans (foldl_min_le _ _) (Nat.min_le_right _ _)
    · exact ih hx
theorem sepTo_mono (A : List Nat) (l : List Int) {i j : Nat} (h : i ≤ j) : sepTo A l i ≤ sepTo A l j := by
  induction j with
  | zero => obtain rfl : i = 0 := by omega
            exact Nat.le_refl _
  | succ j ih =>
    by_cases hij : i = j + 1
    · subst hij; exact Nat.le_refl _
    · exact Nat.le_trans (ih (by omega)) (Nat.le_max_left _ _)
theorem sepV_ge (A : List Nat) {F S v : Nat} (hF : F < 65536) (hv : F.testBit v = true) (hn : S.testBit v = false) : sepV A F S ≤ spV A F (S ||| 2 ^ v) := by
  have hb : (dif F S).testBit v = true := by rw [testBit_dif, hv, hn]; rfl
  have h0 : dif F S ≠ 0 := fun e => by rw [e, Nat.zero_testBit] at hb; cases hb
  rw [sepV_step A hF h0]
  exact foldl_min_leM (List.mem_map.2 ⟨v, (memsN_mem (by have := dif_le F S; omega)).2 hb, rfl⟩)
theorem ord_full {n : Nat} {l : List Int} (h : Ord n l) (hl : l.length = n) : maskL l = 2 ^ n - 1 := by
  apply mask_ext
  intro i
  rw [testBit_maskL _ i (fun v hv => (h.1 v hv).1), Nat.testBit_two_pow_sub_one, decide_eq_decide]
  constructor
  · intro hi; have := (h.1 _ hi).2; omega
  · intro hi
    have hsub : ∀ x ∈ (List.range n).map (fun i : Nat => (i : Int)), x ∈ l := by
      have hnd : ((List.range n).map (fun i : Nat => (i : Int))).Nodup := by
        unfold List.Nodup
        rw [List.pairwise_map]
        exact List.nodup_range.imp (fun hab e => hab (by omega))
      intro x hx
      apply Classical.byContradiction
      intro hno
      have h1 : (x :: l).Nodup := List.nodup_cons.2 ⟨hno, h.2⟩
      have h2 := h1.length_le_of_subset (l₂ := (List.range n).map (fun i : Nat => (i : Int))) (fun y hy => by
        rcases List.mem_cons.1 hy with rfl | hy
        · exact hx
        · have := h.1 y hy
          exact List.mem_map.2 ⟨y.toNat, List.mem_range.2 (by omega), by omega⟩)
      rw [List.length_cons, List.length_map, List.length_range, hl] at h2
      omega
    exact hsub _ (List.mem_map.2 ⟨i, List.mem_range.2 hi, rfl⟩)
/-- The i-th of an order is not among those ahead of it. -/
theorem ord_bits {n : Nat} {l : List Int} (h : Ord n l) {i : Nat} (hi : i < l.length) : ∃ v : Nat, l[i] = (v : Int) ∧ v < n ∧ (maskL (l.take i)).testBit v = false ∧ maskL (l.take (i + 1)) = maskL (l.take i) ||| 2 ^ v := by
  obtain ⟨h1, h2⟩ := ord_inv hi h
  obtain ⟨v, hv⟩ := Int.eq_ofNat_of_zero_le h1.1
  refine ⟨v, hv, by omega, ?_, by rw [maskL_take l i hi, hv]; rfl⟩
  rw [testBit_maskL _ v (fun x hx => (h.1 x (List.mem_of_mem_take hx)).1), decide_eq_false_iff_not, ← hv]
  exact h2
theorem full_bitM {n v : Nat} (hv : v < n) : (2 ^ n - 1).testBit v = true := by rw [Nat.testBit_two_pow_sub_one]; simpa using hv
/-- No order does better than the least. -/
theorem order_ge (A : List Nat) {n : Nat} {l : List Int} (hn : n ≤ 16) (h : Ord n l) (hl : l.length = n) : sepV A (2 ^ n - 1) 0 ≤ sepTo A l n := by
  have key : ∀ j, j ≤ n → sepV A (2 ^ n - 1) (maskL (l.take (n - j))) ≤ sepTo A l n := by
    intro j
    induction j with
    | zero =>
      intro _
      rw [Nat.sub_zero, ← hl, List.take_length, hl, ord_full h hl, sepV_full]
      exact Nat.zero_le _
    | succ j ih =>
      intro hj
      obtain ⟨v, _, hvn, hb, hm⟩ := ord_bits h (i := n - (j + 1)) (by omega)
      have h1 := sepV_ge A (f16 hn) (full_bitM hvn) hb
      have e : n - (j + 1) + 1 = n - j := by omega
      rw [e] at hm
      rw [← hm] at h1
      refine Nat.le_trans h1 (Nat.max_le.2 ⟨?_, ih (by omega)⟩)
      have h2 : opN A (maskL (l.take (n - (j + 1) + 1))) ≤ sepTo A l (n - (j + 1) + 1) := Nat.le_max_right _ _
      rw [e] at h2
      exact Nat.le_trans h2 (sepTo_mono A l (by omega))
  have := key n (Nat.le_refl _)
  rwa [Nat.sub_self, List.take_zero] at this
theorem nxtV_op {A : List Nat} {F : Nat} {k : Int} {S v : Nat} (h : nxtV A F k S = some v) : (opN A (S ||| 2 ^ v) : Int) ≤ k := by
  have h2 := List.find?_some h
  have h3 : (spV A F (S ||| 2 ^ v) : Int) ≤ k := by simpa using h2
  have h4 : opN A (S ||| 2 ^ v) ≤ spV A F (S ||| 2 ^ v) := Nat.le_max_left _ _
  omega
/-- The order that is told. -/
theorem ordF_facts {A : List Nat} {F : Nat} {k : Int} (hF : F < 65536) : ∀ (f S : Nat), (memsN (dif F S)).length = f → (sepV A F S : Int) ≤ k → (ordF A F k f S).Nodup ∧ (∀ v ∈ ordF A F k f S, (dif F S).testBit v = true) ∧ ∀ j, j < f → (opN A (S ||| maskL (castN ((ordF A F k f S).take (j + 1)))) : Int) ≤ k := by
  intro f
  induction f with
  | zero => intro S _ _; exact ⟨.nil, fun v hv => (by cases hv), fun j hj => by omega⟩
  | succ f ih =>
    intro S hl hk
    have hd : dif F S < 4294967296 := by have := dif_le F S; omega
    have h0 : dif F S ≠ 0 := fun e => by rw [e, memsN_zero] at hl; simp at hl
    obtain ⟨v, hv, hm, hk2⟩ := nxtV_some hF h0 hk
    have hbv := (memsN_mem hd).1 hm
    have h1 := memsN_dif hd hbv
    rw [← dif_or] at h1
    obtain ⟨i1, i2, i3⟩ := ih (S ||| 2 ^ v) (by omega) hk2
    have e : ordF A F k (f + 1) S = v :: ordF A F k f (S ||| 2 ^ v) := by
      show (match nxtV A F k S with | none => [] | some v => v :: ordF A F k f (S ||| 2 ^ v)) = _
      rw [hv]
    rw [e]
    have hsub : ∀ u, (dif F (S ||| 2 ^ v)).testBit u = true → (dif F S).testBit u = true ∧ u ≠ v := by
      intro u hu
      rw [testBit_dif, Nat.testBit_or, Nat.testBit_two_pow] at hu
      rw [testBit_dif]
      cases h3 : F.testBit u <;> cases h4 : S.testBit u <;> rw [h3, h4] at hu <;> simp at hu
      exact ⟨rfl, fun e => hu e.symm⟩
    refine ⟨List.nodup_cons.2 ⟨fun hmm => (hsub v (i2 v hmm)).2 rfl, i1⟩, fun u hu => ?_, fun j hj => ?_⟩
    · rcases List.mem_cons.1 hu with rfl | hu
      · exact hbv
      · exact (hsub u (i2 u hu)).1
    · rw [List.take_succ_cons]
      have hm2 : ∀ L : List Nat, S ||| maskL (castN (v :: L)) = (S ||| 2 ^ v) ||| maskL (castN L) := by
        intro L
        apply mask_ext
        intro i
        have p : ∀ M : List Nat, (maskL (castN M)).testBit i = decide (i ∈ M) := by
          intro M
          rw [testBit_maskL _ i (fun x hx => by obtain ⟨y, _, rfl⟩ := List.mem_map.1 hx; omega), decide_eq_decide]
          constructor
          · intro hx; obtain ⟨y, hy, e2⟩ := List.mem_map.1 hx
            obtain rfl : y = i := by omega
            exact hy
          · intro hx; exact List.mem_map.2 ⟨i, hx, rfl⟩
        rw [Nat.testBit_or, Nat.testBit_or, Nat.testBit_or, p, p, Nat.testBit_two_pow, Bool.or_assoc]
        congr 1
        rw [Bool.eq_iff_iff]
        simp only [decide_eq_true_iff, List.mem_cons, Bool.or_eq_true]
        constructor
        · rintro (h | h)
          · exact .inl h.symm
          · exact .inr h
        · rintro (h | h)
          · exact .inl h.symm
          · exact .inr h
      rw [hm2]
      cases j with
      | zero =>
        rw [List.take_zero]
        show (opN A ((S ||| 2 ^ v) ||| 0) : Int) ≤ k
        rw [Nat.or_zero]
        exact nxtV_op hv
      | succ j => exact i3 j (by omega)
theorem ordF_ord {A : List Nat} {n : Nat} {k : Int} (hn : n ≤ 16) (hk : (sepV A (2 ^ n - 1) 0 : Int) ≤ k) : Ord n (castN (ordF A (2 ^ n - 1) k n 0)) ∧ (castN (ordF A (2 ^ n - 1) k n 0)).length = n ∧ (sepTo A (castN (ordF A (2 ^ n - 1) k n 0)) n : Int) ≤ k := by
  obtain ⟨h1, h2, h3⟩ := ordF_facts (f16 hn) n 0 (full_len hn) hk
  have hl := ordF_len (f16 hn) n 0 (full_len hn) hk
  have h0 : 0 ≤ k := by omega
  refine ⟨⟨fun x hx => ?_, ?_⟩, by rw [castN_len, hl], ?_⟩
  · obtain ⟨v, hv, rfl⟩ := List.mem_map.1 hx
    have hb := h2 v hv
    rw [testBit_dif, Nat.testBit_two_pow_sub_one] at hb
    simp at hb
    omega
  · unfold castN List.Nodup
    rw [List.pairwise_map]
    exact h1.imp (fun hab e => hab (by omega))
  · have key : ∀ i, i ≤ n → (sepTo A (castN (ordF A (2 ^ n - 1) k n 0)) i : Int) ≤ k := by
      intro i
      induction i with
      | zero => intro _; exact h0
      | succ i ih =>
        intro hi
        have h4 := h3 i (by omega)
        rw [Nat.zero_or] at h4
        have e : (castN (ordF A (2 ^ n - 1) k n 0)).take (i + 1) = castN ((ordF A (2 ^ n - 1) k n 0).take (i + 1)) := by unfold castN; rw [List.map_take]
        show ((max (sepTo A (castN (ordF A (2 ^ n - 1) k n 0)) i) (opN A (maskL ((castN (ordF A (2 ^ n - 1) k n 0)).take (i + 1)))) : Nat) : Int) ≤ k
        rw [e]
        have := ih (by omega)
        omega
    exact key n (Nat.le_refl _)
/-- Where few more are open, few more are needed. -/
theorem sepV_shift {A B : List Nat} {F c : Nat} (hF : F < 65536) (h : ∀ S, opN A S ≤ opN B S + c) : ∀ (f S : Nat), (memsN (dif F S)).length = f → sepV A F S ≤ sepV B F S + c := by
  intro f
  induction f with
  | zero =>
    intro S hl
    unfold sepV
    rw [hl]
    exact Nat.zero_le _
  | succ f ih =>
    intro S hl
    have hd : dif F S < 4294967296 := by have := dif_le F S; omega
    have h0 : dif F S ≠ 0 := fun e => by rw [e, memsN_zero] at hl; simp at hl
    obtain ⟨v, hv, hle⟩ := sepV_some B hF h0
    have hb := (memsN_mem hd).1 hv
    have h1 := memsN_dif hd hb
    rw [← dif_or] at h1
    have hb2 := hb
    rw [testBit_dif] at hb2
    have h2 := sepV_ge A hF (S := S) (v := v) (by cases h3 : F.testBit v <;> rw [h3] at hb2 <;> simp at hb2 ⊢) (by cases h3 : S.testBit v <;> rw [h3] at hb2 <;> simp at hb2 ⊢)
    have h3 := ih (S ||| 2 ^ v) (by omega)
    have h4 := h (S ||| 2 ^ v)
    unfold spV at h2 hle
    omega
end
section
/-- A without the edge of two. -/
structure CutA (A A' : List Nat) (u v : Nat) : Prop where
  bit : ∀ a b, bt A' a b = (bt A a b && !decide ((a = u ∧ b = v) ∨ (a = v ∧ b = u)))
theorem openB_iff {A : List Nat} {S w : Nat} : openB A S w = true ↔ S.testBit w = true ∧ ∃ x, bt A w x = true ∧ S.testBit x = false := by
  unfold openB
  rw [Bool.and_eq_true, decide_eq_true_iff]
  constructor
  · rintro ⟨h1, h2⟩
    refine ⟨h1, ?_⟩
    apply Classical.byContradiction
    intro hno
    apply h2
    rw [dif_zero]
    intro i hi
    apply Classical.byContradiction
    intro hs
    exact hno ⟨i, hi, by cases h : S.testBit i <;> simp_all⟩
  · rintro ⟨h1, x, h2, h3⟩
    refine ⟨h1, fun e => ?_⟩
    have := (dif_zero _ _).1 e x h2
    rw [h3] at this; cases this
theorem opN_sub {A B : List Nat} {S : Nat} (h : ∀ w, openB A S w = true → openB B S w = true) : opN A S ≤ opN B S := by
  unfold opN
  rw [← List.countP_eq_length_filter, ← List.countP_eq_length_filter]
  exact List.countP_mono_left fun i _ hi => h i hi
theorem opN_one {A B : List Nat} {S w0 : Nat} (h : ∀ w, openB A S w = true → openB B S w = true ∨ w = w0) : opN A S ≤ opN B S + 1 := by
  unfold opN
  have hnd : ((List.range 16).filter (openB A S)).Nodup := List.nodup_range.filter _
  have h1 := hnd.length_le_of_subset (l₂ := w0 :: (List.range 16).filter (openB B S)) (fun w hw => by
    obtain ⟨h2, h3⟩ := List.mem_filter.1 hw
    rcases h w h3 with h4 | rfl
    · exact List.mem_cons_of_mem _ (List.mem_filter.2 ⟨h2, h4⟩)
    · exact List.mem_cons_self)
  rwa [List.length_cons] at h1
theorem cut_op {A A' : List Nat} {u v : Nat} (hc : CutA A A' u v) (S : Nat) : opN A' S ≤ opN A S ∧ opN A S ≤ opN A' S + 1 := by
  constructor
  · apply opN_sub
    intro w hw
    obtain ⟨h1, x, h2, h3⟩ := openB_iff.1 hw
    rw [hc.bit, Bool.and_eq_true] at h2
    exact openB_iff.2 ⟨h1, x, h2.1, h3⟩
  · apply opN_one (w0 := if S.testBit u = true then u else v)
    intro w hw
    obtain ⟨h1, x, h2, h3⟩ := openB_iff.1 hw
    by_cases he : (w = u ∧ x = v) ∨ (w = v ∧ x = u)
    · right
      rcases he with ⟨rfl, rfl⟩ | ⟨rfl, rfl⟩
      · rw [if_pos h1]
      · rw [if_neg (by rw [h3]; simp)]
    · left
      exact openB_iff.2 ⟨h1, x, by rw [hc.bit, h2, decide_eq_false he]; rfl, h3⟩
theorem cut_sep {A A' : List Nat} {u v n : Nat} (hn : n ≤ 16) (hc : CutA A A' u v) : sepV A' (2 ^ n - 1) 0 ≤ sepV A (2 ^ n - 1) 0 ∧ sepV A (2 ^ n - 1) 0 ≤ sepV A' (2 ^ n - 1) 0 + 1 :=
  ⟨by have := sepV_shift (A := A') (B := A) (c := 0) (f16 hn) (fun S => by have := (cut_op hc S).1; omega) n 0 (full_len hn); omega,
   sepV_shift (f16 hn) (fun S => (cut_op hc S).2) n 0 (full_len hn)⟩
theorem none_sep {A : List Nat} {n : Nat} (hn : n ≤ 16) (h : ∀ a b, bt A a b = false) : sepV A (2 ^ n - 1) 0 = 0 := by
  have h0 : ∀ S, opN A S = 0 := by
    intro S
    unfold opN
    rw [List.length_eq_zero_iff, List.filter_eq_nil_iff]
    intro w _ hw
    obtain ⟨_, x, h2, _⟩ := openB_iff.1 hw
    rw [h] at h2; cases h2
  have h1 := ordF_ord (A := A) (n := n) (k := sepV A (2 ^ n - 1) 0) hn (Int.le_refl _)
  have h2 := order_ge A hn h1.1 h1.2.1
  have h3 : ∀ i, sepTo A (castN (ordF A (2 ^ n - 1) (sepV A (2 ^ n - 1) 0) n 0)) i = 0 := by
    intro i
    induction i with
    | zero => rfl
    | succ i ih =>
      show max _ _ = 0
      rw [ih, h0]; rfl
  rw [h3] at h2
  omega
end
section
/-- Least widths of taking all away that is not gone, B the width of one step. -/
def twF (B : Nat → Nat → Nat) (F : Nat) : Nat → Nat → Nat
  | 0, _ => 0
  | f + 1, S => ((memsN (dif F S)).map fun v => max (B S v) (twF B F f (S ||| 2 ^ v))).foldl min 16
def twV (B : Nat → Nat → Nat) (F S : Nat) : Nat := twF B F (memsN (dif F S)).length S
theorem twV_full (B : Nat → Nat → Nat) {F S : Nat} (h : dif F S = 0) : twV B F S = 0 := by
  unfold twV
  rw [h, memsN_zero]; rfl
theorem twV_step (B : Nat → Nat → Nat) {F S : Nat} (hF : F < 65536) (h0 : dif F S ≠ 0) : twV B F S = ((memsN (dif F S)).map fun v => max (B S v) (twV B F (S ||| 2 ^ v))).foldl min 16 := by
  have hd : dif F S < 4294967296 := by have := dif_le F S; omega
  have hl : (memsN (dif F S)).length ≠ 0 := fun e => h0 ((memsN_nil hd).1 e)
  obtain ⟨f, hf⟩ : ∃ f, (memsN (dif F S)).length = f + 1 := ⟨(memsN (dif F S)).length - 1, by omega⟩
  unfold twV
  rw [hf]
  show ((memsN (dif F S)).map fun v => max (B S v) (twF B F f (S ||| 2 ^ v))).foldl min 16 = _
  congr 1
  apply List.map_congr_left
  intro v hv
  have hb := (memsN_mem hd).1 hv
  have h1 := memsN_dif hd hb
  rw [dif_or, show (memsN (dif (dif F S) (2 ^ v))).length = f by omega]
theorem twV_le16 (B : Nat → Nat → Nat) {F S : Nat} (hF : F < 65536) : twV B F S ≤ 16 := by
  by_cases h0 : dif F S = 0
  · rw [twV_full B h0]; exact Nat.zero_le _
  · rw [twV_step B hF h0]; exact foldl_min_le _ _
/-- Backwards along an order. -/
theorem twV_order {B : Nat → Nat → Nat} {n K : Nat} {l : List Int} (hn : n ≤ 16) (h : Ord n l) (hl : l.length = n) (hB : ∀ i (hi : i < l.length) (v : Nat), l[i] = (v : Int) → B (dif (2 ^ n - 1) (maskL (l.take (i + 1)))) v ≤ K) : twV B (2 ^ n - 1) 0 ≤ K := by
  have key : ∀ i, i ≤ n → twV B (2 ^ n - 1) (dif (2 ^ n - 1) (maskL (l.take i))) ≤ K := by
    intro i
    induction i with
    | zero =>
      intro _
      rw [List.take_zero, maskL_nil]
      have e : dif (2 ^ n - 1) (dif (2 ^ n - 1) 0) = 0 := by
        rw [dif_zero]; intro j hj; rw [testBit_dif, hj]; simp
      rw [twV_full B e]; exact Nat.zero_le _
    | succ i ih =>
      intro hi
      obtain ⟨v, hv, hvn, hb, hm⟩ := ord_bits h (i := i) (by omega)
      have h1 := hB i (by omega) v hv
      have h2 := ih (by omega)
      have hmem : (dif (2 ^ n - 1) (dif (2 ^ n - 1) (maskL (l.take (i + 1))))).testBit v = true := by
        rw [testBit_dif, testBit_dif, full_bitM hvn, hm, Nat.testBit_or, Nat.testBit_two_pow]
        simp
      have h0 : dif (2 ^ n - 1) (dif (2 ^ n - 1) (maskL (l.take (i + 1)))) ≠ 0 := fun e => by rw [e, Nat.zero_testBit] at hmem; cases hmem
      have hback : dif (2 ^ n - 1) (maskL (l.take (i + 1))) ||| 2 ^ v = dif (2 ^ n - 1) (maskL (l.take i)) := by
        apply mask_ext
        intro j
        rw [Nat.testBit_or, testBit_dif, testBit_dif, hm, Nat.testBit_or, Nat.testBit_two_pow]
        by_cases hj : v = j
        · subst hj
          rw [full_bitM hvn, hb]; simp
        · simp [hj]
      rw [twV_step B (f16 hn) h0]
      refine Nat.le_trans (foldl_min_leM (List.mem_map.2 ⟨v, (memsN_mem (by have := dif_le (2 ^ n - 1) (dif (2 ^ n - 1) (maskL (l.take (i + 1)))); have := f16 hn; omega)).2 hmem, rfl⟩)) ?_
      rw [hback]
      exact Nat.max_le.2 ⟨h1, h2⟩
  have := key n (Nat.le_refl _)
  rw [← hl, List.take_length, hl, ord_full h hl, dif_self] at this
  exact this
/-- What is behind v, by those that are gone. -/
def Rch (A : List Nat) (S v : Nat) : Nat → Nat → Prop
  | 0, x => x = v
  | d + 1, x => S.testBit x = true ∧ ∃ y, Rch A S v d y ∧ bt A y x = true
def Beh (A : List Nat) (S v u : Nat) : Prop := S.testBit u = false ∧ u ≠ v ∧ ∃ d x, Rch A S v d x ∧ bt A x u = true
open Classical in
noncomputable def behB (A : List Nat) (S v : Nat) : Nat → Bool := fun u => decide (Beh A S v u)
noncomputable def bhN (A : List Nat) (S v : Nat) : Nat := ((List.range 16).filter (behB A S v)).length
theorem bhN_le (A : List Nat) (S v : Nat) : bhN A S v ≤ 16 := by
  unfold bhN
  refine Nat.le_trans (List.length_filter_le _ _) ?_
  simp
theorem rch_in {A : List Nat} {S v d x : Nat} (h : Rch A S v d x) : x = v ∨ S.testBit x = true := by
  cases d with
  | zero => exact .inl h
  | succ d => exact .inr h.1
theorem bhN_op {n : Nat} {A : List Nat} {P v : Nat} (hA : GA n A) (hvn : v < n) (hv : P.testBit v = false) : bhN A (dif (2 ^ n - 1) (P ||| 2 ^ v)) v ≤ opN A P := by
  unfold bhN opN
  rw [← List.countP_eq_length_filter, ← List.countP_eq_length_filter]
  refine List.countP_mono_left fun u _ hu => ?_
  have hu2 : Beh A (dif (2 ^ n - 1) (P ||| 2 ^ v)) v u := by simpa [behB] using hu
  obtain ⟨h1, h2, d, x, h3, h4⟩ := hu2
  have hun := (hA.lt h4).2
  rw [testBit_dif, full_bitM hun, Nat.testBit_or, Nat.testBit_two_pow] at h1
  have hPu : P.testBit u = true := by
    cases hp : P.testBit u
    · rw [hp] at h1; simp at h1; exact absurd h1.symm h2
    · rfl
  refine openB_iff.2 ⟨hPu, x, by rw [hA.sym]; exact h4, ?_⟩
  rcases rch_in h3 with rfl | h5
  · exact hv
  · rw [testBit_dif, Nat.testBit_or] at h5
    cases hp : P.testBit x
    · rfl
    · rw [hp] at h5; simp at h5
/-- The tree width is no more. -/
theorem tw_sep {n : Nat} {A : List Nat} (hA : GA n A) : twV (bhN A) (2 ^ n - 1) 0 ≤ sepV A (2 ^ n - 1) 0 := by
  have hn := hA.le
  obtain ⟨h1, h2, h3⟩ := ordF_ord (A := A) (n := n) (k := sepV A (2 ^ n - 1) 0) hn (Int.le_refl _)
  refine twV_order hn h1 h2 (fun i hi v hv => ?_)
  obtain ⟨v', hv', hvn, hb, hm⟩ := ord_bits h1 hi
  obtain rfl : v = v' := by omega
  rw [hm]
  refine Nat.le_trans (bhN_op hA hvn hb) ?_
  cases i with
  | zero => rw [List.take_zero, maskL_nil, opN_zero]; exact Nat.zero_le _
  | succ i =>
    have h4 : opN A (maskL ((castN (ordF A (2 ^ n - 1) (sepV A (2 ^ n - 1) 0) n 0)).take (i + 1))) ≤ sepTo A (castN (ordF A (2 ^ n - 1) (sepV A (2 ^ n - 1) 0) n 0)) (i + 1) := Nat.le_max_right _ _
    have h5 := sepTo_mono A (castN (ordF A (2 ^ n - 1) (sepV A (2 ^ n - 1) 0) n 0)) (i := i + 1) (j := n) (by omega)
    omega
end
end Go.Proofs.YtdncmloajajiaaaDoor
