/- Plain facts: pairs that are no neighbours, counted from both sides. · How many pairs of a set are no neighbours: both. -/
import Derived.Test.YtdncmloajajiaaaDoorMask
import Derived.Test.YtdncmloajajiaaaDoorTab
import Derived.Test.YtdncmloajajiaaaDoorCode2
namespace Go.Proofs.YtdncmloajajiaaaDoor
open Go.RowKit
section
def sumN : Nat → (Nat → Nat) → Nat
  | 0, _ => 0
  | n + 1, f => sumN n f + f n
theorem sumN_congr {n : Nat} {f g : Nat → Nat} (h : ∀ i, i < n → f i = g i) : sumN n f = sumN n g := by
  induction n with
  | zero => rfl
  | succ n ih => simp only [sumN]; rw [ih (fun i hi => h i (by omega)), h n (by omega)]
theorem sumN_add (n : Nat) (f g : Nat → Nat) : sumN n (fun i => f i + g i) = sumN n f + sumN n g := by
  induction n with
  | zero => rfl
  | succ n ih => simp only [sumN, ih]; omega
theorem sumN_le {n : Nat} {f : Nat → Nat} {c : Nat} (h : ∀ i, i < n → f i ≤ c) : sumN n f ≤ n * c := by
  induction n with
  | zero => simp [sumN]
  | succ n ih =>
    have := ih (fun i hi => h i (by omega)); have := h n (by omega)
    simp only [sumN]; rw [Nat.succ_mul]; omega
def bit01 (b : Bool) : Nat := if b then 1 else 0
theorem cntR_sum (n : Nat) (P : Nat → Bool) : cntR n P = sumN n fun i => bit01 (P i) := by
  induction n with
  | zero => rfl
  | succ n ih => rw [cntR_succ, ih]; rfl
/-- What is counted from both sides is counted twice. -/
theorem twice (n : Nat) (N : Nat → Nat → Bool) (hs : ∀ i j, N i j = N j i) (h0 : ∀ i, N i i = false) : sumN n (fun i => cntR n (fun j => N i j)) = 2 * sumN n (fun i => cntR i (fun k => N k i)) := by
  induction n with
  | zero => rfl
  | succ n ih =>
    simp only [sumN]
    have e1 : sumN n (fun i => cntR (n + 1) fun j => N i j) = sumN n (fun i => cntR n fun j => N i j) + sumN n (fun i => bit01 (N i n)) := by
      rw [← sumN_add]; apply sumN_congr; intro i _; rw [cntR_succ]; rfl
    rw [e1, ih, cntR_succ, h0 n, cntR_sum n (fun j => N n j), cntR_sum n (fun k => N k n)]
    have e2 : sumN n (fun i => bit01 (N n i)) = sumN n (fun i => bit01 (N i n)) := sumN_congr fun i _ => by rw [hs]
    rw [e2]; simp; omega
/-- Of a set without repetition: its size, by its bits. -/
theorem pc_count {m : Nat} {l : List Int} (hd : l.Nodup) (h : ∀ v, v ∈ l ↔ ∃ i : Nat, v = i ∧ i < 16 ∧ m.testBit i = true) : pcN 16 m = l.length := by
  rw [pcN_filter]
  have hd2 : (((List.range 16).filter fun i => m.testBit i).map fun i : Nat => (i : Int)).Nodup := by
    rw [List.Nodup, List.pairwise_map]
    refine List.Pairwise.imp ?_ (List.nodup_range.filter _)
    intro a b hab e; exact hab (by omega)
  have h1 : (((List.range 16).filter fun i => m.testBit i).map fun i : Nat => (i : Int)).length ≤ l.length := hd2.length_le_of_subset (fun x hx => by
    obtain ⟨i, hi, rfl⟩ := List.mem_map.1 hx
    rw [List.mem_filter, List.mem_range] at hi
    exact (h _).2 ⟨i, rfl, hi.1, hi.2⟩)
  have h2 := hd.length_le_of_subset (l₂ := ((List.range 16).filter fun i => m.testBit i).map fun i : Nat => (i : Int)) (fun x hx => by
    obtain ⟨i, rfl, h3, h4⟩ := (h x).1 hx
    exact List.mem_map.2 ⟨i, by rw [List.mem_filter, List.mem_range]; exact ⟨h3, h4⟩, rfl⟩)
  rw [List.length_map] at h1 h2
  omega
/-- Lists that go up and have the same members are the same. -/
theorem sorted_ext {l l' : List Int} (h : l.Pairwise (· < ·)) (h' : l'.Pairwise (· < ·)) (hm : ∀ x, x ∈ l ↔ x ∈ l') : l = l' := by
  induction l generalizing l' with
  | nil =>
    cases l' with
    | nil => rfl
    | cons y l' => exact absurd ((hm y).2 (by simp)) (by simp)
  | cons x l ih =>
    cases l' with
    | nil => exact absurd ((hm x).1 (by simp)) (by simp)
    | cons y l' =>
      rw [List.pairwise_cons] at h h'
      have hxy : x = y := by
        have h1 := (hm x).1 (by simp)
        have h2 := (hm y).2 (by simp)
        rw [List.mem_cons] at h1 h2
        rcases h1 with h1 | h1
        · exact h1
        · rcases h2 with h2 | h2
          · exact h2.symm
          · have := h'.1 x h1; have := h.1 y h2; omega
      subst hxy
      congr 1
      refine ih h.2 h'.2 fun z => ?_
      constructor
      · intro hz
        have h1 := (hm z).1 (by simp [hz])
        rw [List.mem_cons] at h1
        rcases h1 with rfl | h1
        · have := h.1 z hz; omega
        · exact h1
      · intro hz
        have h1 := (hm z).2 (by simp [hz])
        rw [List.mem_cons] at h1
        rcases h1 with rfl | h1
        · have := h'.1 z hz; omega
        · exact h1
theorem mems_sorted (m : Nat) : (mems m).Pairwise (· < ·) := by
  unfold mems memsN
  rw [List.pairwise_map]
  refine List.Pairwise.imp ?_ (List.Pairwise.filter _ List.pairwise_lt_range)
  intro a b h; omega
/-- The set of a list that goes up, listed. -/
theorem mems_maskL {n : Int} {l : List Int} (h : Inc n l) (hn : n ≤ 16) : mems (maskL l) = l := by
  have hlt : maskL l < 2 ^ 16 := maskL_lt l 16 (fun v hv => by have := h.1 v hv; omega)
  refine sorted_ext (mems_sorted _) h.2 fun x => ?_
  rw [mems_mem (by omega)]
  constructor
  · rintro ⟨i, rfl, hb⟩
    rw [testBit_maskL l i (fun v hv => (h.1 v hv).1)] at hb
    simpa using hb
  · intro hx
    have h0 := h.1 x hx
    refine ⟨x.toNat, by omega, ?_⟩
    rw [testBit_maskL l _ (fun v hv => (h.1 v hv).1), Int.toNat_of_nonneg h0.1]
    simpa using hx
/-- The pairs of a list that are no neighbours. -/
noncomputable def missL (g : List (List Int)) (l : List Int) : Nat := sumN l.length fun i => cntR i fun k => decide (l.getD i 0 ∉ row g (l.getD k 0))
/-- What the program's count adds up, for one member. -/
def missAt (A : List Nat) (s : Nat) (u : Int) : Nat := pcN 16 (dif (dif s (A.getD u.toNat 0)) (2 ^ u.toNat))
def missM (A : List Nat) (s : Nat) : Nat := sumN (mems s).length (fun i => missAt A s ((mems s).getD i 0)) / 2
theorem miss_eq {g : List (List Int)} {l : List Int} (hg : GOk g) (hl : Inc g.length l) : missM (g.map maskL) (maskL l) = missL g l := by
  have h16 := hg.le
  have hm : mems (maskL l) = l := mems_maskL hl (by omega)
  unfold missM
  rw [hm]
  have key : ∀ i, i < l.length → missAt (g.map maskL) (maskL l) (l.getD i 0) = cntR l.length fun j => decide (l.getD j 0 ∉ row g (l.getD i 0) ∧ l.getD j 0 ≠ l.getD i 0) := by
    intro i hi
    have hui := inc_get hl i hi
    rw [← getD_eq l i hi] at hui
    generalize l.getD i 0 = u at *
    obtain ⟨n, rfl⟩ := Int.eq_ofNat_of_zero_le hui.1
    have hn : n < g.length := by omega
    unfold missAt
    have e1 : (g.map maskL).getD (n : Int).toNat 0 = maskL (row g (n : Int)) := by
      rw [Int.toNat_natCast, List.getD_eq_getElem?_getD, List.getElem?_map, List.getElem?_eq_getElem hn, row_nat _ _ hn]; rfl
    rw [e1, Int.toNat_natCast]
    have hrow : ∀ v ∈ row g (n : Int), 0 ≤ v := fun v hv => (gok_range hg (u := (n : Int)) (by omega) (by omega) hv).1
    have hc : (cntR l.length fun j => decide (l.getD j 0 ∉ row g (n : Int) ∧ l.getD j 0 ≠ (n : Int))) = (l.filter fun v => decide (v ∉ row g (n : Int) ∧ v ≠ (n : Int))).length := by
      have : ∀ k, k ≤ l.length → (cntR k fun j => decide (l.getD j 0 ∉ row g (n : Int) ∧ l.getD j 0 ≠ (n : Int))) = ((l.take k).filter fun v => decide (v ∉ row g (n : Int) ∧ v ≠ (n : Int))).length := by
        intro k
        induction k with
        | zero => intro _; simp [cntR]
        | succ k ih =>
          intro hk
          rw [cntR_succ, ih (by omega), List.take_succ_eq_append_getElem (by omega), List.filter_append, List.length_append, getD_eq l k (by omega)]
          congr 1
          by_cases hp : l[k] ∉ row g (n : Int) ∧ l[k] ≠ (n : Int)
          · simp [hp]
          · simp [hp]
      have h2 := this l.length (Nat.le_refl _)
      rwa [List.take_length] at h2
    rw [hc]
    have hnd : l.Nodup := List.Pairwise.imp (fun h => by omega) hl.2
    refine pc_count (hnd.filter _) fun v => ?_
    rw [List.mem_filter]
    constructor
    · rintro ⟨hv, hp⟩
      have h0 := hl.1 v hv
      rw [decide_eq_true_iff] at hp
      refine ⟨v.toNat, by omega, by omega, ?_⟩
      rw [testBit_dif, testBit_dif, testBit_maskL l _ (fun v hv => (hl.1 v hv).1), testBit_maskL _ _ hrow, Int.toNat_of_nonneg h0.1, Nat.testBit_two_pow]
      have : ¬ n = v.toNat := fun e => hp.2 (by omega)
      simp [hv, hp.1, this]
    · rintro ⟨i, rfl, _, hb⟩
      rw [testBit_dif, testBit_dif, testBit_maskL l _ (fun v hv => (hl.1 v hv).1), testBit_maskL _ _ hrow, Nat.testBit_two_pow] at hb
      simp at hb
      refine ⟨hb.1.1, ?_⟩
      rw [decide_eq_true_iff]
      exact ⟨hb.1.2, fun e => hb.2 (by omega)⟩
  rw [sumN_congr key]
  have ht := twice l.length (fun i j => decide (l.getD j 0 ∉ row g (l.getD i 0) ∧ l.getD j 0 ≠ l.getD i 0) && decide (i < l.length) && decide (j < l.length)) (fun i j => by
      by_cases hi : i < l.length
      · by_cases hj : j < l.length
        · have h1 := inc_get hl i hi; have h2 := inc_get hl j hj
          rw [← getD_eq l i hi] at h1; rw [← getD_eq l j hj] at h2
          have hs := gok_sym hg (u := l.getD i 0) (v := l.getD j 0) h1.1 h1.2 h2.1 h2.2
          simp only [hi, hj, decide_true, Bool.and_true, hs]
          rw [decide_eq_decide]
          exact ⟨fun h => ⟨h.1, fun e => h.2 e.symm⟩, fun h => ⟨h.1, fun e => h.2 e.symm⟩⟩
        · simp [hj]
      · simp [hi]) (fun i => by simp)
  have e1 : sumN l.length (fun i => cntR l.length fun j => decide (l.getD j 0 ∉ row g (l.getD i 0) ∧ l.getD j 0 ≠ l.getD i 0)) = sumN l.length (fun i => cntR l.length fun j => (decide (l.getD j 0 ∉ row g (l.getD i 0) ∧ l.getD j 0 ≠ l.getD i 0) && decide (i < l.length) && decide (j < l.length))) := by
    apply sumN_congr; intro i hi
    unfold cntR
    congr 1
    apply List.filter_congr
    intro j hj
    rw [List.mem_range] at hj
    simp [hi, hj]
  rw [e1, ht, Nat.mul_div_cancel_left _ (by decide)]
  unfold missL
  apply sumN_congr; intro i hi
  unfold cntR
  congr 1
  apply List.filter_congr
  intro k hk
  rw [List.mem_range] at hk
  have hne : ¬ l[i] = l[k] := by have := inc_lt hl k i hi hk; omega
  simp [hi, show k < l.length by omega]
  exact fun _ => hne
theorem missL_zero {g : List (List Int)} {l : List Int} : missL g l = 0 ↔ ∀ i k, k < i → i < l.length → l.getD i 0 ∈ row g (l.getD k 0) := by
  have hz : ∀ (n : Nat) (f : Nat → Nat), sumN n f = 0 ↔ ∀ i, i < n → f i = 0 := by
    intro n f
    induction n with
    | zero => simp [sumN]
    | succ n ih =>
      simp only [sumN]
      constructor
      · intro h i hi
        rcases Nat.lt_succ_iff_lt_or_eq.1 hi with h1 | rfl
        · exact ih.1 (by omega) i h1
        · omega
      · intro h
        have := ih.2 (fun i hi => h i (by omega)); have := h n (by omega); omega
  unfold missL
  rw [hz]
  constructor
  · intro h i k hk hi
    have h1 := h i hi
    unfold cntR at h1
    have h2 := List.eq_nil_of_length_eq_zero h1
    rw [List.filter_eq_nil_iff] at h2
    have h3 := h2 k (List.mem_range.2 hk)
    simpa using h3
  · intro h i hi
    unfold cntR
    rw [List.length_eq_zero_iff, List.filter_eq_nil_iff]
    intro k hk
    rw [List.mem_range] at hk
    simpa using h i k hk hi
end
section
/-- A set, as a value. -/
def maskF (m : Nat) : Value := .int .u32 (m : Nat)
theorem Rd.masks {w : World} {a : Option Addr} {g : List (List Int)} (h : Rd netF w a g) : Rd maskF w a (g.map maskL) := by
  intro i hi
  have hi' : i < g.length := by simpa using hi
  obtain ⟨b, o, h1, h2⟩ := h i hi'
  exact ⟨b, o, h1, by rw [h2, List.getElem_map]; rfl⟩
end
end Go.Proofs.YtdncmloajajiaaaDoor
