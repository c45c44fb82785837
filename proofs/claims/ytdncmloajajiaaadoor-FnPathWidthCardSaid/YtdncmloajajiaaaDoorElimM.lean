/- Degeneracy: plain. · Elimination of vertices, graphs as lists of sets: plain. · Plain facts: the order that takes the cheapest, step by step. -/
import Derived.Test.YtdncmloajajiaaaDoorGone
import Derived.Test.YtdncmloajajiaaaDoorLink
import Derived.Test.YtdncmloajajiaaaDoorMiss
import Derived.Test.YtdncmloajajiaaaDoorClique
namespace Go.Proofs.YtdncmloajajiaaaDoor
open Go.RowKit
section
def dgA (A : List Nat) (S v : Nat) : Nat := pcN 16 (A.getD v 0 &&& S)
def stepB (f : Nat → Nat) : Option Nat → Nat → Option Nat
  | none, v => some v
  | some b, v => if f v < f b then some v else some b
def bestO (f : Nat → Nat) (L : List Nat) : Option Nat := L.foldl (stepB f) none
theorem bestO_snoc (f : Nat → Nat) (L : List Nat) (v : Nat) : bestO f (L ++ [v]) = stepB f (bestO f L) v := by simp [bestO]
theorem stepB_some (f : Nat → Nat) (o : Option Nat) (v : Nat) : ∃ b, stepB f o v = some b := by
  cases o with
  | none => exact ⟨v, rfl⟩
  | some b => unfold stepB; by_cases h : f v < f b
              · exact ⟨v, by simp only; rw [if_pos h]⟩
              · exact ⟨b, by simp only; rw [if_neg h]⟩
theorem bestO_from (f : Nat → Nat) : ∀ (L : List Nat) (o : Option Nat) (b : Nat), L.foldl (stepB f) o = some b → b ∈ L ∨ o = some b := by
  intro L
  induction L with
  | nil => intro o b h; exact .inr h
  | cons v L ih =>
    intro o b h
    rcases ih _ b h with h1 | h1
    · exact .inl (List.mem_cons_of_mem _ h1)
    · cases o with
      | none => injection h1 with h1; subst h1; exact .inl List.mem_cons_self
      | some b0 =>
        unfold stepB at h1
        simp only at h1
        by_cases h2 : f v < f b0
        · rw [if_pos h2] at h1; injection h1 with h1; subst h1; exact .inl List.mem_cons_self
        · rw [if_neg h2] at h1; exact .inr h1
theorem bestO_mem {f : Nat → Nat} {L : List Nat} {b : Nat} (h : bestO f L = some b) : b ∈ L := by
  rcases bestO_from f L none b h with h | h
  · exact h
  · cases h
theorem bestO_is (f : Nat → Nat) : ∀ (L : List Nat) (o : Option Nat), (∃ b, o = some b) → ∃ b, L.foldl (stepB f) o = some b := by
  intro L
  induction L with
  | nil => intro o h; exact h
  | cons v L ih => intro o _; exact ih _ (stepB_some f o v)
theorem bestO_some (f : Nat → Nat) {L : List Nat} (h : L ≠ []) : ∃ b, bestO f L = some b := by
  cases L with
  | nil => exact absurd rfl h
  | cons v L => exact bestO_is f L _ (stepB_some f none v)
def dgR (A : List Nat) : Nat → Nat → Nat
  | 0, _ => 0
  | k + 1, S => max (dgA A S ((bestO (dgA A S) (memsN S)).getD 0)) (dgR A k (dif S (2 ^ ((bestO (dgA A S) (memsN S)).getD 0))))
theorem bestG_step {f : Nat → Nat} {S k : Nat} (hS : S < 4294967296) (h : k < (memsN S).length) :
    (bestO f ((memsN S).take (k + 1))).getD (low S) = if f (memsN S)[k] < f ((bestO f ((memsN S).take k)).getD (low S)) then (memsN S)[k] else (bestO f ((memsN S).take k)).getD (low S) := by
  rw [List.take_succ_eq_append_getElem h, bestO_snoc]
  cases hb : bestO f ((memsN S).take k) with
  | none =>
    have hk : k = 0 := by
      apply Classical.byContradiction
      intro hk
      have : (memsN S).take k ≠ [] := by
        intro e
        have := congrArg List.length e
        rw [List.length_take, List.length_nil] at this
        omega
      obtain ⟨b, hb2⟩ := bestO_some f this
      rw [hb] at hb2; cases hb2
    subst hk
    have h0 : S ≠ 0 := by rintro rfl; rw [memsN_zero] at h; simp at h
    have e : (memsN S)[0] = low S := by
      have := memsN_cons h0 hS
      simp only [this, List.getElem_cons_zero]
    rw [e]
    simp [stepB]
  | some b =>
    simp only [stepB, Option.getD_some]
    by_cases hlt : f (memsN S)[k] < f b
    · rw [if_pos hlt, if_pos hlt]; rfl
    · rw [if_neg hlt, if_neg hlt]; rfl
theorem best_in {f : Nat → Nat} {S : Nat} (hS : S < 4294967296) (h0 : S ≠ 0) : ∃ b, bestO f (memsN S) = some b ∧ S.testBit b = true := by
  obtain ⟨b, hb⟩ := bestO_some f (L := memsN S) (by
    intro e; have := (memsN_mem hS).2 (low_bit h0 hS); rw [e] at this; cases this)
  exact ⟨b, hb, (memsN_mem hS).1 (bestO_mem hb)⟩
/-- One round: who is best goes. -/
theorem dgR_step {A : List Nat} {S b : Nat} (hS : S < 4294967296) (hb : bestO (dgA A S) (memsN S) = some b) (hbit : S.testBit b = true) :
    dgR A (memsN S).length S = max (dgA A S b) (dgR A (memsN (dif S (2 ^ b))).length (dif S (2 ^ b))) := by
  rw [← memsN_dif hS hbit]
  show max _ _ = _
  rw [hb]; rfl
noncomputable def degL (g : List (List Int)) : Int := if GOk g then (dgR (g.map maskL) g.length (2 ^ g.length - 1) : Nat) else -1
end
section
section
theorem linkA_len (A : List Nat) (u v : Nat) : (linkA A u v).length = A.length := by simp [linkA]
theorem linkA_lt {A : List Nat} {u v : Nat} (hA : ∀ x ∈ A, x < 65536) (hu : u < 16) (hv : v < 16) : ∀ x ∈ linkA A u v, x < 65536 := by
  have hg : ∀ i, A.getD i 0 < 65536 := by
    intro i
    rw [List.getD_eq_getElem?_getD]
    by_cases hi : i < A.length
    · rw [List.getElem?_eq_getElem hi]; exact hA _ (List.getElem_mem hi)
    · rw [List.getElem?_eq_none (by omega)]; decide
  have hp : ∀ v, v < 16 → 2 ^ v < 65536 := fun v hv => Nat.pow_lt_pow_right (by decide) hv
  intro x hx
  unfold linkA at hx
  rcases List.mem_or_eq_of_mem_set hx with hx | rfl
  · rcases List.mem_or_eq_of_mem_set hx with hx | rfl
    · exact hA x hx
    · exact Nat.or_lt_two_pow (n := 16) (hg u) (hp v hv)
  · exact Nat.or_lt_two_pow (n := 16) (hg v) (hp u hu)
def clqRow (A : List Nat) (L : List Int) (i : Nat) : Nat → List Nat
  | 0 => A
  | k + 1 => linkA (clqRow A L i k) (L.getD k 0).toNat (L.getD i 0).toNat
def clqAll (A : List Nat) (L : List Int) : Nat → List Nat
  | 0 => A
  | i + 1 => clqRow (clqAll A L i) L i i
theorem clqRow_ok {A : List Nat} {L : List Int} {n : Nat} (hA : ∀ x ∈ A, x < 65536) (hl : A.length = n) (hn : n ≤ 16) (hL : ∀ k, k < L.length → (L.getD k 0).toNat < n) {i : Nat} (hi : i < L.length) : ∀ k, k ≤ i → (clqRow A L i k).length = n ∧ ∀ x ∈ clqRow A L i k, x < 65536 := by
  intro k
  induction k with
  | zero => intro _; exact ⟨hl, hA⟩
  | succ k ih =>
    intro hk
    obtain ⟨h1, h2⟩ := ih (by omega)
    have hk1 := hL k (by omega)
    have hi1 := hL i hi
    exact ⟨by show (linkA _ _ _).length = n; rw [linkA_len, h1], linkA_lt h2 (by omega) (by omega)⟩
theorem clqAll_ok {A : List Nat} {L : List Int} {n : Nat} (hA : ∀ x ∈ A, x < 65536) (hl : A.length = n) (hn : n ≤ 16) (hL : ∀ k, k < L.length → (L.getD k 0).toNat < n) : ∀ i, i ≤ L.length → (clqAll A L i).length = n ∧ ∀ x ∈ clqAll A L i, x < 65536 := by
  intro i
  induction i with
  | zero => intro _; exact ⟨hl, hA⟩
  | succ i ih =>
    intro hi
    obtain ⟨h1, h2⟩ := ih (by omega)
    exact clqRow_ok h2 h1 hn hL (by omega) i (Nat.le_refl _)
/-- Who is whose neighbour. -/
def bt (A : List Nat) (u w : Nat) : Bool := (A.getD u 0).testBit w
theorem getD_out {A : List Nat} {u : Nat} (h : A.length ≤ u) : A.getD u 0 = 0 := by rw [List.getD_eq_getElem?_getD, List.getElem?_eq_none h]; rfl
theorem getD_in {A : List Nat} {u : Nat} (h : u < A.length) : A.getD u 0 = A[u] := by rw [List.getD_eq_getElem?_getD, List.getElem?_eq_getElem h]; rfl
theorem setN_getD {A : List Nat} {i u x : Nat} (hi : i < A.length) : (A.set i x).getD u 0 = if u = i then x else A.getD u 0 := by
  rw [List.getD_eq_getElem?_getD, List.getElem?_set]
  by_cases h : i = u
  · subst h; rw [if_pos rfl, if_pos hi, if_pos rfl]; rfl
  · rw [if_neg h, if_neg (fun e => h e.symm), List.getD_eq_getElem?_getD]
theorem bt_set {A : List Nat} {i x : Nat} (u w : Nat) (hi : i < A.length) : bt (A.set i x) u w = if u = i then x.testBit w else bt A u w := by
  unfold bt; rw [setN_getD hi]; split <;> rfl
theorem bt_ext {A A' : List Nat} (hl : A.length = A'.length) (h : ∀ u w, bt A u w = bt A' u w) : A = A' := by
  apply List.ext_getElem hl
  intro i h1 h2
  have := Nat.eq_of_testBit_eq (h i)
  rwa [getD_in h1, getD_in h2] at this
theorem bt_link {A : List Nat} {u v : Nat} (hu : u < A.length) (hv : v < A.length) (huv : u ≠ v) (a b : Nat) : bt (linkA A u v) a b = true ↔ bt A a b = true ∨ (a = u ∧ b = v) ∨ (a = v ∧ b = u) := by
  unfold linkA
  rw [bt_set a b (by rw [List.length_set]; exact hv)]
  by_cases h : a = v
  · subst h
    rw [if_pos rfl, Nat.testBit_or, Nat.testBit_two_pow, Bool.or_eq_true, decide_eq_true_iff]
    unfold bt
    constructor
    · rintro (h1 | rfl)
      · exact .inl h1
      · exact .inr (.inr ⟨rfl, rfl⟩)
    · rintro (h1 | ⟨h1, h2⟩ | ⟨h1, h2⟩)
      · exact .inl h1
      · exact absurd h1.symm huv
      · exact .inr h2.symm
  · rw [if_neg h, bt_set a b hu]
    by_cases h' : a = u
    · subst h'
      rw [if_pos rfl, Nat.testBit_or, Nat.testBit_two_pow, Bool.or_eq_true, decide_eq_true_iff]
      unfold bt
      constructor
      · rintro (h1 | rfl)
        · exact .inl h1
        · exact .inr (.inl ⟨rfl, rfl⟩)
      · rintro (h1 | ⟨h1, h2⟩ | ⟨h1, h2⟩)
        · exact .inl h1
        · exact .inr h2.symm
        · exact absurd h1 huv
    · rw [if_neg h']
      constructor
      · exact .inl
      · rintro (h1 | ⟨h1, h2⟩ | ⟨h1, h2⟩)
        · exact h1
        · exact absurd h1 h'
        · exact absurd h1 h
def atN (L : List Int) (k : Nat) : Nat := (L.getD k 0).toNat
theorem clqRow_bit {A : List Nat} {L : List Int} {n : Nat} (hl : A.length = n) (hL : ∀ k, k < L.length → atN L k < n) (hne : ∀ j k, j < k → k < L.length → atN L j ≠ atN L k) {i : Nat} (hi : i < L.length) :
    ∀ k, k ≤ i → (clqRow A L i k).length = n ∧ ∀ a b, bt (clqRow A L i k) a b = true ↔ bt A a b = true ∨ (a = atN L i ∧ ∃ j, j < k ∧ b = atN L j) ∨ (b = atN L i ∧ ∃ j, j < k ∧ a = atN L j) := by
  intro k
  induction k with
  | zero =>
    intro _
    refine ⟨hl, fun a b => ⟨.inl, ?_⟩⟩
    rintro (h | ⟨_, j, hj, _⟩ | ⟨_, j, hj, _⟩)
    · exact h
    · omega
    · omega
  | succ k ih =>
    intro hk
    obtain ⟨h1, h2⟩ := ih (by omega)
    have hstep : clqRow A L i (k + 1) = linkA (clqRow A L i k) (atN L k) (atN L i) := rfl
    rw [hstep]
    refine ⟨by rw [linkA_len, h1], fun a b => ?_⟩
    rw [bt_link (by rw [h1]; exact hL k (by omega)) (by rw [h1]; exact hL i hi) (hne k i (by omega) hi), h2 a b]
    constructor
    · rintro ((h | ⟨ha, j, hj, hb⟩ | ⟨hb, j, hj, ha⟩) | ⟨ha, hb⟩ | ⟨ha, hb⟩)
      · exact .inl h
      · exact .inr (.inl ⟨ha, j, by omega, hb⟩)
      · exact .inr (.inr ⟨hb, j, by omega, ha⟩)
      · exact .inr (.inr ⟨hb, k, by omega, ha⟩)
      · exact .inr (.inl ⟨ha, k, by omega, hb⟩)
    · rintro (h | ⟨ha, j, hj, hb⟩ | ⟨hb, j, hj, ha⟩)
      · exact .inl (.inl h)
      · rcases Nat.lt_or_eq_of_le (show j ≤ k by omega) with h | rfl
        · exact .inl (.inr (.inl ⟨ha, j, h, hb⟩))
        · exact .inr (.inr ⟨ha, hb⟩)
      · rcases Nat.lt_or_eq_of_le (show j ≤ k by omega) with h | rfl
        · exact .inl (.inr (.inr ⟨hb, j, h, ha⟩))
        · exact .inr (.inl ⟨ha, hb⟩)
theorem clqAll_bit {A : List Nat} {L : List Int} {n : Nat} (hl : A.length = n) (hL : ∀ k, k < L.length → atN L k < n) (hne : ∀ j k, j < k → k < L.length → atN L j ≠ atN L k) :
    ∀ i, i ≤ L.length → (clqAll A L i).length = n ∧ ∀ a b, bt (clqAll A L i) a b = true ↔ bt A a b = true ∨ (a ≠ b ∧ (∃ j, j < i ∧ a = atN L j) ∧ ∃ j, j < i ∧ b = atN L j) := by
  intro i
  induction i with
  | zero =>
    intro _
    refine ⟨hl, fun a b => ⟨.inl, ?_⟩⟩
    rintro (h | ⟨_, ⟨j, hj, _⟩, _⟩)
    · exact h
    · omega
  | succ i ih =>
    intro hi
    obtain ⟨h1, h2⟩ := ih (by omega)
    obtain ⟨h3, h4⟩ := clqRow_bit h1 hL hne (show i < L.length by omega) i (Nat.le_refl _)
    have hstep : clqAll A L (i + 1) = clqRow (clqAll A L i) L i i := rfl
    rw [hstep]
    refine ⟨h3, fun a b => ?_⟩
    rw [h4 a b, h2 a b]
    constructor
    · rintro ((h | ⟨hab, ⟨j, hj, ha⟩, k, hk, hb⟩) | ⟨ha, j, hj, hb⟩ | ⟨hb, j, hj, ha⟩)
      · exact .inl h
      · exact .inr ⟨hab, ⟨j, by omega, ha⟩, k, by omega, hb⟩
      · refine .inr ⟨?_, ⟨i, by omega, ha⟩, j, by omega, hb⟩
        rw [ha, hb]; exact (hne j i hj (by omega)).symm
      · refine .inr ⟨?_, ⟨j, by omega, ha⟩, i, by omega, hb⟩
        rw [ha, hb]; exact hne j i hj (by omega)
    · rintro (h | ⟨hab, ⟨j, hj, ha⟩, k, hk, hb⟩)
      · exact .inl (.inl h)
      · rcases Nat.lt_or_eq_of_le (show j ≤ i by omega) with h | rfl
        · rcases Nat.lt_or_eq_of_le (show k ≤ i by omega) with h' | rfl
          · exact .inl (.inr ⟨hab, ⟨j, h, ha⟩, k, h', hb⟩)
          · exact .inr (.inr ⟨hb, j, h, ha⟩)
        · rcases Nat.lt_or_eq_of_le (show k ≤ j by omega) with h' | rfl
          · exact .inr (.inl ⟨ha, k, h', hb⟩)
          · exact absurd (ha.trans hb.symm) hab
/-- The program's: each of N gets the others. -/
def elimL (A : List Nat) (N : Nat) (L : List Nat) : List Nat := L.foldl (fun A u => A.set u (A.getD u 0 ||| dif N (2 ^ u))) A
theorem elimL_snoc (A : List Nat) (N : Nat) (L : List Nat) (u : Nat) : elimL A N (L ++ [u]) = (elimL A N L).set u ((elimL A N L).getD u 0 ||| dif N (2 ^ u)) := by simp [elimL]
theorem elimL_take (A : List Nat) (N : Nat) (L : List Nat) (k : Nat) (h : k < L.length) : elimL A N (L.take (k + 1)) = (elimL A N (L.take k)).set L[k] ((elimL A N (L.take k)).getD L[k] 0 ||| dif N (2 ^ L[k])) := by
  rw [List.take_succ_eq_append_getElem h, elimL_snoc]
theorem elimL_len (A : List Nat) (N : Nat) (L : List Nat) : (elimL A N L).length = A.length := by
  unfold elimL
  induction L generalizing A with
  | nil => rfl
  | cons u L ih => rw [List.foldl_cons, ih, List.length_set]
theorem elimL_bit {N : Nat} : ∀ {L : List Nat} {A : List Nat}, (∀ u ∈ L, u < A.length) → ∀ a b, bt (elimL A N L) a b = true ↔ bt A a b = true ∨ (a ∈ L ∧ (dif N (2 ^ a)).testBit b = true) := by
  intro L
  induction L with
  | nil => intro A _ a b; exact ⟨.inl, fun h => h.elim id (fun h => by cases h.1)⟩
  | cons u L ih =>
    intro A hA a b
    have hu := hA u List.mem_cons_self
    have hstep : elimL A N (u :: L) = elimL (A.set u (A.getD u 0 ||| dif N (2 ^ u))) N L := rfl
    rw [hstep, ih (fun v hv => by rw [List.length_set]; exact hA v (List.mem_cons_of_mem _ hv)), bt_set a b hu, List.mem_cons]
    by_cases h : a = u
    · subst h
      rw [if_pos rfl, Nat.testBit_or, Bool.or_eq_true]
      unfold bt
      constructor
      · rintro ((h | h) | h)
        · exact .inl h
        · exact .inr ⟨.inl rfl, h⟩
        · exact .inr ⟨.inl rfl, h.2⟩
      · rintro (h | h)
        · exact .inl (.inl h)
        · exact .inl (.inr h.2)
    · rw [if_neg h]
      constructor
      · rintro (h | h)
        · exact .inl h
        · exact .inr ⟨.inr h.1, h.2⟩
      · rintro (h1 | ⟨h1 | h1, h2⟩)
        · exact .inl h1
        · exact absurd h1 h
        · exact .inr ⟨h1, h2⟩
def elimA (A : List Nat) (N : Nat) : List Nat := elimL A N (memsN N)
theorem elimA_len (A : List Nat) (N : Nat) : (elimA A N).length = A.length := elimL_len _ _ _
theorem elimA_bit {A : List Nat} {N : Nat} (hA : A.length ≤ 16) (hN : N < 2 ^ A.length) (a b : Nat) : bt (elimA A N) a b = true ↔ bt A a b = true ∨ (a ≠ b ∧ N.testBit a = true ∧ N.testBit b = true) := by
  have hp : 2 ^ A.length ≤ 65536 := Nat.pow_le_pow_right (n := 2) (i := A.length) (j := 16) (by decide) hA
  unfold elimA
  rw [elimL_bit (fun u hu => bit_under hN ((memsN_mem (by omega)).1 hu)), memsN_mem (by omega), testBit_dif, Nat.testBit_two_pow]
  constructor
  · rintro (h | ⟨h1, h2⟩)
    · exact .inl h
    · simp at h2
      exact .inr ⟨h2.2, h1, h2.1⟩
  · rintro (h | ⟨h1, h2, h3⟩)
    · exact .inl h
    · exact .inr ⟨h2, by simp [h3, h1]⟩
theorem atN_mems {N k : Nat} (hk : k < (memsN N).length) : atN (mems N) k = (memsN N)[k] := by
  unfold atN
  rw [getD_eq _ _ (by rw [mems_lenN]; exact hk), memsN_get (by rw [mems_lenN]; exact hk), Int.toNat_natCast]
/-- Both ways. -/
theorem clq_elim {A : List Nat} {N : Nat} (hA : A.length ≤ 16) (hN : N < 2 ^ A.length) : clqAll A (mems N) (mems N).length = elimA A N := by
  have hp : 2 ^ A.length ≤ 65536 := Nat.pow_le_pow_right (n := 2) (i := A.length) (j := 16) (by decide) hA
  have hN32 : N < 4294967296 := by omega
  have hL : ∀ k, k < (mems N).length → atN (mems N) k < A.length := by
    intro k hk
    rw [mems_lenN] at hk
    rw [atN_mems hk]
    exact bit_under hN ((memsN_mem hN32).1 (List.getElem_mem hk))
  have hne : ∀ j k, j < k → k < (mems N).length → atN (mems N) j ≠ atN (mems N) k := by
    intro j k hjk hk
    rw [mems_lenN] at hk
    rw [atN_mems hk, atN_mems (by omega)]
    exact List.pairwise_iff_getElem.1 (memsN_nodup N) j k (by omega) hk hjk
  obtain ⟨h1, h2⟩ := clqAll_bit rfl hL hne (mems N).length (Nat.le_refl _)
  have hex : ∀ a, (∃ j, j < (mems N).length ∧ a = atN (mems N) j) ↔ N.testBit a = true := by
    intro a
    rw [← memsN_mem hN32, List.mem_iff_getElem]
    constructor
    · rintro ⟨j, hj, rfl⟩
      rw [mems_lenN] at hj
      exact ⟨j, hj, (atN_mems hj).symm⟩
    · rintro ⟨j, hj, rfl⟩
      exact ⟨j, by rw [mems_lenN]; exact hj, (atN_mems hj).symm⟩
  apply bt_ext (by rw [h1, elimA_len])
  intro a b
  rw [Bool.eq_iff_iff, h2 a b, elimA_bit hA hN, hex, hex]
/-- A right graph, as sets. -/
structure GA (n : Nat) (A : List Nat) : Prop where
  len : A.length = n
  pos : 1 ≤ n
  le : n ≤ 16
  irr : ∀ a, bt A a a = false
  sym : ∀ a b, bt A a b = bt A b a
theorem GA.lt {n : Nat} {A : List Nat} (h : GA n A) {a b : Nat} (hab : bt A a b = true) : a < n ∧ b < n := by
  have h1 : ∀ a b, bt A a b = true → a < n := by
    intro a b hab
    apply Classical.byContradiction
    intro hn
    unfold bt at hab
    rw [getD_out (by rw [h.len]; omega), Nat.zero_testBit] at hab
    cases hab
  exact ⟨h1 a b hab, h1 b a (by rw [h.sym]; exact hab)⟩
theorem GA.in2 {n : Nat} {A : List Nat} (h : GA n A) (u : Nat) : A.getD u 0 < 2 ^ n := mask_lt _ n (fun i hi => (h.lt (a := u) (b := i) hi).2)
theorem GA.in16 {n : Nat} {A : List Nat} (h : GA n A) : ∀ x ∈ A, x < 65536 := by
  intro x hx
  obtain ⟨i, hi, rfl⟩ := List.mem_iff_getElem.1 hx
  have h1 := h.in2 i
  rw [getD_in hi] at h1
  exact Nat.lt_of_lt_of_le h1 (Nat.pow_le_pow_right (n := 2) (i := n) (j := 16) (by decide) h.le)
theorem GA.row {n : Nat} {A : List Nat} (h : GA n A) {v : Nat} (hv : v < n) : row (A.map mems) (v : Int) = mems (A.getD v 0) := by
  rw [row_nat _ _ (by rw [List.length_map, h.len]; exact hv), List.getElem_map, getD_in (by rw [h.len]; exact hv)]
theorem GA.inc {n : Nat} {A : List Nat} (h : GA n A) (v : Nat) : Inc n (mems (A.getD v 0)) := by
  refine ⟨?_, mems_sorted _⟩
  have hp : 2 ^ n ≤ 65536 := Nat.pow_le_pow_right (n := 2) (i := n) (j := 16) (by decide) h.le
  have h2 := h.in2 v
  intro x hx
  obtain ⟨i, rfl, hi⟩ := (mems_mem (by omega)).1 hx
  have := bit_under h2 hi
  omega
theorem GA.gok {n : Nat} {A : List Nat} (h : GA n A) : GOk (A.map mems) := by
  have hlen : (A.map mems).length = n := by rw [List.length_map, h.len]
  have hp : 2 ^ n ≤ 65536 := Nat.pow_le_pow_right (n := 2) (i := n) (j := 16) (by decide) h.le
  refine ⟨by rw [hlen]; exact h.pos, by rw [hlen]; exact h.le, ?_, ?_, ?_⟩
  · intro v hv
    rw [hlen] at hv ⊢
    rw [h.row hv]; exact h.inc v
  · intro v hv hm
    rw [hlen] at hv
    have h2 := h.in2 v
    rw [h.row hv, mems_mem (by omega)] at hm
    obtain ⟨i, hi, hb⟩ := hm
    obtain rfl : v = i := by omega
    have := h.irr v
    unfold bt at this
    rw [this] at hb; cases hb
  · intro v hv u hu
    rw [hlen] at hv
    have h2 := h.in2 v
    rw [h.row hv, mems_mem (by omega)] at hu
    obtain ⟨i, rfl, hb⟩ := hu
    have hi := h.lt (a := v) (b := i) hb
    have h3 := h.in2 i
    rw [h.row hi.2, mems_mem (by omega)]
    exact ⟨v, rfl, by have := h.sym v i; unfold bt at this; rw [← this]; exact hb⟩
theorem maskL_mems {m : Nat} (h : m < 4294967296) : maskL (mems m) = m := by
  apply mask_ext
  intro i
  rw [testBit_maskL _ i (by intro v hv; obtain ⟨j, rfl, _⟩ := (mems_mem h).1 hv; omega), Bool.eq_iff_iff, decide_eq_true_iff, mems_mem h]
  constructor
  · rintro ⟨j, hj, hb⟩
    obtain rfl : i = j := by omega
    exact hb
  · intro hb; exact ⟨i, rfl, hb⟩
theorem GA.masks {n : Nat} {A : List Nat} (h : GA n A) : (A.map mems).map maskL = A := by
  rw [List.map_map]
  have h1 : ∀ x ∈ A, (maskL ∘ mems) x = x := fun x hx => maskL_mems (by have := h.in16 x hx; omega)
  rw [List.map_congr_left h1]; simp
theorem GA.of {g : List (List Int)} (hg : GOk g) : GA g.length (g.map maskL) := by
  have hget : ∀ v, v < g.length → (g.map maskL).getD v 0 = maskL (Go.Proofs.YtdncmloajajiaaaDoor.row g (v : Int)) := by
    intro v hv
    rw [getD_in (by rw [List.length_map]; exact hv), List.getElem_map, row_nat _ _ hv]
  have hbit : ∀ a b, bt (g.map maskL) a b = true ↔ a < g.length ∧ (b : Int) ∈ Go.Proofs.YtdncmloajajiaaaDoor.row g (a : Int) := by
    intro a b
    unfold bt
    by_cases ha : a < g.length
    · rw [hget a ha, testBit_maskL _ b (fun v hv => ((hg.inc a ha).1 v hv).1), decide_eq_true_iff]
      exact ⟨fun h => ⟨ha, h⟩, fun h => h.2⟩
    · rw [getD_out (by rw [List.length_map]; omega), Nat.zero_testBit]
      exact ⟨fun h => (by cases h), fun h => absurd h.1 ha⟩
  refine ⟨by rw [List.length_map], hg.pos, hg.le, ?_, ?_⟩
  · intro a
    rw [Bool.eq_false_iff]
    intro h
    have h2 := (hbit a a).1 h
    exact hg.irr a h2.1 h2.2
  · have : ∀ a b, bt (g.map maskL) a b = true → bt (g.map maskL) b a = true := by
      intro a b h
      have h2 := (hbit a b).1 h
      have h3 := (hg.inc a h2.1).1 _ h2.2
      exact (hbit b a).2 ⟨by omega, hg.sym a h2.1 _ h2.2⟩
    intro a b
    rw [Bool.eq_iff_iff]; exact ⟨this a b, this b a⟩
theorem GA.elim {n : Nat} {A : List Nat} (h : GA n A) {N : Nat} (hN : N < 2 ^ n) : GA n (elimA A N) := by
  have hle : A.length ≤ 16 := by rw [h.len]; exact h.le
  have hN' : N < 2 ^ A.length := by rw [h.len]; exact hN
  refine ⟨by rw [elimA_len, h.len], h.pos, h.le, ?_, ?_⟩
  · intro a
    rw [Bool.eq_false_iff]
    intro h1
    rcases (elimA_bit hle hN' a a).1 h1 with h2 | h2
    · rw [h.irr] at h2; cases h2
    · exact h2.1 rfl
  · intro a b
    rw [Bool.eq_iff_iff, elimA_bit hle hN', elimA_bit hle hN', h.sym a b]
    constructor
    · rintro (h1 | ⟨h1, h2, h3⟩)
      · exact .inl h1
      · exact .inr ⟨h1.symm, h3, h2⟩
    · rintro (h1 | ⟨h1, h2, h3⟩)
      · exact .inl h1
      · exact .inr ⟨h1.symm, h3, h2⟩
/-- What taking a vertex costs, of the neighbours that are left. -/
def costF (fill : Bool) (A : List Nat) (M : Nat) : Nat := if fill then missM A M else pcN 16 M
def costV (fill : Bool) (A : List Nat) (S v : Nat) : Nat := costF fill A (A.getD v 0 &&& S)
def bestV (fill : Bool) (A : List Nat) (S : Nat) : Nat := (bestO (costV fill A S) (memsN S)).getD 0
def nearV (A : List Nat) (S b : Nat) : Nat := dif (A.getD b 0 &&& S) (2 ^ b)
def ordR (fill : Bool) : Nat → List Nat → Nat → List Nat
  | 0, _, _ => []
  | k + 1, A, S => bestV fill A S :: ordR fill k (elimA A (nearV A S (bestV fill A S))) (dif S (2 ^ bestV fill A S))
noncomputable def orderL (fill : Bool) (g : List (List Int)) : List Int := if GOk g then (ordR fill g.length (g.map maskL) (2 ^ g.length - 1)).map fun i : Nat => (i : Int) else []
theorem near_dif (A : List Nat) (S b : Nat) : A.getD b 0 &&& dif S (2 ^ b) = nearV A S b := by
  unfold nearV
  apply Nat.eq_of_testBit_eq
  intro i
  rw [Nat.testBit_and, testBit_dif, testBit_dif, Nat.testBit_and, Bool.and_assoc]
theorem nearV_lt {n : Nat} {A : List Nat} (h : GA n A) (S b : Nat) : nearV A S b < 2 ^ n := Nat.lt_of_le_of_lt (dif_le _ _) (Nat.lt_of_le_of_lt Nat.and_le_left (h.in2 b))
theorem leftL_len_pc {n : Nat} {A : List Nat} (h : GA n A) (v S : Nat) : (leftL (mems (A.getD v 0)) S).length = pcN 16 (A.getD v 0 &&& S) := by
  have hp : 2 ^ n ≤ 65536 := Nat.pow_le_pow_right (n := 2) (i := n) (j := 16) (by decide) h.le
  have h2 := h.in2 v
  rw [← leftL_pc (h.inc v) (by have := h.le; omega) S, maskL_mems (by omega)]
theorem leftL_miss {n : Nat} {A : List Nat} (h : GA n A) (v S : Nat) : missL (A.map mems) (leftL (mems (A.getD v 0)) S) = missM A (A.getD v 0 &&& S) := by
  have hp : 2 ^ n ≤ 65536 := Nat.pow_le_pow_right (n := 2) (i := n) (j := 16) (by decide) h.le
  have h2 := h.in2 v
  have hlen : (A.map mems).length = n := by rw [List.length_map, h.len]
  have hi : Inc (A.map mems).length (leftL (mems (A.getD v 0)) S) := by rw [hlen]; exact leftL_inc (h.inc v) S
  rw [← miss_eq h.gok hi, h.masks, leftL_mask (h.inc v), maskL_mems (by omega)]
theorem leftL_mems {n : Nat} {A : List Nat} (h : GA n A) (v S : Nat) : leftL (mems (A.getD v 0)) S = mems (A.getD v 0 &&& S) := by
  have hp : 2 ^ n ≤ 65536 := Nat.pow_le_pow_right (n := 2) (i := n) (j := 16) (by decide) h.le
  have h2 := h.in2 v
  have h3 : A.getD v 0 &&& S < 65536 := Nat.lt_of_le_of_lt Nat.and_le_left (by omega)
  apply sorted_ext (leftL_inc (h.inc v) S).2 (mems_sorted _)
  intro x
  rw [leftL_mem, mems_mem (by omega), mems_mem (by omega)]
  constructor
  · rintro ⟨⟨i, rfl, hi⟩, hs⟩
    rw [Int.toNat_natCast] at hs
    exact ⟨i, rfl, by rw [Nat.testBit_and, hi, hs]; rfl⟩
  · rintro ⟨i, rfl, hi⟩
    rw [Nat.testBit_and, Bool.and_eq_true] at hi
    exact ⟨⟨i, rfl, hi.1⟩, by rw [Int.toNat_natCast]; exact hi.2⟩
end
section
def lenV : Value → Nat
  | .slice _ n _ => n
  | _ => 0
def leastO (f : Nat → Nat) : Option Nat → Nat
  | none => 0
  | some b => f b
theorem mems16 {m : Nat} (hm : m < 65536) : (mems m).length ≤ 16 := nodup_le (mems m) 16 ((mems_sorted m).imp (fun h => Int.ne_of_lt h)) (fun x hx => mems_lt16 hm x hx)
/-- What a graph of one's own gives to whoever reads it. -/
theorem mems_pc {n : Nat} {A : List Nat} (hA : GA n A) (v S : Nat) : (mems (A.getD v 0 &&& S)).length = pcN 16 (A.getD v 0 &&& S) := by
  rw [← leftL_mems hA v S, leftL_len_pc hA v S]
theorem ord_step {fill : Bool} {A : List Nat} {S b : Nat} (hS : S < 4294967296) (hb : bestO (costV fill A S) (memsN S) = some b) (hbit : S.testBit b = true) :
    ordR fill (memsN S).length A S = b :: ordR fill (memsN (dif S (2 ^ b))).length (elimA A (nearV A S b)) (dif S (2 ^ b)) := by
  have e : bestV fill A S = b := by unfold bestV; rw [hb]; rfl
  rw [← memsN_dif hS hbit]
  show bestV fill A S :: _ = _
  rw [e]
theorem stepO (f : Nat → Nat) (S v : Nat) (h : S.testBit v = true) : bestO f (leftN S (v + 1)) = stepB f (bestO f (leftN S v)) v := by rw [leftN_succ, if_pos h, bestO_snoc]
theorem stepO_not (f : Nat → Nat) (S v : Nat) (h : S.testBit v = false) : bestO f (leftN S (v + 1)) = bestO f (leftN S v) := by rw [leftN_succ, h, if_neg (by decide), List.append_nil]
theorem stepT (f : Nat → Nat) (L : List Nat) (k : Nat) (h : k < L.length) : bestO f (L.take (k + 1)) = stepB f (bestO f (L.take k)) L[k] := by
  rw [List.take_succ_eq_append_getElem h, bestO_snoc]
theorem leastO_step (f : Nat → Nat) (o : Option Nat) (v : Nat) : leastO f (stepB f o v) = match o with
    | none => f v
    | some b => if f v < f b then f v else f b := by
  cases o with
  | none => rfl
  | some b =>
    unfold stepB
    simp only
    split <;> rfl
theorem Kept.below1 {w w' : World} {gb B : Nat} (h : Kept (fun g => g = gb) w w') (hB : B ≤ gb) (hB2 : B ≤ w.heap.size) : Below B w w' :=
  ⟨h.os, h.tape, h.output, h.size, fun k hk => h.block k (by omega) (by omega)⟩
end
end
end Go.Proofs.YtdncmloajajiaaaDoor
