/- Arrows that force one another: plain. · All that an arrow leads to: plain. · Orientations: plain. · What an orientation is made of: plain. -/
import Derived.Test.YtdncmloajajiaaaDoorElimM
namespace Go.Proofs.YtdncmloajajiaaaDoor
open Go.RowKit
section
section
def cod (a b : Nat) : Nat := 16 * a + b
theorem cod_div {a b : Nat} (hb : b < 16) : cod a b / 16 = a := by unfold cod; omega
theorem cod_mod {a b : Nat} (hb : b < 16) : cod a b % 16 = b := by unfold cod; omega
theorem cod_self (p : Nat) : cod (p / 16) (p % 16) = p := by unfold cod; omega
/-- x forces y. -/
def frB (A : List Nat) (x y : Nat) : Bool :=
  (y / 16 == x / 16 && (bt A (x / 16) (y % 16) && !bt A (x % 16) (y % 16) && y % 16 != x % 16)) || (y % 16 == x % 16 && (bt A (x % 16) (y / 16) && !bt A (x / 16) (y / 16) && y / 16 != x / 16))
/-- What x forces, in order. -/
def frL (A : List Nat) (x : Nat) : List Nat := (List.range 256).filter (frB A x)
theorem frL_sorted (A : List Nat) (x : Nat) : (frL A x).Pairwise (· < ·) := List.pairwise_lt_range.filter _
theorem frL_lt {A : List Nat} {x y : Nat} (h : y ∈ frL A x) : y < 256 := List.mem_range.1 (List.mem_filter.1 h).1
/-- Those with which a goes on and b does not. -/
def outM (A : List Nat) (a b : Nat) : Nat := dif (dif (A.getD a 0) (A.getD b 0)) (2 ^ b)
theorem outM_bit (A : List Nat) (a b c : Nat) : (outM A a b).testBit c = true ↔ bt A a c = true ∧ bt A b c = false ∧ c ≠ b := by
  unfold outM bt
  rw [testBit_dif, testBit_dif, Nat.testBit_two_pow]
  simp only [Bool.and_eq_true, Bool.not_eq_true', decide_eq_false_iff_not]
  constructor
  · rintro ⟨⟨h1, h2⟩, h3⟩; exact ⟨h1, h2, fun e => h3 e.symm⟩
  · rintro ⟨h1, h2, h3⟩; exact ⟨⟨h1, h2⟩, fun e => h3 e.symm⟩
theorem outM_lt {n : Nat} {A : List Nat} (h : GA n A) (a b : Nat) : outM A a b < 2 ^ n := Nat.lt_of_le_of_lt (Nat.le_trans (dif_le _ _) (dif_le _ _)) (h.in2 a)
def frRaw (A : List Nat) (x : Nat) : List Nat := (memsN (outM A (x / 16) (x % 16))).map (fun c => cod (x / 16) c) ++ (memsN (outM A (x % 16) (x / 16))).map (fun c => cod c (x % 16))
theorem frB_iff (A : List Nat) (x y : Nat) : frB A x y = true ↔ (y / 16 = x / 16 ∧ bt A (x / 16) (y % 16) = true ∧ bt A (x % 16) (y % 16) = false ∧ y % 16 ≠ x % 16) ∨ (y % 16 = x % 16 ∧ bt A (x % 16) (y / 16) = true ∧ bt A (x / 16) (y / 16) = false ∧ y / 16 ≠ x / 16) := by
  unfold frB
  simp [and_assoc]
theorem frRaw_mem {n : Nat} {A : List Nat} (h : GA n A) {x : Nat} (y : Nat) : y ∈ frRaw A x ↔ y ∈ frL A x := by
  have hp : 2 ^ n ≤ 65536 := Nat.pow_le_pow_right (n := 2) (i := n) (j := 16) (by decide) h.le
  have hle := h.le
  have hlt : ∀ a c, bt A a c = true → a < 16 ∧ c < 16 := fun a c hb => by have := h.lt hb; omega
  unfold frRaw frL
  rw [List.mem_append, List.mem_filter, List.mem_range, frB_iff, List.mem_map, List.mem_map]
  constructor
  · rintro (⟨c, hc, rfl⟩ | ⟨c, hc, rfl⟩)
    · rw [memsN_mem (by have := outM_lt h (x / 16) (x % 16); omega), outM_bit] at hc
      have h1 := hlt _ _ hc.1
      refine ⟨by unfold cod; omega, .inl ?_⟩
      rw [cod_div h1.2, cod_mod h1.2]
      exact ⟨rfl, hc⟩
    · rw [memsN_mem (by have := outM_lt h (x % 16) (x / 16); omega), outM_bit] at hc
      have h1 := hlt _ _ hc.1
      have h2 : x % 16 < 16 := by omega
      refine ⟨by unfold cod; omega, .inr ?_⟩
      rw [cod_div h2, cod_mod h2]
      exact ⟨rfl, hc⟩
  · rintro ⟨hy, ⟨h1, h2⟩ | ⟨h1, h2⟩⟩
    · refine .inl ⟨y % 16, ?_, by rw [← h1]; exact cod_self y⟩
      rw [memsN_mem (by have := outM_lt h (x / 16) (x % 16); omega), outM_bit]
      exact h2
    · refine .inr ⟨y / 16, ?_, by rw [← h1]; exact cod_self y⟩
      rw [memsN_mem (by have := outM_lt h (x % 16) (x / 16); omega), outM_bit]
      exact h2
theorem frRaw_nodup {n : Nat} {A : List Nat} (h : GA n A) {x : Nat} : (frRaw A x).Nodup := by
  have hle := h.le
  have hp : 2 ^ n ≤ 65536 := Nat.pow_le_pow_right (n := 2) (i := n) (j := 16) (by decide) h.le
  have hlt : ∀ a c, bt A a c = true → a < 16 ∧ c < 16 := fun a c hb => by have := h.lt hb; omega
  unfold frRaw
  rw [List.nodup_append]
  refine ⟨?_, ?_, ?_⟩
  · unfold List.Nodup
    rw [List.pairwise_map]
    exact (memsN_nodup _).imp (fun {a b} hab e => hab (by unfold cod at e; omega))
  · unfold List.Nodup
    rw [List.pairwise_map]
    exact (memsN_nodup _).imp (fun {a b} hab e => hab (by unfold cod at e; omega))
  · intro a ha b hb e
    subst e
    obtain ⟨c, hc, rfl⟩ := List.mem_map.1 ha
    obtain ⟨d, hd, he⟩ := List.mem_map.1 hb
    rw [memsN_mem (by have := outM_lt h (x / 16) (x % 16); omega), outM_bit] at hc
    have h1 := hlt _ _ hc.1
    have h2 : x % 16 < 16 := by omega
    have h3 : cod d (x % 16) % 16 = cod (x / 16) c % 16 := by rw [he]
    rw [cod_mod h2, cod_mod h1.2] at h3
    exact hc.2.2 h3.symm
theorem sortedN_ext {l l' : List Nat} (h : l.Pairwise (· < ·)) (h' : l'.Pairwise (· < ·)) (hm : ∀ x, x ∈ l ↔ x ∈ l') : l = l' := by
  have h1 : (l.map fun i : Nat => (i : Int)) = (l'.map fun i : Nat => (i : Int)) := by
    apply sorted_ext
    · rw [List.pairwise_map]; exact h.imp (fun hab => by omega)
    · rw [List.pairwise_map]; exact h'.imp (fun hab => by omega)
    · intro x
      simp only [List.mem_map]
      exact ⟨fun ⟨a, ha, e⟩ => ⟨a, (hm a).1 ha, e⟩, fun ⟨a, ha, e⟩ => ⟨a, (hm a).2 ha, e⟩⟩
  have h2 := congrArg (List.map Int.toNat) h1
  simpa [List.map_map, Function.comp_def] using h2
/-- Whatever order they are put in first, sorted they are these. -/
theorem fr_sorted {n : Nat} {A : List Nat} (h : GA n A) {x : Nat} {L : List Nat} (hp : L.Perm (frRaw A x)) (hs : L.Pairwise (· ≤ ·)) : L = frL A x := by
  apply sortedN_ext _ (frL_sorted A x) (fun y => by rw [hp.mem_iff, frRaw_mem h])
  have hn : L.Nodup := hp.nodup_iff.2 (frRaw_nodup h)
  exact (hs.and hn).imp (fun ⟨h1, h2⟩ => Nat.lt_of_le_of_ne h1 h2)
theorem frRaw_lt {n : Nat} {A : List Nat} (h : GA n A) {x : Nat} {y : Nat} (hy : y ∈ frRaw A x) : y < 256 := frL_lt ((frRaw_mem h y).1 hy)
/-- A list that is put into another one at its place. -/
def putL (L : List Nat) (x : Nat) : List Nat := L.filter (fun y => decide (y < x)) ++ (if x ∈ L then [x] else [x]) ++ L.filter (fun y => decide (x < y))
theorem putL_mem (L : List Nat) (x y : Nat) : y ∈ putL L x ↔ y ∈ L ∨ y = x := by
  unfold putL
  simp only [ite_self, List.mem_append, List.mem_filter, List.mem_singleton, decide_eq_true_eq]
  constructor
  · rintro ((h | h) | h)
    · exact .inl h.1
    · exact .inr h
    · exact .inl h.1
  · rintro (h | h)
    · rcases Nat.lt_trichotomy y x with h1 | h1 | h1
      · exact .inl (.inl ⟨h, h1⟩)
      · exact .inl (.inr h1)
      · exact .inr ⟨h, h1⟩
    · exact .inl (.inr h)
theorem frL_len (A : List Nat) (x : Nat) : (frL A x).length ≤ 1000000 := by
  have : (frL A x).length ≤ (List.range 256).length := List.length_filter_le _ _
  simp at this; omega
theorem frL_lenS (A : List Nat) (x : Nat) : (frL A x).length ≤ 256 := by
  have : (frL A x).length ≤ (List.range 256).length := List.length_filter_le _ _
  simpa using this
end
section
def addQ (d : Nat) (Q : List (Nat × Nat)) (y : Nat) : List (Nat × Nat) := if y ∈ Q.map Prod.fst then Q else Q ++ [(y, d)]
def addAll (d : Nat) (Q : List (Nat × Nat)) (L : List Nat) : List (Nat × Nat) := L.foldl (addQ d) Q
/-- What has been met after k rounds, with the numbers of steps. -/
def bq (A : List Nat) (x : Nat) : Nat → List (Nat × Nat)
  | 0 => [(x, 0)]
  | k + 1 => match (bq A x k)[k]? with
    | some p => addAll (p.2 + 1) (bq A x k) (frL A p.1)
    | none => bq A x k
def bqE (A : List Nat) (x : Nat) : List (Nat × Nat) := bq A x 256
/-- What is met stands in a list of codes, each once. -/
def QOk (Q : List (Nat × Nat)) : Prop := (Q.map Prod.fst).Nodup ∧ ∀ p ∈ Q, p.1 < 256
theorem QOk.len {Q : List (Nat × Nat)} (h : QOk Q) : Q.length ≤ 256 := by
  have h1 : (Q.map Prod.fst).length ≤ (List.range 256).length := by
    apply h.1.length_le_of_subset
    intro y hy
    obtain ⟨p, hp, rfl⟩ := List.mem_map.1 hy
    exact List.mem_range.2 (h.2 p hp)
  simpa using h1
theorem addQ_ok {d : Nat} {Q : List (Nat × Nat)} {y : Nat} (h : QOk Q) (hy : y < 256) : QOk (addQ d Q y) := by
  unfold addQ
  split
  · exact h
  · rename_i hn
    refine ⟨?_, ?_⟩
    · rw [List.map_append, List.nodup_append]
      refine ⟨h.1, by simp, ?_⟩
      intro a ha b hb e
      simp at hb
      subst hb
      subst e
      exact hn ha
    · intro p hp
      rcases List.mem_append.1 hp with h1 | h1
      · exact h.2 p h1
      · simp at h1; subst h1; exact hy
theorem addAll_ok {d : Nat} : ∀ {L : List Nat} {Q : List (Nat × Nat)}, QOk Q → (∀ y ∈ L, y < 256) → QOk (addAll d Q L)
  | [], _, h, _ => h
  | y :: L, _, h, hl => addAll_ok (L := L) (addQ_ok h (hl y (by simp))) (fun z hz => hl z (by simp [hz]))
theorem bq_ok {A : List Nat} {x : Nat} (hx : x < 256) : ∀ k, QOk (bq A x k)
  | 0 => ⟨by simp [bq], by intro p hp; simp [bq] at hp; subst hp; exact hx⟩
  | k + 1 => by
    unfold bq
    split
    · exact addAll_ok (bq_ok hx k) (fun y hy => frL_lt hy)
    · exact bq_ok hx k
theorem addQ_pre (d : Nat) (Q : List (Nat × Nat)) (y : Nat) : Q <+: addQ d Q y := by
  unfold addQ
  split
  · exact List.prefix_refl _
  · exact List.prefix_append _ _
theorem addAll_pre (d : Nat) : ∀ (L : List Nat) (Q : List (Nat × Nat)), Q <+: addAll d Q L
  | [], _ => List.prefix_refl _
  | y :: L, Q => (addQ_pre d Q y).trans (addAll_pre d L (addQ d Q y))
theorem bq_pre (A : List Nat) (x k : Nat) : bq A x k <+: bq A x (k + 1) := by
  show bq A x k <+: (match (bq A x k)[k]? with | some p => addAll (p.2 + 1) (bq A x k) (frL A p.1) | none => bq A x k)
  split
  · exact addAll_pre _ _ _
  · exact List.prefix_refl _
theorem bq_some {A : List Nat} {x k : Nat} (hk : k < (bq A x k).length) : bq A x (k + 1) = addAll (((bq A x k)[k]).2 + 1) (bq A x k) (frL A ((bq A x k)[k]).1) := by
  show (match (bq A x k)[k]? with | some p => addAll (p.2 + 1) (bq A x k) (frL A p.1) | none => bq A x k) = _
  rw [List.getElem?_eq_getElem hk]
theorem bq_stay {A : List Nat} {x k : Nat} (hk : (bq A x k).length ≤ k) : ∀ j, k ≤ j → bq A x j = bq A x k := by
  intro j hj
  induction j with
  | zero => obtain rfl : k = 0 := by omega
            rfl
  | succ j ih =>
    by_cases e : k = j + 1
    · rw [e]
    · have ih := ih (by omega)
      show (match (bq A x j)[j]? with | some p => addAll (p.2 + 1) (bq A x j) (frL A p.1) | none => bq A x j) = _
      rw [ih, List.getElem?_eq_none (by omega)]
theorem bq_end {A : List Nat} {x k : Nat} (hx : x < 256) (hk : (bq A x k).length = k) : bqE A x = bq A x k :=
  bq_stay (by omega) 256 (by have := (bq_ok (A := A) hx k).len; omega)
theorem frL_in {n : Nat} {A : List Nat} (h : GA n A) {x y : Nat} (h1 : x / 16 < n) (h2 : x % 16 < n) (hy : y ∈ frL A x) : y / 16 < n ∧ y % 16 < n := by
  unfold frL at hy
  rw [List.mem_filter, frB_iff] at hy
  rcases hy.2 with ⟨e, hb, _⟩ | ⟨e, hb, _⟩
  · exact ⟨by omega, (h.lt hb).2⟩
  · exact ⟨(h.lt hb).2, by omega⟩
def QIn (n : Nat) (Q : List (Nat × Nat)) : Prop := ∀ p ∈ Q, p.1 / 16 < n ∧ p.1 % 16 < n
theorem addQ_in {n d : Nat} {Q : List (Nat × Nat)} {y : Nat} (h : QIn n Q) (hy : y / 16 < n ∧ y % 16 < n) : QIn n (addQ d Q y) := by
  unfold addQ
  split
  · exact h
  · intro p hp
    rcases List.mem_append.1 hp with h1 | h1
    · exact h p h1
    · simp at h1; subst h1; exact hy
theorem addAll_in {n d : Nat} : ∀ {L : List Nat} {Q : List (Nat × Nat)}, QIn n Q → (∀ y ∈ L, y / 16 < n ∧ y % 16 < n) → QIn n (addAll d Q L)
  | [], _, h, _ => h
  | y :: L, _, h, hl => addAll_in (L := L) (addQ_in h (hl y (by simp))) (fun z hz => hl z (by simp [hz]))
theorem bq_in {n : Nat} {A : List Nat} (hA : GA n A) {x : Nat} (h1 : x / 16 < n) (h2 : x % 16 < n) : ∀ k, QIn n (bq A x k)
  | 0 => by intro p hp; simp [bq] at hp; subst hp; exact ⟨h1, h2⟩
  | k + 1 => by
    have ih := bq_in hA h1 h2 k
    unfold bq
    split
    · rename_i p hp
      have hm := ih p (List.mem_of_getElem? hp)
      exact addAll_in ih (fun y hy => frL_in hA hm.1 hm.2 hy)
    · exact ih
theorem addAll_dist {d m : Nat} : ∀ {L : List Nat} {Q : List (Nat × Nat)}, (∀ p ∈ Q, p.2 ≤ m) → d ≤ m → ∀ p ∈ addAll d Q L, p.2 ≤ m
  | [], _, h, _ => h
  | y :: L, Q, h, hd => addAll_dist (L := L) (Q := addQ d Q y) (by
      unfold addQ
      split
      · exact h
      · intro p hp
        rcases List.mem_append.1 hp with h1 | h1
        · exact h p h1
        · simp at h1; subst h1; exact hd) hd
theorem bq_dist (A : List Nat) (x : Nat) : ∀ k, ∀ p ∈ bq A x k, p.2 ≤ k
  | 0 => by intro p hp; simp [bq] at hp; subst hp; exact Nat.le_refl _
  | k + 1 => by
    have ih := bq_dist A x k
    unfold bq
    split
    · rename_i p hp
      exact addAll_dist (fun q hq => Nat.le_succ_of_le (ih q hq)) (Nat.succ_le_succ (ih p (List.mem_of_getElem? hp)))
    · exact fun q hq => Nat.le_succ_of_le (ih q hq)
theorem addQ_there {Q : List (Nat × Nat)} {d y : Nat} (h : y ∈ Q.map Prod.fst) : addQ d Q y = Q := by unfold addQ; rw [if_pos h]
theorem addQ_new {Q : List (Nat × Nat)} {d y : Nat} (h : y ∉ Q.map Prod.fst) : addQ d Q y = Q ++ [(y, d)] := by unfold addQ; rw [if_neg h]
theorem addAll_snoc (d : Nat) (Q : List (Nat × Nat)) (L : List Nat) (y : Nat) : addAll d Q (L ++ [y]) = addQ d (addAll d Q L) y := by
  unfold addAll
  rw [List.foldl_append]
  rfl
/-- The codes that are met, rising. -/
def keyL (Q : List (Nat × Nat)) : List Nat := (List.range 256).filter fun y => decide (y ∈ Q.map Prod.fst)
theorem keyL_sorted (Q : List (Nat × Nat)) : (keyL Q).Pairwise (· < ·) := List.pairwise_lt_range.filter _
theorem keyL_mem {Q : List (Nat × Nat)} (h : QOk Q) (y : Nat) : y ∈ keyL Q ↔ y ∈ Q.map Prod.fst := by
  unfold keyL
  rw [List.mem_filter, List.mem_range, decide_eq_true_eq]
  refine ⟨fun h => h.2, fun hy => ⟨?_, hy⟩⟩
  obtain ⟨p, hp, rfl⟩ := List.mem_map.1 hy
  exact h.2 p hp
theorem addQ_fst_mem (d : Nat) (Q : List (Nat × Nat)) (y z : Nat) : z ∈ (addQ d Q y).map Prod.fst ↔ z ∈ Q.map Prod.fst ∨ z = y := by
  unfold addQ
  split
  · rename_i h
    exact ⟨.inl, fun h' => h'.elim id (fun e => e ▸ h)⟩
  · simp
end
section
/-- The matrix of a relation among the numbers below n. -/
def matN (n : Nat) (f : Nat → Nat → Bool) : List Nat := (List.range n).map fun a => maskL (((List.range n).filter (f a)).map fun i : Nat => (i : Int))
theorem matN_len (n : Nat) (f : Nat → Nat → Bool) : (matN n f).length = n := by simp [matN]
theorem matN_bit (n : Nat) (f : Nat → Nat → Bool) (a b : Nat) : bt (matN n f) a b = true ↔ a < n ∧ b < n ∧ f a b = true := by
  unfold bt matN
  by_cases ha : a < n
  · rw [getD_in (by simpa using ha), List.getElem_map, List.getElem_range, testBit_maskL _ _ (by intro x hx; obtain ⟨i, _, rfl⟩ := List.mem_map.1 hx; omega), decide_eq_true_iff]
    constructor
    · intro hx
      obtain ⟨i, hi, he⟩ := List.mem_map.1 hx
      obtain rfl : i = b := by omega
      exact ⟨ha, List.mem_range.1 (List.mem_filter.1 hi).1, (List.mem_filter.1 hi).2⟩
    · rintro ⟨_, hb, hf⟩
      exact List.mem_map.2 ⟨b, List.mem_filter.2 ⟨List.mem_range.2 hb, hf⟩, rfl⟩
  · rw [getD_out (by simp; omega), Nat.zero_testBit]
    constructor
    · intro h1; cases h1
    · intro hb; exact absurd hb.1 ha
def opp (p : Nat) : Nat := cod (p % 16) (p / 16)
theorem opp_cod {a b : Nat} (hb : b < 16) : opp (cod a b) = cod b a := by unfold opp; rw [cod_div hb, cod_mod hb]
theorem opp_opp {p : Nat} (h : p < 256) : opp (opp p) = p := by unfold opp cod; omega
theorem opp_lt {p : Nat} (h : p < 256) : opp p < 256 := by unfold opp cod; omega
/-- The graph without those arrows, either way. -/
def cutK (n : Nat) (A K : List Nat) : List Nat := matN n fun a b => bt A a b && !decide (cod a b ∈ K) && !decide (cod b a ∈ K)
/-- Those arrows, put to others. -/
def addK (n : Nat) (H K : List Nat) : List Nat := matN n fun a b => bt H a b || decide (cod a b ∈ K)
theorem cutK_bit {n : Nat} {A K : List Nat} (h : GA n A) (a b : Nat) : bt (cutK n A K) a b = true ↔ bt A a b = true ∧ cod a b ∉ K ∧ cod b a ∉ K := by
  unfold cutK
  rw [matN_bit]
  simp only [Bool.and_eq_true, Bool.not_eq_true', decide_eq_false_iff_not]
  constructor
  · rintro ⟨_, _, ⟨h1, h2⟩, h3⟩; exact ⟨h1, h2, h3⟩
  · rintro ⟨h1, h2, h3⟩
    have := h.lt h1
    exact ⟨this.1, this.2, ⟨h1, h2⟩, h3⟩
theorem GA.cutK {n : Nat} {A : List Nat} (h : GA n A) (K : List Nat) : GA n (cutK n A K) where
  len := matN_len _ _
  pos := h.pos
  le := h.le
  irr a := by
    rw [Bool.eq_false_iff]
    intro h1
    have := ((cutK_bit h a a).1 h1).1
    rw [h.irr] at this; cases this
  sym a b := by
    rw [Bool.eq_iff_iff, cutK_bit h, cutK_bit h, h.sym a b]
    exact ⟨fun h => ⟨h.1, h.2.2, h.2.1⟩, fun h => ⟨h.1, h.2.2, h.2.1⟩⟩
theorem bit_le {x y : Nat} (h : ∀ i, x.testBit i = true → y.testBit i = true) : x ≤ y := by
  have : x &&& y = x := by
    apply Nat.eq_of_testBit_eq
    intro i
    rw [Nat.testBit_and]
    cases hx : x.testBit i
    · rfl
    · rw [h i hx]; rfl
  rw [← this]
  exact Nat.and_le_right
theorem bit_lt {x y : Nat} (h : ∀ i, x.testBit i = true → y.testBit i = true) {k : Nat} (h1 : y.testBit k = true) (h2 : x.testBit k = false) : x < y := by
  refine Nat.lt_of_le_of_ne (bit_le h) fun e => ?_
  rw [e, h1] at h2
  cases h2
/-- The arrow that is taken first at u. -/
def frst (A : List Nat) (u : Nat) : Nat := cod u (low (A.getD u 0))
def clsK (A : List Nat) (u : Nat) : List Nat := keyL (bqE A (frst A u))
theorem bqE_first (A : List Nat) (x : Nat) : x ∈ (bqE A x).map Prod.fst := by
  have h : ∀ k, bq A x 0 <+: bq A x k := by
    intro k
    induction k with
    | zero => exact List.prefix_refl _
    | succ k ih => exact ih.trans (bq_pre A x k)
  exact List.mem_map.2 ⟨(x, 0), (h 256).subset (by simp [bq]), rfl⟩
theorem low16 {n : Nat} {A : List Nat} (h : GA n A) {u : Nat} (h0 : A.getD u 0 ≠ 0) : bt A u (low (A.getD u 0)) = true ∧ low (A.getD u 0) < n ∧ u < n := by
  have h2 := h.in2 u
  have hp : 2 ^ n ≤ 65536 := Nat.pow_le_pow_right (n := 2) (i := n) (j := 16) (by decide) h.le
  have hb : bt A u (low (A.getD u 0)) = true := low_bit h0 (by omega)
  exact ⟨hb, (h.lt hb).2, (h.lt hb).1⟩
theorem frst_lt {n : Nat} {A : List Nat} (h : GA n A) {u : Nat} (h0 : A.getD u 0 ≠ 0) : frst A u < 256 := by
  have h1 := low16 h h0
  have := h.le
  unfold frst cod; omega
theorem clsK_first {n : Nat} {A : List Nat} (h : GA n A) {u : Nat} (h0 : A.getD u 0 ≠ 0) : frst A u ∈ clsK A u := by
  unfold clsK
  exact (keyL_mem (bq_ok (frst_lt h h0) 256) _).2 (bqE_first _ _)
theorem cut_less {n : Nat} {A : List Nat} (h : GA n A) {u : Nat} (h0 : A.getD u 0 ≠ 0) : (cutK n A (clsK A u)).getD u 0 < A.getD u 0 := by
  have h1 := low16 h h0
  refine bit_lt (k := low (A.getD u 0)) (fun i hi => ?_) h1.1 ?_
  · exact ((cutK_bit h u i).1 hi).1
  · rw [Bool.eq_false_iff]
    intro hi
    exact ((cutK_bit h u _).1 hi).2.1 (clsK_first h h0)
/-- Do some of those stand against one another? -/
def badK (K : List Nat) : Bool := K.any fun p => decide (opp p ∈ K)
/-- All rounds at one vertex. -/
def oriIn (n : Nat) (A H : List Nat) (u : Nat) : Option (List Nat × List Nat) :=
  if A.getD u 0 = 0 then some (A, H)
  else if badK (clsK A u) then none
  else if _h : (cutK n A (clsK A u)).getD u 0 < A.getD u 0 then oriIn n (cutK n A (clsK A u)) (addK n H (clsK A u)) u
  else none
termination_by A.getD u 0
def oriTo (n : Nat) (A : List Nat) : Nat → Option (List Nat × List Nat)
  | 0 => some (A, List.replicate n 0)
  | u + 1 => (oriTo n A u).bind fun s => oriIn n s.1 s.2 u
/-- The heads of an orientation, or none. -/
def oriN (n : Nat) (A : List Nat) : Option (List Nat) := (oriTo n A n).map (·.2)
theorem oriIn_zero {n : Nat} {A H : List Nat} {u : Nat} (h0 : A.getD u 0 = 0) : oriIn n A H u = some (A, H) := by rw [oriIn, if_pos h0]
theorem oriIn_bad {n : Nat} {A H : List Nat} {u : Nat} (h0 : A.getD u 0 ≠ 0) (hb : badK (clsK A u) = true) : oriIn n A H u = none := by rw [oriIn, if_neg h0, if_pos hb]
theorem oriIn_step {n : Nat} {A H : List Nat} (h : GA n A) {u : Nat} (h0 : A.getD u 0 ≠ 0) (hb : badK (clsK A u) = false) : oriIn n A H u = oriIn n (cutK n A (clsK A u)) (addK n H (clsK A u)) u := by
  rw [oriIn, if_neg h0, if_neg (by rw [hb]; decide), dif_pos (cut_less h h0)]
/-- Nothing comes of what has failed. -/
theorem oriTo_none {n : Nat} {A : List Nat} {u : Nat} (h : oriTo n A u = none) : ∀ j, u ≤ j → oriTo n A j = none := by
  intro j hj
  induction j with
  | zero => obtain rfl : u = 0 := by omega
            exact h
  | succ j ih =>
    by_cases e : u = j + 1
    · rw [← e]; exact h
    · show (oriTo n A j).bind _ = none
      rw [ih (by omega)]; rfl
theorem oriN_none {n : Nat} {A : List Nat} {u : Nat} (hu : u ≤ n) (h : oriTo n A u = none) : oriN n A = none := by
  unfold oriN
  rw [oriTo_none h n hu]; rfl
end
end
section
section
/-- The arrow is one of the graph. -/
def edA (A : List Nat) (x : Nat) : Bool := bt A (x / 16) (x % 16)
theorem edA_cod {A : List Nat} {a b : Nat} (hb : b < 16) : edA A (cod a b) = bt A a b := by unfold edA; rw [cod_div hb, cod_mod hb]
theorem edA_lt {n : Nat} {A : List Nat} (h : GA n A) {x : Nat} (hx : edA A x = true) : x / 16 < n ∧ x % 16 < n := h.lt hx
theorem edA_256 {n : Nat} {A : List Nat} (h : GA n A) {x : Nat} (hx : edA A x = true) : x < 256 := by
  have := edA_lt h hx
  have := h.le
  omega
theorem opp_d (x : Nat) : opp x / 16 = x % 16 ∨ 256 ≤ x := by unfold opp cod; omega
theorem opp_dm {x : Nat} (h : x < 256) : opp x / 16 = x % 16 ∧ opp x % 16 = x / 16 := by unfold opp cod; omega
theorem edA_opp {n : Nat} {A : List Nat} (h : GA n A) {x : Nat} (hx : edA A x = true) : edA A (opp x) = true := by
  have := opp_dm (edA_256 h hx)
  unfold edA
  rw [this.1, this.2, h.sym]
  exact hx
theorem frB_edge {n : Nat} {A : List Nat} (h : GA n A) {x y : Nat} (hf : frB A x y = true) : edA A y = true := by
  rcases (frB_iff A x y).1 hf with ⟨h1, h2, _⟩ | ⟨h1, h2, h3, _⟩
  · unfold edA; rw [h1]; exact h2
  · unfold edA; rw [h1, h.sym]; exact h2
theorem frB_sym {n : Nat} {A : List Nat} (h : GA n A) {x y : Nat} (hx : edA A x = true) (hf : frB A x y = true) : frB A y x = true := by
  rw [frB_iff] at hf ⊢
  unfold edA at hx
  rcases hf with ⟨h1, h2, h3, h4⟩ | ⟨h1, h2, h3, h4⟩
  · exact .inl ⟨h1.symm, by rw [h1]; exact hx, by rw [h.sym]; exact h3, fun e => h4 e.symm⟩
  · exact .inr ⟨h1.symm, by rw [h1, h.sym]; exact hx, by rw [h.sym]; exact h3, fun e => h4 e.symm⟩
theorem frB_opp {n : Nat} {A : List Nat} (h : GA n A) {x y : Nat} (hx : edA A x = true) (hf : frB A x y = true) : frB A (opp x) (opp y) = true := by
  have h1 := opp_dm (edA_256 h hx)
  have h2 := opp_dm (edA_256 h (frB_edge h hf))
  rw [frB_iff] at hf ⊢
  rw [h1.1, h1.2, h2.1, h2.2]
  exact hf.symm
theorem frB_sub {A A0 : List Nat} (hs : ∀ a b, bt A a b = true → bt A0 a b = true) {n : Nat} (h : GA n A) {x y : Nat} (hy : edA A y = true) (hf : frB A0 x y = true) : frB A x y = true := by
  have hn : ∀ a b, bt A0 a b = false → bt A a b = false := fun a b h1 => by
    rw [Bool.eq_false_iff]; intro h2; rw [hs a b h2] at h1; cases h1
  rw [frB_iff] at hf ⊢
  unfold edA at hy
  rcases hf with ⟨h1, h2, h3, h4⟩ | ⟨h1, h2, h3, h4⟩
  · exact .inl ⟨h1, by rw [← h1]; exact hy, hn _ _ h3, h4⟩
  · exact .inr ⟨h1, by rw [h.sym, ← h1]; exact hy, hn _ _ h3, h4⟩
theorem mem_frL {A : List Nat} {x y : Nat} : y ∈ frL A x ↔ y < 256 ∧ frB A x y = true := by unfold frL; rw [List.mem_filter, List.mem_range]
theorem mem_frL' {n : Nat} {A : List Nat} (h : GA n A) {x y : Nat} : y ∈ frL A x ↔ frB A x y = true := by
  rw [mem_frL]
  exact ⟨fun h => h.2, fun hf => ⟨edA_256 h (frB_edge h hf), hf⟩⟩
theorem addAll_mem (d : Nat) : ∀ (L : List Nat) (Q : List (Nat × Nat)) (y : Nat), y ∈ (addAll d Q L).map Prod.fst ↔ y ∈ Q.map Prod.fst ∨ y ∈ L
  | [], Q, y => by simp [addAll]
  | z :: L, Q, y => by
    show y ∈ (addAll d (addQ d Q z) L).map Prod.fst ↔ _
    rw [addAll_mem d L, addQ_fst_mem, List.mem_cons, or_assoc]
theorem prefix_get {α : Type} {l l' : List α} (h : l <+: l') {i : Nat} (hi : i < l.length) (hi' : i < l'.length) : l'[i] = l[i] := by
  obtain ⟨t, rfl⟩ := h
  rw [List.getElem_append_left hi]
/-- Whoever has had its round has all that it forces among them. -/
theorem bq_done {A : List Nat} {x : Nat} : ∀ k i, i < k → ∀ (hi : i < (bq A x k).length), ∀ y ∈ frL A ((bq A x k)[i]).1, y ∈ (bq A x k).map Prod.fst
  | 0, i, hik => fun _ => absurd hik (Nat.not_lt_zero i)
  | k + 1, i, hik => by
    intro hi y hy
    by_cases hk : k < (bq A x k).length
    · have hki : i < (bq A x k).length := by omega
      rw [prefix_get (bq_pre A x k) hki hi] at hy
      have hsub : ∀ z, z ∈ (bq A x k).map Prod.fst → z ∈ (bq A x (k + 1)).map Prod.fst := fun z hz => by
        obtain ⟨p, hp, rfl⟩ := List.mem_map.1 hz
        exact List.mem_map.2 ⟨p, (bq_pre A x k).subset hp, rfl⟩
      by_cases e : i = k
      · subst e
        rw [bq_some hk, addAll_mem]
        exact .inr hy
      · exact hsub _ (bq_done k i (by omega) hki y hy)
    · have he : bq A x (k + 1) = bq A x k := bq_stay (k := k) (by omega) (k + 1) (by omega)
      have hki : i < (bq A x k).length := by rw [← he]; exact hi
      rw [prefix_get (bq_pre A x k) hki hi] at hy
      rw [he]
      exact bq_done k i (by omega) hki y hy
theorem bqE_closed {A : List Nat} {x : Nat} (hx : x < 256) {p y : Nat} (hp : p ∈ (bqE A x).map Prod.fst) (hy : y ∈ frL A p) : y ∈ (bqE A x).map Prod.fst := by
  obtain ⟨q, hq, rfl⟩ := List.mem_map.1 hp
  obtain ⟨i, hi, rfl⟩ := List.mem_iff_getElem.1 hq
  have hl : (bq A x 256).length ≤ 256 := (bq_ok hx 256).len
  exact bq_done 256 i (Nat.lt_of_lt_of_le hi hl) hi y hy
/-- What holds of the first, and of what is forced by whom it holds of, holds of all. -/
theorem bq_conn {A : List Nat} {x : Nat} (P : Nat → Prop) (h0 : P x) (hs : ∀ p y, P p → y ∈ frL A p → P y) : ∀ k, ∀ p ∈ bq A x k, P p.1
  | 0 => by intro p hp; simp [bq] at hp; subst hp; exact h0
  | k + 1 => by
    have ih := bq_conn P h0 hs k
    have key : ∀ (L : List Nat) (d : Nat) (Q : List (Nat × Nat)), (∀ p ∈ Q, P p.1) → (∀ y ∈ L, P y) → ∀ p ∈ addAll d Q L, P p.1 := by
      intro L d Q hQ hL p hp
      have hm : p.1 ∈ (addAll d Q L).map Prod.fst := List.mem_map.2 ⟨p, hp, rfl⟩
      rw [addAll_mem] at hm
      rcases hm with h1 | h1
      · obtain ⟨q, hq, e⟩ := List.mem_map.1 h1
        rw [← e]; exact hQ q hq
      · exact hL _ h1
    unfold bq
    split
    · rename_i q hq
      exact key _ _ _ ih (fun y hy => hs q.1 y (ih q (List.mem_of_getElem? hq)) hy)
    · exact ih
theorem bqE_conn {A : List Nat} {x : Nat} (P : Nat → Prop) (h0 : P x) (hs : ∀ p y, P p → y ∈ frL A p → P y) : ∀ p ∈ (bqE A x).map Prod.fst, P p := by
  intro p hp
  obtain ⟨q, hq, rfl⟩ := List.mem_map.1 hp
  exact bq_conn P h0 hs 256 q hq
/-- A class of arrows. -/
structure IsK (A K : List Nat) (x : Nat) : Prop where
  seed : x ∈ K
  lt : ∀ p ∈ K, p < 256
  edge : ∀ p ∈ K, edA A p = true
  closed : ∀ p ∈ K, ∀ y, frB A p y = true → y ∈ K
  conn : ∀ P : Nat → Prop, P x → (∀ p y, p ∈ K → y ∈ K → P p → frB A p y = true → P y) → ∀ p ∈ K, P p
theorem isK_of {n : Nat} {A : List Nat} (h : GA n A) {x : Nat} (hx : edA A x = true) : IsK A (keyL (bqE A x)) x := by
  have hx256 := edA_256 h hx
  have hQ := bq_ok (A := A) hx256 256
  have hm : ∀ y, y ∈ keyL (bqE A x) ↔ y ∈ (bqE A x).map Prod.fst := keyL_mem hQ
  have hcl : ∀ p ∈ keyL (bqE A x), ∀ y, frB A p y = true → y ∈ keyL (bqE A x) := fun p hp y hf => (hm y).2 (bqE_closed hx256 ((hm p).1 hp) ((mem_frL' h).2 hf))
  refine ⟨(hm x).2 (bqE_first A x), fun p hp => ?_, fun p hp => ?_, hcl, fun P h0 hs p hp => ?_⟩
  · obtain ⟨q, hq, rfl⟩ := List.mem_map.1 ((hm p).1 hp)
    exact hQ.2 q hq
  · exact bqE_conn (fun p => edA A p = true) hx (fun p y _ hy => frB_edge h ((mem_frL' h).1 hy)) p ((hm p).1 hp)
  · refine (bqE_conn (fun p => p ∈ keyL (bqE A x) ∧ P p) ⟨(hm x).2 (bqE_first A x), h0⟩ (fun p y hp hy => ?_) p ((hm p).1 hp)).2
    have h1 := hcl p hp.1 y ((mem_frL' h).1 hy)
    exact ⟨h1, hs p y hp.1 h1 hp.2 ((mem_frL' h).1 hy)⟩
theorem frst_ed {n : Nat} {A : List Nat} (h : GA n A) {u : Nat} (h0 : A.getD u 0 ≠ 0) : edA A (frst A u) = true := by
  have h1 := low16 h h0
  have := h.le
  unfold frst
  rw [edA_cod (by omega)]
  exact h1.1
theorem clsK_is {n : Nat} {A : List Nat} (h : GA n A) {u : Nat} (h0 : A.getD u 0 ≠ 0) : IsK A (clsK A u) (frst A u) := isK_of h (frst_ed h h0)
theorem badK_no {K : List Nat} (h : badK K = false) : ∀ p ∈ K, opp p ∉ K := by
  intro p hp hq
  unfold badK at h
  rw [List.any_eq_false] at h
  exact h p hp (decide_eq_true hq)
/-- A class that does not hold an arrow both ways is transitive. -/
theorem IsK.trans {n : Nat} {A K : List Nat} {x : Nat} (h : GA n A) (hK : IsK A K x) (hb : ∀ p ∈ K, opp p ∉ K) {a b c : Nat} (hc16 : c < 16) (hb16 : b < 16) (ha16 : a < 16) (h1 : cod a b ∈ K) (h2 : cod b c ∈ K) : cod a c ∈ K := by
  have e1 : bt A a b = true := by rw [← edA_cod hb16]; exact hK.edge _ h1
  have e2 : bt A b c = true := by rw [← edA_cod hc16]; exact hK.edge _ h2
  have o1 : cod b a ∉ K := by rw [← opp_cod hb16]; exact hb _ h1
  have o2 : cod c b ∉ K := by rw [← opp_cod hc16]; exact hb _ h2
  have hca : c ≠ a := fun e => o1 (e ▸ h2)
  have hs := h.sym
  have fr1 : ∀ {p q r : Nat}, q < 16 → r < 16 → bt A p r = true → bt A q r = false → r ≠ q → frB A (cod p q) (cod p r) = true := by
    intro p q r hq hr k1 k2 k3
    rw [frB_iff, cod_div hq, cod_mod hq, cod_div hr, cod_mod hr]
    exact .inl ⟨rfl, k1, k2, k3⟩
  have fr2 : ∀ {p q r : Nat}, q < 16 → bt A q r = true → bt A p r = false → r ≠ p → frB A (cod p q) (cod r q) = true := by
    intro p q r hq k1 k2 k3
    rw [frB_iff, cod_div hq, cod_mod hq, cod_div hq, cod_mod hq]
    exact .inr ⟨rfl, k1, k2, k3⟩
  -- a and c are neighbours
  have eac : bt A a c = true := by
    rw [← Bool.not_eq_false]
    intro hn
    exact o2 (hK.closed _ h1 _ (fr2 hb16 e2 hn hca))
  apply Classical.byContradiction
  intro hnk
  -- whoever can be reached from (b, c) has these three
  have key : ∀ p ∈ K, ∀ q ∈ K, (fun p => p / 16 < 16 ∧ cod a (p / 16) ∈ K ∧ bt A a (p % 16) = true ∧ cod a (p % 16) ∉ K) p → frB A p q = true → (fun p => p / 16 < 16 ∧ cod a (p / 16) ∈ K ∧ bt A a (p % 16) = true ∧ cod a (p % 16) ∉ K) q := by
    rintro p hp q hq ⟨k0, k1, k2, k3⟩ hf
    have hq256 := hK.lt q hq
    have hp256 := hK.lt p hp
    have hpo := hb p hp
    have hqo := hb q hq
    have hqc := cod_self q
    have hpc := cod_self p
    have hm1 : q % 16 < 16 := Nat.mod_lt _ (by decide)
    have hm2 : p % 16 < 16 := Nat.mod_lt _ (by decide)
    rcases (frB_iff A p q).1 hf with ⟨g1, g2, g3, g4⟩ | ⟨g1, g2, g3, g4⟩
    · -- the tail stays
      have g5 : q % 16 ≠ a := by
        intro e
        rw [e] at hqc
        rw [g1] at hqc
        rw [← hqc] at hqo
        rw [opp_cod ha16] at hqo
        exact hqo k1
      have hac : bt A a (q % 16) = true := by
        rw [← Bool.not_eq_false]
        intro hn
        have : cod (q % 16) (p / 16) ∈ K := hK.closed _ k1 _ (fr2 k0 g2 hn g5)
        rw [← g1] at this
        exact hqo this
      refine ⟨by rw [g1]; exact k0, by rw [g1]; exact k1, hac, fun hin => k3 ?_⟩
      exact hK.closed _ hin _ (fr1 hm1 hm2 k2 (by rw [hs]; exact g3) (fun e => g4 e.symm))
    · -- the head stays
      rw [g1]
      have g5 : q / 16 ≠ a := by
        intro e
        rw [← hqc, e, g1] at hq
        exact k3 hq
      have hq16 : q / 16 < 16 := by omega
      have hab : bt A a (q / 16) = true := by
        rw [← Bool.not_eq_false]
        intro hn
        refine k3 (hK.closed _ (show cod (q / 16) (p % 16) ∈ K by rw [← g1, hqc]; exact hq) _ (fr2 hm2 (by rw [hs]; exact k2) (by rw [hs]; exact hn) (fun e => g5 e.symm)))
      exact ⟨hq16, hK.closed _ k1 _ (fr1 k0 hq16 hab g3 g4), k2, k3⟩
  -- from the class's seed to all: both ways, as forcing is symmetric
  have all : ∀ p ∈ K, (fun p => p / 16 < 16 ∧ cod a (p / 16) ∈ K ∧ bt A a (p % 16) = true ∧ cod a (p % 16) ∉ K) p := by
    have hseed : (fun p => p / 16 < 16 ∧ cod a (p / 16) ∈ K ∧ bt A a (p % 16) = true ∧ cod a (p % 16) ∉ K) x := by
      apply Classical.byContradiction
      intro hno
      have : ∀ p ∈ K, ¬ (fun p => p / 16 < 16 ∧ cod a (p / 16) ∈ K ∧ bt A a (p % 16) = true ∧ cod a (p % 16) ∉ K) p :=
        hK.conn _ hno (fun p y hp hy hnp hf hy2 => hnp (key y hy p hp hy2 (frB_sym h (hK.edge p hp) hf)))
      exact this _ h2 (show cod b c / 16 < 16 ∧ cod a (cod b c / 16) ∈ K ∧ bt A a (cod b c % 16) = true ∧ cod a (cod b c % 16) ∉ K by rw [cod_div hc16, cod_mod hc16]; exact ⟨hb16, h1, eac, hnk⟩)
    exact hK.conn _ hseed (fun p y hp hy h3 hf => key p hp y hy h3 hf)
  have := (all _ h1).2.1
  rw [cod_div hb16] at this
  have e3 := hK.edge _ this
  rw [edA_cod ha16, h.irr] at e3
  cases e3
/-- What holds of the graph that is left and of the heads so far. -/
structure OI (n : Nat) (A0 A H : List Nat) : Prop where
  ga : GA n A
  len : H.length = n
  part : ∀ a b, bt A0 a b = true ↔ bt A a b = true ∨ bt H a b = true ∨ bt H b a = true
  one : ∀ a b, bt H a b = true → bt A a b = false ∧ bt H b a = false
  force : ∀ x y, edA A0 x = true → frB A0 x y = true → edA A x = edA A y ∧ edA H x = edA H y
theorem OI.start {n : Nat} {A : List Nat} (h : GA n A) : OI n A A (List.replicate n 0) := by
  have hz : ∀ a b, bt (List.replicate n 0) a b = false := fun a b => by
    unfold bt
    have : (List.replicate n 0).getD a 0 = 0 := by
      rw [List.getD_eq_getElem?_getD, List.getElem?_replicate]
      split <;> rfl
    rw [this, Nat.zero_testBit]
  refine ⟨h, by simp, fun a b => by rw [hz, hz]; simp, fun a b hb => (by rw [hz] at hb; cases hb), fun x y hx hf => ⟨?_, ?_⟩⟩
  · rw [hx, frB_edge h hf]
  · unfold edA; rw [hz, hz]
theorem addK_bit {n : Nat} {H K : List Nat} (a b : Nat) : bt (addK n H K) a b = true ↔ a < n ∧ b < n ∧ (bt H a b = true ∨ cod a b ∈ K) := by
  unfold addK
  rw [matN_bit, Bool.or_eq_true, decide_eq_true_iff]
theorem OI.lt {n : Nat} {A0 A H : List Nat} (h0 : GA n A0) (h : OI n A0 A H) {a b : Nat} (hb : bt H a b = true) : a < n ∧ b < n := h0.lt ((h.part a b).2 (.inr (.inl hb)))
theorem OI.step {n : Nat} {A0 A H K : List Nat} {x : Nat} (h0 : GA n A0) (h : OI n A0 A H) (hK : IsK A K x) (hb : ∀ p ∈ K, opp p ∉ K) : OI n A0 (cutK n A K) (addK n H K) := by
  have h16 := h0.le
  have hcut := fun a b => cutK_bit (K := K) h.ga a b
  have hedge : ∀ a b, b < 16 → cod a b ∈ K → bt A a b = true := fun a b hb16 hk => by rw [← edA_cod hb16]; exact hK.edge _ hk
  have hadd : ∀ a b, b < 16 → (bt (addK n H K) a b = true ↔ bt H a b = true ∨ cod a b ∈ K) := fun a b hb16 => by
    rw [addK_bit]
    exact ⟨fun k => k.2.2, fun k => by
      have : a < n ∧ b < n := k.elim (fun k => h.lt h0 k) (fun k => h.ga.lt (hedge a b hb16 k))
      exact ⟨this.1, this.2, k⟩⟩
  have haddlt : ∀ a b, bt (addK n H K) a b = true → a < n ∧ b < n := fun a b k => by rw [addK_bit] at k; exact ⟨k.1, k.2.1⟩
  refine ⟨h.ga.cutK K, by unfold addK; rw [matN_len], fun a b => ?_, fun a b hab => ?_, fun p q hp hf => ?_⟩
  · rw [h.part, hcut]
    constructor
    · rintro (k | k | k)
      · have hl := h.ga.lt k
        by_cases k1 : cod a b ∈ K
        · exact .inr (.inl ((hadd a b (by omega)).2 (.inr k1)))
        · by_cases k2 : cod b a ∈ K
          · exact .inr (.inr ((hadd b a (by omega)).2 (.inr k2)))
          · exact .inl ⟨k, k1, k2⟩
      · have hl := h.lt h0 k
        exact .inr (.inl ((hadd a b (by omega)).2 (.inl k)))
      · have hl := h.lt h0 k
        exact .inr (.inr ((hadd b a (by omega)).2 (.inl k)))
    · rintro (k | k | k)
      · exact .inl k.1
      · have hl := haddlt a b k
        rcases (hadd a b (by omega)).1 k with k | k
        · exact .inr (.inl k)
        · exact .inl (hedge a b (by omega) k)
      · have hl := haddlt b a k
        rcases (hadd b a (by omega)).1 k with k | k
        · exact .inr (.inr k)
        · refine .inl ?_
          rw [h.ga.sym]
          exact hedge b a (by omega) k
  · have hl := haddlt a b hab
    rcases (hadd a b (by omega)).1 hab with k | k
    · have h1 := h.one a b k
      constructor
      · rw [Bool.eq_false_iff]; intro k2
        rw [((hcut a b).1 k2).1] at h1; cases h1.1
      · rw [Bool.eq_false_iff]; intro k2
        rcases (hadd b a (by omega)).1 k2 with k3 | k3
        · rw [k3] at h1; cases h1.2
        · have := hedge b a (by omega) k3
          rw [h.ga.sym, h1.1] at this; cases this
    · constructor
      · rw [Bool.eq_false_iff]; intro k2
        exact ((hcut a b).1 k2).2.1 k
      · rw [Bool.eq_false_iff]; intro k2
        have he := hedge a b (by omega) k
        rcases (hadd b a (by omega)).1 k2 with k3 | k3
        · have := (h.one b a k3).1
          rw [h.ga.sym, he] at this; cases this
        · refine hb _ k ?_
          rw [opp_cod (by omega)]; exact k3
  · have hq := frB_edge h0 hf
    have hf2 := frB_sym h0 hp hf
    have hp256 := edA_256 h0 hp
    have hq256 := edA_256 h0 hq
    have hpm := opp_dm hp256
    have hqm := opp_dm hq256
    obtain ⟨f1, f2⟩ := h.force p q hp hf
    have hsub : ∀ a b, bt A a b = true → bt A0 a b = true := fun a b k => (h.part a b).2 (.inl k)
    have kk : ∀ p q, edA A0 p = true → frB A0 p q = true → edA A p = edA A q → p ∈ K → q ∈ K := fun p q _ hf he hk => by
      have h1 := hK.edge p hk
      rw [he] at h1
      exact hK.closed p hk q (frB_sub hsub h.ga h1 hf)
    have k1 : p ∈ K ↔ q ∈ K := ⟨kk p q hp hf f1, kk q p hq hf2 f1.symm⟩
    have hop := edA_opp h0 hp
    have hoq := edA_opp h0 hq
    have hof := frB_opp h0 hp hf
    obtain ⟨f3, _⟩ := h.force _ _ hop hof
    have k2 : opp p ∈ K ↔ opp q ∈ K := ⟨kk _ _ hop hof f3, kk _ _ hoq (frB_sym h0 hop hof) f3.symm⟩
    have hcp : ∀ p, edA (cutK n A K) p = true ↔ edA A p = true ∧ p ∉ K ∧ opp p ∉ K := fun p => by
      unfold edA
      rw [hcut, cod_self]
      exact Iff.rfl
    have hap : ∀ p, edA (addK n H K) p = true ↔ edA H p = true ∨ p ∈ K := fun p => by
      unfold edA
      rw [hadd _ _ (Nat.mod_lt _ (by decide)), cod_self]
    constructor
    · rw [Bool.eq_iff_iff, hcp, hcp, f1, k1, k2]
    · rw [Bool.eq_iff_iff, hap, hap, f2, k1]
/-- All rounds. -/
theorem oriIn_inv {n : Nat} {P : List Nat → List Nat → Prop} (hga : ∀ A H, P A H → GA n A) (hs : ∀ A H u, P A H → A.getD u 0 ≠ 0 → badK (clsK A u) = false → P (cutK n A (clsK A u)) (addK n H (clsK A u))) :
    ∀ m A H u A' H', A.getD u 0 ≤ m → P A H → oriIn n A H u = some (A', H') → P A' H' ∧ A'.getD u 0 = 0 := by
  intro m
  induction m with
  | zero =>
    intro A H u A' H' hm hP he
    rw [oriIn_zero (by omega)] at he
    injection he with he
    injection he with h1 h2
    subst h1; subst h2
    exact ⟨hP, by omega⟩
  | succ m ih =>
    intro A H u A' H' hm hP he
    by_cases h0 : A.getD u 0 = 0
    · rw [oriIn_zero h0] at he
      injection he with he
      injection he with h1 h2
      subst h1; subst h2
      exact ⟨hP, h0⟩
    · cases hb : badK (clsK A u) with
      | true => rw [oriIn_bad h0 hb] at he; cases he
      | false =>
        rw [oriIn_step (hga A H hP) h0 hb] at he
        have := cut_less (hga A H hP) h0
        exact ih _ _ u _ _ (by omega) (hs A H u hP h0 hb) he
/-- At what has no neighbours nothing comes back. -/
theorem oriTo_inv {n : Nat} {A0 : List Nat} {P : List Nat → List Nat → Prop} (hga : ∀ A H, P A H → GA n A) (h0 : P A0 (List.replicate n 0)) (hs : ∀ A H u, P A H → A.getD u 0 ≠ 0 → badK (clsK A u) = false → P (cutK n A (clsK A u)) (addK n H (clsK A u))) :
    ∀ k A H, oriTo n A0 k = some (A, H) → P A H ∧ ∀ u, u < k → A.getD u 0 = 0
  | 0, A, H, he => by
    injection he with he
    injection he with h1 h2
    subst h1; subst h2
    exact ⟨h0, fun u hu => absurd hu (Nat.not_lt_zero u)⟩
  | k + 1, A, H, he => by
    have he : (oriTo n A0 k).bind (fun s => oriIn n s.1 s.2 k) = some (A, H) := he
    cases hk : oriTo n A0 k with
    | none => rw [hk] at he; cases he
    | some s =>
      obtain ⟨A1, H1⟩ := s
      rw [hk] at he
      have he : oriIn n A1 H1 k = some (A, H) := he
      obtain ⟨hP, hz⟩ := oriTo_inv hga h0 hs k A1 H1 hk
      have hzz : ∀ u, u < k → A.getD u 0 = 0 := by
        intro u hu
        have := oriIn_inv (P := fun A H => P A H ∧ A.getD u 0 = 0) (n := n) (fun A H h => hga A H h.1) (fun A H v h h1 h2 => ⟨hs A H v h.1 h1 h2, ?_⟩) _ A1 H1 k A H (Nat.le_refl _) ⟨hP, hz u hu⟩ he
        · exact this.1.2
        · apply Nat.eq_of_testBit_eq
          intro i
          rw [Nat.zero_testBit, Bool.eq_false_iff]
          intro hi
          have := ((cutK_bit (hga A H h.1) u i).1 hi).1
          unfold bt at this
          rw [h.2, Nat.zero_testBit] at this
          cases this
      obtain ⟨h1, h2⟩ := oriIn_inv hga hs _ A1 H1 k A H (Nat.le_refl _) hP he
      refine ⟨h1, fun u hu => ?_⟩
      by_cases e : u = k
      · rw [e]; exact h2
      · exact hzz u (by omega)
/-- What an orientation's heads are. -/
structure OriOk (n : Nat) (A H : List Nat) : Prop where
  len : H.length = n
  part : ∀ a b, bt A a b = true ↔ bt H a b = true ∨ bt H b a = true
  one : ∀ a b, bt H a b = true → bt H b a = false
  force : ∀ x y, edA A x = true → frB A x y = true → edA H x = edA H y
theorem zero_bits {n : Nat} {A : List Nat} (h : GA n A) (hz : ∀ u, u < n → A.getD u 0 = 0) (a b : Nat) : bt A a b = false := by
  rw [Bool.eq_false_iff]
  intro hb
  have := h.lt hb
  unfold bt at hb
  rw [hz a this.1, Nat.zero_testBit] at hb
  cases hb
theorem oriN_some {n : Nat} {A H : List Nat} (h : oriN n A = some H) : ∃ A', oriTo n A n = some (A', H) := by
  unfold oriN at h
  cases he : oriTo n A n with
  | none => rw [he] at h; cases h
  | some s =>
    rw [he] at h
    injection h with h
    subst h
    exact ⟨s.1, rfl⟩
theorem oriN_ok {n : Nat} {A H : List Nat} (hA : GA n A) (h : oriN n A = some H) : OriOk n A H := by
  obtain ⟨A', he⟩ := oriN_some h
  obtain ⟨h1, h2⟩ := oriTo_inv (P := fun A1 H1 => OI n A A1 H1) (fun _ _ h => h.ga) (OI.start hA) (fun A1 H1 u hP h0 hb => hP.step hA (clsK_is hP.ga h0) (badK_no hb)) n A' H he
  have hz := zero_bits h1.ga h2
  exact ⟨h1.len, fun a b => by rw [h1.part, hz]; simp, fun a b hb => (h1.one a b hb).2, fun x y hx hf => (h1.force x y hx hf).2⟩
/-- F is a transitive orientation of A. -/
structure TrO (A : List Nat) (F : Nat → Nat → Prop) : Prop where
  sub : ∀ a b, F a b → bt A a b = true
  all : ∀ a b, bt A a b = true → F a b ∨ F b a
  one : ∀ a b, F a b → ¬ F b a
  tr : ∀ a b c, F a b → F b c → F a c
theorem TrO.more {n : Nat} {A K : List Nat} {x : Nat} (h : GA n A) (hK : IsK A K x) (hb : ∀ p ∈ K, opp p ∉ K) {F : Nat → Nat → Prop} (hF : TrO (cutK n A K) F) : TrO A (fun a b => (a < 16 ∧ b < 16 ∧ cod a b ∈ K) ∨ F a b) := by
  have h16 := h.le
  have hcut := fun a b => cutK_bit (K := K) h a b
  have hFc : ∀ a b, F a b → bt A a b = true ∧ cod a b ∉ K ∧ cod b a ∉ K := fun a b k => (hcut a b).1 (hF.sub a b k)
  have hlt : ∀ a b, bt A a b = true → a < 16 ∧ b < 16 := fun a b k => by have := h.lt k; omega
  have hedge : ∀ a b, b < 16 → cod a b ∈ K → bt A a b = true := fun a b hb16 hk => by rw [← edA_cod hb16]; exact hK.edge _ hk
  have hno : ∀ a b, b < 16 → cod a b ∈ K → cod b a ∉ K := fun a b hb16 hk => by rw [← opp_cod hb16]; exact hb _ hk
  have hs := h.sym
  refine ⟨?_, ?_, ?_, ?_⟩
  · rintro a b (⟨_, k2, k3⟩ | k)
    · exact hedge a b k2 k3
    · exact (hFc a b k).1
  · intro a b k
    have hl := hlt a b k
    by_cases k1 : cod a b ∈ K
    · exact .inl (.inl ⟨hl.1, hl.2, k1⟩)
    · by_cases k2 : cod b a ∈ K
      · exact .inr (.inl ⟨hl.2, hl.1, k2⟩)
      · rcases hF.all a b ((hcut a b).2 ⟨k, k1, k2⟩) with k3 | k3
        · exact .inl (.inr k3)
        · exact .inr (.inr k3)
  · rintro a b (⟨k1, k2, k3⟩ | k) (⟨k4, k5, k6⟩ | k')
    · exact hno a b k2 k3 k6
    · exact (hFc b a k').2.2 k3
    · exact (hFc a b k).2.2 k6
    · exact hF.one a b k k'
  · rintro a b c (⟨ha, hb16, kab⟩ | kab) (⟨_, hc, kbc⟩ | kbc)
    · exact .inl ⟨ha, hc, hK.trans h hb hc hb16 ha kab kbc⟩
    · have fbc := hFc b c kbc
      have hc := (hlt b c fbc.1).2
      have hca : c ≠ a := fun e => by subst e; exact fbc.2.2 kab
      have eac : bt A a c = true := by
        rw [← Bool.not_eq_false]
        intro hn
        refine fbc.2.2 (hK.closed _ kab _ ?_)
        rw [frB_iff, cod_div hb16, cod_mod hb16, cod_div hb16, cod_mod hb16]
        exact .inr ⟨rfl, fbc.1, hn, hca⟩
      by_cases k1 : cod a c ∈ K
      · exact .inl ⟨ha, hc, k1⟩
      · by_cases k2 : cod c a ∈ K
        · exact absurd (hK.trans h hb hb16 ha hc k2 kab) fbc.2.2
        · rcases hF.all a c ((hcut a c).2 ⟨eac, k1, k2⟩) with k3 | k3
          · exact .inr k3
          · exact absurd kab (hFc b a (hF.tr b c a kbc k3)).2.2
    · have fab := hFc a b kab
      have hl := hlt a b fab.1
      have hca : a ≠ c := fun e => by subst e; exact fab.2.2 kbc
      have eac : bt A a c = true := by
        rw [← Bool.not_eq_false]
        intro hn
        refine fab.2.2 (hK.closed _ kbc _ ?_)
        rw [frB_iff, cod_div hc, cod_mod hc, cod_div hl.1, cod_mod hl.1]
        exact .inl ⟨rfl, by rw [hs]; exact fab.1, by rw [hs]; exact hn, hca⟩
      by_cases k1 : cod a c ∈ K
      · exact .inl ⟨hl.1, hc, k1⟩
      · by_cases k2 : cod c a ∈ K
        · exact absurd (hK.trans h hb hl.1 hc hl.2 kbc k2) fab.2.2
        · rcases hF.all a c ((hcut a c).2 ⟨eac, k1, k2⟩) with k3 | k3
          · exact .inr k3
          · exact absurd kbc (hFc c b (hF.tr c a b k3 kab)).2.2
    · exact .inr (hF.tr a b c kab kbc)
/-- What has still to come. -/
def Rest (A H Hf : List Nat) : Prop := ∃ F : Nat → Nat → Prop, TrO A F ∧ ∀ a b, bt Hf a b = true ↔ bt H a b = true ∨ F a b
theorem Rest.more {n : Nat} {A H Hf K : List Nat} {x : Nat} (h : GA n A) (hH : ∀ a b, bt H a b = true → a < n ∧ b < n) (hK : IsK A K x) (hb : ∀ p ∈ K, opp p ∉ K) (hr : Rest (cutK n A K) (addK n H K) Hf) : Rest A H Hf := by
  obtain ⟨F, h1, h2⟩ := hr
  refine ⟨_, h1.more h hK hb, fun a b => ?_⟩
  have h16 := h.le
  rw [h2, addK_bit]
  constructor
  · rintro (⟨k1, k2, k3 | k3⟩ | k)
    · exact .inl k3
    · exact .inr (.inl ⟨by omega, by omega, k3⟩)
    · exact .inr (.inr k)
  · rintro (k | ⟨k1, k2, k3⟩ | k)
    · have := hH a b k; exact .inl ⟨this.1, this.2, .inl k⟩
    · have h3 : bt A a b = true := by rw [← edA_cod k2]; exact hK.edge _ k3
      have := h.lt h3; exact .inl ⟨this.1, this.2, .inr k3⟩
    · exact .inr k
theorem oriIn_rest {n : Nat} {Hf : List Nat} : ∀ m A H u A' H', A.getD u 0 ≤ m → GA n A → (∀ a b, bt H a b = true → a < n ∧ b < n) → oriIn n A H u = some (A', H') → Rest A' H' Hf → Rest A H Hf := by
  intro m
  induction m with
  | zero =>
    intro A H u A' H' hm _ _ he hr
    rw [oriIn_zero (by omega)] at he
    injection he with he
    injection he with h1 h2
    subst h1; subst h2
    exact hr
  | succ m ih =>
    intro A H u A' H' hm hA hH he hr
    by_cases h0 : A.getD u 0 = 0
    · rw [oriIn_zero h0] at he
      injection he with he
      injection he with h1 h2
      subst h1; subst h2
      exact hr
    · cases hb : badK (clsK A u) with
      | true => rw [oriIn_bad h0 hb] at he; cases he
      | false =>
        rw [oriIn_step hA h0 hb] at he
        have := cut_less hA h0
        exact Rest.more hA hH (clsK_is hA h0) (badK_no hb) (ih _ _ u _ _ (by omega) (hA.cutK _) (fun a b k => by rw [addK_bit] at k; exact ⟨k.1, k.2.1⟩) he hr)
theorem oriTo_rest {n : Nat} {A0 Hf : List Nat} (hA : GA n A0) : ∀ k A H, oriTo n A0 k = some (A, H) → Rest A H Hf → Rest A0 (List.replicate n 0) Hf
  | 0, A, H, he, hr => by
    injection he with he
    injection he with h1 h2
    subst h1; subst h2
    exact hr
  | k + 1, A, H, he, hr => by
    have he : (oriTo n A0 k).bind (fun s => oriIn n s.1 s.2 k) = some (A, H) := he
    cases hk : oriTo n A0 k with
    | none => rw [hk] at he; cases he
    | some s =>
      obtain ⟨A1, H1⟩ := s
      rw [hk] at he
      have he : oriIn n A1 H1 k = some (A, H) := he
      obtain ⟨h1, _⟩ := oriTo_inv (P := fun A1 H1 => OI n A0 A1 H1) (fun _ _ h => h.ga) (OI.start hA) (fun A1 H1 u hP h0 hb => hP.step hA (clsK_is hP.ga h0) (badK_no hb)) k A1 H1 hk
      exact oriTo_rest hA k A1 H1 hk (oriIn_rest _ A1 H1 k A H (Nat.le_refl _) h1.ga (fun a b k => h1.lt hA k) he hr)
/-- The heads that are found are a transitive orientation. -/
theorem oriN_trO {n : Nat} {A H : List Nat} (hA : GA n A) (h : oriN n A = some H) : TrO A (fun a b => bt H a b = true) := by
  obtain ⟨A', he⟩ := oriN_some h
  obtain ⟨h1, h2⟩ := oriTo_inv (P := fun A1 H1 => OI n A A1 H1) (fun _ _ h => h.ga) (OI.start hA) (fun A1 H1 u hP h0 hb => hP.step hA (clsK_is hP.ga h0) (badK_no hb)) n A' H he
  have hz := zero_bits h1.ga h2
  obtain ⟨F, hF, hFH⟩ := oriTo_rest (Hf := H) hA n A' H he ⟨fun _ _ => False, ⟨fun _ _ k => False.elim k, fun a b k => (by rw [hz] at k; cases k), fun _ _ k => False.elim k, fun _ _ _ k => False.elim k⟩, fun a b => by simp⟩
  have hrep : ∀ a b, bt (List.replicate n 0) a b = false := fun a b => by
    unfold bt
    have : (List.replicate n 0).getD a 0 = 0 := by
      rw [List.getD_eq_getElem?_getD, List.getElem?_replicate]
      split <;> rfl
    rw [this, Nat.zero_testBit]
  have hF2 : (fun a b => bt H a b = true) = F := by
    funext a b
    apply propext
    rw [hFH, hrep]
    simp
  rw [hF2]
  exact hF
end
section
/-- An edge is struck. -/
def partA (A : List Nat) (u v : Nat) : List Nat := (A.set u (dif (A.getD u 0) (2 ^ v))).set v (dif ((A.set u (dif (A.getD u 0) (2 ^ v))).getD v 0) (2 ^ u))
theorem partA_len (A : List Nat) (u v : Nat) : (partA A u v).length = A.length := by unfold partA; rw [List.length_set, List.length_set]
theorem partA_bit {A : List Nat} {u v : Nat} (hu : u < A.length) (hv : v < A.length) (a b : Nat) : bt (partA A u v) a b = true ↔ bt A a b = true ∧ ¬ (a = u ∧ b = v) ∧ ¬ (a = v ∧ b = u) := by
  unfold partA
  have key : ∀ a b, bt (A.set u (dif (A.getD u 0) (2 ^ v))) a b = true ↔ bt A a b = true ∧ ¬ (a = u ∧ b = v) := by
    intro a b
    rw [bt_set a b hu]
    by_cases h : a = u
    · subst h
      rw [if_pos rfl, testBit_dif, Nat.testBit_two_pow]
      unfold bt
      simp only [Bool.and_eq_true, Bool.not_eq_true', decide_eq_false_iff_not]
      constructor
      · rintro ⟨h1, h2⟩; exact ⟨h1, fun h => h2 h.2.symm⟩
      · rintro ⟨h1, h2⟩; exact ⟨h1, fun h => h2 ⟨trivial, h.symm⟩⟩
    · rw [if_neg h]
      exact ⟨fun h1 => ⟨h1, fun h2 => h h2.1⟩, fun h1 => h1.1⟩
  rw [bt_set a b (by rw [List.length_set]; exact hv)]
  by_cases h : a = v
  · subst h
    rw [if_pos rfl, testBit_dif, Nat.testBit_two_pow]
    have k := key a b
    unfold bt at k
    simp only [Bool.and_eq_true, Bool.not_eq_true', decide_eq_false_iff_not]
    rw [k]
    unfold bt
    constructor
    · rintro ⟨⟨h1, h2⟩, h3⟩; exact ⟨h1, h2, fun h => h3 h.2.symm⟩
    · rintro ⟨h1, h2, h3⟩; exact ⟨⟨h1, h2⟩, fun h => h3 ⟨trivial, h.symm⟩⟩
  · rw [if_neg h, key]
    exact ⟨fun h1 => ⟨h1.1, h1.2, fun h2 => h h2.1⟩, fun h1 => ⟨h1.1, h1.2.1⟩⟩
theorem partA_lt {A : List Nat} {u v : Nat} (hlt : ∀ x, A.getD x 0 < 65536) (x : Nat) : (partA A u v).getD x 0 < 65536 := by
  have key : ∀ (A : List Nat) (u m : Nat), (∀ x, A.getD x 0 < 65536) → ∀ x, (A.set u (dif (A.getD u 0) m)).getD x 0 < 65536 := by
    intro A u m h x
    by_cases hu : u < A.length
    · rw [setN_getD hu]
      split
      · exact Nat.lt_of_le_of_lt (dif_le _ _) (h u)
      · exact h x
    · rw [List.set_eq_of_length_le (by omega)]; exact h x
  exact key _ _ _ (key A u _ hlt) x
/-- An arrow is put. -/
def orA (H : List Nat) (u v : Nat) : List Nat := H.set u (H.getD u 0 ||| 2 ^ v)
theorem orA_bit {H : List Nat} {u v : Nat} (hu : u < H.length) (a b : Nat) : bt (orA H u v) a b = true ↔ bt H a b = true ∨ (a = u ∧ b = v) := by
  unfold orA
  rw [bt_set a b hu]
  by_cases h : a = u
  · subst h
    rw [if_pos rfl, Nat.testBit_or, Nat.testBit_two_pow, Bool.or_eq_true, decide_eq_true_iff]
    unfold bt
    exact ⟨fun h1 => h1.imp id fun h2 => ⟨rfl, h2.symm⟩, fun h1 => h1.imp id fun h2 => h2.2.symm⟩
  · rw [if_neg h]
    exact ⟨.inl, fun h1 => h1.elim id fun h2 => absurd h2.1 h⟩
theorem orA_lt {H : List Nat} {u v : Nat} (hv : v < 16) (h : ∀ x, H.getD x 0 < 65536) (x : Nat) : (orA H u v).getD x 0 < 65536 := by
  unfold orA
  by_cases hu : u < H.length
  · rw [setN_getD hu]
    split
    · exact Nat.or_lt_two_pow (n := 16) (h u) (Nat.pow_lt_pow_right (by decide) hv)
    · exact h x
  · rw [List.set_eq_of_length_le (by omega)]; exact h x
/-- What the second range leaves, so far. -/
structure OrB (n : Nat) (A H L A' H' : List Nat) : Prop where
  la : A'.length = n
  lh : H'.length = n
  a16 : ∀ x, A'.getD x 0 < 65536
  h16 : ∀ x, H'.getD x 0 < 65536
  ba : ∀ a b, bt A' a b = true ↔ bt A a b = true ∧ cod a b ∉ L ∧ cod b a ∉ L
  bh : ∀ a b, bt H' a b = true ↔ bt H a b = true ∨ (a < 16 ∧ b < 16 ∧ cod a b ∈ L)
theorem cod_inj {a b p q : Nat} (hb : b < 16) (hq : q < 16) (h : cod a b = cod p q) : a = p ∧ b = q := by unfold cod at h; omega
theorem OrB.start {n : Nat} {A H : List Nat} (hA : GA n A) (hl : H.length = n) (hh : ∀ x, H.getD x 0 < 65536) : OrB n A H [] A H where
  la := hA.len
  lh := hl
  a16 x := Nat.lt_of_lt_of_le (hA.in2 x) (Nat.pow_le_pow_right (n := 2) (i := n) (j := 16) (by decide) hA.le)
  h16 := hh
  ba a b := by simp
  bh a b := by simp
theorem OrB.step {n : Nat} {A H L A' H' : List Nat} (h : OrB n A H L A' H') (hA : GA n A) {p q : Nat} (hp : p < n) (hq : q < n) : OrB n A H (L ++ [cod p q]) (partA A' p q) (orA H' p q) := by
  have h16 := hA.le
  refine ⟨by rw [partA_len]; exact h.la, by unfold orA; rw [List.length_set]; exact h.lh, partA_lt h.a16, orA_lt (by omega) h.h16, ?_, ?_⟩
  · intro a b
    rw [partA_bit (by rw [h.la]; exact hp) (by rw [h.la]; exact hq), h.ba]
    constructor
    · rintro ⟨⟨h1, h2, h3⟩, h4, h5⟩
      have := hA.lt h1
      refine ⟨h1, fun hm => ?_, fun hm => ?_⟩
      · rcases List.mem_append.1 hm with h6 | h6
        · exact h2 h6
        · have h7 : cod a b = cod p q := by simpa using h6
          have h8 : b < 16 ∧ q < 16 := by omega
          exact h4 (cod_inj h8.1 h8.2 h7)
      · rcases List.mem_append.1 hm with h6 | h6
        · exact h3 h6
        · have h7 : cod b a = cod p q := by simpa using h6
          have h8 : a < 16 ∧ q < 16 := by omega
          have := cod_inj h8.1 h8.2 h7
          exact h5 ⟨this.2, this.1⟩
    · rintro ⟨h1, h2, h3⟩
      refine ⟨⟨h1, fun h => h2 (List.mem_append_left _ h), fun h => h3 (List.mem_append_left _ h)⟩, fun h4 => h2 ?_, fun h4 => h3 ?_⟩
      · rw [h4.1, h4.2]; simp
      · rw [h4.1, h4.2]; simp
  · intro a b
    rw [orA_bit (by rw [h.lh]; exact hp), h.bh]
    constructor
    · rintro ((h1 | ⟨h1, h2, h3⟩) | ⟨h1, h2⟩)
      · exact .inl h1
      · exact .inr ⟨h1, h2, List.mem_append_left _ h3⟩
      · exact .inr ⟨by omega, by omega, by rw [h1, h2]; simp⟩
    · rintro (h1 | ⟨h1, h2, h3⟩)
      · exact .inl (.inl h1)
      · rcases List.mem_append.1 h3 with h4 | h4
        · exact .inl (.inr ⟨h1, h2, h4⟩)
        · have h7 : cod a b = cod p q := by simpa using h4
          have h8 : q < 16 := by omega
          exact .inr (cod_inj h2 h8 h7)
theorem OrB.done {n : Nat} {A H L A' H' : List Nat} (h : OrB n A H L A' H') (hA : GA n A) (hin : ∀ a b, bt H a b = true → a < n ∧ b < n) {Q : List (Nat × Nat)} (hQ : QOk Q) (hQi : QIn n Q) (h1 : ∀ p ∈ L, p ∈ Q.map Prod.fst) (h2 : ∀ p ∈ Q.map Prod.fst, p ∈ L) : A' = cutK n A (keyL Q) ∧ H' = addK n H (keyL Q) := by
  have hm : ∀ x, x ∈ L ↔ x ∈ keyL Q := fun x => by rw [keyL_mem hQ]; exact ⟨h1 x, h2 x⟩
  have hlt : ∀ a b, a < 16 → b < 16 → cod a b ∈ keyL Q → a < n ∧ b < n := by
    intro a b ha hb hk
    obtain ⟨p, hp, e⟩ := List.mem_map.1 ((keyL_mem hQ _).1 hk)
    have := hQi p hp
    rw [e, cod_div hb, cod_mod hb] at this
    exact this
  have h16 := hA.le
  constructor
  · apply bt_ext (by rw [h.la]; unfold cutK; rw [matN_len])
    intro a b
    rw [Bool.eq_iff_iff, h.ba, cutK_bit hA, hm, hm]
  · apply bt_ext (by rw [h.lh]; unfold addK; rw [matN_len])
    intro a b
    rw [Bool.eq_iff_iff, h.bh]
    unfold addK
    rw [matN_bit, Bool.or_eq_true, decide_eq_true_iff, hm]
    constructor
    · rintro (h3 | ⟨h3, h4, h5⟩)
      · exact ⟨(hin a b h3).1, (hin a b h3).2, .inl h3⟩
      · exact ⟨(hlt a b h3 h4 h5).1, (hlt a b h3 h4 h5).2, .inr h5⟩
    · rintro ⟨h3, h4, h5 | h5⟩
      · exact .inl h5
      · exact .inr ⟨by omega, by omega, h5⟩
theorem addK_in {n : Nat} {H K : List Nat} : ∀ a b, bt (addK n H K) a b = true → a < n ∧ b < n := fun a b h => by
  unfold addK at h
  rw [matN_bit] at h
  exact ⟨h.1, h.2.1⟩
end
end
end Go.Proofs.YtdncmloajajiaaaDoor
