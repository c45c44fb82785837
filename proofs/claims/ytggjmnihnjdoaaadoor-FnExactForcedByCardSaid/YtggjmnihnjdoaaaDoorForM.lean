/- Arrows that force one another: plain. · All that an arrow leads to: plain. · Orientations: plain. -/
import Derived.Test.YtggjmnihnjdoaaaDoorElimM
namespace Go.Proofs.YtggjmnihnjdoaaaDoor
open Go.RowKit
section
def cod (a b : Nat) : Nat := 16 * a + b
theorem cod_div {a b : Nat} (hb : b < 16) : cod a b / 16 = a := by unfold cod; omega
theorem cod_mod {a b : Nat} (hb : b < 16) : cod a b % 16 = b := by unfold cod; omega
theorem cod_self (p : Nat) : cod (p / 16) (p % 16) = p := by unfold cod; omega
/-- x forces y. -/
def frB (A : List Nat) (x y : Nat) : Bool :=
  (y / 16 == x / 16 && (bt A (x / 16) (y % 16) && !bt A (x % 16) (y % 16) && y % 16 != x % 16)) || (y % 16 == x % 16 && (bt A (x % 16) (y / 16) && !bt A (x / 16) (y / 16) && y / 16 != x / 16))
/-- What x forces, in order. -/
def frL (A : List Nat) (x : Nat) : List Nat := (List.range 256).filter (frB A x)
theorem frL_sorted (A : List Nat) (x : Nat) : (frL A x).Pairwise (· < ·) := List.pairwise_lt_range.filter _
theorem frL_lt {A : List Nat} {x y : Nat} (h : y ∈ frL A x) : y < 256 := List.mem_range.1 (List.mem_filter.1 h).1
/-- Those with which a goes on and b does not. -/
def outM (A : List Nat) (a b : Nat) : Nat := dif (dif (A.getD a 0) (A.getD b 0)) (2 ^ b)
theorem outM_bit (A : List Nat) (a b c : Nat) : (outM A a b).testBit c = true ↔ bt A a c = true ∧ bt A b c = false ∧ c ≠ b := by
  unfold outM bt
  rw [testBit_dif, testBit_dif, Nat.testBit_two_pow]
  simp only [Bool.and_eq_true, Bool.not_eq_true', decide_eq_false_iff_not]
  constructor
  · rintro ⟨⟨h1, h2⟩, h3⟩; exact ⟨h1, h2, fun e => h3 e.symm⟩
  · rintro ⟨h1, h2, h3⟩; exact ⟨⟨h1, h2⟩, fun e => h3 e.symm⟩
theorem outM_lt {n : Nat} {A : List Nat} (h : GA n A) (a b : Nat) : outM A a b < 2 ^ n := Nat.lt_of_le_of_lt (Nat.le_trans (dif_le _ _) (dif_le _ _)) (h.in2 a)
def frRaw (A : List Nat) (x : Nat) : List Nat := (memsN (outM A (x / 16) (x % 16))).map (fun c => cod (x / 16) c) ++ (memsN (outM A (x % 16) (x / 16))).map (fun c => cod c (x % 16))
theorem frB_iff (A : List Nat) (x y : Nat) : frB A x y = true ↔ (y / 16 = x / 16 ∧ bt A (x / 16) (y % 16) = true ∧ bt A (x % 16) (y % 16) = false ∧ y % 16 ≠ x % 16) ∨ (y % 16 = x % 16 ∧ bt A (x % 16) (y / 16) = true ∧ bt A (x / 16) (y / 16) = false ∧ y / 16 ≠ x / 16) := by
  unfold frB
  simp [and_assoc]
theorem frRaw_mem {n : Nat} {A : List Nat} (h : GA n A) {x : Nat} (y : Nat) : y ∈ frRaw A x ↔ y ∈ frL A x := by
  have hp : 2 ^ n ≤ 65536 := Nat.pow_le_pow_right (n := 2) (i := n) (j := 16) (by decide) h.le
  have hle := h.le
  have hlt : ∀ a c, bt A a c = true → a < 16 ∧ c < 16 := fun a c hb => by have := h.lt hb; omega
  unfold frRaw frL
  rw [List.mem_append, List.mem_filter, List.mem_range, frB_iff, List.mem_map, List.mem_map]
  constructor
  · rintro (⟨c, hc, rfl⟩ | ⟨c, hc, rfl⟩)
    · rw [memsN_mem (by have := outM_lt h (x / 16) (x % 16); omega), outM_bit] at hc
      have h1 := hlt _ _ hc.1
      refine ⟨by unfold cod; omega, .inl ?_⟩
      rw [cod_div h1.2, cod_mod h1.2]
      exact ⟨rfl, hc⟩
    · rw [memsN_mem (by have := outM_lt h (x % 16) (x / 16); omega), outM_bit] at hc
      have h1 := hlt _ _ hc.1
      have h2 : x % 16 < 16 := by omega
      refine ⟨by unfold cod; omega, .inr ?_⟩
      rw [cod_div h2, cod_mod h2]
      exact ⟨rfl, hc⟩
  · rintro ⟨hy, ⟨h1, h2⟩ | ⟨h1, h2⟩⟩
    · refine .inl ⟨y % 16, ?_, by rw [← h1]; exact cod_self y⟩
      rw [memsN_mem (by have := outM_lt h (x / 16) (x % 16); omega), outM_bit]
      exact h2
    · refine .inr ⟨y / 16, ?_, by rw [← h1]; exact cod_self y⟩
      rw [memsN_mem (by have := outM_lt h (x % 16) (x / 16); omega), outM_bit]
      exact h2
theorem frRaw_nodup {n : Nat} {A : List Nat} (h : GA n A) {x : Nat} : (frRaw A x).Nodup := by
  have hle := h.le
  have hp : 2 ^ n ≤ 65536 := Nat.pow_le_pow_right (n := 2) (i := n) (j := 16) (by decide) h.le
  have hlt : ∀ a c, bt A a c = true → a < 16 ∧ c < 16 := fun a c hb => by have := h.lt hb; omega
  unfold frRaw
  rw [List.nodup_append]
  refine ⟨?_, ?_, ?_⟩
  · unfold List.Nodup
    rw [List.pairwise_map]
    exact (memsN_nodup _).imp (fun {a b} hab e => hab (by unfold cod at e; omega))
  · unfold List.Nodup
    rw [List.pairwise_map]
    exact (memsN_nodup _).imp (fun {a b} hab e => hab (by unfold cod at e; omega))
  · intro a ha b hb e
    subst e
    obtain ⟨c, hc, rfl⟩ := List.mem_map.1 ha
    obtain ⟨d, hd, he⟩ := List.mem_map.1 hb
    rw [memsN_mem (by have := outM_lt h (x / 16) (x % 16); omega), outM_bit] at hc
    have h1 := hlt _ _ hc.1
    have h2 : x % 16 < 16 := by omega
    have h3 : cod d (x % 16) % 16 = cod (x / 16) c % 16 := by rw [he]
    rw [cod_mod h2, cod_mod h1.2] at h3
    exact hc.2.2 h3.symm
theorem sortedN_ext {l l' : List Nat} (h : l.Pairwise (· < ·)) (h' : l'.Pairwise (· < ·)) (hm : ∀ x, x ∈ l ↔ x ∈ l') : l = l' := by
  have h1 : (l.map fun i : Nat => (i : Int)) = (l'.map fun i : Nat => (i : Int)) := by
    apply sorted_ext
    · rw [List.pairwise_map]; exact h.imp (fun hab => by omega)
    · rw [List.pairwise_map]; exact h'.imp (fun hab => by omega)
    · intro x
      simp only [List.mem_map]
      exact ⟨fun ⟨a, ha, e⟩ => ⟨a, (hm a).1 ha, e⟩, fun ⟨a, ha, e⟩ => ⟨a, (hm a).2 ha, e⟩⟩
  have h2 := congrArg (List.map Int.toNat) h1
  simpa [List.map_map, Function.comp_def] using h2
/-- Whatever order they are put in first, sorted they are these. -/
theorem fr_sorted {n : Nat} {A : List Nat} (h : GA n A) {x : Nat} {L : List Nat} (hp : L.Perm (frRaw A x)) (hs : L.Pairwise (· ≤ ·)) : L = frL A x := by
  apply sortedN_ext _ (frL_sorted A x) (fun y => by rw [hp.mem_iff, frRaw_mem h])
  have hn : L.Nodup := hp.nodup_iff.2 (frRaw_nodup h)
  exact (hs.and hn).imp (fun ⟨h1, h2⟩ => Nat.lt_of_le_of_ne h1 h2)
theorem frRaw_lt {n : Nat} {A : List Nat} (h : GA n A) {x : Nat} {y : Nat} (hy : y ∈ frRaw A x) : y < 256 := frL_lt ((frRaw_mem h y).1 hy)
/-- A list that is put into another one at its place. -/
def putL (L : List Nat) (x : Nat) : List Nat := L.filter (fun y => decide (y < x)) ++ (if x ∈ L then [x] else [x]) ++ L.filter (fun y => decide (x < y))
theorem putL_mem (L : List Nat) (x y : Nat) : y ∈ putL L x ↔ y ∈ L ∨ y = x := by
  unfold putL
  simp only [ite_self, List.mem_append, List.mem_filter, List.mem_singleton, decide_eq_true_eq]
  constructor
  · rintro ((h | h) | h)
    · exact .inl h.1
    · exact .inr h
    · exact .inl h.1
  · rintro (h | h)
    · rcases Nat.lt_trichotomy y x with h1 | h1 | h1
      · exact .inl (.inl ⟨h, h1⟩)
      · exact .inl (.inr h1)
      · exact .inr ⟨h, h1⟩
    · exact .inl (.inr h)
theorem frL_len (A : List Nat) (x : Nat) : (frL A x).length ≤ 1000000 := by
  have : (frL A x).length ≤ (List.range 256).length := List.length_filter_le _ _
  simp at this; omega
theorem frL_lenS (A : List Nat) (x : Nat) : (frL A x).length ≤ 256 := by
  have : (frL A x).length ≤ (List.range 256).length := List.length_filter_le _ _
  simpa using this
end
section
def addQ (d : Nat) (Q : List (Nat × Nat)) (y : Nat) : List (Nat × Nat) := if y ∈ Q.map Prod.fst then Q else Q ++ [(y, d)]
def addAll (d : Nat) (Q : List (Nat × Nat)) (L : List Nat) : List (Nat × Nat) := L.foldl (addQ d) Q
/-- What has been met after k rounds, with the numbers of steps. -/
def bq (A : List Nat) (x : Nat) : Nat → List (Nat × Nat)
  | 0 => [(x, 0)]
  | k + 1 => match (bq A x k)[k]? with
    | some p => addAll (p.2 + 1) (bq A x k) (frL A p.1)
    | none => bq A x k
def bqE (A : List Nat) (x : Nat) : List (Nat × Nat) := bq A x 256
/-- What is met stands in a list of codes, each once. -/
def QOk (Q : List (Nat × Nat)) : Prop := (Q.map Prod.fst).Nodup ∧ ∀ p ∈ Q, p.1 < 256
theorem QOk.len {Q : List (Nat × Nat)} (h : QOk Q) : Q.length ≤ 256 := by
  have h1 : (Q.map Prod.fst).length ≤ (List.range 256).length := by
    apply h.1.length_le_of_subset
    intro y hy
    obtain ⟨p, hp, rfl⟩ := List.mem_map.1 hy
    exact List.mem_range.2 (h.2 p hp)
  simpa using h1
theorem addQ_ok {d : Nat} {Q : List (Nat × Nat)} {y : Nat} (h : QOk Q) (hy : y < 256) : QOk (addQ d Q y) := by
  unfold addQ
  split
  · exact h
  · rename_i hn
    refine ⟨?_, ?_⟩
    · rw [List.map_append, List.nodup_append]
      refine ⟨h.1, by simp, ?_⟩
      intro a ha b hb e
      simp at hb
      subst hb
      subst e
      exact hn ha
    · intro p hp
      rcases List.mem_append.1 hp with h1 | h1
      · exact h.2 p h1
      · simp at h1; subst h1; exact hy
theorem addAll_ok {d : Nat} : ∀ {L : List Nat} {Q : List (Nat × Nat)}, QOk Q → (∀ y ∈ L, y < 256) → QOk (addAll d Q L)
  | [], _, h, _ => h
  | y :: L, _, h, hl => addAll_ok (L := L) (addQ_ok h (hl y (by simp))) (fun z hz => hl z (by simp [hz]))
theorem bq_ok {A : List Nat} {x : Nat} (hx : x < 256) : ∀ k, QOk (bq A x k)
  | 0 => ⟨by simp [bq], by intro p hp; simp [bq] at hp; subst hp; exact hx⟩
  | k + 1 => by
    unfold bq
    split
    · exact addAll_ok (bq_ok hx k) (fun y hy => frL_lt hy)
    · exact bq_ok hx k
theorem addQ_pre (d : Nat) (Q : List (Nat × Nat)) (y : Nat) : Q <+: addQ d Q y := by
  unfold addQ
  split
  · exact List.prefix_refl _
  · exact List.prefix_append _ _
theorem addAll_pre (d : Nat) : ∀ (L : List Nat) (Q : List (Nat × Nat)), Q <+: addAll d Q L
  | [], _ => List.prefix_refl _
  | y :: L, Q => (addQ_pre d Q y).trans (addAll_pre d L (addQ d Q y))
theorem bq_pre (A : List Nat) (x k : Nat) : bq A x k <+: bq A x (k + 1) := by
  show bq A x k <+: (match (bq A x k)[k]? with | some p => addAll (p.2 + 1) (bq A x k) (frL A p.1) | none => bq A x k)
  split
  · exact addAll_pre _ _ _
  · exact List.prefix_refl _
theorem bq_some {A : List Nat} {x k : Nat} (hk : k < (bq A x k).length) : bq A x (k + 1) = addAll (((bq A x k)[k]).2 + 1) (bq A x k) (frL A ((bq A x k)[k]).1) := by
  show (match (bq A x k)[k]? with | some p => addAll (p.2 + 1) (bq A x k) (frL A p.1) | none => bq A x k) = _
  rw [List.getElem?_eq_getElem hk]
theorem bq_stay {A : List Nat} {x k : Nat} (hk : (bq A x k).length ≤ k) : ∀ j, k ≤ j → bq A x j = bq A x k := by
  intro j hj
  induction j with
  | zero => obtain rfl : k = 0 := by omega
            rfl
  | succ j ih =>
    by_cases e : k = j + 1
    · rw [e]
    · have ih := ih (by omega)
      show (match (bq A x j)[j]? with | some p => addAll (p.2 + 1) (bq A x j) (frL A p.1) | none => bq A x j) = _
      rw [ih, List.getElem?_eq_none (by omega)]
theorem bq_end {A : List Nat} {x k : Nat} (hx : x < 256) (hk : (bq A x k).length = k) : bqE A x = bq A x k :=
  bq_stay (by omega) 256 (by have := (bq_ok (A := A) hx k).len; omega)
theorem frL_in {n : Nat} {A : List Nat} (h : GA n A) {x y : Nat} (h1 : x / 16 < n) (h2 : x % 16 < n) (hy : y ∈ frL A x) : y / 16 < n ∧ y % 16 < n := by
  unfold frL at hy
  rw [List.mem_filter, frB_iff] at hy
  rcases hy.2 with ⟨e, hb, _⟩ | ⟨e, hb, _⟩
  · exact ⟨by omega, (h.lt hb).2⟩
  · exact ⟨(h.lt hb).2, by omega⟩
def QIn (n : Nat) (Q : List (Nat × Nat)) : Prop := ∀ p ∈ Q, p.1 / 16 < n ∧ p.1 % 16 < n
theorem addQ_in {n d : Nat} {Q : List (Nat × Nat)} {y : Nat} (h : QIn n Q) (hy : y / 16 < n ∧ y % 16 < n) : QIn n (addQ d Q y) := by
  unfold addQ
  split
  · exact h
  · intro p hp
    rcases List.mem_append.1 hp with h1 | h1
    · exact h p h1
    · simp at h1; subst h1; exact hy
theorem addAll_in {n d : Nat} : ∀ {L : List Nat} {Q : List (Nat × Nat)}, QIn n Q → (∀ y ∈ L, y / 16 < n ∧ y % 16 < n) → QIn n (addAll d Q L)
  | [], _, h, _ => h
  | y :: L, _, h, hl => addAll_in (L := L) (addQ_in h (hl y (by simp))) (fun z hz => hl z (by simp [hz]))
theorem bq_in {n : Nat} {A : List Nat} (hA : GA n A) {x : Nat} (h1 : x / 16 < n) (h2 : x % 16 < n) : ∀ k, QIn n (bq A x k)
  | 0 => by intro p hp; simp [bq] at hp; subst hp; exact ⟨h1, h2⟩
  | k + 1 => by
    have ih := bq_in hA h1 h2 k
    unfold bq
    split
    · rename_i p hp
      have hm := ih p (List.mem_of_getElem? hp)
      exact addAll_in ih (fun y hy => frL_in hA hm.1 hm.2 hy)
    · exact ih
theorem addAll_dist {d m : Nat} : ∀ {L : List Nat} {Q : List (Nat × Nat)}, (∀ p ∈ Q, p.2 ≤ m) → d ≤ m → ∀ p ∈ addAll d Q L, p.2 ≤ m
  | [], _, h, _ => h
  | y :: L, Q, h, hd => addAll_dist (L := L) (Q := addQ d Q y) (by
      unfold addQ
      split
      · exact h
      · intro p hp
        rcases List.mem_append.1 hp with h1 | h1
        · exact h p h1
        · simp at h1; subst h1; exact hd) hd
theorem bq_dist (A : List Nat) (x : Nat) : ∀ k, ∀ p ∈ bq A x k, p.2 ≤ k
  | 0 => by intro p hp; simp [bq] at hp; subst hp; exact Nat.le_refl _
  | k + 1 => by
    have ih := bq_dist A x k
    unfold bq
    split
    · rename_i p hp
      exact addAll_dist (fun q hq => Nat.le_succ_of_le (ih q hq)) (Nat.succ_le_succ (ih p (List.mem_of_getElem? hp)))
    · exact fun q hq => Nat.le_succ_of_le (ih q hq)
theorem addQ_there {Q : List (Nat × Nat)} {d y : Nat} (h : y ∈ Q.map Prod.fst) : addQ d Q y = Q := by unfold addQ; rw [if_pos h]
theorem addQ_new {Q : List (Nat × Nat)} {d y : Nat} (h : y ∉ Q.map Prod.fst) : addQ d Q y = Q ++ [(y, d)] := by unfold addQ; rw [if_neg h]
theorem addAll_snoc (d : Nat) (Q : List (Nat × Nat)) (L : List Nat) (y : Nat) : addAll d Q (L ++ [y]) = addQ d (addAll d Q L) y := by
  unfold addAll
  rw [List.foldl_append]
  rfl
/-- The codes that are met, rising. -/
def keyL (Q : List (Nat × Nat)) : List Nat := (List.range 256).filter fun y => decide (y ∈ Q.map Prod.fst)
theorem keyL_sorted (Q : List (Nat × Nat)) : (keyL Q).Pairwise (· < ·) := List.pairwise_lt_range.filter _
theorem keyL_mem {Q : List (Nat × Nat)} (h : QOk Q) (y : Nat) : y ∈ keyL Q ↔ y ∈ Q.map Prod.fst := by
  unfold keyL
  rw [List.mem_filter, List.mem_range, decide_eq_true_eq]
  refine ⟨fun h => h.2, fun hy => ⟨?_, hy⟩⟩
  obtain ⟨p, hp, rfl⟩ := List.mem_map.1 hy
  exact h.2 p hp
theorem addQ_fst_mem (d : Nat) (Q : List (Nat × Nat)) (y z : Nat) : z ∈ (addQ d Q y).map Prod.fst ↔ z ∈ Q.map Prod.fst ∨ z = y := by
  unfold addQ
  split
  · rename_i h
    exact ⟨.inl, fun h' => h'.elim id (fun e => e ▸ h)⟩
  · simp
end
section
/-- The matrix of a relation among the numbers below n. -/
def matN (n : Nat) (f : Nat → Nat → Bool) : List Nat := (List.range n).map fun a => maskL (((List.range n).filter (f a)).map fun i : Nat => (i : Int))
theorem matN_len (n : Nat) (f : Nat → Nat → Bool) : (matN n f).length = n := by simp [matN]
theorem matN_bit (n : Nat) (f : Nat → Nat → Bool) (a b : Nat) : bt (matN n f) a b = true ↔ a < n ∧ b < n ∧ f a b = true := by
  unfold bt matN
  by_cases ha : a < n
  · rw [getD_in (by simpa using ha), List.getElem_map, List.getElem_range, testBit_maskL _ _ (by intro x hx; obtain ⟨i, _, rfl⟩ := List.mem_map.1 hx; omega), decide_eq_true_iff]
    constructor
    · intro hx
      obtain ⟨i, hi, he⟩ := List.mem_map.1 hx
      obtain rfl : i = b := by omega
      exact ⟨ha, List.mem_range.1 (List.mem_filter.1 hi).1, (List.mem_filter.1 hi).2⟩
    · rintro ⟨_, hb, hf⟩
      exact List.mem_map.2 ⟨b, List.mem_filter.2 ⟨List.mem_range.2 hb, hf⟩, rfl⟩
  · rw [getD_out (by simp; omega), Nat.zero_testBit]
    constructor
    · intro h1; cases h1
    · intro hb; exact absurd hb.1 ha
def opp (p : Nat) : Nat := cod (p % 16) (p / 16)
theorem opp_cod {a b : Nat} (hb : b < 16) : opp (cod a b) = cod b a := by unfold opp; rw [cod_div hb, cod_mod hb]
theorem opp_opp {p : Nat} (h : p < 256) : opp (opp p) = p := by unfold opp cod; omega
theorem opp_lt {p : Nat} (h : p < 256) : opp p < 256 := by unfold opp cod; omega
/-- The graph without those arrows, either way. -/
def cutK (n : Nat) (A K : List Nat) : List Nat := matN n fun a b => bt A a b && !decide (cod a b ∈ K) && !decide (cod b a ∈ K)
/-- Those arrows, put to others. -/
def addK (n : Nat) (H K : List Nat) : List Nat := matN n fun a b => bt H a b || decide (cod a b ∈ K)
theorem cutK_bit {n : Nat} {A K : List Nat} (h : GA n A) (a b : Nat) : bt (cutK n A K) a b = true ↔ bt A a b = true ∧ cod a b ∉ K ∧ cod b a ∉ K := by
  unfold cutK
  rw [matN_bit]
  simp only [Bool.and_eq_true, Bool.not_eq_true', decide_eq_false_iff_not]
  constructor
  · rintro ⟨_, _, ⟨h1, h2⟩, h3⟩; exact ⟨h1, h2, h3⟩
  · rintro ⟨h1, h2, h3⟩
    have := h.lt h1
    exact ⟨this.1, this.2, ⟨h1, h2⟩, h3⟩
theorem GA.cutK {n : Nat} {A : List Nat} (h : GA n A) (K : List Nat) : GA n (cutK n A K) where
  len := matN_len _ _
  pos := h.pos
  le := h.le
  irr a := by
    rw [Bool.eq_false_iff]
    intro h1
    have := ((cutK_bit h a a).1 h1).1
    rw [h.irr] at this; cases this
  sym a b := by
    rw [Bool.eq_iff_iff, cutK_bit h, cutK_bit h, h.sym a b]
    exact ⟨fun h => ⟨h.1, h.2.2, h.2.1⟩, fun h => ⟨h.1, h.2.2, h.2.1⟩⟩
theorem bit_le {x y : Nat} (h : ∀ i, x.testBit i = true → y.testBit i = true) : x ≤ y := by
  have : x &&& y = x := by
    apply Nat.eq_of_testBit_eq
    intro i
    rw [Nat.testBit_and]
    cases hx : x.testBit i
    · rfl
    · rw [h i hx]; rfl
  rw [← this]
  exact Nat.and_le_right
theorem bit_lt {x y : Nat} (h : ∀ i, x.testBit i = true → y.testBit i = true) {k : Nat} (h1 : y.testBit k = true) (h2 : x.testBit k = false) : x < y := by
  refine Nat.lt_of_le_of_ne (bit_le h) fun e => ?_
  rw [e, h1] at h2
  cases h2
/-- The arrow that is taken first at u. -/
def frst (A : List Nat) (u : Nat) : Nat := cod u (low (A.getD u 0))
def clsK (A : List Nat) (u : Nat) : List Nat := keyL (bqE A (frst A u))
theorem bqE_first (A : List Nat) (x : Nat) : x ∈ (bqE A x).map Prod.fst := by
  have h : ∀ k, bq A x 0 <+: bq A x k := by
    intro k
    induction k with
    | zero => exact List.prefix_refl _
    | succ k ih => exact ih.trans (bq_pre A x k)
  exact List.mem_map.2 ⟨(x, 0), (h 256).subset (by simp [bq]), rfl⟩
theorem low16 {n : Nat} {A : List Nat} (h : GA n A) {u : Nat} (h0 : A.getD u 0 ≠ 0) : bt A u (low (A.getD u 0)) = true ∧ low (A.getD u 0) < n ∧ u < n := by
  have h2 := h.in2 u
  have hp : 2 ^ n ≤ 65536 := Nat.pow_le_pow_right (n := 2) (i := n) (j := 16) (by decide) h.le
  have hb : bt A u (low (A.getD u 0)) = true := low_bit h0 (by omega)
  exact ⟨hb, (h.lt hb).2, (h.lt hb).1⟩
theorem frst_lt {n : Nat} {A : List Nat} (h : GA n A) {u : Nat} (h0 : A.getD u 0 ≠ 0) : frst A u < 256 := by
  have h1 := low16 h h0
  have := h.le
  unfold frst cod; omega
theorem clsK_first {n : Nat} {A : List Nat} (h : GA n A) {u : Nat} (h0 : A.getD u 0 ≠ 0) : frst A u ∈ clsK A u := by
  unfold clsK
  exact (keyL_mem (bq_ok (frst_lt h h0) 256) _).2 (bqE_first _ _)
theorem cut_less {n : Nat} {A : List Nat} (h : GA n A) {u : Nat} (h0 : A.getD u 0 ≠ 0) : (cutK n A (clsK A u)).getD u 0 < A.getD u 0 := by
  have h1 := low16 h h0
  refine bit_lt (k := low (A.getD u 0)) (fun i hi => ?_) h1.1 ?_
  · exact ((cutK_bit h u i).1 hi).1
  · rw [Bool.eq_false_iff]
    intro hi
    exact ((cutK_bit h u _).1 hi).2.1 (clsK_first h h0)
/-- Do some of those stand against one another? -/
def badK (K : List Nat) : Bool := K.any fun p => decide (opp p ∈ K)
/-- All rounds at one vertex. -/
def oriIn (n : Nat) (A H : List Nat) (u : Nat) : Option (List Nat × List Nat) :=
  if A.getD u 0 = 0 then some (A, H)
  else if badK (clsK A u) then none
  else if _h : (cutK n A (clsK A u)).getD u 0 < A.getD u 0 then oriIn n (cutK n A (clsK A u)) (addK n H (clsK A u)) u
  else none
termination_by A.getD u 0
def oriTo (n : Nat) (A : List Nat) : Nat → Option (List Nat × List Nat)
  | 0 => some (A, List.replicate n 0)
  | u + 1 => (oriTo n A u).bind fun s => oriIn n s.1 s.2 u
/-- The heads of an orientation, or none. -/
def oriN (n : Nat) (A : List Nat) : Option (List Nat) := (oriTo n A n).map (·.2)
theorem oriIn_zero {n : Nat} {A H : List Nat} {u : Nat} (h0 : A.getD u 0 = 0) : oriIn n A H u = some (A, H) := by rw [oriIn, if_pos h0]
theorem oriIn_bad {n : Nat} {A H : List Nat} {u : Nat} (h0 : A.getD u 0 ≠ 0) (hb : badK (clsK A u) = true) : oriIn n A H u = none := by rw [oriIn, if_neg h0, if_pos hb]
theorem oriIn_step {n : Nat} {A H : List Nat} (h : GA n A) {u : Nat} (h0 : A.getD u 0 ≠ 0) (hb : badK (clsK A u) = false) : oriIn n A H u = oriIn n (cutK n A (clsK A u)) (addK n H (clsK A u)) u := by
  rw [oriIn, if_neg h0, if_neg (by rw [hb]; decide), dif_pos (cut_less h h0)]
/-- Nothing comes of what has failed. -/
theorem oriTo_none {n : Nat} {A : List Nat} {u : Nat} (h : oriTo n A u = none) : ∀ j, u ≤ j → oriTo n A j = none := by
  intro j hj
  induction j with
  | zero => obtain rfl : u = 0 := by omega
            exact h
  | succ j ih =>
    by_cases e : u = j + 1
    · rw [← e]; exact h
    · show (oriTo n A j).bind _ = none
      rw [ih (by omega)]; rfl
theorem oriN_none {n : Nat} {A : List Nat} {u : Nat} (hu : u ≤ n) (h : oriTo n A u = none) : oriN n A = none := by
  unfold oriN
  rw [oriTo_none h n hu]; rfl
end
end Go.Proofs.YtggjmnihnjdoaaaDoor
