/- Permutations of a graph's vertices out of two orientations: plain. -/
import Derived.Test.YtdncmloajajiaaaDoorForM
namespace Go.Proofs.YtdncmloajajiaaaDoor
open Go.RowKit
section
/-- How many lead to w; to how many w leads. -/
def inC (U : List Nat) (n w : Nat) : Nat := (List.range n).countP fun v => bt U v w
def outC (U : List Nat) (n w : Nat) : Nat := (List.range n).countP fun v => bt U w v
theorem countP_five {p1 p2 p3 p4 : Nat → Bool} {w : Nat} : ∀ (l : List Nat), (∀ v ∈ l, (if p1 v then 1 else 0) + (if p2 v then 1 else 0) + (if p3 v then 1 else 0) + (if p4 v then 1 else 0) + (if v == w then 1 else 0) = 1) →
    l.countP p1 + l.countP p2 + l.countP p3 + l.countP p4 + l.countP (fun v => v == w) = l.length
  | [], _ => by simp
  | v :: l, h => by
    have h1 := h v (by simp)
    have h2 := countP_five (p1 := p1) (p2 := p2) (p3 := p3) (p4 := p4) (w := w) l (fun u hu => h u (by simp [hu]))
    simp only [List.countP_cons, List.length_cons]
    omega
theorem countP_two {p q r : Nat → Bool} : ∀ (l : List Nat), (∀ v ∈ l, (if p v then 1 else 0) + (if q v then 1 else 0) = if r v then 1 else 0) → l.countP p + l.countP q = l.countP r
  | [], _ => by simp
  | v :: l, h => by
    have h1 := h v (by simp)
    have h2 := countP_two (p := p) (q := q) (r := r) l (fun u hu => h u (by simp [hu]))
    simp only [List.countP_cons]
    omega
theorem countP_self {n w : Nat} (hw : w < n) : (List.range n).countP (fun v => v == w) = 1 := by
  have : (List.range n).countP (fun v => v == w) = (List.range n).count w := rfl
  rw [this, List.nodup_range.count]
  simp [hw]
/-- The other graph: who are no neighbours. -/
def compA (n : Nat) (A : List Nat) : List Nat := (List.range n).map fun v => dif (dif (2 ^ n - 1) (A.getD v 0)) (2 ^ v)
theorem compA_len (n : Nat) (A : List Nat) : (compA n A).length = n := by simp [compA]
theorem compA_bit (n : Nat) (A : List Nat) (a b : Nat) : bt (compA n A) a b = true ↔ a < n ∧ b < n ∧ bt A a b = false ∧ a ≠ b := by
  by_cases ha : a < n
  · have h1 : (compA n A).getD a 0 = dif (dif (2 ^ n - 1) (A.getD a 0)) (2 ^ a) := by
      rw [getD_in (by rw [compA_len]; exact ha)]; simp [compA]
    unfold bt
    rw [h1, testBit_dif, testBit_dif, Nat.testBit_two_pow, Nat.testBit_two_pow_sub_one]
    simp only [Bool.and_eq_true, Bool.not_eq_true', decide_eq_false_iff_not, decide_eq_true_eq]
    exact ⟨fun h => ⟨ha, h.1.1, h.1.2, h.2⟩, fun h => ⟨⟨h.2.1, h.2.2.1⟩, h.2.2.2⟩⟩
  · unfold bt
    rw [getD_out (by rw [compA_len]; omega), Nat.zero_testBit]
    exact ⟨fun h => (by cases h), fun h => absurd h.1 ha⟩
theorem GA.comp {n : Nat} {A : List Nat} (h : GA n A) : GA n (compA n A) where
  len := compA_len n A
  pos := h.pos
  le := h.le
  irr a := by
    rw [Bool.eq_false_iff]
    intro h1
    exact ((compA_bit n A a a).1 h1).2.2.2 rfl
  sym a b := by
    rw [Bool.eq_iff_iff, compA_bit, compA_bit, h.sym a b]
    exact ⟨fun h => ⟨h.2.1, h.1, h.2.2.1, fun e => h.2.2.2 e.symm⟩, fun h => ⟨h.2.1, h.1, h.2.2.1, fun e => h.2.2.2 e.symm⟩⟩
theorem count_all {n : Nat} {A U S : List Nat} (hA : GA n A) (hU : OriOk n A U) (hS : OriOk n (compA n A) S) {w : Nat} (hw : w < n) : inC U n w + outC U n w + inC S n w + outC S n w + 1 = n := by
  have h := countP_five (p1 := fun v => bt U v w) (p2 := fun v => bt U w v) (p3 := fun v => bt S v w) (p4 := fun v => bt S w v) (w := w) (List.range n) ?_
  · rw [countP_self hw, List.length_range] at h
    exact h
  · intro v hv
    have hv := List.mem_range.1 hv
    have u1 := hU.part v w
    have u2 := hU.one v w
    have u3 := hU.one w v
    have s1 := hS.part v w
    have s2 := hS.one v w
    have s3 := hS.one w v
    rw [compA_bit] at s1
    by_cases e : v = w
    · subst e
      rw [hA.irr] at u1
      cases hb : bt U v v <;> cases hc : bt S v v <;> simp_all
    · cases hb : bt U v w <;> cases hc : bt U w v <;> cases hd : bt S v w <;> cases he : bt S w v <;> cases hf : bt A v w <;> simp_all
theorem pcN_count {n m : Nat} (hm : m < 2 ^ n) (hn : n ≤ 16) : pcN 16 m = (List.range n).countP fun v => m.testBit v := by
  rw [pcN_filter, ← List.countP_eq_length_filter]
  obtain ⟨k, hk⟩ : ∃ k, 16 = n + k := ⟨16 - n, by omega⟩
  rw [hk, List.range_add, List.countP_append]
  have : ((List.range k).map fun x => n + x).countP (fun i => m.testBit i) = 0 := by
    rw [List.countP_eq_zero]
    intro x hx
    obtain ⟨y, _, rfl⟩ := List.mem_map.1 hx
    rw [Nat.testBit_lt_two_pow (Nat.lt_of_lt_of_le hm (Nat.pow_le_pow_right (by decide) (by omega)))]
    decide
  omega
theorem OriOk.lt {n : Nat} {A U : List Nat} (hA : GA n A) (h : OriOk n A U) {a b : Nat} (hb : bt U a b = true) : a < n ∧ b < n := hA.lt ((h.part a b).2 (.inl hb))
theorem OriOk.in2 {n : Nat} {A U : List Nat} (hA : GA n A) (h : OriOk n A U) (u : Nat) : U.getD u 0 < 2 ^ n := mask_lt _ n (fun i hi => (h.lt hA (a := u) (b := i) hi).2)
/-- The places in the two lines. -/
def posA (U S : List Nat) (n w : Nat) : Nat := inC U n w + inC S n w
def posB (U S : List Nat) (n w : Nat) : Nat := outC U n w + inC S n w
theorem first_size {n : Nat} {A U S : List Nat} (hA : GA n A) (hU : OriOk n A U) (hS : OriOk n (compA n A) S) {w : Nat} (hw : w < n) : pcN 16 (U.getD w 0 ||| S.getD w 0) + posA U S n w + 1 = n := by
  have h1 := count_all hA hU hS hw
  have hlt : U.getD w 0 ||| S.getD w 0 < 2 ^ n := Nat.or_lt_two_pow (hU.in2 hA w) (hS.in2 hA.comp w)
  rw [pcN_count hlt hA.le]
  have h2 := countP_two (p := fun v => bt U w v) (q := fun v => bt S w v) (r := fun v => (U.getD w 0 ||| S.getD w 0).testBit v) (List.range n) ?_
  · unfold posA
    unfold inC outC at *
    omega
  · intro v hv
    have u1 := hU.part w v
    have s1 := hS.part w v
    rw [compA_bit] at s1
    rw [Nat.testBit_or]
    show _ = if (bt U w v || bt S w v) then 1 else 0
    cases hb : bt U w v <;> cases hd : bt S w v <;> simp_all
theorem second_size {n : Nat} {A U S : List Nat} (hA : GA n A) (hU : OriOk n A U) (hS : OriOk n (compA n A) S) {w : Nat} (hw : w < n) : pcN 16 (dif (A.getD w 0) (U.getD w 0) ||| S.getD w 0) + posB U S n w + 1 = n := by
  have h1 := count_all hA hU hS hw
  have hlt : dif (A.getD w 0) (U.getD w 0) ||| S.getD w 0 < 2 ^ n := Nat.or_lt_two_pow (Nat.lt_of_le_of_lt (dif_le _ _) (hA.in2 w)) (hS.in2 hA.comp w)
  rw [pcN_count hlt hA.le]
  have h2 := countP_two (p := fun v => bt U v w) (q := fun v => bt S w v) (r := fun v => (dif (A.getD w 0) (U.getD w 0) ||| S.getD w 0).testBit v) (List.range n) ?_
  · unfold posB
    unfold inC outC at *
    omega
  · intro v hv
    have u1 := hU.part w v
    have u2 := hU.one w v
    have u3 := hU.one v w
    have s1 := hS.part w v
    rw [compA_bit] at s1
    rw [Nat.testBit_or, testBit_dif]
    show _ = if ((bt A w v && !bt U w v) || bt S w v) then 1 else 0
    cases hb : bt U w v <;> cases hc : bt U v w <;> cases hd : bt S w v <;> cases he : bt A w v <;> simp_all
theorem posA_lt {n : Nat} {A U S : List Nat} (hA : GA n A) (hU : OriOk n A U) (hS : OriOk n (compA n A) S) {w : Nat} (hw : w < n) : posA U S n w < n := by have := first_size hA hU hS hw; omega
theorem posB_lt {n : Nat} {A U S : List Nat} (hA : GA n A) (hU : OriOk n A U) (hS : OriOk n (compA n A) S) {w : Nat} (hw : w < n) : posB U S n w < n := by have := second_size hA hU hS hw; omega
/-- The line: each at its place, the later one where two have the same. -/
def lineTo (n : Nat) (pos : Nat → Nat) (k : Nat) : List Int := (List.range k).foldl (fun o v => o.set (pos v) (v : Int)) (List.replicate n 0)
theorem lineTo_succ (n : Nat) (pos : Nat → Nat) (k : Nat) : lineTo n pos (k + 1) = (lineTo n pos k).set (pos k) (k : Int) := by
  unfold lineTo
  rw [List.range_succ, List.foldl_append]; rfl
theorem lineTo_len (n : Nat) (pos : Nat → Nat) (k : Nat) : (lineTo n pos k).length = n := by
  induction k with
  | zero => simp [lineTo]
  | succ k ih => rw [lineTo_succ, List.length_set, ih]
theorem lineTo_congr {n : Nat} {pos pos' : Nat → Nat} {k : Nat} (h : ∀ v, v < k → pos v = pos' v) : lineTo n pos k = lineTo n pos' k := by
  induction k with
  | zero => rfl
  | succ k ih => rw [lineTo_succ, lineTo_succ, ih (fun v hv => h v (by omega)), h k (by omega)]
def lineL (n : Nat) (pos : Nat → Nat) : List Int := lineTo n pos n
/-- One more at a place. -/
def bump (L : List Nat) (i : Nat) : List Nat := L.set i (L.getD i 0 + 1)
theorem bump_len (L : List Nat) (i : Nat) : (bump L i).length = L.length := by unfold bump; rw [List.length_set]
theorem bump_get {L : List Nat} {i : Nat} (hi : i < L.length) (w : Nat) : (bump L i).getD w 0 = L.getD w 0 + if w = i then 1 else 0 := by
  unfold bump
  rw [setN_getD hi]
  split
  · rename_i h; rw [h]
  · omega
theorem count_take (l : List Nat) (w i : Nat) (hi : i < l.length) : (l.take (i + 1)).count w = (l.take i).count w + if w = l[i] then 1 else 0 := by
  rw [List.take_succ_eq_append_getElem hi, List.count_append]
  congr 1
  rw [List.count_singleton]
  by_cases h : w = l[i]
  · simp [h]
  · have h2 : ¬ l[i] = w := fun e => h e.symm
    simp [h, h2]
theorem count_mems {m w : Nat} (hm : m < 4294967296) : (memsN m).count w = if m.testBit w then 1 else 0 := by
  rw [(memsN_nodup m).count]
  split
  · rename_i h; rw [if_pos ((memsN_mem hm).1 h)]
  · rename_i h
    rw [if_neg (fun e => h ((memsN_mem hm).2 e))]
/-- How many of the first k lead to w. -/
def inTo (U : List Nat) (k w : Nat) : Nat := (List.range k).countP fun v => bt U v w
theorem inTo_succ (U : List Nat) (k w : Nat) : inTo U (k + 1) w = inTo U k w + if bt U k w then 1 else 0 := by
  unfold inTo
  rw [List.range_succ, List.countP_append]
  congr 1
  simp
theorem inTo_le (U : List Nat) (k w : Nat) : inTo U k w ≤ k := by
  unfold inTo
  refine Nat.le_trans List.countP_le_length ?_
  simp
/-- What the two tables hold, v vertices done. -/
structure Ahead (n : Nat) (U S : List Nat) (v : Nat) (a b : List Nat) : Prop where
  la : a.length = n
  lb : b.length = n
  ga : ∀ w, w < n → a.getD w 0 = inTo U v w + inTo S v w
  gb : ∀ w, w < n → b.getD w 0 = (if w < v then outC U n w else 0) + inTo S v w
structure Ahead1 (n : Nat) (U S : List Nat) (v i : Nat) (a b : List Nat) : Prop where
  la : a.length = n
  lb : b.length = n
  ga : ∀ w, w < n → a.getD w 0 = inTo U v w + inTo S v w + ((memsN (U.getD v 0)).take i).count w
  gb : ∀ w, w < n → b.getD w 0 = (if w < v then outC U n w else 0) + inTo S v w + if w = v then i else 0
structure Ahead2 (n : Nat) (U S : List Nat) (v i : Nat) (a b : List Nat) : Prop where
  la : a.length = n
  lb : b.length = n
  ga : ∀ w, w < n → a.getD w 0 = inTo U (v + 1) w + inTo S v w + ((memsN (S.getD v 0)).take i).count w
  gb : ∀ w, w < n → b.getD w 0 = (if w < v + 1 then outC U n w else 0) + inTo S v w + ((memsN (S.getD v 0)).take i).count w
theorem Ahead.start (n : Nat) (U S : List Nat) : Ahead n U S 0 (List.replicate n 0) (List.replicate n 0) := by
  have h : ∀ w, w < n → (List.replicate n 0).getD w 0 = 0 := fun w hw => by
    rw [List.getD_eq_getElem?_getD, List.getElem?_replicate, if_pos hw]; rfl
  refine ⟨by simp, by simp, fun w hw => ?_, fun w hw => ?_⟩ <;> rw [h w hw] <;> simp [inTo]
theorem Ahead.one {n : Nat} {U S : List Nat} {v : Nat} {a b : List Nat} (h : Ahead n U S v a b) : Ahead1 n U S v 0 a b :=
  ⟨h.la, h.lb, fun w hw => by rw [h.ga w hw]; simp, fun w hw => by rw [h.gb w hw]; simp⟩
theorem Ahead1.step {n : Nat} {U S : List Nat} {v i : Nat} {a b : List Nat} (h : Ahead1 n U S v i a b) (hi : i < (memsN (U.getD v 0)).length) (hv : v < n) (hx : (memsN (U.getD v 0))[i] < n) : Ahead1 n U S v (i + 1) (bump a (memsN (U.getD v 0))[i]) (bump b v) := by
  refine ⟨by rw [bump_len]; exact h.la, by rw [bump_len]; exact h.lb, fun w hw => ?_, fun w hw => ?_⟩
  · rw [bump_get (by rw [h.la]; exact hx), h.ga w hw, count_take _ _ _ hi]; omega
  · rw [bump_get (by rw [h.lb]; exact hv), h.gb w hw]
    split <;> split <;> omega
theorem Ahead1.done {n : Nat} {U S : List Nat} {v : Nat} {a b : List Nat} (h : Ahead1 n U S v (memsN (U.getD v 0)).length a b) (hU : ∀ w, U.getD w 0 < 2 ^ n) (hn : n ≤ 16) : Ahead2 n U S v 0 a b := by
  have hp : 2 ^ n ≤ 65536 := Nat.pow_le_pow_right (n := 2) (i := n) (j := 16) (by decide) hn
  have h1 := hU v
  refine ⟨h.la, h.lb, fun w hw => ?_, fun w hw => ?_⟩
  · rw [h.ga w hw, List.take_length, count_mems (by omega), inTo_succ]
    simp only [List.take_zero, List.count_nil]
    unfold bt
    omega
  · rw [h.gb w hw]
    simp only [List.take_zero, List.count_nil]
    have hlen : (memsN (U.getD v 0)).length = outC U n v := by
      unfold outC
      rw [List.countP_eq_length_filter]
      unfold memsN bt
      obtain ⟨k, hk⟩ : ∃ k, 32 = n + k := ⟨32 - n, by omega⟩
      rw [hk, List.range_add, List.filter_append, List.length_append]
      have : (((List.range k).map fun x => n + x).filter fun i => (U.getD v 0).testBit i) = [] := by
        rw [List.filter_eq_nil_iff]
        intro x hx
        obtain ⟨y, _, rfl⟩ := List.mem_map.1 hx
        rw [Nat.testBit_lt_two_pow (Nat.lt_of_lt_of_le h1 (Nat.pow_le_pow_right (by decide) (by omega)))]
        decide
      rw [this]; rfl
    by_cases e : w = v
    · subst e
      rw [if_neg (Nat.lt_irrefl _), if_pos rfl, if_pos (by omega), hlen]
      omega
    · rw [if_neg e]
      by_cases e2 : w < v
      · rw [if_pos e2, if_pos (by omega)]
      · rw [if_neg e2, if_neg (by omega)]
theorem Ahead2.step {n : Nat} {U S : List Nat} {v i : Nat} {a b : List Nat} (h : Ahead2 n U S v i a b) (hi : i < (memsN (S.getD v 0)).length) (hx : (memsN (S.getD v 0))[i] < n) : Ahead2 n U S v (i + 1) (bump a (memsN (S.getD v 0))[i]) (bump b (memsN (S.getD v 0))[i]) := by
  refine ⟨by rw [bump_len]; exact h.la, by rw [bump_len]; exact h.lb, fun w hw => ?_, fun w hw => ?_⟩
  · rw [bump_get (by rw [h.la]; exact hx), h.ga w hw, count_take _ _ _ hi]; omega
  · rw [bump_get (by rw [h.lb]; exact hx), h.gb w hw, count_take _ _ _ hi]; omega
theorem Ahead2.done {n : Nat} {U S : List Nat} {v : Nat} {a b : List Nat} (h : Ahead2 n U S v (memsN (S.getD v 0)).length a b) (hS : ∀ w, S.getD w 0 < 2 ^ n) (hn : n ≤ 16) : Ahead n U S (v + 1) a b := by
  have hp : 2 ^ n ≤ 65536 := Nat.pow_le_pow_right (n := 2) (i := n) (j := 16) (by decide) hn
  have h1 := hS v
  refine ⟨h.la, h.lb, fun w hw => ?_, fun w hw => ?_⟩
  · rw [h.ga w hw, List.take_length, count_mems (by omega), inTo_succ S]
    unfold bt; omega
  · rw [h.gb w hw, List.take_length, count_mems (by omega), inTo_succ S]
    unfold bt; omega
theorem Ahead.le {n : Nat} {U S : List Nat} {a b : List Nat} (h : Ahead n U S n a b) {w : Nat} (hw : w < n) : a.getD w 0 = posA U S n w ∧ b.getD w 0 = posB U S n w := by
  refine ⟨h.ga w hw, ?_⟩
  rw [h.gb w hw, if_pos hw]; rfl
theorem outC_le (U : List Nat) (n w : Nat) : outC U n w ≤ n := by
  unfold outC
  refine Nat.le_trans List.countP_le_length ?_
  simp
theorem Ahead1.small {n : Nat} {U S : List Nat} {v i : Nat} {a b : List Nat} (h : Ahead1 n U S v i a b) (hn : n ≤ 16) (hv : v < n) (hi : i ≤ 32) {w : Nat} (hw : w < n) : a.getD w 0 ≤ 64 ∧ b.getD w 0 ≤ 64 := by
  have h1 := inTo_le U v w
  have h2 := inTo_le S v w
  have h3 := outC_le U n w
  have h4 : ((memsN (U.getD v 0)).take i).count w ≤ 32 := Nat.le_trans List.count_le_length (by rw [List.length_take]; omega)
  rw [h.ga w hw, h.gb w hw]
  refine ⟨by omega, ?_⟩
  split <;> split <;> omega
theorem Ahead2.small {n : Nat} {U S : List Nat} {v i : Nat} {a b : List Nat} (h : Ahead2 n U S v i a b) (hn : n ≤ 16) (hv : v < n) (hi : i ≤ 32) {w : Nat} (hw : w < n) : a.getD w 0 ≤ 70 ∧ b.getD w 0 ≤ 70 := by
  have h1 := inTo_le U (v + 1) w
  have h2 := inTo_le S v w
  have h3 := outC_le U n w
  have h4 : ((memsN (S.getD v 0)).take i).count w ≤ 32 := Nat.le_trans List.count_le_length (by rw [List.length_take]; omega)
  rw [h.ga w hw, h.gb w hw]
  refine ⟨by omega, ?_⟩
  split <;> omega
end
end Go.Proofs.YtdncmloajajiaaaDoor
