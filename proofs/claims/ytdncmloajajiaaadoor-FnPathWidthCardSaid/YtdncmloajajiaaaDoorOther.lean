/- Permutations of a graph's vertices out of two orientations: plain. · A graph without edges; the other graph: the reference's. -/
import Derived.Test.YtdncmloajajiaaaDoorForM
import Derived.Test.YtdncmloajajiaaaDoorOriS
namespace Go.Proofs.YtdncmloajajiaaaDoor
open Go.RowKit
section
section
/-- How many lead to w; to how many w leads. -/
def inC (U : List Nat) (n w : Nat) : Nat := (List.range n).countP fun v => bt U v w
def outC (U : List Nat) (n w : Nat) : Nat := (List.range n).countP fun v => bt U w v
theorem countP_five {p1 p2 p3 p4 : Nat → Bool} {w : Nat} : ∀ (l : List Nat), (∀ v ∈ l, (if p1 v then 1 else 0) + (if p2 v then 1 else 0) + (if p3 v then 1 else 0) + (if p4 v then 1 else 0) + (if v == w then 1 else 0) = 1) →
    l.countP p1 + l.countP p2 + l.countP p3 + l.countP p4 + l.countP (fun v => v == w) = l.length
  | [], _ => by simp
  | v :: l, h => by
    have h1 := h v (by simp)
    have h2 := countP_five (p1 := p1) (p2 := p2) (p3 := p3) (p4 := p4) (w := w) l (fun u hu => h u (by simp [hu]))
    simp only [List.countP_cons, List.length_cons]
    omega
theorem countP_two {p q r : Nat → Bool} : ∀ (l : List Nat), (∀ v ∈ l, (if p v then 1 else 0) + (if q v then 1 else 0) = if r v then 1 else 0) → l.countP p + l.countP q = l.countP r
  | [], _ => by simp
  | v :: l, h => by
    have h1 := h v (by simp)
    have h2 := countP_two (p := p) (q := q) (r := r) l (fun u hu => h u (by simp [hu]))
    simp only [List.countP_cons]
    omega
theorem countP_self {n w : Nat} (hw : w < n) : (List.range n).countP (fun v => v == w) = 1 := by
  have : (List.range n).countP (fun v => v == w) = (List.range n).count w := rfl
  rw [this, List.nodup_range.count]
  simp [hw]
/-- The other graph: who are no neighbours. -/
def compA (n : Nat) (A : List Nat) : List Nat := (List.range n).map fun v => dif (dif (2 ^ n - 1) (A.getD v 0)) (2 ^ v)
theorem compA_len (n : Nat) (A : List Nat) : (compA n A).length = n := by simp [compA]
theorem compA_bit (n : Nat) (A : List Nat) (a b : Nat) : bt (compA n A) a b = true ↔ a < n ∧ b < n ∧ bt A a b = false ∧ a ≠ b := by
  by_cases ha : a < n
  · have h1 : (compA n A).getD a 0 = dif (dif (2 ^ n - 1) (A.getD a 0)) (2 ^ a) := by
      rw [getD_in (by rw [compA_len]; exact ha)]; simp [compA]
    unfold bt
    rw [h1, testBit_dif, testBit_dif, Nat.testBit_two_pow, Nat.testBit_two_pow_sub_one]
    simp only [Bool.and_eq_true, Bool.not_eq_true', decide_eq_false_iff_not, decide_eq_true_eq]
    exact ⟨fun h => ⟨ha, h.1.1, h.1.2, h.2⟩, fun h => ⟨⟨h.2.1, h.2.2.1⟩, h.2.2.2⟩⟩
  · unfold bt
    rw [getD_out (by rw [compA_len]; omega), Nat.zero_testBit]
    exact ⟨fun h => (by cases h), fun h => absurd h.1 ha⟩
theorem GA.comp {n : Nat} {A : List Nat} (h : GA n A) : GA n (compA n A) where
  len := compA_len n A
  pos := h.pos
  le := h.le
  irr a := by
    rw [Bool.eq_false_iff]
    intro h1
    exact ((compA_bit n A a a).1 h1).2.2.2 rfl
  sym a b := by
    rw [Bool.eq_iff_iff, compA_bit, compA_bit, h.sym a b]
    exact ⟨fun h => ⟨h.2.1, h.1, h.2.2.1, fun e => h.2.2.2 e.symm⟩, fun h => ⟨h.2.1, h.1, h.2.2.1, fun e => h.2.2.2 e.symm⟩⟩
theorem count_all {n : Nat} {A U S : List Nat} (hA : GA n A) (hU : OriOk n A U) (hS : OriOk n (compA n A) S) {w : Nat} (hw : w < n) : inC U n w + outC U n w + inC S n w + outC S n w + 1 = n := by
  have h := countP_five (p1 := fun v => bt U v w) (p2 := fun v => bt U w v) (p3 := fun v => bt S v w) (p4 := fun v => bt S w v) (w := w) (List.range n) ?_
  · rw [countP_self hw, List.length_range] at h
    exact h
  · intro v hv
    have hv := List.mem_range.1 hv
    have u1 := hU.part v w
    have u2 := hU.one v w
    have u3 := hU.one w v
    have s1 := hS.part v w
    have s2 := hS.one v w
    have s3 := hS.one w v
    rw [compA_bit] at s1
    by_cases e : v = w
    · subst e
      rw [hA.irr] at u1
      cases hb : bt U v v <;> cases hc : bt S v v <;> simp_all
    · cases hb : bt U v w <;> cases hc : bt U w v <;> cases hd : bt S v w <;> cases he : bt S w v <;> cases hf : bt A v w <;> simp_all
theorem pcN_count {n m : Nat} (hm : m < 2 ^ n) (hn : n ≤ 16) : pcN 16 m = (List.range n).countP fun v => m.testBit v := by
  rw [pcN_filter, ← List.countP_eq_length_filter]
  obtain ⟨k, hk⟩ : ∃ k, 16 = n + k := ⟨16 - n, by omega⟩
  rw [hk, List.range_add, List.countP_append]
  have : ((List.range k).map fun x => n + x).countP (fun i => m.testBit i) = 0 := by
    rw [List.countP_eq_zero]
    intro x hx
    obtain ⟨y, _, rfl⟩ := List.mem_map.1 hx
    rw [Nat.testBit_lt_two_pow (Nat.lt_of_lt_of_le hm (Nat.pow_le_pow_right (by decide) (by omega)))]
    decide
  omega
theorem OriOk.lt {n : Nat} {A U : List Nat} (hA : GA n A) (h : OriOk n A U) {a b : Nat} (hb : bt U a b = true) : a < n ∧ b < n := hA.lt ((h.part a b).2 (.inl hb))
theorem OriOk.in2 {n : Nat} {A U : List Nat} (hA : GA n A) (h : OriOk n A U) (u : Nat) : U.getD u 0 < 2 ^ n := mask_lt _ n (fun i hi => (h.lt hA (a := u) (b := i) hi).2)
/-- The places in the two lines. -/
def posA (U S : List Nat) (n w : Nat) : Nat := inC U n w + inC S n w
def posB (U S : List Nat) (n w : Nat) : Nat := outC U n w + inC S n w
theorem first_size {n : Nat} {A U S : List Nat} (hA : GA n A) (hU : OriOk n A U) (hS : OriOk n (compA n A) S) {w : Nat} (hw : w < n) : pcN 16 (U.getD w 0 ||| S.getD w 0) + posA U S n w + 1 = n := by
  have h1 := count_all hA hU hS hw
  have hlt : U.getD w 0 ||| S.getD w 0 < 2 ^ n := Nat.or_lt_two_pow (hU.in2 hA w) (hS.in2 hA.comp w)
  rw [pcN_count hlt hA.le]
  have h2 := countP_two (p := fun v => bt U w v) (q := fun v => bt S w v) (r := fun v => (U.getD w 0 ||| S.getD w 0).testBit v) (List.range n) ?_
  · unfold posA
    unfold inC outC at *
    omega
  · intro v hv
    have u1 := hU.part w v
    have s1 := hS.part w v
    rw [compA_bit] at s1
    rw [Nat.testBit_or]
    show _ = if (bt U w v || bt S w v) then 1 else 0
    cases hb : bt U w v <;> cases hd : bt S w v <;> simp_all
theorem second_size {n : Nat} {A U S : List Nat} (hA : GA n A) (hU : OriOk n A U) (hS : OriOk n (compA n A) S) {w : Nat} (hw : w < n) : pcN 16 (dif (A.getD w 0) (U.getD w 0) ||| S.getD w 0) + posB U S n w + 1 = n := by
  have h1 := count_all hA hU hS hw
  have hlt : dif (A.getD w 0) (U.getD w 0) ||| S.getD w 0 < 2 ^ n := Nat.or_lt_two_pow (Nat.lt_of_le_of_lt (dif_le _ _) (hA.in2 w)) (hS.in2 hA.comp w)
  rw [pcN_count hlt hA.le]
  have h2 := countP_two (p := fun v => bt U v w) (q := fun v => bt S w v) (r := fun v => (dif (A.getD w 0) (U.getD w 0) ||| S.getD w 0).testBit v) (List.range n) ?_
  · unfold posB
    unfold inC outC at *
    omega
  · intro v hv
    have u1 := hU.part w v
    have u2 := hU.one w v
    have u3 := hU.one v w
    have s1 := hS.part w v
    rw [compA_bit] at s1
    rw [Nat.testBit_or, testBit_dif]
    show _ = if ((bt A w v && !bt U w v) || bt S w v) then 1 else 0
    cases hb : bt U w v <;> cases hc : bt U v w <;> cases hd : bt S w v <;> cases he : bt A w v <;> simp_all
theorem posA_lt {n : Nat} {A U S : List Nat} (hA : GA n A) (hU : OriOk n A U) (hS : OriOk n (compA n A) S) {w : Nat} (hw : w < n) : posA U S n w < n := by have := first_size hA hU hS hw; omega
theorem posB_lt {n : Nat} {A U S : List Nat} (hA : GA n A) (hU : OriOk n A U) (hS : OriOk n (compA n A) S) {w : Nat} (hw : w < n) : posB U S n w < n := by have := second_size hA hU hS hw; omega
/-- The line: each at its place, the later one where two have the same. -/
def lineTo (n : Nat) (pos : Nat → Nat) (k : Nat) : List Int := (List.range k).foldl (fun o v => o.set (pos v) (v : Int)) (List.replicate n 0)
theorem lineTo_succ (n : Nat) (pos : Nat → Nat) (k : Nat) : lineTo n pos (k + 1) = (lineTo n pos k).set (pos k) (k : Int) := by
  unfold lineTo
  rw [List.range_succ, List.foldl_append]; rfl
theorem lineTo_len (n : Nat) (pos : Nat → Nat) (k : Nat) : (lineTo n pos k).length = n := by
  induction k with
  | zero => simp [lineTo]
  | succ k ih => rw [lineTo_succ, List.length_set, ih]
theorem lineTo_congr {n : Nat} {pos pos' : Nat → Nat} {k : Nat} (h : ∀ v, v < k → pos v = pos' v) : lineTo n pos k = lineTo n pos' k := by
  induction k with
  | zero => rfl
  | succ k ih => rw [lineTo_succ, lineTo_succ, ih (fun v hv => h v (by omega)), h k (by omega)]
def lineL (n : Nat) (pos : Nat → Nat) : List Int := lineTo n pos n
/-- One more at a place. -/
def bump (L : List Nat) (i : Nat) : List Nat := L.set i (L.getD i 0 + 1)
theorem bump_len (L : List Nat) (i : Nat) : (bump L i).length = L.length := by unfold bump; rw [List.length_set]
theorem bump_get {L : List Nat} {i : Nat} (hi : i < L.length) (w : Nat) : (bump L i).getD w 0 = L.getD w 0 + if w = i then 1 else 0 := by
  unfold bump
  rw [setN_getD hi]
  split
  · rename_i h; rw [h]
  · omega
theorem count_take (l : List Nat) (w i : Nat) (hi : i < l.length) : (l.take (i + 1)).count w = (l.take i).count w + if w = l[i] then 1 else 0 := by
  rw [List.take_succ_eq_append_getElem hi, List.count_append]
  congr 1
  rw [List.count_singleton]
  by_cases h : w = l[i]
  · simp [h]
  · have h2 : ¬ l[i] = w := fun e => h e.symm
    simp [h, h2]
theorem count_mems {m w : Nat} (hm : m < 4294967296) : (memsN m).count w = if m.testBit w then 1 else 0 := by
  rw [(memsN_nodup m).count]
  split
  · rename_i h; rw [if_pos ((memsN_mem hm).1 h)]
  · rename_i h
    rw [if_neg (fun e => h ((memsN_mem hm).2 e))]
/-- How many of the first k lead to w. -/
def inTo (U : List Nat) (k w : Nat) : Nat := (List.range k).countP fun v => bt U v w
theorem inTo_succ (U : List Nat) (k w : Nat) : inTo U (k + 1) w = inTo U k w + if bt U k w then 1 else 0 := by
  unfold inTo
  rw [List.range_succ, List.countP_append]
  congr 1
  simp
theorem inTo_le (U : List Nat) (k w : Nat) : inTo U k w ≤ k := by
  unfold inTo
  refine Nat.le_trans List.countP_le_length ?_
  simp
/-- What the two tables hold, v vertices done. -/
structure Ahead (n : Nat) (U S : List Nat) (v : Nat) (a b : List Nat) : Prop where
  la : a.length = n
  lb : b.length = n
  ga : ∀ w, w < n → a.getD w 0 = inTo U v w + inTo S v w
  gb : ∀ w, w < n → b.getD w 0 = (if w < v then outC U n w else 0) + inTo S v w
structure Ahead1 (n : Nat) (U S : List Nat) (v i : Nat) (a b : List Nat) : Prop where
  la : a.length = n
  lb : b.length = n
  ga : ∀ w, w < n → a.getD w 0 = inTo U v w + inTo S v w + ((memsN (U.getD v 0)).take i).count w
  gb : ∀ w, w < n → b.getD w 0 = (if w < v then outC U n w else 0) + inTo S v w + if w = v then i else 0
structure Ahead2 (n : Nat) (U S : List Nat) (v i : Nat) (a b : List Nat) : Prop where
  la : a.length = n
  lb : b.length = n
  ga : ∀ w, w < n → a.getD w 0 = inTo U (v + 1) w + inTo S v w + ((memsN (S.getD v 0)).take i).count w
  gb : ∀ w, w < n → b.getD w 0 = (if w < v + 1 then outC U n w else 0) + inTo S v w + ((memsN (S.getD v 0)).take i).count w
theorem Ahead.start (n : Nat) (U S : List Nat) : Ahead n U S 0 (List.replicate n 0) (List.replicate n 0) := by
  have h : ∀ w, w < n → (List.replicate n 0).getD w 0 = 0 := fun w hw => by
    rw [List.getD_eq_getElem?_getD, List.getElem?_replicate, if_pos hw]; rfl
  refine ⟨by simp, by simp, fun w hw => ?_, fun w hw => ?_⟩ <;> rw [h w hw] <;> simp [inTo]
theorem Ahead.one {n : Nat} {U S : List Nat} {v : Nat} {a b : List Nat} (h : Ahead n U S v a b) : Ahead1 n U S v 0 a b :=
  ⟨h.la, h.lb, fun w hw => by rw [h.ga w hw]; simp, fun w hw => by rw [h.gb w hw]; simp⟩
theorem Ahead1.step {n : Nat} {U S : List Nat} {v i : Nat} {a b : List Nat} (h : Ahead1 n U S v i a b) (hi : i < (memsN (U.getD v 0)).length) (hv : v < n) (hx : (memsN (U.getD v 0))[i] < n) : Ahead1 n U S v (i + 1) (bump a (memsN (U.getD v 0))[i]) (bump b v) := by
  refine ⟨by rw [bump_len]; exact h.la, by rw [bump_len]; exact h.lb, fun w hw => ?_, fun w hw => ?_⟩
  · rw [bump_get (by rw [h.la]; exact hx), h.ga w hw, count_take _ _ _ hi]; omega
  · rw [bump_get (by rw [h.lb]; exact hv), h.gb w hw]
    split <;> split <;> omega
theorem Ahead1.done {n : Nat} {U S : List Nat} {v : Nat} {a b : List Nat} (h : Ahead1 n U S v (memsN (U.getD v 0)).length a b) (hU : ∀ w, U.getD w 0 < 2 ^ n) (hn : n ≤ 16) : Ahead2 n U S v 0 a b := by
  have hp : 2 ^ n ≤ 65536 := Nat.pow_le_pow_right (n := 2) (i := n) (j := 16) (by decide) hn
  have h1 := hU v
  refine ⟨h.la, h.lb, fun w hw => ?_, fun w hw => ?_⟩
  · rw [h.ga w hw, List.take_length, count_mems (by omega), inTo_succ]
    simp only [List.take_zero, List.count_nil]
    unfold bt
    omega
  · rw [h.gb w hw]
    simp only [List.take_zero, List.count_nil]
    have hlen : (memsN (U.getD v 0)).length = outC U n v := by
      unfold outC
      rw [List.countP_eq_length_filter]
      unfold memsN bt
      obtain ⟨k, hk⟩ : ∃ k, 32 = n + k := ⟨32 - n, by omega⟩
      rw [hk, List.range_add, List.filter_append, List.length_append]
      have : (((List.range k).map fun x => n + x).filter fun i => (U.getD v 0).testBit i) = [] := by
        rw [List.filter_eq_nil_iff]
        intro x hx
        obtain ⟨y, _, rfl⟩ := List.mem_map.1 hx
        rw [Nat.testBit_lt_two_pow (Nat.lt_of_lt_of_le h1 (Nat.pow_le_pow_right (by decide) (by omega)))]
        decide
      rw [this]; rfl
    by_cases e : w = v
    · subst e
      rw [if_neg (Nat.lt_irrefl _), if_pos rfl, if_pos (by omega), hlen]
      omega
    · rw [if_neg e]
      by_cases e2 : w < v
      · rw [if_pos e2, if_pos (by omega)]
      · rw [if_neg e2, if_neg (by omega)]
theorem Ahead2.step {n : Nat} {U S : List Nat} {v i : Nat} {a b : List Nat} (h : Ahead2 n U S v i a b) (hi : i < (memsN (S.getD v 0)).length) (hx : (memsN (S.getD v 0))[i] < n) : Ahead2 n U S v (i + 1) (bump a (memsN (S.getD v 0))[i]) (bump b (memsN (S.getD v 0))[i]) := by
  refine ⟨by rw [bump_len]; exact h.la, by rw [bump_len]; exact h.lb, fun w hw => ?_, fun w hw => ?_⟩
  · rw [bump_get (by rw [h.la]; exact hx), h.ga w hw, count_take _ _ _ hi]; omega
  · rw [bump_get (by rw [h.lb]; exact hx), h.gb w hw, count_take _ _ _ hi]; omega
theorem Ahead2.done {n : Nat} {U S : List Nat} {v : Nat} {a b : List Nat} (h : Ahead2 n U S v (memsN (S.getD v 0)).length a b) (hS : ∀ w, S.getD w 0 < 2 ^ n) (hn : n ≤ 16) : Ahead n U S (v + 1) a b := by
  have hp : 2 ^ n ≤ 65536 := Nat.pow_le_pow_right (n := 2) (i := n) (j := 16) (by decide) hn
  have h1 := hS v
  refine ⟨h.la, h.lb, fun w hw => ?_, fun w hw => ?_⟩
  · rw [h.ga w hw, List.take_length, count_mems (by omega), inTo_succ S]
    unfold bt; omega
  · rw [h.gb w hw, List.take_length, count_mems (by omega), inTo_succ S]
    unfold bt; omega
theorem Ahead.le {n : Nat} {U S : List Nat} {a b : List Nat} (h : Ahead n U S n a b) {w : Nat} (hw : w < n) : a.getD w 0 = posA U S n w ∧ b.getD w 0 = posB U S n w := by
  refine ⟨h.ga w hw, ?_⟩
  rw [h.gb w hw, if_pos hw]; rfl
theorem outC_le (U : List Nat) (n w : Nat) : outC U n w ≤ n := by
  unfold outC
  refine Nat.le_trans List.countP_le_length ?_
  simp
theorem Ahead1.small {n : Nat} {U S : List Nat} {v i : Nat} {a b : List Nat} (h : Ahead1 n U S v i a b) (hn : n ≤ 16) (hv : v < n) (hi : i ≤ 32) {w : Nat} (hw : w < n) : a.getD w 0 ≤ 64 ∧ b.getD w 0 ≤ 64 := by
  have h1 := inTo_le U v w
  have h2 := inTo_le S v w
  have h3 := outC_le U n w
  have h4 : ((memsN (U.getD v 0)).take i).count w ≤ 32 := Nat.le_trans List.count_le_length (by rw [List.length_take]; omega)
  rw [h.ga w hw, h.gb w hw]
  refine ⟨by omega, ?_⟩
  split <;> split <;> omega
theorem Ahead2.small {n : Nat} {U S : List Nat} {v i : Nat} {a b : List Nat} (h : Ahead2 n U S v i a b) (hn : n ≤ 16) (hv : v < n) (hi : i ≤ 32) {w : Nat} (hw : w < n) : a.getD w 0 ≤ 70 ∧ b.getD w 0 ≤ 70 := by
  have h1 := inTo_le U (v + 1) w
  have h2 := inTo_le S v w
  have h3 := outC_le U n w
  have h4 : ((memsN (S.getD v 0)).take i).count w ≤ 32 := Nat.le_trans List.count_le_length (by rw [List.length_take]; omega)
  rw [h.ga w hw, h.gb w hw]
  refine ⟨by omega, ?_⟩
  split <;> omega
end
end
section
section
theorem ownG_of {w : World} {B n : Nat} {v : Value} {rs : List Row} {A : List Nat} (h : OwnM 33 2 w B v rs) (hn : nums rs = A.map mems) (hl : A.length = n) (h0 : 1 ≤ n) : ∃ gb cap, v = .slice (some ⟨gb, 0, none⟩) n cap ∧ OwnG (fun _ => False) w B gb n cap A := by
  have hlr := rows_len hn hl
  obtain ⟨gb, cap, hgv⟩ : ∃ gb cap, v = .slice (some ⟨gb, 0, none⟩) n cap := by
    rcases h.outer.form with ⟨_, h2⟩ | ⟨g, cap, spare, h2, _⟩
    · have h9 := congrArg List.length h2
      rw [List.length_map, List.length_nil] at h9; omega
    · exact ⟨g, cap, by rw [h2, List.length_map, hlr]⟩
  subst hgv
  exact ⟨gb, cap, rfl, rs, h, hn, fun _ _ _ _ h => h⟩
set_option maxRecDepth 100000 in
set_option maxHeartbeats 2000000 in
theorem l1Empty_any (n : Nat) (w : World) (h0 : 1 ≤ n) (h16 : n ≤ 16) :
    Calls Tryd.prog 67 #[.int .i64 n] w fun e w' => ∃ gb cap, e = .returned (.agg #[.slice (some ⟨gb, 0, none⟩) n cap]) ∧ OwnG (fun _ => False) w' w.heap.size gb n cap (List.replicate n 0) ∧ Below w.heap.size w w' := by
  obtain ⟨w0, hw0⟩ : ∃ w0, w0 = (w.alloc (.cells #[.slice none 0 0] 29)) := ⟨_, rfl⟩
  have B0 := hid (show Below w.heap.size w w0 by rw [hw0]; exact ((Below.refl _ _).alloc (Nat.le_refl _) _))
  have c0 : w0.cell? ⟨w.heap.size, 0, none⟩ = some (.slice none 0 0) := by rw [hw0]; simp [go_sem]
  have HW := hid hw0; clear hw0
  have hsz0 : w0.heap.size = w.heap.size + 1 := by rw [HW.out]; simp
  have OR := hid (show Own 29 w0 w.heap.size (.slice (some ⟨w.heap.size, 0, none⟩) 1 1) [.slice none 0 0] by
    have h := own_new 29 w [.slice none 0 0] (by simp [maxLen])
    rw [HW.out]
    exact h)
  have OZ := hid (show Own 29 (w0.alloc (.cells #[.slice none 0 0] 29)) w0.heap.size (.slice (some ⟨w0.heap.size, 0, none⟩) 1 1) [.slice none 0 0] from own_new 29 w0 [.slice none 0 0] (by simp [maxLen]))
  go_enter Tryd.func67, Tryd.ntmps67
  go_wp2_with fail
  rw [← HW.out]
  have hsx : w.heap.size + 1 = w0.heap.size := by omega
  rw [hsx]
  have hsz1 : w.heap.size + 1 ≤ w0.heap.size := by omega
  clear hsx hsz0 c0
  have HB1 := hid (alloc_below w0 (.cells #[.slice none 0 0] 29))
  have HO1 := hid (show Own 33 (w0.alloc (.cells #[.slice none 0 0] 29)) (w0.heap.size + 1) (.slice none 0 0) (([] : List Row).map Row.val) from Own.nil _ _ _)
  have hs1 : (w0.alloc (.cells #[.slice none 0 0] 29)).heap.size = w0.heap.size + 1 := by simp
  generalize w0.alloc (.cells #[.slice none 0 0] 29) = W1 at *
  have HS1 := hid hs1; clear hs1
  go_loopw [4] (fun x wr => ∃ k v ps, k ≤ n ∧ x = .int .i64 (k : Nat) ∧ OwnM 33 2 wr (w0.heap.size + 1) v ps ∧ nums ps = List.replicate k [] ∧ Own 29 wr w0.heap.size (.slice (some ⟨w0.heap.size, 0, none⟩) 1 1) [v] ∧ Below w0.heap.size w0 wr) (fun x _ => n - (intOf x).toNat)
  case atStart => exact ⟨0, _, [], Nat.zero_le _, rfl, ⟨HO1.out, Inner.nil _ _ _⟩, rfl, OZ.out, HB1.out⟩
  case round =>
    obtain ⟨k, v, ps, hk, rfl, ho, hps, hoz, hb⟩ := hrel
    have OM := hid ho; have HPS := hid hps; have OZ1 := hid hoz; have LB := hid hb
    have c03 := hoz.cell 0 (by simp)
    rw [List.getElem_cons_zero] at c03
    have hsr := hb.size
    have hzr := hoz.lt w0.heap.size rfl
    clear ho hps hoz hb
    by_cases hlt : k < n
    · have hki : (k : Int) < (n : Int) := by omega
      have hpl : (ps.map Row.val).length < 1099511627776 := by
        have h1 := congrArg List.length HPS.out
        rw [nums_length, List.length_replicate] at h1
        rw [List.length_map]; omega
      obtain ⟨pv, pc, hpv, _⟩ := OM.out.rd
      subst hpv
      have hbA := alloc_below wr (.cells #[] 2)
      have hown := own_new 2 wr [] (by decide)
      have hBw : w0.heap.size + 1 ≤ wr.heap.size := by omega
      have IN4 := hid (OM.out.inner.snoc hbA hBw ⟨some ⟨wr.heap.size, 0, none⟩, [], 0⟩ (by simpa [Row.val] using hown))
      have OM4 := hid (OM.out.past hbA (Nat.le_refl _))
      have OZ4 := hid (OZ1.out.past hbA (Nat.le_refl _))
      have LB4 := hid (LB.out.trans (hbA.mono (by omega)))
      have g1 := cellB hbA c03 (Nat.le_refl _)
      have hsA : (wr.alloc (.cells #[] 2)).heap.size = wr.heap.size + 1 := by simp
      have HSU := hid (show nums ps ++ [[]] = List.replicate (k + 1) [] by rw [HPS.out, List.replicate_succ'])
      clear hbA hown
      go_wp2_with (at_builtin; refine law_push tRows _ rfl _ _ rfl (w0.heap.size + 1) _ (ps.map Row.val) rfl OM4.out.outer _ _ rfl ?c0 rfl ?c1 ?c2 ?_)
      try (case c0 => simp)
      try (case c1 => exact hpl)
      try (case c2 => omega)
      intro v' w5 h1 h2
      have OZ5 := hid (OZ4.out.kept h2 (OZ4.out.ne OM4.out.outer (by decide)))
      have hfr5 : w5.frozen? ⟨w0.heap.size, 0, none⟩ = false := OZ5.out.free 0
      have k1 : w5.cell? ⟨w0.heap.size, 0, none⟩ = some (.slice pv ps.length pc) := OZ5.out.cell 0 (by simp)
      have LP5 := hid (grown_below h2 (show w0.heap.size + 1 ≤ _ by omega) (fun g hg => OM4.out.outer.ge g hg))
      have LB5 := hid (LB4.out.trans (LP5.out.mono (by omega)))
      have OM5 := hid (rows_push (by decide) OM4.out.outer IN4.out (by simpa [Row.val] using h1) h2)
      clear h1 h2
      obtain ⟨va, vc, hva, _⟩ := OM5.out.rd
      subst hva
      have OM6 := hid (OM5.out.setCell_below (p := ⟨w0.heap.size, 0, none⟩) (Nat.lt_succ_self _) (.slice va (ps ++ [(⟨some ⟨wr.heap.size, 0, none⟩, [], 0⟩ : Row)]).length vc))
      have OZ6 := hid (OZ5.out.store 0 (by simp) (.slice va (ps ++ [(⟨some ⟨wr.heap.size, 0, none⟩, [], 0⟩ : Row)]).length vc))
      have LB6 := hid (Below.setCell LB5.out (p := ⟨w0.heap.size, 0, none⟩) (Nat.le_refl _) (.slice va (ps ++ [(⟨some ⟨wr.heap.size, 0, none⟩, [], 0⟩ : Row)]).length vc))
      have HNS := hid (show nums (ps ++ [(⟨some ⟨wr.heap.size, 0, none⟩, [], 0⟩ : Row)]) = List.replicate (k + 1) [] by rw [← HSU.out]; simp [nums])
      have e1 : (ps ++ [(⟨some ⟨wr.heap.size, 0, none⟩, [], 0⟩ : Row)]).length = ps.length + 1 := by simp
      rw [e1] at OM6 OZ6 LB6
      clear e1 g1 c03 OM5 OZ5 LB5 LP5 HSU
      go_wp2
      go_roundw
      case rel => exact ⟨k + 1, _, _, by omega, by go_num, OM6.out, HNS.out, OZ6.out, LB6.out⟩
      case measure => simp [intOf]; omega
    · obtain rfl : k = n := by omega
      obtain ⟨va, vc, hva, _⟩ := OM.out.rd
      subst hva
      have OR2 := hid (OR.out.past LB.out (Nat.le_refl _))
      have c1 := OR2.out.cell 0 (by simp)
      rw [List.getElem_cons_zero] at c1
      have hfr := OR2.out.free 0
      have OM2 := hid ((OM.out.setCell_below (p := ⟨w.heap.size, 0, none⟩) (by simp only; omega) (.slice va ps.length vc)).base (B' := w.heap.size) (by omega))
      have LB2 := hid (show Below w.heap.size w (wr.setCell ⟨w.heap.size, 0, none⟩ (.slice va ps.length vc)) from Below.setCell (B0.out.trans (LB.out.mono (by omega))) (p := ⟨w.heap.size, 0, none⟩) (by simp only; omega) _)
      have c110 : (wr.setCell ⟨w.heap.size, 0, none⟩ (.slice va ps.length vc)).cell? ⟨w.heap.size, 0, none⟩ = some (.slice va ps.length vc) := by
        have h := (OR2.out.store 0 (by simp) (.slice va ps.length vc)).cell 0 (by simp)
        simpa using h
      have HC110 := hid c110
      clear c110 OM OZ1 LB
      go_wp2
      obtain ⟨gb, cap, hgv, hog⟩ := ownG_of (A := List.replicate k 0) OM2.out (by rw [HPS.out, List.map_replicate, mems_zero]) (by simp) h0
      refine bodyPost_ret (ret_cell rfl _ _ _ ⟨w.heap.size, 0, none⟩ (.agg #[.slice va ps.length vc]) rfl ?_) rfl ⟨gb, cap, by rw [← hgv], hog, LB2.out⟩
      have c110 := HC110.out
      clear OM2 LB2
      go_simp
/-- Pairs that have had their turn. -/
def Done2 (v u a b : Nat) : Prop := (a < b ∧ (b < v ∨ (b = v ∧ a < u))) ∨ (b < a ∧ (a < v ∨ (a = v ∧ b < u)))
structure OthR (n : Nat) (A C : List Nat) (v u : Nat) : Prop where
  len : C.length = n
  lt : ∀ x ∈ C, x < 65536
  bit : ∀ a b, bt C a b = true ↔ a < n ∧ b < n ∧ bt A a b = false ∧ Done2 v u a b
theorem OthR.start (n : Nat) (A : List Nat) : OthR n A (List.replicate n 0) 0 0 := by
  refine ⟨by simp, fun x hx => by obtain ⟨_, rfl⟩ := List.mem_replicate.1 hx; decide, fun a b => ?_⟩
  have hz : bt (List.replicate n 0) a b = false := by
    unfold bt
    have : (List.replicate n 0).getD a 0 = 0 := by
      rw [List.getD_eq_getElem?_getD, List.getElem?_replicate]
      split <;> rfl
    rw [this, Nat.zero_testBit]
  rw [hz]
  constructor
  · intro h; cases h
  · rintro ⟨_, _, _, h⟩; unfold Done2 at h; omega
theorem OthR.next {n : Nat} {A C : List Nat} {v : Nat} (h : OthR n A C v v) : OthR n A C (v + 1) 0 := by
  refine ⟨h.len, h.lt, fun a b => ?_⟩
  rw [h.bit]
  have : Done2 v v a b ↔ Done2 (v + 1) 0 a b := by unfold Done2; omega
  rw [this]
theorem OthR.skip {n : Nat} {A C : List Nat} {v u : Nat} (hA : GA n A) (h : OthR n A C v u) (huv : u < v) (he : bt A u v = true) : OthR n A C v (u + 1) := by
  refine ⟨h.len, h.lt, fun a b => ?_⟩
  rw [h.bit]
  have hs := hA.sym u v
  constructor
  · rintro ⟨h1, h2, h3, h4⟩
    exact ⟨h1, h2, h3, by unfold Done2 at *; omega⟩
  · rintro ⟨h1, h2, h3, h4⟩
    refine ⟨h1, h2, h3, ?_⟩
    apply Classical.byContradiction
    intro hn
    have : (a = u ∧ b = v) ∨ (a = v ∧ b = u) := by unfold Done2 at *; omega
    rcases this with ⟨rfl, rfl⟩ | ⟨rfl, rfl⟩
    · rw [he] at h3; cases h3
    · rw [← hs, he] at h3; cases h3
theorem OthR.link {n : Nat} {A C : List Nat} {v u : Nat} (hA : GA n A) (h : OthR n A C v u) (huv : u < v) (hv : v < n) (he : bt A u v = false) : OthR n A (linkA C u v) v (u + 1) := by
  have h16 := hA.le
  have hs := hA.sym u v
  refine ⟨by rw [linkA_len]; exact h.len, linkA_lt h.lt (by omega) (by omega), fun a b => ?_⟩
  rw [bt_link (by rw [h.len]; omega) (by rw [h.len]; exact hv) (by omega), h.bit]
  constructor
  · rintro (⟨h1, h2, h3, h4⟩ | ⟨rfl, rfl⟩ | ⟨rfl, rfl⟩)
    · exact ⟨h1, h2, h3, by unfold Done2 at *; omega⟩
    · exact ⟨by omega, hv, he, by unfold Done2; omega⟩
    · exact ⟨hv, by omega, by rw [← hs]; exact he, by unfold Done2; omega⟩
  · rintro ⟨h1, h2, h3, h4⟩
    by_cases hd : Done2 v u a b
    · exact .inl ⟨h1, h2, h3, hd⟩
    · right
      unfold Done2 at *
      omega
theorem OthR.done {n : Nat} {A C : List Nat} (h : OthR n A C n 0) : C = compA n A := by
  apply bt_ext (by rw [h.len, compA_len])
  intro a b
  rw [Bool.eq_iff_iff, h.bit, compA_bit]
  constructor
  · rintro ⟨h1, h2, h3, h4⟩
    exact ⟨h1, h2, h3, by unfold Done2 at h4; omega⟩
  · rintro ⟨h1, h2, h3, h4⟩
    exact ⟨h1, h2, h3, by unfold Done2; omega⟩
theorem l1Size_n (a : Option Addr) (n c : Nat) (w : World) (hn : n ≤ 1048576) : Calls Tryd.prog 53 #[.agg #[.slice a n c]] w fun e w' => e = .returned (.int .i64 n) ∧ Below w.heap.size w w' := by
  have h := l1Size_any a (List.replicate n (⟨none, [], 0⟩ : Row)) c w (by rw [List.length_replicate]; exact hn)
  rwa [List.length_replicate] at h
theorem l1Edge_n (a : Option Addr) (rs : List Row) (c n u v : Nat) (A : List Nat) (w : World) (b : Bool) (hb : bt A u v = b) (hl : rs.length = n) (hA : GA n A) (hnm : nums rs = A.map mems) (hu : u < n) (hr : RdM w a rs) (hn : Small rs) :
    Calls Tryd.prog 44 #[.agg #[.slice a n c], .int .i64 u, .int .i64 v] w fun e w' => e = .returned (.bool b) ∧ Below w.heap.size w w' := by
  subst hl
  refine l1Edge_b a rs c u v w b (by omega) (by omega) ?_ hr hn
  rw [hnm, hA.row hu]
  have h1 := hA.in2 u
  have h2 : 2 ^ rs.length ≤ 65536 := Nat.pow_le_pow_right (n := 2) (i := rs.length) (j := 16) (by decide) hA.le
  rw [← hb]
  unfold bt
  by_cases h : (A.getD u 0).testBit v = true
  · rw [h, decide_eq_true_iff]
    exact (mems_mem (by omega)).2 ⟨v, rfl, h⟩
  · rw [Bool.not_eq_true] at h
    rw [h, decide_eq_false_iff_not]
    intro hm
    obtain ⟨i, hi, hb2⟩ := (mems_mem (by omega)).1 hm
    obtain rfl : v = i := by omega
    rw [h] at hb2; cases hb2
end
end
end Go.Proofs.YtdncmloajajiaaaDoor
