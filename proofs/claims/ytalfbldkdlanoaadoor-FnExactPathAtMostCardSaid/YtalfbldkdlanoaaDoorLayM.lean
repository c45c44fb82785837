/- Plain facts: distances by layers. -/
import Derived.Test.YtalfbldkdlanoaaDoorConn
namespace Go.Proofs.YtalfbldkdlanoaaDoor
theorem BallA.mono {A : List Nat} {t v u d e : Nat} (h : BallA A t v d u) (hde : d ≤ e) : BallA A t v e u := by
  induction e with
  | zero => obtain rfl : d = 0 := by omega
            exact h
  | succ e ih =>
    rcases Nat.eq_or_lt_of_le hde with rfl | h1
    · exact h
    · exact .inl (ih (by omega))
/-- The distance is d. -/
def DistA (A : List Nat) (t v u d : Nat) : Prop := BallA A t v d u ∧ ∀ e, e < d → ¬ BallA A t v e u
structure LayAt (A : List Nat) (t v n f L S : Nat) (D : List Int) : Prop where
  f1 : 1 ≤ f
  len : D.length = n
  sl : S < 65536
  ll : L < 65536
  seen : ∀ u, S.testBit u = true ↔ BallA A t v (f - 1) u
  lay : ∀ u, L.testBit u = true ↔ DistA A t v u (f - 1)
  val : ∀ u, u < n → (S.testBit u = true → ∃ d : Nat, D.getD u 0 = d ∧ DistA A t v u d) ∧ (S.testBit u = false → D.getD u 0 = -1)
  few : f ≤ S + 2 ∧ (L ≠ 0 → f ≤ S + 1)
  inn : ∀ u, S.testBit u = true → u < n
/-- What stands next to the first k of a layer. -/
def NextTo (A : List Nat) (L k N : Nat) : Prop := N < 65536 ∧ ∀ u, N.testBit u = true ↔ ∃ j, ∃ h : j < (mems L).length, j < k ∧ (A.getD ((mems L)[j]).toNat 0).testBit u = true
theorem NextTo.zero (A : List Nat) (L : Nat) : NextTo A L 0 0 := ⟨by decide, fun u => by simp⟩
theorem NextTo.succ {A : List Nat} {L k N x : Nat} (h : NextTo A L k N) (hk : k < (mems L).length) (hx : A.getD ((mems L)[k]).toNat 0 = x) (hw : x < 65536) : NextTo A L (k + 1) (N ||| x) := by
  refine ⟨Nat.or_lt_two_pow (n := 16) h.1 hw, fun u => ?_⟩
  rw [Nat.testBit_or, Bool.or_eq_true, h.2]
  constructor
  · rintro (⟨j, hj, h2, h3⟩ | h1)
    · exact ⟨j, hj, by omega, h3⟩
    · exact ⟨k, hk, by omega, by rw [hx]; exact h1⟩
  · rintro ⟨j, hj, h2, h3⟩
    rcases Nat.lt_succ_iff_lt_or_eq.1 h2 with h5 | rfl
    · exact .inl ⟨j, hj, h5, h3⟩
    · exact .inr (by rw [← hx]; exact h3)
/-- The first k of a layer have their number. -/
def SetTo (D0 : List Int) (L f k : Nat) (D : List Int) : Prop := D.length = D0.length ∧ ∀ u, u < D0.length → ((∃ j, ∃ h : j < (mems L).length, j < k ∧ (mems L)[j] = (u : Int)) → D.getD u 0 = f) ∧ ((¬ ∃ j, ∃ h : j < (mems L).length, j < k ∧ (mems L)[j] = (u : Int)) → D.getD u 0 = D0.getD u 0)
theorem SetTo.zero (D0 : List Int) (L f : Nat) : SetTo D0 L f 0 D0 := ⟨rfl, fun _ _ => ⟨fun ⟨j, _, h, _⟩ => absurd h (Nat.not_lt_zero j), fun _ => rfl⟩⟩
theorem SetTo.succ {D0 D : List Int} {L f k m : Nat} (h : SetTo D0 L f k D) (hk : k < (mems L).length) (hm : (mems L)[k] = (m : Int)) : SetTo D0 L f (k + 1) (D.set m f) := by
  refine ⟨by simpa using h.1, fun u hu => ?_⟩
  have hs : (D.set m (f : Int)).getD u 0 = if m = u then (f : Int) else D.getD u 0 := getD_set D m u f (by rw [h.1]; exact hu)
  rw [hs]
  obtain ⟨h1, h2⟩ := h.2 u hu
  constructor
  · rintro ⟨j, hj, hjk, e⟩
    by_cases hmu : m = u
    · rw [if_pos hmu]
    · rw [if_neg hmu]
      rcases Nat.lt_succ_iff_lt_or_eq.1 hjk with h3 | rfl
      · exact h1 ⟨j, hj, h3, e⟩
      · rw [hm] at e; exact absurd (by omega) hmu
  · intro hn
    have hmu : ¬ m = u := fun e => hn ⟨k, hk, by omega, by rw [hm, e]⟩
    rw [if_neg hmu]
    exact h2 fun ⟨j, hj, h3, e⟩ => hn ⟨j, hj, by omega, e⟩
theorem LayAt.start {A : List Nat} {t v n : Nat} (hv : v < n) (hn : n ≤ 16) : LayAt A t v n 1 (2 ^ v) (2 ^ v) ((List.replicate n (-1)).set v 0) := by
  have hp : 2 ^ v < 65536 := Nat.pow_lt_pow_right (a := 2) (m := v) (n := 16) (by decide) (by omega)
  have hpos := Nat.two_pow_pos v
  have hb : ∀ u, (2 ^ v).testBit u = true ↔ u = v := fun u => by
    rw [Nat.testBit_two_pow, decide_eq_true_iff]; exact ⟨fun h => h.symm, fun h => h.symm⟩
  have get : ∀ u : Nat, u < n → ((List.replicate n (-1 : Int)).set v 0).getD u 0 = if v = u then 0 else -1 := by
    intro u hu
    rw [getD_eq _ u (by simpa using hu), List.getElem_set]
    simp
  refine ⟨Nat.le_refl 1, by simp, hp, hp, fun u => hb u, fun u => ?_, fun u hu => ⟨fun h => ?_, fun h => ?_⟩, ⟨by omega, fun _ => by omega⟩, fun u h => ?_⟩
  · rw [hb]
    exact ⟨fun h => ⟨h, fun e he => absurd he (Nat.not_lt_zero e)⟩, fun h => h.1⟩
  · have e := (hb u).1 h
    subst e
    exact ⟨0, by rw [get u hu, if_pos rfl]; rfl, rfl, fun e he => absurd he (Nat.not_lt_zero e)⟩
  · rw [get u hu, if_neg]
    intro e; subst e
    rw [(hb v).2 rfl] at h; cases h
  · rw [(hb u).1 h]; exact hv
/-- One layer more. -/
theorem LayAt.step {A : List Nat} {t v n f L S N : Nat} {D D2 : List Int} (h : LayAt A t v n f L S D) (h0 : L ≠ 0) (ht : ∀ u, t.testBit u = true → u < n) (hN : NextTo A L (mems L).length N) (hD : SetTo D (dif (N &&& t) S) f (mems (dif (N &&& t) S)).length D2) :
    LayAt A t v n (f + 1) (dif (N &&& t) S) (S ||| dif (N &&& t) S) D2 := by
  have hf := h.f1
  have hl16 : dif (N &&& t) S < 65536 := Nat.lt_of_le_of_lt (dif_le _ _) (Nat.lt_of_le_of_lt Nat.and_le_left hN.1)
  have hbitN : ∀ u, N.testBit u = true ↔ ∃ x, DistA A t v x (f - 1) ∧ (A.getD x 0).testBit u = true := by
    intro u
    rw [hN.2]
    constructor
    · rintro ⟨j, hj, _, hb⟩
      exact ⟨_, (h.lay _).1 (mems_bit h.ll hj), hb⟩
    · rintro ⟨x, hx, hb⟩
      obtain ⟨j, hj, e⟩ := mems_idx h.ll ((h.lay x).2 hx)
      exact ⟨j, hj, hj, by rw [e, Int.toNat_natCast]; exact hb⟩
  have hlay : ∀ u, (dif (N &&& t) S).testBit u = true ↔ DistA A t v u f := by
    intro u
    rw [testBit_dif, Nat.testBit_and, Bool.and_eq_true, Bool.and_eq_true, hbitN, Bool.not_eq_true', ← Bool.not_eq_true, h.seen]
    obtain ⟨k, rfl⟩ : ∃ k, f = k + 1 := ⟨f - 1, by omega⟩
    simp only [Nat.add_sub_cancel]
    constructor
    · rintro ⟨⟨⟨x, hx, hb⟩, htu⟩, hns⟩
      exact ⟨.inr ⟨htu, x, hx.1, hb⟩, fun e he hbe => hns (hbe.mono (by omega))⟩
    · rintro ⟨h1, h2⟩
      have hns : ¬ BallA A t v k u := h2 k (by omega)
      rcases h1 with h3 | ⟨htu, x, hx, hb⟩
      · exact absurd h3 hns
      · refine ⟨⟨⟨x, ⟨hx, fun e he hbe => hns ?_⟩, hb⟩, htu⟩, hns⟩
        have : BallA A t v (e + 1) u := .inr ⟨htu, x, hbe, hb⟩
        exact this.mono (by omega)
  have hseen : ∀ u, (S ||| dif (N &&& t) S).testBit u = true ↔ BallA A t v f u := by
    intro u
    rw [Nat.testBit_or, Bool.or_eq_true, h.seen, hlay]
    constructor
    · rintro (h1 | h1)
      · exact h1.mono (by omega)
      · exact h1.1
    · intro h1
      by_cases h2 : BallA A t v (f - 1) u
      · exact .inl h2
      · exact .inr ⟨h1, fun e he hbe => h2 (hbe.mono (by omega))⟩
  have hin : ∀ u, (dif (N &&& t) S).testBit u = true → u < n := fun u hu => by
    rw [testBit_dif, Nat.testBit_and, Bool.and_eq_true, Bool.and_eq_true] at hu
    exact ht u hu.1.2
  have hSle : S ≤ S ||| dif (N &&& t) S := Nat.left_le_or
  have hmem : ∀ u : Nat, (∃ j, ∃ hj : j < (mems (dif (N &&& t) S)).length, j < (mems (dif (N &&& t) S)).length ∧ (mems (dif (N &&& t) S))[j] = (u : Int)) ↔ (dif (N &&& t) S).testBit u = true := by
    intro u
    constructor
    · rintro ⟨j, hj, _, e⟩
      have := mems_bit hl16 hj
      rwa [e, Int.toNat_natCast] at this
    · intro hb
      obtain ⟨j, hj, e⟩ := mems_idx hl16 hb
      exact ⟨j, hj, hj, e⟩
  refine ⟨by omega, by rw [hD.1]; exact h.len, Nat.or_lt_two_pow (n := 16) h.sl hl16, hl16, by simpa using hseen, by simpa using hlay, fun u hu => ?_, ?_, fun u hu => ?_⟩
  · have hu2 : u < D.length := by rw [h.len]; exact hu
    obtain ⟨h1, h2⟩ := hD.2 u hu2
    rw [hmem] at h1 h2
    constructor
    · intro hb
      by_cases hb2 : (dif (N &&& t) S).testBit u = true
      · exact ⟨f, h1 hb2, (hlay u).1 hb2⟩
      · rw [h2 hb2]
        rw [Nat.testBit_or, Bool.or_eq_true] at hb
        exact (h.val u hu).1 (hb.resolve_right hb2)
    · intro hb
      rw [Nat.testBit_or, Bool.or_eq_false_iff] at hb
      rw [h2 (by rw [hb.2]; decide)]
      exact (h.val u hu).2 hb.1
  · have hfew := h.few.2 h0
    refine ⟨by omega, fun hl => ?_⟩
    have hne : S ≠ S ||| dif (N &&& t) S := fun e => by
      have hb := low_bit hl (show dif (N &&& t) S < 4294967296 by omega)
      have hb2 : S.testBit (low (dif (N &&& t) S)) = true := by
        have e2 := congrArg (fun m : Nat => m.testBit (low (dif (N &&& t) S))) e
        simp only [Nat.testBit_or, hb, Bool.or_true] at e2
        exact e2
      rw [testBit_dif, hb2] at hb; simp at hb
    omega
  · rw [Nat.testBit_or, Bool.or_eq_true] at hu
    exact hu.elim (h.inn u) (hin u)
/-- No layer is left: all distances are there. -/
theorem LayAt.done {A : List Nat} {t v n f S : Nat} {D : List Int} (h : LayAt A t v n f 0 S D) (u : Nat) (hu : u < n) : (∃ d : Nat, D.getD u 0 = d ∧ DistA A t v u d) ∨ (D.getD u 0 = -1 ∧ ¬ Leads A t v u) := by
  have hf := h.f1
  have hno : ∀ x, ¬ DistA A t v x (f - 1) := fun x hx => by
    have := (h.lay x).2 hx
    rw [Nat.zero_testBit] at this; cases this
  have hstop : ∀ d x, BallA A t v d x → BallA A t v (f - 1) x := by
    intro d
    induction d with
    | zero => intro x hx; exact hx.mono (by omega)
    | succ d ih =>
      intro x hx
      rcases hx with h1 | ⟨h1, y, h2, h3⟩
      · exact ih x h1
      · have hy := ih y h2
        -- y is nearer than f - 1
        have hlt : ∃ e, e < f - 1 ∧ BallA A t v e y := by
          apply Classical.byContradiction
          intro hn
          exact hno y ⟨hy, fun e he hbe => hn ⟨e, he, hbe⟩⟩
        obtain ⟨e, he, hbe⟩ := hlt
        have : BallA A t v (e + 1) x := .inr ⟨h1, y, hbe, h3⟩
        exact this.mono (by omega)
  cases hb : S.testBit u
  · refine .inr ⟨(h.val u hu).2 hb, fun ⟨d, hd⟩ => ?_⟩
    have := (h.seen u).2 (hstop d u hd)
    rw [hb] at this; cases this
  · exact .inl ((h.val u hu).1 hb)
end Go.Proofs.YtalfbldkdlanoaaDoor
