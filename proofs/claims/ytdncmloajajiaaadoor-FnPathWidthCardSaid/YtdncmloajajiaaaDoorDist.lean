/- ConnectedIn: both. · Plain facts: distances by layers. · Distances: the program's layers. · DistancesFrom: both. -/
import Derived.Test.YtdncmloajajiaaaDoorFar
import Derived.Test.YtdncmloajajiaaaDoorReach
import Derived.Deep.RegionHeld3
namespace Go.Proofs.YtdncmloajajiaaaDoor
open Go.RowKit
section
def ConnIn (g : List (List Int)) (s : List Int) : Prop := SetP g s ∧ ConnP g s
noncomputable instance (g : List (List Int)) (s : List Int) : Decidable (ConnIn g s) := Classical.propDecidable _
/-- .. over sets. -/
def ConnA (A : List Nat) (s : Nat) : Prop := s ≠ 0 ∧ ∀ u, s.testBit u = true → Leads A s (low s) u
noncomputable instance (A : List Nat) (s : Nat) : Decidable (ConnA A s) := Classical.propDecidable _
theorem leads_in {A : List Nat} {s v : Nat} (hv : s.testBit v = true) {u : Nat} (h : Leads A s v u) : s.testBit u = true := by
  obtain ⟨d, hd⟩ := h
  induction d generalizing u with
  | zero => have e : u = v := hd
            rw [e]; exact hv
  | succ d ih =>
    rcases hd with h1 | ⟨h1, _⟩
    · exact ih h1
    · exact h1
/-- Of a set of a graph: connected, told both ways. -/
theorem conn_iff {g : List (List Int)} {s : List Int} (hs : SetP g s) : ConnA (g.map maskL) (maskL s) ↔ ConnP g s := by
  have hg := hs.1
  have h16 := hg.le
  have hnn : ∀ v ∈ s, 0 ≤ v := fun v hv => (hs.2.1 v hv).1
  have hbit : ∀ u : Nat, (maskL s).testBit u = true ↔ (u : Int) ∈ s := fun u => by rw [testBit_maskL s u hnn]; simp
  have hmem := mems_maskL hs.2 (by omega : ((g.length : Nat) : Int) ≤ 16)
  have hlt : maskL s < 65536 := maskL_lt s 16 (fun v hv => by have := hs.2.1 v hv; omega)
  have hnil : s ≠ [] ↔ maskL s ≠ 0 := by
    constructor
    · intro h he
      rw [he, mems_zero] at hmem; exact h hmem.symm
    · intro h he
      rw [he] at h; exact h rfl
  have hrow : ∀ x u : Nat, x < g.length → (((g.map maskL).getD x 0).testBit u = true ↔ (u : Int) ∈ row g (x : Int)) := by
    intro x u hx
    have e1 : (g.map maskL).getD x 0 = maskL (row g (x : Int)) := by
      rw [List.getD_eq_getElem?_getD, List.getElem?_map, List.getElem?_eq_getElem hx, row_nat _ _ hx]; rfl
    rw [e1, row_mask_bit hg x u hx]; simp
  have hball : ∀ v : Nat, (v : Int) ∈ s → ∀ d u, BallA (g.map maskL) (maskL s) v d u ↔ Ball g s (v : Int) d (u : Int) := by
    intro v hv d
    induction d with
    | zero =>
      intro u
      show u = v ↔ (u : Int) = (v : Int)
      omega
    | succ d ih =>
      intro u
      show (_ ∨ _) ↔ (_ ∨ _)
      rw [ih u, hbit u]
      constructor
      · rintro (h | ⟨h1, x, h2, h3⟩)
        · exact .inl h
        · have hx : x < g.length := by
            apply Classical.byContradiction
            intro hn
            rw [List.getD_eq_getElem?_getD, List.getElem?_eq_none (by simp; omega)] at h3
            simp at h3
          exact .inr ⟨h1, (x : Int), (ih x).1 h2, (hrow x u hx).1 h3⟩
      · rintro (h | ⟨h1, x, h2, h3⟩)
        · exact .inl h
        · have hx := hs.2.1 x (ball_in hv h2)
          obtain ⟨m, rfl⟩ := Int.eq_ofNat_of_zero_le hx.1
          exact .inr ⟨h1, m, (ih m).2 h2, (hrow m u (by omega)).2 h3⟩
  unfold ConnA ConnP
  rw [hnil]
  constructor
  · rintro ⟨h0, h⟩
    have hc := mems_cons h0 (show maskL s < 4294967296 by omega)
    rw [hmem] at hc
    have hv : s.getD 0 0 = (low (maskL s) : Int) := congrArg (fun l : List Int => l.getD 0 0) hc
    have hvs : (low (maskL s) : Int) ∈ s := (hbit _).1 (low_bit h0 (by omega))
    refine ⟨h0, fun u hu => ?_⟩
    have hu0 := hs.2.1 u hu
    obtain ⟨m, rfl⟩ := Int.eq_ofNat_of_zero_le hu0.1
    obtain ⟨d, hd⟩ := h m ((hbit m).2 hu)
    rw [hv]
    exact ⟨d, (hball _ hvs d m).1 hd⟩
  · rintro ⟨h0, h⟩
    have hc := mems_cons h0 (show maskL s < 4294967296 by omega)
    rw [hmem] at hc
    have hv : s.getD 0 0 = (low (maskL s) : Int) := congrArg (fun l : List Int => l.getD 0 0) hc
    have hvs : (low (maskL s) : Int) ∈ s := (hbit _).1 (low_bit h0 (by omega))
    refine ⟨h0, fun u hu => ?_⟩
    obtain ⟨d, hd⟩ := h (u : Int) ((hbit u).1 hu)
    rw [hv] at hd
    exact ⟨d, (hball _ hvs d u).2 hd⟩
end
section
section
theorem BallA.mono {A : List Nat} {t v u d e : Nat} (h : BallA A t v d u) (hde : d ≤ e) : BallA A t v e u := by
  induction e with
  | zero => obtain rfl : d = 0 := by omega
            exact h
  | succ e ih =>
    rcases Nat.eq_or_lt_of_le hde with rfl | h1
    · exact h
    · exact .inl (ih (by omega))
/-- The distance is d. -/
def DistA (A : List Nat) (t v u d : Nat) : Prop := BallA A t v d u ∧ ∀ e, e < d → ¬ BallA A t v e u
structure LayAt (A : List Nat) (t v n f L S : Nat) (D : List Int) : Prop where
  f1 : 1 ≤ f
  len : D.length = n
  sl : S < 65536
  ll : L < 65536
  seen : ∀ u, S.testBit u = true ↔ BallA A t v (f - 1) u
  lay : ∀ u, L.testBit u = true ↔ DistA A t v u (f - 1)
  val : ∀ u, u < n → (S.testBit u = true → ∃ d : Nat, D.getD u 0 = d ∧ DistA A t v u d) ∧ (S.testBit u = false → D.getD u 0 = -1)
  few : f ≤ S + 2 ∧ (L ≠ 0 → f ≤ S + 1)
  inn : ∀ u, S.testBit u = true → u < n
/-- What stands next to the first k of a layer. -/
def NextTo (A : List Nat) (L k N : Nat) : Prop := N < 65536 ∧ ∀ u, N.testBit u = true ↔ ∃ j, ∃ h : j < (mems L).length, j < k ∧ (A.getD ((mems L)[j]).toNat 0).testBit u = true
theorem NextTo.zero (A : List Nat) (L : Nat) : NextTo A L 0 0 := ⟨by decide, fun u => by simp⟩
theorem NextTo.succ {A : List Nat} {L k N x : Nat} (h : NextTo A L k N) (hk : k < (mems L).length) (hx : A.getD ((mems L)[k]).toNat 0 = x) (hw : x < 65536) : NextTo A L (k + 1) (N ||| x) := by
  refine ⟨Nat.or_lt_two_pow (n := 16) h.1 hw, fun u => ?_⟩
  rw [Nat.testBit_or, Bool.or_eq_true, h.2]
  constructor
  · rintro (⟨j, hj, h2, h3⟩ | h1)
    · exact ⟨j, hj, by omega, h3⟩
    · exact ⟨k, hk, by omega, by rw [hx]; exact h1⟩
  · rintro ⟨j, hj, h2, h3⟩
    rcases Nat.lt_succ_iff_lt_or_eq.1 h2 with h5 | rfl
    · exact .inl ⟨j, hj, h5, h3⟩
    · exact .inr (by rw [← hx]; exact h3)
/-- The first k of a layer have their number. -/
def SetTo (D0 : List Int) (L f k : Nat) (D : List Int) : Prop := D.length = D0.length ∧ ∀ u, u < D0.length → ((∃ j, ∃ h : j < (mems L).length, j < k ∧ (mems L)[j] = (u : Int)) → D.getD u 0 = f) ∧ ((¬ ∃ j, ∃ h : j < (mems L).length, j < k ∧ (mems L)[j] = (u : Int)) → D.getD u 0 = D0.getD u 0)
theorem SetTo.zero (D0 : List Int) (L f : Nat) : SetTo D0 L f 0 D0 := ⟨rfl, fun _ _ => ⟨fun ⟨j, _, h, _⟩ => absurd h (Nat.not_lt_zero j), fun _ => rfl⟩⟩
theorem SetTo.succ {D0 D : List Int} {L f k m : Nat} (h : SetTo D0 L f k D) (hk : k < (mems L).length) (hm : (mems L)[k] = (m : Int)) : SetTo D0 L f (k + 1) (D.set m f) := by
  refine ⟨by simpa using h.1, fun u hu => ?_⟩
  have hs : (D.set m (f : Int)).getD u 0 = if m = u then (f : Int) else D.getD u 0 := getD_set D m u f (by rw [h.1]; exact hu)
  rw [hs]
  obtain ⟨h1, h2⟩ := h.2 u hu
  constructor
  · rintro ⟨j, hj, hjk, e⟩
    by_cases hmu : m = u
    · rw [if_pos hmu]
    · rw [if_neg hmu]
      rcases Nat.lt_succ_iff_lt_or_eq.1 hjk with h3 | rfl
      · exact h1 ⟨j, hj, h3, e⟩
      · rw [hm] at e; exact absurd (by omega) hmu
  · intro hn
    have hmu : ¬ m = u := fun e => hn ⟨k, hk, by omega, by rw [hm, e]⟩
    rw [if_neg hmu]
    exact h2 fun ⟨j, hj, h3, e⟩ => hn ⟨j, hj, by omega, e⟩
theorem LayAt.start {A : List Nat} {t v n : Nat} (hv : v < n) (hn : n ≤ 16) : LayAt A t v n 1 (2 ^ v) (2 ^ v) ((List.replicate n (-1)).set v 0) := by
  have hp : 2 ^ v < 65536 := Nat.pow_lt_pow_right (a := 2) (m := v) (n := 16) (by decide) (by omega)
  have hpos := Nat.two_pow_pos v
  have hb : ∀ u, (2 ^ v).testBit u = true ↔ u = v := fun u => by
    rw [Nat.testBit_two_pow, decide_eq_true_iff]; exact ⟨fun h => h.symm, fun h => h.symm⟩
  have get : ∀ u : Nat, u < n → ((List.replicate n (-1 : Int)).set v 0).getD u 0 = if v = u then 0 else -1 := by
    intro u hu
    rw [getD_eq _ u (by simpa using hu), List.getElem_set]
    simp
  refine ⟨Nat.le_refl 1, by simp, hp, hp, fun u => hb u, fun u => ?_, fun u hu => ⟨fun h => ?_, fun h => ?_⟩, ⟨by omega, fun _ => by omega⟩, fun u h => ?_⟩
  · rw [hb]
    exact ⟨fun h => ⟨h, fun e he => absurd he (Nat.not_lt_zero e)⟩, fun h => h.1⟩
  · have e := (hb u).1 h
    subst e
    exact ⟨0, by rw [get u hu, if_pos rfl]; rfl, rfl, fun e he => absurd he (Nat.not_lt_zero e)⟩
  · rw [get u hu, if_neg]
    intro e; subst e
    rw [(hb v).2 rfl] at h; cases h
  · rw [(hb u).1 h]; exact hv
/-- One layer more. -/
theorem LayAt.step {A : List Nat} {t v n f L S N : Nat} {D D2 : List Int} (h : LayAt A t v n f L S D) (h0 : L ≠ 0) (ht : ∀ u, t.testBit u = true → u < n) (hN : NextTo A L (mems L).length N) (hD : SetTo D (dif (N &&& t) S) f (mems (dif (N &&& t) S)).length D2) :
    LayAt A t v n (f + 1) (dif (N &&& t) S) (S ||| dif (N &&& t) S) D2 := by
  have hf := h.f1
  have hl16 : dif (N &&& t) S < 65536 := Nat.lt_of_le_of_lt (dif_le _ _) (Nat.lt_of_le_of_lt Nat.and_le_left hN.1)
  have hbitN : ∀ u, N.testBit u = true ↔ ∃ x, DistA A t v x (f - 1) ∧ (A.getD x 0).testBit u = true := by
    intro u
    rw [hN.2]
    constructor
    · rintro ⟨j, hj, _, hb⟩
      exact ⟨_, (h.lay _).1 (mems_bit h.ll hj), hb⟩
    · rintro ⟨x, hx, hb⟩
      obtain ⟨j, hj, e⟩ := mems_idx h.ll ((h.lay x).2 hx)
      exact ⟨j, hj, hj, by rw [e, Int.toNat_natCast]; exact hb⟩
  have hlay : ∀ u, (dif (N &&& t) S).testBit u = true ↔ DistA A t v u f := by
    intro u
    rw [testBit_dif, Nat.testBit_and, Bool.and_eq_true, Bool.and_eq_true, hbitN, Bool.not_eq_true', ← Bool.not_eq_true, h.seen]
    obtain ⟨k, rfl⟩ : ∃ k, f = k + 1 := ⟨f - 1, by omega⟩
    simp only [Nat.add_sub_cancel]
    constructor
    · rintro ⟨⟨⟨x, hx, hb⟩, htu⟩, hns⟩
      exact ⟨.inr ⟨htu, x, hx.1, hb⟩, fun e he hbe => hns (hbe.mono (by omega))⟩
    · rintro ⟨h1, h2⟩
      have hns : ¬ BallA A t v k u := h2 k (by omega)
      rcases h1 with h3 | ⟨htu, x, hx, hb⟩
      · exact absurd h3 hns
      · refine ⟨⟨⟨x, ⟨hx, fun e he hbe => hns ?_⟩, hb⟩, htu⟩, hns⟩
        have : BallA A t v (e + 1) u := .inr ⟨htu, x, hbe, hb⟩
        exact this.mono (by omega)
  have hseen : ∀ u, (S ||| dif (N &&& t) S).testBit u = true ↔ BallA A t v f u := by
    intro u
    rw [Nat.testBit_or, Bool.or_eq_true, h.seen, hlay]
    constructor
    · rintro (h1 | h1)
      · exact h1.mono (by omega)
      · exact h1.1
    · intro h1
      by_cases h2 : BallA A t v (f - 1) u
      · exact .inl h2
      · exact .inr ⟨h1, fun e he hbe => h2 (hbe.mono (by omega))⟩
  have hin : ∀ u, (dif (N &&& t) S).testBit u = true → u < n := fun u hu => by
    rw [testBit_dif, Nat.testBit_and, Bool.and_eq_true, Bool.and_eq_true] at hu
    exact ht u hu.1.2
  have hSle : S ≤ S ||| dif (N &&& t) S := Nat.left_le_or
  have hmem : ∀ u : Nat, (∃ j, ∃ hj : j < (mems (dif (N &&& t) S)).length, j < (mems (dif (N &&& t) S)).length ∧ (mems (dif (N &&& t) S))[j] = (u : Int)) ↔ (dif (N &&& t) S).testBit u = true := by
    intro u
    constructor
    · rintro ⟨j, hj, _, e⟩
      have := mems_bit hl16 hj
      rwa [e, Int.toNat_natCast] at this
    · intro hb
      obtain ⟨j, hj, e⟩ := mems_idx hl16 hb
      exact ⟨j, hj, hj, e⟩
  refine ⟨by omega, by rw [hD.1]; exact h.len, Nat.or_lt_two_pow (n := 16) h.sl hl16, hl16, by simpa using hseen, by simpa using hlay, fun u hu => ?_, ?_, fun u hu => ?_⟩
  · have hu2 : u < D.length := by rw [h.len]; exact hu
    obtain ⟨h1, h2⟩ := hD.2 u hu2
    rw [hmem] at h1 h2
    constructor
    · intro hb
      by_cases hb2 : (dif (N &&& t) S).testBit u = true
      · exact ⟨f, h1 hb2, (hlay u).1 hb2⟩
      · rw [h2 hb2]
        rw [Nat.testBit_or, Bool.or_eq_true] at hb
        exact (h.val u hu).1 (hb.resolve_right hb2)
    · intro hb
      rw [Nat.testBit_or, Bool.or_eq_false_iff] at hb
      rw [h2 (by rw [hb.2]; decide)]
      exact (h.val u hu).2 hb.1
  · have hfew := h.few.2 h0
    refine ⟨by omega, fun hl => ?_⟩
    have hne : S ≠ S ||| dif (N &&& t) S := fun e => by
      have hb := low_bit hl (show dif (N &&& t) S < 4294967296 by omega)
      have hb2 : S.testBit (low (dif (N &&& t) S)) = true := by
        have e2 := congrArg (fun m : Nat => m.testBit (low (dif (N &&& t) S))) e
        simp only [Nat.testBit_or, hb, Bool.or_true] at e2
        exact e2
      rw [testBit_dif, hb2] at hb; simp at hb
    omega
  · rw [Nat.testBit_or, Bool.or_eq_true] at hu
    exact hu.elim (h.inn u) (hin u)
/-- No layer is left: all distances are there. -/
theorem LayAt.done {A : List Nat} {t v n f S : Nat} {D : List Int} (h : LayAt A t v n f 0 S D) (u : Nat) (hu : u < n) : (∃ d : Nat, D.getD u 0 = d ∧ DistA A t v u d) ∨ (D.getD u 0 = -1 ∧ ¬ Leads A t v u) := by
  have hf := h.f1
  have hno : ∀ x, ¬ DistA A t v x (f - 1) := fun x hx => by
    have := (h.lay x).2 hx
    rw [Nat.zero_testBit] at this; cases this
  have hstop : ∀ d x, BallA A t v d x → BallA A t v (f - 1) x := by
    intro d
    induction d with
    | zero => intro x hx; exact hx.mono (by omega)
    | succ d ih =>
      intro x hx
      rcases hx with h1 | ⟨h1, y, h2, h3⟩
      · exact ih x h1
      · have hy := ih y h2
        -- y is nearer than f - 1
        have hlt : ∃ e, e < f - 1 ∧ BallA A t v e y := by
          apply Classical.byContradiction
          intro hn
          exact hno y ⟨hy, fun e he hbe => hn ⟨e, he, hbe⟩⟩
        obtain ⟨e, he, hbe⟩ := hlt
        have : BallA A t v (e + 1) x := .inr ⟨h1, y, hbe, h3⟩
        exact this.mono (by omega)
  cases hb : S.testBit u
  · refine .inr ⟨(h.val u hu).2 hb, fun ⟨d, hd⟩ => ?_⟩
    have := (h.seen u).2 (hstop d u hd)
    rw [hb] at this; cases this
  · exact .inl ((h.val u hu).1 hb)
end
section
def z01 (n : Nat) : Nat := if n = 0 then 0 else 1
theorem z01_pos {n : Nat} (h : n ≠ 0) : z01 n = 1 := if_neg h
theorem set_run (n k : Nat) (z u : Value) (hk : k < n) : (List.replicate k u ++ List.replicate (n - k) z).set k u = List.replicate (k + 1) u ++ List.replicate (n - (k + 1)) z := by
  rw [set_snoc (List.replicate k u) n k z u (by simp) hk, List.replicate_succ']
set_option maxHeartbeats 8000000 in
theorem distances_any (a : Option Addr) (A : List Nat) (c v t : Nat) (w : World) (hT : TabOk w) (hr : Rd maskF w a A) (hA : ∀ x ∈ A, x < 65536) (hAn : A.length ≤ 16) (hv : v < A.length) (ht : t < 2 ^ A.length) :
    Calls Tryd.prog 47 #[.slice a A.length c, .int .i64 v, .int .u32 t] w fun e w' => ∃ (D : List Int) (o : Value), e = .returned o ∧ Own 3 w' w.heap.size o (D.map (.int .i64)) ∧ D.length = A.length ∧ (∀ u, u < A.length → (∃ d : Nat, D.getD u 0 = d ∧ DistA A t v u d) ∨ (D.getD u 0 = -1 ∧ ¬ Leads A t v u)) ∧ Below w.heap.size w w' := by
  have RT := hid hT; have RA := hid hr; have HA := hid hA; clear hT hr hA
  have ht16 : t < 65536 := Nat.lt_of_lt_of_le ht (Nat.pow_le_pow_right (n := 2) (i := A.length) (j := 16) (by decide) hAn)
  have HTN := hid (fun u (hu : t.testBit u = true) => (show u < A.length by
    apply Classical.byContradiction
    intro hn
    have h2 : t < 2 ^ u := Nat.lt_of_lt_of_le ht (Nat.pow_le_pow_right (n := 2) (i := A.length) (j := u) (by decide) (by omega))
    rw [Nat.testBit_lt_two_pow h2] at hu; cases hu))
  clear ht
  have hvi : (v : Int) < (A.length : Int) := by omega
  go_enter Tryd.func47, Tryd.ntmps47
  go_wp2_with (at_make; refine law_make tIntsL _ rfl _ _ rfl A.length _ _ rfl rfl (by omega) ?_; intro w1 hown hb hsz)
  have OO := hid hown; have BB := hid hb; clear hown hb
  go_wp2
  go_loopw [8, 22] (fun _ x wr => ∃ k : Nat, k ≤ A.length ∧ x = .int .i64 k ∧ Own 3 wr w.heap.size (.slice (some ⟨w.heap.size, 0, none⟩) A.length A.length) (List.replicate k (.int .i64 (-1)) ++ List.replicate (A.length - k) (.int .i64 0)) ∧ Below w.heap.size w wr) (fun _ x _ => A.length - (intOf x).toNat)
  case atStart => exact ⟨0, Nat.zero_le _, rfl, by simpa using OO.out, BB.out⟩
  case round =>
    obtain ⟨k, hk, rfl, ho, hb⟩ := hrel
    have OM := hid ho; have BM := hid hb; clear ho hb
    by_cases hlt : k < A.length
    · have hki : (k : Int) < (A.length : Int) := by omega
      have hlen : (List.replicate k (Value.int .i64 (-1)) ++ List.replicate (A.length - k) (Value.int .i64 0)).length = A.length := by simp; omega
      have hc := OM.out.cellE k hlt
      obtain ⟨u0, hc⟩ := hc
      have hf := OM.out.free k
      have hst := OM.out.store k (by rw [hlen]; exact hlt) (.int .i64 (-1))
      rw [set_run _ _ _ _ hlt] at hst
      have HST := hid hst
      have HBS := hid (BM.out.setCell (p := ⟨w.heap.size, k, none⟩) (Nat.le_refl _) (.int .i64 (-1)))
      clear hst hlen OM BM
      go_wp2
      go_roundw
      case rel => exact ⟨k + 1, by omega, by go_num, HST.out, HBS.out⟩
      case measure => simp [intOf]; omega
    · obtain rfl : k = A.length := by omega
      have hmap : List.replicate A.length (Value.int .i64 (-1)) ++ List.replicate (A.length - A.length) (Value.int .i64 0) = (List.replicate A.length (-1 : Int)).map (Value.int .i64) := by simp
      rw [hmap] at OM
      have HST0 := hid (LayAt.start (A := A) (t := t) hv hAn)
      have hml : ((List.replicate A.length (-1 : Int)).map (Value.int .i64)).length = A.length := by simp
      generalize List.replicate A.length (-1 : Int) = D0 at *
      have hc := OM.out.cell v (by rw [hml]; exact hv)
      have hf := OM.out.free v
      have hst := OM.out.store v (by rw [hml]; exact hv) (.int .i64 0)
      rw [← List.map_set] at hst
      have OUT := hid hst
      have BUT := hid (BM.out.setCell (p := ⟨w.heap.size, v, none⟩) (Nat.le_refl _) (.int .i64 0))
      clear hst hmap OM BM
      go_wp2_with (go_at_call 41; refine (one_any v _ (by omega)).mono ?_; rintro e w' ⟨rfl, rfl⟩)
      go_loopw [9, 10, 11, 12, 14, 16] (fun fv lv sv _ _ _ wr => ∃ (f L S : Nat) (D : List Int), fv = .int .i64 f ∧ lv = .int .u32 L ∧ sv = .int .u32 S ∧ LayAt A t v A.length f L S D ∧ Own 3 wr w.heap.size (.slice (some ⟨w.heap.size, 0, none⟩) A.length A.length) (D.map (.int .i64)) ∧ Below w.heap.size w wr) (fun _ lv sv _ _ _ _ => (65536 - (intOf sv).toNat) + z01 (intOf lv).toNat)
      case atStart => exact ⟨1, 2 ^ v, 2 ^ v, _, rfl, by simp, by simp, HST0.out, OUT.out, BUT.out⟩
      case round =>
        obtain ⟨f, L, S, D, rfl, rfl, rfl, hlay, ho, hb⟩ := hrel
        have HLAY := hid hlay; have OM := hid ho; have BM := hid hb; clear ho hb
        have hL := hlay.ll; have hS := hlay.sl; have hfew := hlay.few; have hDl := hlay.len
        have hin := hid hlay.inn
        have hlayb := hid hlay.lay
        clear hlay
        by_cases h0 : L = 0
        · have d0 : ((L : Int) != 0) = false := by rw [h0]; rfl
          subst h0
          have HFIN := hid HLAY.out.done
          go_wp2
          go_ret
          exact ⟨D, _, rfl, OM.out, hDl, HFIN.out, BM.out⟩
        · have d0 : ((L : Int) != 0) = true := by simp; omega
          have RT1 := hid (RT.out.below BM.out (Nat.le_refl _))
          go_wp2_with fail
          refine (list_any L wr RT1.out hL).mono ?_
          rintro e w2 ⟨lv, rfl, ho, hb⟩
          obtain ⟨la, lc, rfl, hlr, _⟩ := ho.rd
          have RL := hid hlr; clear hlr ho
          have OM2 := hid (OM.out.past hb (Nat.le_refl _))
          have BM2 := hid (BM.out.trans (hb.mono BM.out.size))
          have RA2 := hid (RA.out.below BM2.out (Nat.le_refl _))
          have RT2 := hid (RT.out.below BM2.out (Nat.le_refl _))
          clear hb OM BM RT1
          have hml2 := mems_len L
          go_wp2
          go_loop [12, 14, 43] (fun nx _ x => ∃ (k N : Nat), k ≤ (mems L).length ∧ x = .int .i64 k ∧ nx = .int .u32 N ∧ NextTo A L k N) (fun _ _ x => (mems L).length - (intOf x).toNat)
          case atStart => exact ⟨0, 0, Nat.zero_le _, rfl, rfl, NextTo.zero A L⟩
          case round =>
            obtain ⟨k, N, hk, rfl, rfl, hst⟩ := hrel
            have HST := hid hst
            have hN := hst.1
            clear hst
            by_cases hlt2 : k < (mems L).length
            · obtain ⟨lb, lo, rfl, cl⟩ := RL.out k hlt2
              have hki : (k : Int) < ((mems L).length : Int) := by omega
              have hu := (mems_mem (show L < 4294967296 by omega)).1 (List.getElem_mem hlt2)
              have HSU := hid (fun x (hx : A.getD ((mems L)[k]).toNat 0 = x) (hw : x < 65536) => HST.out.succ hlt2 hx hw)
              generalize (mems L)[k] = y at *
              obtain ⟨n, rfl, hnb⟩ := hu
              have hn : n < A.length := hin.out n ((HLAY.out.seen n).2 ((hlayb.out n).1 hnb).1)
              clear hnb
              have hni : (n : Int) < (A.length : Int) := by omega
              have hAn2 := HA.out _ (List.getElem_mem hn)
              have hget : A.getD ((n : Int)).toNat 0 = A[n] := by rw [Int.toNat_natCast, List.getD_eq_getElem?_getD, List.getElem?_eq_getElem hn]; rfl
              have HS2 := hid (HSU.out _ hget hAn2)
              obtain ⟨ab, ao, haa, cn⟩ := RA2.out n hn
              have hatn := at_slice tNets haa A.length c n hn
              have HAA := hid haa; clear haa
              unfold maskF at cn
              clear hget
              generalize A[n] = X at *
              have hor := u32_or_nat N X (by omega) (by omega)
              go_wp2
              go_round
              case rel => exact ⟨k + 1, N ||| X, by omega, by go_num, rfl, HS2.out⟩
              case measure => simp [intOf]; omega
            · obtain rfl : k = (mems L).length := by omega
              have hand := u32_and_nat N t (by omega) (by omega)
              have hNt : N &&& t < 65536 := Nat.lt_of_le_of_lt Nat.and_le_right ht16
              have hdf := u32_dif (N &&& t) S (by omega) (by omega)
              have hl2 : dif (N &&& t) S < 65536 := Nat.lt_of_le_of_lt (dif_le _ _) hNt
              have hor := u32_or_nat S (dif (N &&& t) S) (by omega) (by omega)
              have HSTEP := hid (fun D2 (h : SetTo D (dif (N &&& t) S) f (mems (dif (N &&& t) S)).length D2) => HLAY.out.step h0 HTN.out HST.out h)
              have HB2 := hid (fun u (hu : (dif (N &&& t) S).testBit u = true) => (show u < A.length by
                rw [testBit_dif, Nat.testBit_and, Bool.and_eq_true, Bool.and_eq_true] at hu
                exact HTN.out u hu.1.2))
              have hMS := hid (show 65536 - (S ||| dif (N &&& t) S) + z01 (dif (N &&& t) S) < 65536 - S + z01 L by
                rw [z01_pos h0]
                unfold z01
                have hSle : S ≤ S ||| dif (N &&& t) S := Nat.left_le_or
                by_cases hz : dif (N &&& t) S = 0
                · rw [if_pos hz]; omega
                · rw [if_neg hz]
                  have hne : S ≠ S ||| dif (N &&& t) S := fun e => by
                    have hb := low_bit hz (show dif (N &&& t) S < 4294967296 by omega)
                    have hb2 : S.testBit (low (dif (N &&& t) S)) = true := by
                      have e2 := congrArg (fun m : Nat => m.testBit (low (dif (N &&& t) S))) e
                      simp only [Nat.testBit_or, hb, Bool.or_true] at e2
                      exact e2
                    rw [testBit_dif, hb2] at hb; simp at hb
                  omega)
              have hor16 : S ||| dif (N &&& t) S < 65536 := Nat.or_lt_two_pow (n := 16) hS hl2
              generalize dif (N &&& t) S = L2 at *
              generalize S ||| L2 = S2 at *
              go_wp2_with fail
              refine (list_any L2 w2 RT2.out hl2).mono ?_
              rintro e w3 ⟨lv2, rfl, ho, hb⟩
              obtain ⟨la2, lc2, rfl, hlr, _, _, _, hlb⟩ := ho.rd
              have RL2 := hid hlr; clear hlr ho
              have hBs := BM2.out.size
              have OM3 := hid (OM2.out.past hb (Nat.le_refl _))
              have hout := OM2.out.lt w.heap.size rfl
              have BM3 := hid (BM2.out.trans (hb.mono BM2.out.size))
              clear hb OM2 BM2
              have hml3 := mems_len L2
              have hDm : (D.map (Value.int .i64)).length = A.length := by simp [hDl]
              go_wp2
              go_loopw [16, 65] (fun _ x wq => ∃ (k : Nat) (D2 : List Int), k ≤ (mems L2).length ∧ x = .int .i64 k ∧ SetTo D L2 f k D2 ∧ Own 3 wq w.heap.size (.slice (some ⟨w.heap.size, 0, none⟩) A.length A.length) (D2.map (.int .i64)) ∧ Kept (fun g => g = w.heap.size) w3 wq ∧ Below w.heap.size w wq) (fun _ x _ => (mems L2).length - (intOf x).toNat)
              case atStart => exact ⟨0, D, Nat.zero_le _, rfl, SetTo.zero D L2 f, OM3.out, Kept.refl _ _, BM3.out⟩
              case round =>
                obtain ⟨k, D2, hk, rfl, hset, ho, hkp, hb⟩ := hrel
                have HSET := hid hset; have OQ := hid ho; have HKP := hid hkp; have BQ := hid hb; clear ho hkp hb
                have hD2l := hset.1
                clear hset
                by_cases hlt3 : k < (mems L2).length
                · have hki : (k : Int) < ((mems L2).length : Int) := by omega
                  obtain ⟨lb, lo, hla, cl⟩ := RL2.out k hlt3
                  have hlbb := (hlb lb lo hla).1
                  have clq := cellK HKP.out cl (by simp only; omega)
                  have hatl := at_slice tIntsL hla (mems L2).length lc2 k hlt3
                  have HLA := hid hla; clear hla
                  have hu := (mems_mem (show L2 < 4294967296 by omega)).1 (List.getElem_mem hlt3)
                  have HSU := hid (fun (m : Nat) (hm : (mems L2)[k] = (m : Int)) => HSET.out.succ hlt3 hm)
                  clear cl
                  generalize (mems L2)[k] = y at *
                  obtain ⟨n, rfl, hnb⟩ := hu
                  have hn := HB2.out n hnb
                  clear hnb
                  have HS2 := hid (HSU.out n rfl)
                  have hni : (n : Int) < (A.length : Int) := by omega
                  have hD2m : (D2.map (Value.int .i64)).length = A.length := by simp [hD2l, hDl]
                  have hc2 := OQ.out.cell n (by rw [hD2m]; exact hn)
                  have hf2 := OQ.out.free n
                  have hst := OQ.out.store n (by rw [hD2m]; exact hn) (.int .i64 (f : Int))
                  rw [← List.map_set] at hst
                  have OQ2 := hid hst
                  have BQ2 := hid (BQ.out.setCell (p := ⟨w.heap.size, n, none⟩) (Nat.le_refl _) (.int .i64 (f : Int)))
                  have HK2 := hid (HKP.out.setCell (p := ⟨w.heap.size, n, none⟩) rfl (.int .i64 (f : Int)))
                  clear hst OQ BQ HKP
                  go_wp2
                  go_roundw
                  case rel => exact ⟨k + 1, _, by omega, by go_num, HS2.out, OQ2.out, HK2.out, BQ2.out⟩
                  case measure => simp [intOf]; omega
                · obtain rfl : k = (mems L2).length := by omega
                  have HL2 := hid (HSTEP.out D2 HSET.out)
                  go_wp2
                  go_roundw
                  case rel => exact ⟨f + 1, L2, S2, D2, by go_num, rfl, rfl, HL2.out, OQ.out, BQ.out⟩
                  case measure =>
                    have := hMS.out
                    simp only [intOf, Int.toNat_natCast]
                    exact this
end
end
section
theorem ball_iff {g : List (List Int)} {s : List Int} (hs : SetP g s) {v : Nat} (hv : (v : Int) ∈ s) (d u : Nat) : BallA (g.map maskL) (maskL s) v d u ↔ Ball g s (v : Int) d (u : Int) := by
  have hg := hs.1
  have hbit : ∀ u : Nat, (maskL s).testBit u = true ↔ (u : Int) ∈ s := fun u => by rw [testBit_maskL s u (fun v hv => (hs.2.1 v hv).1)]; simp
  have hrow : ∀ x u : Nat, x < g.length → (((g.map maskL).getD x 0).testBit u = true ↔ (u : Int) ∈ row g (x : Int)) := by
    intro x u hx
    have e1 : (g.map maskL).getD x 0 = maskL (row g (x : Int)) := by
      rw [List.getD_eq_getElem?_getD, List.getElem?_map, List.getElem?_eq_getElem hx, row_nat _ _ hx]; rfl
    rw [e1, row_mask_bit hg x u hx]; simp
  revert u
  induction d with
  | zero =>
    intro u
    show u = v ↔ (u : Int) = (v : Int)
    omega
  | succ d ih =>
    intro u
    show (_ ∨ _) ↔ (_ ∨ _)
    constructor
    · rintro (h | ⟨h1, x, h2, h3⟩)
      · exact .inl ((ih u).1 h)
      · have hx : x < g.length := by
          apply Classical.byContradiction
          intro hn
          rw [List.getD_eq_getElem?_getD, List.getElem?_eq_none (by simp; omega)] at h3
          simp at h3
        exact .inr ⟨(hbit u).1 h1, (x : Int), (ih x).1 h2, (hrow x u hx).1 h3⟩
    · rintro (h | ⟨h1, x, h2, h3⟩)
      · exact .inl ((ih u).2 h)
      · have hx := hs.2.1 x (ball_in hv h2)
        obtain ⟨m, rfl⟩ := Int.eq_ofNat_of_zero_le hx.1
        exact .inr ⟨(hbit u).2 h1, m, (ih m).2 h2, (hrow m u (by omega)).2 h3⟩
/-- What the program's layers say is what the reference's search says. -/
theorem dist_far {g : List (List Int)} {s : List Int} (hs : SetP g s) {v : Nat} (hv : (v : Int) ∈ s) {D : List Int} (hl : D.length = g.length)
    (h : ∀ u, u < g.length → (∃ d : Nat, D.getD u 0 = d ∧ DistA (g.map maskL) (maskL s) v u d) ∨ (D.getD u 0 = -1 ∧ ¬ Leads (g.map maskL) (maskL s) v u)) : D = farL g s (v : Int) := by
  apply List.ext_getElem (by rw [hl, farL_len])
  intro u hu hu'
  have hug : u < g.length := by rw [← hl]; exact hu
  have e1 : (farL g s (v : Int))[u] = far g s (v : Int) (u : Int) := by simp [farL]
  rw [e1, ← getD_eq D u hu]
  rcases h u hug with ⟨d, h1, h2, h3⟩ | ⟨h1, h2⟩
  · rw [h1, far_eq ((ball_iff hs hv d u).1 h2) (fun e he => by
      apply Classical.byContradiction
      intro hn
      exact h3 e (by omega) ((ball_iff hs hv e u).2 he))]
  · rw [h1, far_none]
    rintro ⟨d, hd⟩
    exact h2 ⟨d, (ball_iff hs hv d u).2 hd⟩
def allL (n : Nat) : List Int := (List.range n).map fun i : Nat => (i : Int)
theorem allL_len (n : Nat) : (allL n).length = n := by simp [allL]
theorem allL_mem (n : Nat) (x : Int) : x ∈ allL n ↔ 0 ≤ x ∧ x < n := by
  unfold allL
  rw [List.mem_map]
  constructor
  · rintro ⟨i, hi, rfl⟩; rw [List.mem_range] at hi; omega
  · intro h; exact ⟨x.toNat, by rw [List.mem_range]; omega, by omega⟩
theorem allL_inc (n : Nat) : Inc n (allL n) := by
  refine ⟨fun x hx => (allL_mem n x).1 hx, ?_⟩
  unfold allL
  rw [List.pairwise_map]
  refine List.Pairwise.imp ?_ List.pairwise_lt_range
  intro a b h; omega
theorem allL_mask (n : Nat) : maskL (allL n) = 2 ^ n - 1 := by
  apply Nat.eq_of_testBit_eq
  intro i
  rw [testBit_maskL _ i (fun v hv => ((allL_mem n v).1 hv).1), Nat.testBit_two_pow_sub_one, decide_eq_decide, allL_mem]
  omega
theorem allL_succ (n : Nat) : allL (n + 1) = allL n ++ [(n : Int)] := by simp [allL, List.range_succ]
set_option maxHeartbeats 4000000 in
theorem l1All_any (n : Nat) (w : World) (hn : n ≤ 16) : Calls Tryd.prog 52 #[.int .i64 n] w (RetOwn 2 ((allL n).map (.int .i64)) w) := by
  have HO := hid (show Own 2 (w.alloc (.cells #[] 2)) w.heap.size (.slice (some ⟨w.heap.size, 0, none⟩) 0 0) [] from own_new 2 w [] (by decide))
  have HE0 := hid (alloc_below w (.cells #[] 2))
  go_enter Tryd.func52, Tryd.ntmps52
  go_wp2
  go_loopw [3, 4] (fun o x wr => ∃ k : Nat, k ≤ n ∧ x = .int .i64 k ∧ Own 2 wr w.heap.size o ((allL k).map (.int .i64)) ∧ Below w.heap.size w wr) (fun _ x _ => n - (intOf x).toNat)
  case atStart => exact ⟨0, Nat.zero_le _, rfl, HO.out, HE0.out⟩
  case round =>
    obtain ⟨k, hk, rfl, ho, hb⟩ := hrel
    have OM := hid ho; have LB := hid hb; clear ho hb
    by_cases hlt : k < n
    · have hki : (k : Int) < (n : Int) := by omega
      have hsz := LB.out.size
      have HS := hid (show (allL (k + 1)).map (Value.int .i64) = (allL k).map (Value.int .i64) ++ [.int .i64 (k : Int)] by rw [allL_succ, List.map_append]; rfl)
      have hxl : ((allL k).map (Value.int .i64)).length ≤ 16 := by rw [List.length_map, allL_len]; omega
      generalize (allL k).map (Value.int .i64) = XS at *
      go_wp2_with (at_builtin; refine law_push tI64 _ rfl _ _ rfl w.heap.size _ XS rfl OM.out _ _ rfl ?c0 rfl ?c1 ?c2 ?_)
      case c0 => simp
      case c1 => omega
      case c2 => exact hsz
      intro v' w' h1 h2
      have HN := hid h1
      have HBB := hid (LB.out.trans (grown_below h2 hsz (fun g hg => OM.out.ge g hg)))
      clear h1 h2
      go_wp2
      go_roundw
      case rel => exact ⟨k + 1, by omega, by go_num, by rw [HS.out]; exact HN.out, HBB.out⟩
      case measure => simp [intOf]; omega
    · obtain rfl : k = n := by omega
      go_wp2
      go_ret
      exact ⟨_, rfl, OM.out, LB.out⟩
theorem all_any (a : Option Addr) (n c : Nat) (w : World) (hn : n ≤ 16) : Calls Tryd.prog 48 #[.slice a n c] w fun e w' => e = .returned (.int .u32 ((2 ^ n - 1 : Nat) : Int)) ∧ w = w' := by
  have hp : 2 ^ n ≤ 65536 := Nat.pow_le_pow_right (n := 2) (i := n) (j := 16) (by decide) hn
  have hpos := Nat.two_pow_pos n
  go_enter Tryd.func48, Tryd.ntmps48
  go_wp2
  go_ret
  refine ⟨ret_int ?_, rfl⟩
  have e : (2 : Int) ^ n = ((2 ^ n : Nat) : Int) := by simp
  rw [e]
  generalize (2 ^ n : Nat) = p at *
  omega
noncomputable def distL (g : List (List Int)) (v : Int) : List Int := if VertP g v then farL g (allL g.length) v else []
theorem distL_len (g : List (List Int)) (v : Int) : (distL g v).length ≤ 1048576 := by
  unfold distL; split
  · rename_i h; rw [farL_len]; have := h.1.le; omega
  · simp
end
end Go.Proofs.YtdncmloajajiaaaDoor
