/- A vertex' bags stand in one run: the reference's. -/
import Derived.Test.YtalfbldkdlanoaaDoorRunM
import Derived.Test.YtalfbldkdlanoaaDoorIn
import Derived.Test.YtalfbldkdlanoaaDoorQuiet
namespace Go.Proofs.YtalfbldkdlanoaaDoor
open Go.RowKit
/-- Is v in bag number i? -/
noncomputable def inBag (g : List (List Int)) (v : Int) (i : Nat) : Bool := decide (v ∈ g.getD i [])
structure WholeP (g : List (List Int)) (v : Int) : Prop where
  some : ∃ i, i < g.length ∧ inBag g v i = true
  run : ∀ i j k, i ≤ j → j ≤ k → k < g.length → inBag g v i = true → inBag g v k = true → inBag g v j = true
noncomputable instance (g : List (List Int)) (v : Int) : Decidable (WholeP g v) := Classical.propDecidable _
/-- What the loop knows behind k bags. -/
structure RunAt (g : List (List Int)) (v : Int) (k : Nat) (first last : Int) (many : Nat) : Prop where
  cnt : many = cntR k (inBag g v)
  no : many = 0 → first = -1 ∧ last = -1
  yes : 0 < many → ∃ f l : Nat, first = f ∧ last = l ∧ f ≤ l ∧ l < k ∧ inBag g v f = true ∧ inBag g v l = true ∧ ∀ i, i < k → inBag g v i = true → f ≤ i ∧ i ≤ l
theorem RunAt.zero (g : List (List Int)) (v : Int) : RunAt g v 0 (-1) (-1) 0 := ⟨rfl, fun _ => ⟨rfl, rfl⟩, fun h => absurd h (Nat.lt_irrefl 0)⟩
theorem RunAt.skip {g : List (List Int)} {v : Int} {k many : Nat} {f l : Int} (h : RunAt g v k f l many) (hk : inBag g v k = false) : RunAt g v (k + 1) f l many := by
  refine ⟨by rw [cntR_succ, hk]; simpa using h.cnt, h.no, fun hp => ?_⟩
  obtain ⟨a, b, h1, h2, h3, h4, h5, h6, h7⟩ := h.yes hp
  refine ⟨a, b, h1, h2, h3, by omega, h5, h6, fun i hi hb => ?_⟩
  rcases Nat.lt_succ_iff_lt_or_eq.1 hi with h8 | rfl
  · exact h7 i h8 hb
  · rw [hk] at hb; cases hb
theorem cntR_zero {n : Nat} {P : Nat → Bool} (h : cntR n P = 0) (i : Nat) (hi : i < n) : P i = false := by
  unfold cntR at h
  have := List.eq_nil_of_length_eq_zero h
  rw [List.filter_eq_nil_iff] at this
  simpa using this i (List.mem_range.2 hi)
theorem RunAt.take {g : List (List Int)} {v : Int} {k many : Nat} {f l : Int} (h : RunAt g v k f l many) (hk : inBag g v k = true) : RunAt g v (k + 1) (if f < 0 then k else f) k (many + 1) := by
  refine ⟨by rw [cntR_succ, hk, h.cnt]; rfl, fun h0 => by omega, fun _ => ?_⟩
  rcases Nat.eq_zero_or_pos many with h0 | hp
  · obtain ⟨rfl, _⟩ := h.no h0
    refine ⟨k, k, by simp, rfl, Nat.le_refl _, by omega, hk, hk, fun i hi hb => ?_⟩
    rcases Nat.lt_succ_iff_lt_or_eq.1 hi with h8 | rfl
    · have := cntR_zero (by rw [← h.cnt]; exact h0) i h8
      rw [this] at hb; cases hb
    · omega
  · obtain ⟨a, b, rfl, h2, h3, h4, h5, h6, h7⟩ := h.yes hp
    refine ⟨a, k, by rw [if_neg (by omega)], rfl, by omega, by omega, h5, hk, fun i hi hb => ?_⟩
    rcases Nat.lt_succ_iff_lt_or_eq.1 hi with h8 | rfl
    · have := h7 i h8 hb; omega
    · omega
theorem RunAt.whole {g : List (List Int)} {v : Int} {many : Nat} {f l : Int} (h : RunAt g v g.length f l many) : WholeP g v ↔ 0 < many ∧ l - f + 1 = many := by
  rcases Nat.eq_zero_or_pos many with h0 | hp
  · constructor
    · rintro ⟨⟨i, hi, hb⟩, _⟩
      have := cntR_zero (by rw [← h.cnt]; exact h0) i hi
      rw [this] at hb; cases hb
    · omega
  · obtain ⟨a, b, rfl, rfl, h3, h4, h5, h6, h7⟩ := h.yes hp
    have key := cntR_run (P := inBag g v) h4 h3 h7
    rw [← h.cnt] at key
    constructor
    · intro hw
      have := key.2 fun i h1 h2 => hw.run a i b h1 h2 h4 h5 h6
      omega
    · rintro ⟨_, he⟩
      have hall := key.1 (by omega)
      refine ⟨⟨a, by omega, h5⟩, fun i j k hij hjk hk hi hkb => ?_⟩
      have h8 := h7 i (by omega) hi
      have h9 := h7 k hk hkb
      exact hall j (by omega) (by omega)
theorem nums_length_w (rs : List Row) : (nums rs).length = rs.length := by simp [nums]
theorem inBag_rs (rs : List Row) (v : Int) (k : Nat) (h : k < rs.length) : inBag (nums rs) v k = decide (v ∈ rs[k].z) := by
  unfold inBag nums
  simp [List.getD, h]
set_option maxHeartbeats 4000000 in
theorem l12Whole_b (a : Option Addr) (rs : List Row) (c : Nat) (v : Int) (w : World) (b : Bool) (hb : decide (WholeP (nums rs) v) = b) (hr : RdM w a rs) (hn : Small rs) :
    Calls Tryd.prog 125 #[.slice a rs.length c, .int .i64 v] w fun e w' => e = .returned (.bool b) ∧ w = w' := by
  have RA := hid hr; have HB := hid hb; clear hr hb
  have hn1 := hn.1
  go_enter Tryd.func125, Tryd.ntmps125
  go_wp2
  go_loop [5, 6, 7, 8] (fun x y m i => ∃ k many : Nat, ∃ f l : Int, k ≤ rs.length ∧ many ≤ k ∧ i = .int .i64 k ∧ m = .int .i64 many ∧ x = .int .i64 f ∧ y = .int .i64 l ∧ RunAt (nums rs) v k f l many) (fun _ _ _ i => rs.length - (intOf i).toNat)
  case atStart => exact ⟨0, 0, -1, -1, Nat.zero_le _, Nat.le_refl _, rfl, rfl, rfl, rfl, RunAt.zero _ _⟩
  case round =>
    obtain ⟨k, many, f, l, hk, hmk, rfl, rfl, rfl, rfl, hrun⟩ := hrel
    have HRUN := hid hrun; clear hrun
    by_cases hlt : k < rs.length
    · obtain ⟨b', o, rfl, hc, hok⟩ := RA.out.at k hlt
      have RK := hid hok.1; clear hok
      have hz := Nat.le_trans (hn.2 _ (List.getElem_mem hlt)) (show 1048576 ≤ 16777216 by decide)
      have HIB := hid (inBag_rs rs v k hlt)
      generalize rs[k] = r at *
      have hi0 : (k : Int) < (rs.length : Int) := by omega
      obtain ⟨b4, hb4⟩ : ∃ b4, decide (v ∈ r.z) = b4 := ⟨_, rfl⟩
      have H4 := hid hb4
      have HI2 := hid (show inBag (nums rs) v k = b4 by rw [HIB.out, hb4])
      clear hb4
      cases b4
      · have HS := hid (HRUN.out.skip HI2.out)
        go_wp2_with (first | (go_at_call 72; refine (l1Has_b _ _ _ _ _ _ H4.out RK.out hz).mono ?_; rintro e w' ⟨rfl, rfl⟩))
        go_round
        case rel => exact ⟨k + 1, many, f, l, by omega, by omega, by go_num, rfl, rfl, rfl, HS.out⟩
        case measure => simp [intOf]; omega
      · have HS := hid (HRUN.out.take HI2.out)
        by_cases hf : f < 0
        · rw [if_pos hf] at HS
          go_wp2_with (first | (go_at_call 72; refine (l1Has_b _ _ _ _ _ _ H4.out RK.out hz).mono ?_; rintro e w' ⟨rfl, rfl⟩))
          go_round
          case rel => exact ⟨k + 1, many + 1, k, k, by omega, by omega, by go_num, by go_num, rfl, rfl, HS.out⟩
          case measure => simp [intOf]; omega
        · rw [if_neg hf] at HS
          go_wp2_with (first | (go_at_call 72; refine (l1Has_b _ _ _ _ _ _ H4.out RK.out hz).mono ?_; rintro e w' ⟨rfl, rfl⟩))
          go_round
          case rel => exact ⟨k + 1, many + 1, f, k, by omega, by omega, by go_num, by go_num, rfl, rfl, HS.out⟩
          case measure => simp [intOf]; omega
    · obtain rfl : k = rs.length := by omega
      have hw := hid (RunAt.whole (g := nums rs) (v := v) (by rw [nums_length_w]; exact HRUN.out))
      rcases Nat.eq_zero_or_pos many with h0 | hp
      · have HFIN := hid (show ¬ WholeP (nums rs) v from fun h => by have := (hw.out.1 h).1; omega)
        subst h0
        go_wp2
        go_ret
        exact ⟨ret_bool (by rw [← HB.out]; simp [HFIN.out]), rfl⟩
      · obtain ⟨x, y, rfl, rfl, h3, h4, _⟩ := HRUN.out.yes hp
        have hd0 : decide (0 < many) = true := by simpa using hp
        have hd0i : decide ((0 : Int) < (many : Int)) = true := by rw [decide_eq_true_iff]; omega
        have hw1 : IntKind.i64.wrap ((y : Int) - (x : Int)) = (y : Int) - (x : Int) := IntWalk.i64_in _ (by omega)
        have hw2 : IntKind.i64.wrap ((y : Int) - (x : Int) + 1) = (y : Int) - (x : Int) + 1 := IntWalk.i64_in _ (by omega)
        obtain ⟨b5, hb5⟩ : ∃ b5, ((y : Int) - (x : Int) + 1 == (many : Int)) = b5 := ⟨_, rfl⟩
        have HFIN := hid (show b5 = b by
          rw [← HB.out, ← hb5, Bool.eq_iff_iff, decide_eq_true_iff, beq_iff_eq, hw.out]
          exact ⟨fun h => ⟨hp, h⟩, fun h => h.2⟩)
        clear hp
        go_wp2
        go_ret
        exact ⟨ret_bool HFIN.out, rfl⟩
end Go.Proofs.YtalfbldkdlanoaaDoor
