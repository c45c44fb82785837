/- Each vertex' bags hold it and its neighbours: the program's. -/
import Derived.Test.YtalfbldkdlanoaaDoorBagM
import Derived.Test.YtalfbldkdlanoaaDoorCode2
import Derived.Test.YtalfbldkdlanoaaDoorDif
namespace Go.Proofs.YtalfbldkdlanoaaDoor
open Go.RowKit
/-- All that stands in a bag together with v. -/
noncomputable def togM (h : List (List Int)) (v : Nat) : Nat := h.foldl (fun m l => if (v : Int) ∈ l then m ||| maskL l else m) 0
theorem togM_take (h : List (List Int)) (v k : Nat) (hk : k < h.length) : togM (h.take (k + 1)) v = if (v : Int) ∈ h[k] then togM (h.take k) v ||| maskL h[k] else togM (h.take k) v := by
  unfold togM
  rw [List.take_succ_eq_append_getElem hk, List.foldl_append]; rfl
theorem togM_bit (h : List (List Int)) (v u : Nat) (hv : ∀ l ∈ h, ∀ x ∈ l, 0 ≤ x) : (togM h v).testBit u = true ↔ ∃ l ∈ h, (v : Int) ∈ l ∧ (u : Int) ∈ l := by
  have key : ∀ (h : List (List Int)) (m : Nat), (∀ l ∈ h, ∀ x ∈ l, 0 ≤ x) → ((h.foldl (fun m l => if (v : Int) ∈ l then m ||| maskL l else m) m).testBit u = true ↔ m.testBit u = true ∨ ∃ l ∈ h, (v : Int) ∈ l ∧ (u : Int) ∈ l) := by
    intro h
    induction h with
    | nil => intro m _; simp
    | cons l h ih =>
      intro m hv
      rw [List.foldl_cons, ih _ (fun l hl => hv l (List.mem_cons_of_mem _ hl))]
      have hb := testBit_maskL l u (hv l (List.mem_cons_self ..))
      by_cases hm : (v : Int) ∈ l
      · rw [if_pos hm, Nat.testBit_or, hb]
        simp only [Bool.or_eq_true, decide_eq_true_eq, List.mem_cons, exists_eq_or_imp, hm, true_and]
        constructor
        · rintro ((h1 | h1) | h1)
          · exact .inl h1
          · exact .inr (.inl h1)
          · exact .inr (.inr h1)
        · rintro (h1 | h1 | h1)
          · exact .inl (.inl h1)
          · exact .inl (.inr h1)
          · exact .inr h1
      · rw [if_neg hm]
        simp [hm]
  have := key h 0 hv
  unfold togM
  rw [this]; simp
/-- The rows are numbers under 16. -/
def In16 (h : List (List Int)) : Prop := ∀ l ∈ h, ∀ x ∈ l, 0 ≤ x ∧ x < 16
theorem In16.lt {h : List (List Int)} (hh : In16 h) {l : List Int} (hl : l ∈ h) : maskL l < 65536 := maskL_lt l 16 (hh l hl)
theorem togM_lt (h : List (List Int)) (v : Nat) (hh : In16 h) : togM h v < 65536 := by
  refine mask_lt _ 16 fun i hi => ?_
  obtain ⟨l, hl, _, h2⟩ := (togM_bit h v i (fun l hl x hx => (hh l hl x hx).1)).1 hi
  have := hh l hl _ h2; omega
theorem In16.take {h : List (List Int)} (hh : In16 h) (k : Nat) : In16 (h.take k) := fun l hl => hh l (List.mem_of_mem_take hl)
/-- Every vertex is in a bag, and each of its neighbours in one of its bags. -/
def CovP (g h : List (List Int)) : Prop := ∀ v, (hv : v < g.length) → (togM h v).testBit v = true ∧ dif (maskL g[v]) (togM h v) = 0
noncomputable instance (g h : List (List Int)) : Decidable (CovP g h) := Classical.propDecidable _
set_option maxHeartbeats 4000000 in
theorem coversEdges_b (a : Option Addr) (g : List (List Int)) (c : Nat) (a' : Option Addr) (h : List (List Int)) (c' : Nat) (w : World) (b : Bool) (hb : decide (CovP g h) = b) (hr : Rd netF w a g) (hg : g.length ≤ 16) (hgi : In16 g)
    (hq : Rd netF w a' h) (hh : h.length ≤ 16) (hhi : In16 h) :
    Calls Tryd.prog 127 #[.slice a g.length c, .slice a' h.length c'] w fun e w' => e = .returned (.bool b) ∧ w = w' := by
  have RA := hid hr; have RQ := hid hq; have HB := hid hb; have HGI := hid hgi; have HHI := hid hhi; clear hr hq hb hgi hhi
  go_enter Tryd.func127, Tryd.ntmps127
  go_wp2
  go_loop [5, 6, 7, 9, 12] (fun _ _ _ _ i => ∃ v : Nat, v ≤ g.length ∧ i = .int .i64 v ∧ ∀ j, (hj : j < g.length) → j < v → (togM h j).testBit j = true ∧ dif (maskL g[j]) (togM h j) = 0) (fun _ _ _ _ i => g.length - (intOf i).toNat)
  case atStart => exact ⟨0, Nat.zero_le _, rfl, fun j _ h => absurd h (Nat.not_lt_zero j)⟩
  case round =>
    obtain ⟨v, hv, rfl, hall⟩ := hrel
    have HALL := hid hall; clear hall
    by_cases hlt : v < g.length
    · obtain ⟨b', o, rfl, hc⟩ := RA.out v hlt
      have hml := HGI.out.lt (List.getElem_mem hlt)
      have HSTEP := hid (fun (h1 : (togM h v).testBit v = true) (h2 : dif (maskL g[v]) (togM h v) = 0) => (show ∀ j, (hj : j < g.length) → j < v + 1 → (togM h j).testBit j = true ∧ dif (maskL g[j]) (togM h j) = 0 from fun j hj hjk => by
        rcases Nat.lt_succ_iff_lt_or_eq.1 hjk with h3 | rfl
        · exact HALL.out j hj h3
        · exact ⟨h1, h2⟩))
      have HBAD := hid (fun (h1 : ¬ ((togM h v).testBit v = true ∧ dif (maskL g[v]) (togM h v) = 0)) => (show ¬ CovP g h from fun hh => h1 (hh v hlt)))
      have hi0 : (v : Int) < (g.length : Int) := by omega
      unfold netF at hc
      generalize maskL g[v] = N at *
      go_wp2
      go_loop [7, 9, 19] (fun m _ i => ∃ k : Nat, k ≤ h.length ∧ i = .int .i64 k ∧ m = .int .u32 (togM (h.take k) v : Nat)) (fun _ _ i => h.length - (intOf i).toNat)
      case atStart => exact ⟨0, Nat.zero_le _, rfl, rfl⟩
      case round =>
        obtain ⟨k, hk, rfl, rfl⟩ := hrel
        by_cases hlk : k < h.length
        · obtain ⟨b2, o2, rfl, hc2⟩ := RQ.out k hlk
          have hm2 := HHI.out.lt (List.getElem_mem hlk)
          have HT := hid (togM_take h v k hlk)
          have hbit := testBit_maskL h[k] v (fun x hx => (HHI.out _ (List.getElem_mem hlk) x hx).1)
          have htl := togM_lt (h.take k) v (HHI.out.take k)
          have hi1 : (k : Int) < (h.length : Int) := by omega
          unfold netF at hc2
          generalize togM (h.take k) v = T at *
          by_cases hm : (v : Int) ∈ h[k]
          · rw [if_pos hm] at HT
            have H4 := hid (show (maskL h[k]).testBit v = true by rw [hbit]; simpa using hm)
            have hor := hid (u32_or_nat T (maskL h[k]) (by omega) (by omega))
            clear hm hbit
            generalize maskL h[k] = M at *
            go_wp2_with (first | (go_at_call 160; refine (has_b _ _ _ _ H4.out (by omega) (by omega)).mono ?_; rintro e w' ⟨rfl, rfl⟩))
            go_round
            case rel => exact ⟨k + 1, by omega, by go_num, by rw [HT.out, ← hor.out]⟩
            case measure => simp [intOf]; omega
          · rw [if_neg hm] at HT
            have H4 := hid (show (maskL h[k]).testBit v = false by rw [hbit]; simpa using hm)
            clear hm hbit
            generalize maskL h[k] = M at *
            go_wp2_with (first | (go_at_call 160; refine (has_b _ _ _ _ H4.out (by omega) (by omega)).mono ?_; rintro e w' ⟨rfl, rfl⟩))
            go_round
            case rel => exact ⟨k + 1, by omega, by go_num, by rw [HT.out]⟩
            case measure => simp [intOf]; omega
        · obtain rfl : k = h.length := by omega
          rw [List.take_length]
          have htl := togM_lt h v HHI.out
          generalize togM h v = T at *
          obtain ⟨b4, hb4⟩ : ∃ b4, T.testBit v = b4 := ⟨_, rfl⟩
          have H4 := hid hb4
          cases b4
          · have HFIN := hid (HBAD.out (fun h => by rw [hb4] at h; cases h.1))
            clear hb4
            go_wp2_with (first | (go_at_call 160; refine (has_b _ _ _ _ H4.out (by omega) (by omega)).mono ?_; rintro e w' ⟨rfl, rfl⟩))
            go_ret
            exact ⟨ret_bool (dec_f HB.out HFIN.out), rfl⟩
          · have hdf := u32_dif N T (by omega) (by omega)
            by_cases hd : dif N T = 0
            · have d2 : (((dif N T : Nat) : Int) != 0) = false := by rw [hd]; rfl
              have HFIN := hid (HSTEP.out hb4 hd)
              clear hb4 hd
              go_wp2_with (first | (go_at_call 160; refine (has_b _ _ _ _ H4.out (by omega) (by omega)).mono ?_; rintro e w' ⟨rfl, rfl⟩))
              go_round
              case rel => exact ⟨v + 1, by omega, by go_num, HFIN.out⟩
              case measure => simp [intOf]; omega
            · have d2 : (((dif N T : Nat) : Int) != 0) = true := by simp; omega
              have HFIN := hid (HBAD.out (fun h => hd h.2))
              clear hb4 hd
              go_wp2_with (first | (go_at_call 160; refine (has_b _ _ _ _ H4.out (by omega) (by omega)).mono ?_; rintro e w' ⟨rfl, rfl⟩))
              go_ret
              exact ⟨ret_bool (dec_f HB.out HFIN.out), rfl⟩
    · obtain rfl : v = g.length := by omega
      have HFIN := hid (show CovP g h from fun j hj => HALL.out j hj hj)
      go_wp2
      go_ret
      exact ⟨ret_bool (dec_t HB.out HFIN.out), rfl⟩
end Go.Proofs.YtalfbldkdlanoaaDoor
