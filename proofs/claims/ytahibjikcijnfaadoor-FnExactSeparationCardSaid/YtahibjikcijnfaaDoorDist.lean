/- DistancesFrom: both. -/
import Derived.Test.YtahibjikcijnfaaDoorLay
namespace Go.Proofs.YtahibjikcijnfaaDoor
open Go.RowKit
theorem ball_iff {g : List (List Int)} {s : List Int} (hs : SetP g s) {v : Nat} (hv : (v : Int) ∈ s) (d u : Nat) : BallA (g.map maskL) (maskL s) v d u ↔ Ball g s (v : Int) d (u : Int) := by
  have hg := hs.1
  have hbit : ∀ u : Nat, (maskL s).testBit u = true ↔ (u : Int) ∈ s := fun u => by rw [testBit_maskL s u (fun v hv => (hs.2.1 v hv).1)]; simp
  have hrow : ∀ x u : Nat, x < g.length → (((g.map maskL).getD x 0).testBit u = true ↔ (u : Int) ∈ row g (x : Int)) := by
    intro x u hx
    have e1 : (g.map maskL).getD x 0 = maskL (row g (x : Int)) := by
      rw [List.getD_eq_getElem?_getD, List.getElem?_map, List.getElem?_eq_getElem hx, row_nat _ _ hx]; rfl
    rw [e1, row_mask_bit hg x u hx]; simp
  revert u
  induction d with
  | zero =>
    intro u
    show u = v ↔ (u : Int) = (v : Int)
    omega
  | succ d ih =>
    intro u
    show (_ ∨ _) ↔ (_ ∨ _)
    constructor
    · rintro (h | ⟨h1, x, h2, h3⟩)
      · exact .inl ((ih u).1 h)
      · have hx : x < g.length := by
          apply Classical.byContradiction
          intro hn
          rw [List.getD_eq_getElem?_getD, List.getElem?_eq_none (by simp; omega)] at h3
          simp at h3
        exact .inr ⟨(hbit u).1 h1, (x : Int), (ih x).1 h2, (hrow x u hx).1 h3⟩
    · rintro (h | ⟨h1, x, h2, h3⟩)
      · exact .inl ((ih u).2 h)
      · have hx := hs.2.1 x (ball_in hv h2)
        obtain ⟨m, rfl⟩ := Int.eq_ofNat_of_zero_le hx.1
        exact .inr ⟨(hbit u).2 h1, m, (ih m).2 h2, (hrow m u (by omega)).2 h3⟩
/-- What the program's layers say is what the reference's search says. -/
theorem dist_far {g : List (List Int)} {s : List Int} (hs : SetP g s) {v : Nat} (hv : (v : Int) ∈ s) {D : List Int} (hl : D.length = g.length)
    (h : ∀ u, u < g.length → (∃ d : Nat, D.getD u 0 = d ∧ DistA (g.map maskL) (maskL s) v u d) ∨ (D.getD u 0 = -1 ∧ ¬ Leads (g.map maskL) (maskL s) v u)) : D = farL g s (v : Int) := by
  apply List.ext_getElem (by rw [hl, farL_len])
  intro u hu hu'
  have hug : u < g.length := by rw [← hl]; exact hu
  have e1 : (farL g s (v : Int))[u] = far g s (v : Int) (u : Int) := by simp [farL]
  rw [e1, ← getD_eq D u hu]
  rcases h u hug with ⟨d, h1, h2, h3⟩ | ⟨h1, h2⟩
  · rw [h1, far_eq ((ball_iff hs hv d u).1 h2) (fun e he => by
      apply Classical.byContradiction
      intro hn
      exact h3 e (by omega) ((ball_iff hs hv e u).2 he))]
  · rw [h1, far_none]
    rintro ⟨d, hd⟩
    exact h2 ⟨d, (ball_iff hs hv d u).2 hd⟩
def allL (n : Nat) : List Int := (List.range n).map fun i : Nat => (i : Int)
theorem allL_len (n : Nat) : (allL n).length = n := by simp [allL]
theorem allL_mem (n : Nat) (x : Int) : x ∈ allL n ↔ 0 ≤ x ∧ x < n := by
  unfold allL
  rw [List.mem_map]
  constructor
  · rintro ⟨i, hi, rfl⟩; rw [List.mem_range] at hi; omega
  · intro h; exact ⟨x.toNat, by rw [List.mem_range]; omega, by omega⟩
theorem allL_inc (n : Nat) : Inc n (allL n) := by
  refine ⟨fun x hx => (allL_mem n x).1 hx, ?_⟩
  unfold allL
  rw [List.pairwise_map]
  refine List.Pairwise.imp ?_ List.pairwise_lt_range
  intro a b h; omega
theorem allL_mask (n : Nat) : maskL (allL n) = 2 ^ n - 1 := by
  apply Nat.eq_of_testBit_eq
  intro i
  rw [testBit_maskL _ i (fun v hv => ((allL_mem n v).1 hv).1), Nat.testBit_two_pow_sub_one, decide_eq_decide, allL_mem]
  omega
theorem allL_succ (n : Nat) : allL (n + 1) = allL n ++ [(n : Int)] := by simp [allL, List.range_succ]
set_option maxHeartbeats 4000000 in
theorem l1All_any (n : Nat) (w : World) (hn : n ≤ 16) : Calls Tryd.prog 116 #[.int .i64 n] w (RetOwn 2 ((allL n).map (.int .i64)) w) := by
  have HO := hid (show Own 2 (w.alloc (.cells #[] 2)) w.heap.size (.slice (some ⟨w.heap.size, 0, none⟩) 0 0) [] from own_new 2 w [] (by decide))
  have HE0 := hid (alloc_below w (.cells #[] 2))
  go_enter Tryd.func116, Tryd.ntmps116
  go_wp2
  go_loopw [3, 4] (fun o x wr => ∃ k : Nat, k ≤ n ∧ x = .int .i64 k ∧ Own 2 wr w.heap.size o ((allL k).map (.int .i64)) ∧ Below w.heap.size w wr) (fun _ x _ => n - (intOf x).toNat)
  case atStart => exact ⟨0, Nat.zero_le _, rfl, HO.out, HE0.out⟩
  case round =>
    obtain ⟨k, hk, rfl, ho, hb⟩ := hrel
    have OM := hid ho; have LB := hid hb; clear ho hb
    by_cases hlt : k < n
    · have hki : (k : Int) < (n : Int) := by omega
      have hsz := LB.out.size
      have HS := hid (show (allL (k + 1)).map (Value.int .i64) = (allL k).map (Value.int .i64) ++ [.int .i64 (k : Int)] by rw [allL_succ, List.map_append]; rfl)
      have hxl : ((allL k).map (Value.int .i64)).length ≤ 16 := by rw [List.length_map, allL_len]; omega
      generalize (allL k).map (Value.int .i64) = XS at *
      go_wp2_with (at_builtin; refine law_push tI64 _ rfl _ _ rfl w.heap.size _ XS rfl OM.out _ _ rfl ?c0 rfl ?c1 ?c2 ?_)
      case c0 => simp
      case c1 => omega
      case c2 => exact hsz
      intro v' w' h1 h2
      have HN := hid h1
      have HBB := hid (LB.out.trans (grown_below h2 hsz (fun g hg => OM.out.ge g hg)))
      clear h1 h2
      go_wp2
      go_roundw
      case rel => exact ⟨k + 1, by omega, by go_num, by rw [HS.out]; exact HN.out, HBB.out⟩
      case measure => simp [intOf]; omega
    · obtain rfl : k = n := by omega
      go_wp2
      go_ret
      exact ⟨_, rfl, OM.out, LB.out⟩
theorem all_any (a : Option Addr) (n c : Nat) (w : World) (hn : n ≤ 16) : Calls Tryd.prog 112 #[.slice a n c] w fun e w' => e = .returned (.int .u32 ((2 ^ n - 1 : Nat) : Int)) ∧ w = w' := by
  have hp : 2 ^ n ≤ 65536 := Nat.pow_le_pow_right (n := 2) (i := n) (j := 16) (by decide) hn
  have hpos := Nat.two_pow_pos n
  go_enter Tryd.func112, Tryd.ntmps112
  go_wp2
  go_ret
  refine ⟨ret_int ?_, rfl⟩
  have e : (2 : Int) ^ n = ((2 ^ n : Nat) : Int) := by simp
  rw [e]
  generalize (2 ^ n : Nat) = p at *
  omega
noncomputable def distL (g : List (List Int)) (v : Int) : List Int := if VertP g v then farL g (allL g.length) v else []
theorem distL_len (g : List (List Int)) (v : Int) : (distL g v).length ≤ 1048576 := by
  unfold distL; split
  · rename_i h; rw [farL_len]; have := h.1.le; omega
  · simp
end Go.Proofs.YtahibjikcijnfaaDoor
