/- CodeOf: both. -/
import Derived.Test.YthdfkpinaidkkaaNets
namespace Go.Proofs.Ythdfkpinaidkkaa
open Go.RowKit
/-- The flags of v's pairs (u, v), u below k. -/
def codeRow (g : List (List Int)) (v k : Nat) : List Int := (List.range k).map fun u : Nat => if (v : Int) ∈ row g (u : Int) then 1 else 0
def codeTo (g : List (List Int)) (k : Nat) : List Int := (List.range k).flatMap fun v => codeRow g v v
theorem codeRow_succ (g : List (List Int)) (v k : Nat) : codeRow g v (k + 1) = codeRow g v k ++ [if (v : Int) ∈ row g (k : Int) then 1 else 0] := by simp [codeRow, List.range_succ]
theorem codeTo_succ (g : List (List Int)) (k : Nat) : codeTo g (k + 1) = codeTo g k ++ codeRow g k k := by simp [codeTo, List.range_succ]
theorem codeRow_len (g : List (List Int)) (v k : Nat) : (codeRow g v k).length = k := by simp [codeRow]
theorem codeTo_len (g : List (List Int)) : ∀ k, k ≤ 16 → (codeTo g k).length ≤ 16 * k
  | 0, _ => by simp [codeTo]
  | k + 1, h => by
    have := codeTo_len g k (by omega)
    rw [codeTo_succ, List.length_append, codeRow_len]
    omega
noncomputable def codeOr (g : List (List Int)) : List Int := if GOk g then codeTo g g.length else []
theorem codeOr_len (g : List (List Int)) : (codeOr g).length ≤ 1048576 := by
  unfold codeOr
  split
  · rename_i h
    have := codeTo_len g g.length h.le
    have := h.le
    omega
  · simp
theorem l1Flag_any (b : Bool) (w : World) : Calls Try.prog 44 #[.bool b] w fun e w' => e = .returned (.int .i64 (if b then 1 else 0)) ∧ w = w' := by
  cases b
  · go_enter Try.func44, Try.ntmps44
    go_wp2
    go_ret
    exact ⟨rfl, rfl⟩
  · go_enter Try.func44, Try.ntmps44
    go_wp2
    go_ret
    exact ⟨rfl, rfl⟩
theorem bonL {B : Nat} {w0 W W' : World} (h : Below B w0 W) (hb : Below W.heap.size W W') (hB : B ≤ w0.heap.size) : Below B w0 W' := h.trans (hb.mono (Nat.le_trans hB h.size))
set_option maxHeartbeats 4000000 in
theorem l4Code_any (a : Option Addr) (rs : List Row) (c : Nat) (w : World) (hg : GOk (nums rs)) (hr : RdM w a rs) (hn : Small rs) :
    Calls Try.prog 52 #[.agg #[.slice a rs.length c]] w (RetOwn 2 ((codeTo (nums rs) rs.length).map (.int .i64)) w) := by
  have h16 : rs.length ≤ 16 := by have := hg.le; rwa [nums_length] at this
  have RW := hid hr; clear hr hg
  have B0 := hid ((alloc_below w (.cells #[.slice a rs.length c] 27)).alloc (by simp) (.cells #[] 2))
  obtain ⟨w0, hw0⟩ : ∃ w0, w0 = (w.alloc (.cells #[.slice a rs.length c] 27)).alloc (.cells #[] 2) := ⟨_, rfl⟩
  rw [← hw0] at B0
  have HO := hid (show Own 2 w0 (w.heap.size + 1) (.slice (some ⟨w.heap.size + 1, 0, none⟩) 0 0) [] by
    rw [hw0]; simpa using (own_new 2 (w.alloc (.cells #[.slice a rs.length c] 27)) [] (by decide)))
  have c0 : w0.cell? ⟨w.heap.size, 0, none⟩ = some (.slice a rs.length c) := by rw [hw0]; simp [go_sem]
  have cw0 := c0
  have hz0 : w.heap.size + 1 ≤ w0.heap.size := by rw [hw0]; simp
  have HW := hid hw0; clear hw0
  go_enter Try.func52, Try.ntmps52
  go_wp2_with fail
  rw [← HW.out]
  go_loopw [3, 4, 5] (fun o x _ wr => ∃ v : Nat, v ≤ rs.length ∧ x = .int .i64 v ∧ Own 2 wr (w.heap.size + 1) o ((codeTo (nums rs) v).map (.int .i64)) ∧ Below (w.heap.size + 1) w0 wr) (fun _ x _ _ => rs.length - (intOf x).toNat)
  case atStart => exact ⟨0, Nat.zero_le _, rfl, HO.out, Below.refl _ _⟩
  case round =>
    obtain ⟨v, hv, rfl, ho, hb⟩ := hrel
    have OO := hid ho
    have LB := hid hb
    replace c0 := (hb.cell (p := ⟨w.heap.size, 0, none⟩) (by simp)).trans c0
    have BW := hid (B0.out.trans (hb.mono (by omega)))
    have RA := hid (RW.out.below BW.out (Nat.le_refl _))
    clear ho hb
    go_wp2_with fail
    refine (l1Size_any a rs c _ hn.1).mono ?_
    rintro e w1 ⟨rfl, hb⟩
    replace RA := hid (RA.out.below hb (Nat.le_refl _))
    replace OO := hid (OO.out.past hb (Nat.le_refl _))
    replace LB := hid (bonL LB.out hb hz0)
    replace c0 := cellB hb c0 (Nat.le_refl _)
    clear hb
    by_cases hlt : v < rs.length
    · go_wp2
      have HSUC := hid (codeTo_succ (nums rs) v)
      have HLEN := hid (codeTo_len (nums rs) v (by omega))
      go_loopw [3, 5] (fun o y wr => ∃ u : Nat, u ≤ v ∧ y = .int .i64 u ∧ Own 2 wr (w.heap.size + 1) o ((codeTo (nums rs) v ++ codeRow (nums rs) v u).map (.int .i64)) ∧ Below (w.heap.size + 1) w0 wr) (fun _ y _ => v - (intOf y).toNat)
      case atStart => exact ⟨0, Nat.zero_le _, rfl, by simpa [codeRow] using OO.out, LB.out⟩
      case round =>
        obtain ⟨u, hu, rfl, ho, hb⟩ := hrel
        have c0 := (hb.cell (p := ⟨w.heap.size, 0, none⟩) (by simp)).trans cw0
        have OI := hid ho
        have LI := hid hb
        have BW := hid (B0.out.trans (hb.mono (by omega)))
        have RA := hid (RW.out.below BW.out (Nat.le_refl _))
        clear ho hb
        by_cases hlu : u < v
        · obtain ⟨b4, hb4⟩ : ∃ b4, decide ((v : Int) ∈ row (nums rs) (u : Int)) = b4 := ⟨_, rfl⟩
          have H4 := hid hb4
          have HS := hid (show codeRow (nums rs) v (u + 1) = codeRow (nums rs) v u ++ [if b4 then 1 else 0] by
            rw [codeRow_succ, ← hb4]; by_cases h : (v : Int) ∈ row (nums rs) (u : Int) <;> simp [h])
          clear hb4
          cases b4
          · go_wp2_with fail
            refine (l1Edge_b a rs c u v _ _ (by omega) (by omega) H4.out RA.out hn).mono ?_
            rintro e w2 ⟨rfl, hb⟩
            replace RA := hid (RA.out.below hb (Nat.le_refl _))
            replace OI := hid (OI.out.past hb (Nat.le_refl _))
            replace LI := hid (bonL LI.out hb hz0)
            replace c0 := cellB hb c0 (Nat.le_refl _)
            clear hb
            have hlen : ((codeTo (nums rs) v ++ codeRow (nums rs) v u).map (Value.int .i64)).length ≤ 300 := by rw [List.length_map, List.length_append, codeRow_len]; have := HLEN.out; omega
            go_wp2_with (first | (go_at_call 44; refine (l1Flag_any _ _).mono ?_; rintro e w' ⟨rfl, rfl⟩) | (at_builtin; refine law_push tI64 _ rfl _ _ rfl (w.heap.size + 1) _ ((codeTo (nums rs) v ++ codeRow (nums rs) v u).map (.int .i64)) rfl OI.out _ _ rfl ?c0 rfl ?c1 ?c2 ?_))
            case c0 => simp
            case c1 => omega
            case c2 => have := LI.out.size; omega
            intro v' w' h1 h2
            have HN := hid h1
            have HBB := hid (LI.out.trans (grown_below h2 (by have := LI.out.size; omega) (fun g hg => OI.out.ge g hg)))
            clear h1 h2
            go_wp2
            go_roundw
            case rel => exact ⟨u + 1, by omega, by go_num, by rw [HS.out]; simpa using HN.out, HBB.out⟩
            case measure => simp [intOf]; omega
          · go_wp2_with fail
            refine (l1Edge_b a rs c u v _ _ (by omega) (by omega) H4.out RA.out hn).mono ?_
            rintro e w3 ⟨rfl, hb⟩
            replace RA := hid (RA.out.below hb (Nat.le_refl _))
            replace OI := hid (OI.out.past hb (Nat.le_refl _))
            replace LI := hid (bonL LI.out hb hz0)
            replace c0 := cellB hb c0 (Nat.le_refl _)
            clear hb
            have hlen : ((codeTo (nums rs) v ++ codeRow (nums rs) v u).map (Value.int .i64)).length ≤ 300 := by rw [List.length_map, List.length_append, codeRow_len]; have := HLEN.out; omega
            go_wp2_with (first | (go_at_call 44; refine (l1Flag_any _ _).mono ?_; rintro e w' ⟨rfl, rfl⟩) | (at_builtin; refine law_push tI64 _ rfl _ _ rfl (w.heap.size + 1) _ ((codeTo (nums rs) v ++ codeRow (nums rs) v u).map (.int .i64)) rfl OI.out _ _ rfl ?c0 rfl ?c1 ?c2 ?_))
            case c0 => simp
            case c1 => omega
            case c2 => have := LI.out.size; omega
            intro v' w' h1 h2
            have HN := hid h1
            have HBB := hid (LI.out.trans (grown_below h2 (by have := LI.out.size; omega) (fun g hg => OI.out.ge g hg)))
            clear h1 h2
            go_wp2
            go_roundw
            case rel => exact ⟨u + 1, by omega, by go_num, by rw [HS.out]; simpa using HN.out, HBB.out⟩
            case measure => simp [intOf]; omega
        · obtain rfl : u = v := by omega
          go_wp2
          go_roundw
          case rel => exact ⟨u + 1, by omega, by go_num, by rw [HSUC.out]; exact OI.out, LI.out⟩
          case measure => simp [intOf]; omega
    · obtain rfl : v = rs.length := by omega
      go_wp2
      go_ret
      exact ⟨_, rfl, OO.out.base (by omega), (B0.out.trans (LB.out.mono (by omega)))⟩
end Go.Proofs.Ythdfkpinaidkkaa
