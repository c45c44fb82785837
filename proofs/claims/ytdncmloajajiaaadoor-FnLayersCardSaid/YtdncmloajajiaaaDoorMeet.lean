/- The meet of two lists: the reference's. -/
import Derived.Test.YtdncmloajajiaaaDoorIn
import Derived.Test.YtdncmloajajiaaaDoorEdges
import Derived.Test.YtdncmloajajiaaaDoorQuiet
namespace Go.Proofs.YtdncmloajajiaaaDoor
open Go.RowKit
noncomputable def meetL (A B : List Int) : List Int := A.filter fun v => decide (v ∈ B)
theorem meetL_succ (A B : List Int) (k : Nat) (h : k < A.length) : meetL (A.take (k + 1)) B = meetL (A.take k) B ++ if A[k] ∈ B then [A[k]] else [] := by
  unfold meetL
  rw [List.take_succ_eq_append_getElem h, List.filter_append]
  by_cases hm : A[k] ∈ B <;> simp [hm]
theorem meetL_len (A B : List Int) : (meetL A B).length ≤ A.length := List.length_filter_le _ _
set_option maxHeartbeats 4000000 in
theorem l8Meet_any (a a' : Option Addr) (zs ys : List Int) (c c' : Nat) (w : World) (hz : Rd (Value.int .i64) w a zs) (hy : Rd (Value.int .i64) w a' ys) (hn : zs.length ≤ 1048576) (hm : ys.length ≤ 1048576) :
    Calls Tryd.prog 97 #[.slice a zs.length c, .slice a' ys.length c'] w (RetOwn 2 ((meetL zs ys).map (.int .i64)) w) := by
  have RZ := hid hz; have RY := hid hy; clear hz hy
  have B0 := hid (alloc_below w (.cells #[] 2))
  have HO := hid (show Own 2 (w.alloc (.cells #[] 2)) w.heap.size (.slice (some ⟨w.heap.size, 0, none⟩) 0 0) [] by
    simpa using (own_new 2 w [] (by decide)))
  go_enter Tryd.func97, Tryd.ntmps97
  go_wp2
  go_loopw [5, 6] (fun o x wr => ∃ k : Nat, k ≤ zs.length ∧ x = .int .i64 k ∧ Own 2 wr w.heap.size o ((meetL (zs.take k) ys).map (.int .i64)) ∧ Below w.heap.size w wr) (fun _ x _ => zs.length - (intOf x).toNat)
  case atStart => exact ⟨0, Nat.zero_le _, rfl, HO.out, B0.out⟩
  case round =>
    obtain ⟨k, hk, rfl, ho, hb⟩ := hrel
    have OI := hid ho
    have LI := hid hb
    clear ho hb
    by_cases hlt : k < zs.length
    · obtain ⟨b', o', rfl, hc⟩ := (RZ.out.below LI.out (Nat.le_refl _)) k hlt
      have RY1 := hid (RY.out.below LI.out (Nat.le_refl _))
      have HS := hid (meetL_succ zs ys k hlt)
      have hlen : ((meetL (zs.take k) ys).map (Value.int .i64)).length ≤ 1048576 := by
        rw [List.length_map]; have := meetL_len (zs.take k) ys; rw [List.length_take] at this; omega
      have hi0 : (k : Int) < (zs.length : Int) := by omega
      generalize zs[k] = x at *
      by_cases hx : x ∈ ys
      · have H4 := hid (show decide (x ∈ ys) = true by simpa using hx)
        have HS2 := hid (show meetL (zs.take (k + 1)) ys = meetL (zs.take k) ys ++ [x] by rw [HS.out, if_pos hx])
        clear hx
        go_wp2_with (first | (go_at_call 70; refine (l1Has_b _ _ _ _ _ _ H4.out RY1.out (by omega)).mono ?_; rintro e w' ⟨rfl, rfl⟩) | (at_builtin; refine law_push tI64 _ rfl _ _ rfl w.heap.size _ ((meetL (zs.take k) ys).map (.int .i64)) rfl OI.out _ _ rfl ?c0 rfl ?c1 ?c2 ?_))
        case c0 => simp
        case c1 => omega
        case c2 => exact LI.out.size
        intro v' w' h1 h2
        have HN := hid h1
        have HBB := hid (LI.out.trans (grown_below h2 LI.out.size (fun g hg => OI.out.ge g hg)))
        clear h1 h2
        go_wp2
        go_roundw
        case rel => exact ⟨k + 1, by omega, by go_num, by rw [HS2.out, List.map_append]; exact HN.out, HBB.out⟩
        case measure => simp [intOf]; omega
      · have H4 := hid (show decide (x ∈ ys) = false by simpa using hx)
        have HS2 := hid (show meetL (zs.take (k + 1)) ys = meetL (zs.take k) ys by rw [HS.out, if_neg hx, List.append_nil])
        clear hx
        go_wp2_with (first | (go_at_call 70; refine (l1Has_b _ _ _ _ _ _ H4.out RY1.out (by omega)).mono ?_; rintro e w' ⟨rfl, rfl⟩))
        go_roundw
        case rel => exact ⟨k + 1, by omega, by go_num, by rw [HS2.out]; exact OI.out, LI.out⟩
        case measure => simp [intOf]; omega
    · obtain rfl : k = zs.length := by omega
      go_wp2
      go_ret
      exact ⟨_, rfl, by have := OI.out; rwa [List.take_length] at this, LI.out⟩
end Go.Proofs.YtdncmloajajiaaaDoor
