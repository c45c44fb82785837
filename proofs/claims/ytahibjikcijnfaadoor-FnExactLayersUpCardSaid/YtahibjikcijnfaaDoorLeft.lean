/- The neighbours that are left: the reference's; small facts of both sides. -/
import Derived.Test.YtahibjikcijnfaaDoorGone
import Derived.Test.YtahibjikcijnfaaDoorEdges
import Derived.Test.YtahibjikcijnfaaDoorQuiet
import Derived.Test.YtahibjikcijnfaaDoorSetOk
import Derived.Test.YtahibjikcijnfaaDoorDist
namespace Go.Proofs.YtahibjikcijnfaaDoor
open Go.RowKit
theorem ownB_rd {e : TypeId} {w : World} {B n c : Nat} {a : Option Addr} {zs : List Bool} (h : Own e w B (.slice a n c) (zs.map Value.bool)) : Rd Value.bool w a zs := by
  obtain ⟨a', c', h1, h2, _⟩ := h.rd
  obtain ⟨rfl, _, rfl⟩ := slice_inj h1
  exact h2
theorem memsN_get {S k : Nat} (hk : k < (mems S).length) : (mems S)[k] = (((memsN S)[k]'(by unfold mems at hk; simpa using hk) : Nat) : Int) := by simp [mems]
theorem mems_lenN (S : Nat) : (mems S).length = (memsN S).length := by simp [mems]
theorem one_p (v P : Nat) (w : World) (hv : v < 32) (hP : 2 ^ v = P) : Calls Tryd.prog 68 #[.int .i64 v] w fun e w' => e = .returned (.int .u32 (P : Int)) ∧ w = w' := by rw [← hP]; exact one_any v w hv
theorem all_p (a : Option Addr) (n c F : Nat) (w : World) (hn : n ≤ 16) (hF : 2 ^ n - 1 = F) : Calls Tryd.prog 112 #[.slice a n c] w fun e w' => e = .returned (.int .u32 (F : Int)) ∧ w = w' := by rw [← hF]; exact all_any a n c w hn
theorem tBools : SliceT Tryd.prog 125 4 (.bool false) := ⟨Tryd.underlying125, 1, by decide, by kernel_rfl, rfl⟩
set_option maxHeartbeats 4000000 in
theorem l7Left_any (a : Option Addr) (rs : List Row) (c v : Nat) (a2 : Option Addr) (S c2 : Nat) (w : World) (hr : RdM w a rs) (hn : Small rs) (hv : v < rs.length) (hin : ∀ x ∈ rs[v].z, 0 ≤ x ∧ x < rs.length) (hz : Rd Value.bool w a2 (goneL S rs.length)) :
    Calls Tryd.prog 129 #[.agg #[.slice a rs.length c], .int .i64 v, .slice a2 rs.length c2] w (RetOwn 2 ((leftL rs[v].z S).map (.int .i64)) w) := by
  have RG := hid hz; have HIN := hid hin
  have hn1 := hn.1
  have hzv := hn.2 _ (List.getElem_mem hv)
  obtain ⟨ab, ao, rfl, cv, hvok⟩ := hr.at v hv
  have RP := hid hvok.1
  clear hr hz hin hvok
  have hvi : (v : Int) < (rs.length : Int) := by omega
  have HLEN := hid (goneL_len S rs.length)
  generalize rs[v] = p at *
  generalize rs.length = n at *
  obtain ⟨w0, hw0⟩ : ∃ w0, w0 = (w.alloc (.cells #[.slice (some ⟨ab, ao, none⟩) n c] 28)) := ⟨_, rfl⟩
  have B0 := hid (show Below w.heap.size w w0 by rw [hw0]; exact ((Below.refl _ _).alloc (Nat.le_refl _) _))
  have c0 : w0.cell? ⟨w.heap.size, 0, none⟩ = some (.slice (some ⟨ab, ao, none⟩) n c) := by rw [hw0]; simp [go_sem]
  replace RP := hid (RP.out.below B0.out (Nat.le_refl _))
  replace RG := hid (RG.out.below B0.out (Nat.le_refl _))
  have HW := hid hw0; clear hw0
  replace cv := cellB B0.out cv (Nat.le_refl _)
  have hsz : w0.heap.size = w.heap.size + 1 := by rw [HW.out]; simp
  have HO := hid (show Own 2 (w0.alloc (.cells #[] 2)) w0.heap.size (.slice (some ⟨w0.heap.size, 0, none⟩) 0 0) [] from own_new 2 w0 [] (by decide))
  rw [hsz] at HO
  have HE0 := hid (alloc_below w0 (.cells #[] 2))
  go_enter Tryd.func129, Tryd.ntmps129
  go_wp2
  rw [← HW.out]
  go_loopw [7, 8] (fun o x wr => ∃ k : Nat, k ≤ p.z.length ∧ x = .int .i64 k ∧ Own 2 wr (w.heap.size + 1) o ((leftL (p.z.take k) S).map (.int .i64)) ∧ Below w0.heap.size w0 wr) (fun _ x _ => p.z.length - (intOf x).toNat)
  case atStart => exact ⟨0, Nat.zero_le _, rfl, HO.out, HE0.out⟩
  case round =>
    obtain ⟨k, hk, rfl, ho, hb⟩ := hrel
    have OI := hid ho; have LI := hid hb; clear ho
    replace RP := hid (RP.out.below hb (Nat.le_refl _))
    replace RG := hid (RG.out.below hb (Nat.le_refl _))
    replace B0 := hid (bon B0.out hb)
    replace cv := cellB hb cv (Nat.le_refl _)
    replace c0 := cellB hb c0 (Nat.le_refl _)
    clear hb
    by_cases hlt : k < p.z.length
    · obtain ⟨pb, po, hpa, ck⟩ := RP.out k hlt
      have HS := hid (leftL_succ p.z S k hlt)
      have hx := HIN.out _ (List.getElem_mem hlt)
      have hki : (k : Int) < (p.z.length : Int) := by omega
      have hlen : ((leftL (p.z.take k) S).map (Value.int .i64)).length ≤ 1048576 := by
        rw [List.length_map]; have := leftL_len (p.z.take k) S; rw [List.length_take] at this; omega
      have hatk := at_slice tI64 hpa p.z.length p.c k hlt
      have HPA := hid hpa; clear hpa
      generalize p.z[k] = x at *
      obtain ⟨m, rfl⟩ := Int.eq_ofNat_of_zero_le hx.1
      have hm : m < n := by omega
      have hmi : (m : Int) < (n : Int) := by omega
      obtain ⟨gb, go, hga, cg⟩ := RG.out m (by rw [HLEN.out]; exact hm)
      have hatg := at_slice tBools hga n c2 m hm
      have HGA := hid hga; clear hga
      rw [goneL_get] at cg
      rw [Int.toNat_natCast] at HS
      by_cases hb : S.testBit m = true
      · rw [hb] at cg
        rw [hb, if_pos rfl] at HS
        have hszr := LI.out.size
        go_wp2_with (at_builtin; refine law_push tI64 _ rfl _ _ rfl (w.heap.size + 1) _ ((leftL (p.z.take k) S).map (.int .i64)) rfl OI.out _ _ rfl ?c0 rfl ?c1 ?c2 ?_)
        case c0 => simp
        case c1 => omega
        case c2 => rw [← hsz]; exact hszr
        intro v' w' h1 h2
        have HN := hid h1
        have HBB := hid (LI.out.trans (grown_below h2 hszr (fun g hg => by rw [hsz]; exact OI.out.ge g hg)))
        clear h1 h2
        go_wp2
        go_roundw
        case rel => exact ⟨k + 1, by omega, by go_num, by rw [HS.out, List.map_append]; exact HN.out, HBB.out⟩
        case measure => simp [intOf]; omega
      · have hb2 : S.testBit m = false := by simpa using hb
        rw [hb2] at cg
        rw [if_neg hb, List.append_nil] at HS
        go_wp2
        go_roundw
        case rel => exact ⟨k + 1, by omega, by go_num, by rw [HS.out]; exact OI.out, LI.out⟩
        case measure => simp [intOf]; omega
    · obtain rfl : k = p.z.length := by omega
      go_wp2
      go_ret
      exact ⟨_, rfl, by have := OI.out; rw [List.take_length] at this; exact this.base (by omega), B0.out⟩
end Go.Proofs.YtahibjikcijnfaaDoor
