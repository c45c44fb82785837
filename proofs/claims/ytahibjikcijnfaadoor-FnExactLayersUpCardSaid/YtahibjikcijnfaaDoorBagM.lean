/- The bags as sets: the program's. -/
import Derived.Test.YtahibjikcijnfaaDoorNets
namespace Go.Proofs.YtahibjikcijnfaaDoor
open Go.RowKit
theorem tVsets : SliceT Tryd.prog 66 70 (.int .u32 0) := ⟨Tryd.underlying66, 4, by decide, by kernel_rfl, rfl⟩
set_option maxHeartbeats 4000000 in
theorem bagMasks_m (a : Option Addr) (rs : List Row) (c : Nat) (w : World) (hl : rs.length ≤ 1048576) (hv : ∀ r ∈ rs, ∀ v ∈ r.z, 0 ≤ v ∧ v < 16) (hr : RdM w a rs) (hn : Small rs) :
    Calls Tryd.prog 90 #[.slice a rs.length c] w fun e w' => ∃ v, e = .returned v ∧ Own 70 w' w.heap.size v (netsV (nums rs)) ∧ Below w.heap.size w w' := by
  have HR := hid hr; have HV := hid hv; clear hr hv
  have B0 := hid (alloc_below w (.cells #[] 70))
  have HO := hid (show Own 70 (w.alloc (.cells #[] 70)) w.heap.size (.slice (some ⟨w.heap.size, 0, none⟩) 0 0) [] by
    simpa using (own_new 70 w [] (by decide)))
  go_enter Tryd.func90, Tryd.ntmps90
  go_wp2
  go_loopw [3, 5, 9] (fun o _ i wr => ∃ k, k ≤ rs.length ∧ i = .int .i64 (k : Nat) ∧ Own 70 wr w.heap.size o (netsV ((nums rs).take k)) ∧ Below w.heap.size w wr) (fun _ _ i _ => rs.length - (intOf i).toNat)
  case atStart => exact ⟨0, Nat.zero_le _, rfl, HO.out, B0.out⟩
  case round =>
    obtain ⟨k, hk, rfl, ho, hb⟩ := hrel
    have HOM := hid ho; have HB := hid hb; clear ho hb
    by_cases hlt : k < rs.length
    · obtain ⟨b', o, rfl, hc, hok⟩ := (HR.out.below HB.out (Nat.le_refl _)).at k hlt
      have HK := hid hok.1; clear hok
      have hz := hn.2 _ (List.getElem_mem hlt)
      have hnl : k < (nums rs).length := by rw [nums_length]; exact hlt
      have hzk : (nums rs)[k] = rs[k].z := by simp [nums]
      have HVK := hid (HV.out _ (List.getElem_mem hlt))
      have hs := netsV_snoc (nums rs) k hnl
      rw [hzk] at hs
      have HS := hid hs; clear hs hzk
      generalize rs[k] = r at *
      have hpl : (netsV ((nums rs).take k)).length ≤ 1048576 := by simp [netsV, nums_length]; omega
      have hBs := HB.out.size
      have HOA := hid HOM.out
      go_wp2_with (first | (go_at_call 126; refine (maskOf_any _ _ _ _ HK.out hz HVK.out).mono ?_; rintro e w' ⟨rfl, rfl⟩) | (at_builtin; refine law_push tVsets _ rfl _ _ rfl w.heap.size _ (netsV ((nums rs).take k)) rfl HOA.out _ _ rfl ?c0 rfl ?c1 ?c2 ?_))
      case c0 => simp
      case c1 => omega
      case c2 => omega
      intro v' w' h1 h2
      have HN := hid h1
      have HBB := hid (HB.out.trans (grown_below h2 hBs (fun g hg => HOA.out.ge g hg)))
      clear h1 h2 HOA HOM HB
      go_wp2
      go_roundw
      case rel => exact ⟨k + 1, by omega, by go_num, by rw [HS.out]; exact HN.out, HBB.out⟩
      case measure => simp [intOf]; omega
    · obtain rfl : k = rs.length := by omega
      have HE := hid (show (nums rs).take rs.length = nums rs from List.take_of_length_le (by rw [nums_length]; exact Nat.le_refl _))
      rw [HE.out] at HOM
      go_wp2
      go_ret
      exact ⟨_, rfl, HOM.out, HB.out⟩
theorem bagMasks_any (a : Option Addr) (rs : List Row) (c : Nat) (w : World) (hl : rs.length ≤ 16) (hv : ∀ r ∈ rs, ∀ v ∈ r.z, 0 ≤ v ∧ v < 16) (hr : RdM w a rs) (hn : Small rs) :
    Calls Tryd.prog 90 #[.slice a rs.length c] w fun e w' => ∃ v, e = .returned v ∧ Own 70 w' w.heap.size v (netsV (nums rs)) ∧ Below w.heap.size w w' := bagMasks_m a rs c w (by omega) hv hr hn
end Go.Proofs.YtahibjikcijnfaaDoor
