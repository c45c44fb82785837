/- The table of math/bits, and the least member of a set. -/
import Derived.Test.YtdncmloajajiaaaDoorMem3
import Derived.Test.YtdncmloajajiaaaDoorEdges
import Derived.Test.YtdncmloajajiaaaDoorMask
namespace Go.Proofs.YtdncmloajajiaaaDoor
open Go.RowKit
/-- The table lies as the text lays it. -/
def TabOk (w : World) : Prop := ∀ i, i < 32 → w.cell? ⟨0, i, none⟩ = some (.int .u8 ((Lib.deBruijn32tab.getD i 0 : Nat) : Int))
theorem TabOk.below {B : Nat} {w w' : World} (h : TabOk w) (hb : Below B w w') (hB : w.heap.size ≤ B) : TabOk w' := fun i hi => cellB hb (h i hi) hB
theorem TabOk.bel {W : World} (h : TabOk W) (p : Bel W) : TabOk p.w := h.below p.h (Nat.le_refl _)
theorem TabOk.drawn {w w' : World} (h : TabOk w) (d : Drawn w w') : TabOk w' := by obtain ⟨n, rfl⟩ := d; exact h
set_option maxHeartbeats 4000000 in
theorem tz32_any (m : Nat) (w : World) (hT : TabOk w) (h0 : m ≠ 0) (hm : m < 4294967296) : Calls Tryd.prog 96 #[.int .u32 m] w fun e w' => e = .returned (.int .i64 (low m : Nat)) ∧ Drawn w w' := by
  have HT := hid hT; clear hT
  obtain ⟨hlb, hlt⟩ := Lib.lowest_bit 32 m h0 hm
  have hdb := Lib.deBruijn32_at (low m) hlt
  have hz : ((m : Int) == 0) = false := by rw [beq_eq_false_iff_ne]; omega
  have hneg : IntKind.u32.wrap (-(m : Int)) = ((4294967296 - m : Nat) : Int) := by
    simp [IntKind.wrap, IntKind.bits, IntKind.signed]; omega
  have hand := u32_and_nat m (4294967296 - m) hm (by omega)
  have hidx : ((2 : Int) ^ Lib.ctz 32 m * 125613361 % 4294967296 / 134217728).toNat = 2 ^ low m * 125613361 % 4294967296 / 134217728 := by
    have e : ((2 : Int) ^ Lib.ctz 32 m * 125613361 % 4294967296 / 134217728) = ((2 ^ low m * 125613361 % 4294967296 / 134217728 : Nat) : Int) := by
      unfold low; simp
    rw [e, Int.toNat_natCast]
  have hcell := HT.out _ hdb.1
  rw [hdb.2, ← hidx] at hcell
  have hl8 : low m < 256 := by unfold low; omega
  clear hidx hdb
  have hcell2 : w.cell? ⟨0, ((2 : Int) ^ Lib.ctz 32 m * 125613361 % 4294967296 / 134217728).toNat, none⟩ = some (.int .u8 ((low m : Nat) : Int)) := hcell
  clear hcell
  go_enter Tryd.func96, Tryd.ntmps96
  go_wp2
  go_ret
  exact ⟨rfl, Drawn.refl _⟩
theorem least_any (m : Nat) (w : World) (hT : TabOk w) (h0 : m ≠ 0) (hm : m < 4294967296) : Calls Tryd.prog 80 #[.int .u32 m] w fun e w' => e = .returned (.int .i64 (low m : Nat)) ∧ Drawn w w' := by
  have HT := hid hT; clear hT
  go_enter Tryd.func80, Tryd.ntmps80
  go_wp2_with (go_at_call 96; refine (tz32_any m _ HT.out h0 hm).mono ?_; rintro e w' ⟨rfl, hd⟩)
  have HD := hid hd; clear hd
  go_wp2
  go_ret
  exact ⟨rfl, HD.out⟩
theorem tIntsL : SliceT Tryd.prog 62 3 (.int .i64 0) := ⟨Tryd.underlying62, 8, by decide, by kernel_rfl, rfl⟩
set_option maxHeartbeats 4000000 in
/-- A set's members, in order. -/
theorem list_any (m : Nat) (w : World) (hT : TabOk w) (hm : m < 65536) : Calls Tryd.prog 40 #[.int .u32 m] w (RetOwn 3 ((mems m).map (.int .i64)) w) := by
  have HT := hid hT; clear hT
  have HO := hid (show Own 3 (w.alloc (.cells #[] 3)) w.heap.size (.slice (some ⟨w.heap.size, 0, none⟩) 0 0) [] from own_new 3 w [] (by decide))
  have B0 := hid (alloc_below w (.cells #[] 3))
  go_enter Tryd.func40, Tryd.ntmps40
  go_wp2
  go_loopw [0, 3] (fun x o wr => ∃ (s : Nat) (done : List Int), x = .int .u32 s ∧ s < 65536 ∧ mems m = done ++ mems s ∧ Own 3 wr w.heap.size o (done.map (.int .i64)) ∧ Below w.heap.size w wr) (fun x _ _ => (intOf x).toNat)
  case atStart => exact ⟨m, [], rfl, hm, rfl, HO.out, B0.out⟩
  case round =>
    obtain ⟨s, done, rfl, hs, hmem, ho, hb⟩ := hrel
    have HM := hid hmem; have OI := hid ho; have BI := hid hb; clear hmem ho hb
    by_cases h0 : s = 0
    · have d0 : ((s : Int) != 0) = false := by rw [h0]; rfl
      have HFIN := hid (show done.map (Value.int .i64) = (mems m).map (Value.int .i64) by rw [HM.out, h0, mems_zero, List.append_nil])
      clear h0
      go_wp2
      go_ret
      exact ⟨_, rfl, by rw [← HFIN.out]; exact OI.out, BI.out⟩
    · have d0 : ((s : Int) != 0) = true := by simp; omega
      have hc := mems_cons h0 (show s < 4294967296 by omega)
      have HM2 := hid (show mems m = (done ++ [(low s : Int)]) ++ mems (s &&& (s - 1)) by rw [HM.out, hc]; simp)
      have hdl : done.length ≤ 32 := by
        have h1 := mems_len m
        rw [HM.out, List.length_append] at h1; omega
      have hTs := HT.out.below BI.out (Nat.le_refl _)
      have hw1 : IntKind.u32.wrap ((s : Int) - 1) = ((s - 1 : Nat) : Int) := by simp [IntKind.wrap, IntKind.bits, IntKind.signed]; omega
      have hand := u32_and_nat s (s - 1) (by omega) (by omega)
      have hlt2 : s &&& (s - 1) < 65536 := Nat.lt_of_le_of_lt Nat.and_le_left hs
      have hms : s &&& (s - 1) < s := Nat.lt_of_le_of_lt Nat.and_le_right (by omega)
      clear hc
      go_wp2_with fail
      refine (least_any s wr hTs h0 (by omega)).mono ?_
      rintro e w1 ⟨rfl, hd⟩
      have OI2 := hid (OI.out.past (hd.below _) (Nat.le_refl _))
      have BI2 := hid (BI.out.trans (hd.below _))
      clear hd OI BI hTs
      have hsz := BI2.out.size
      generalize low s = L at *
      go_wp2_with (at_builtin; refine law_push tIntsL _ rfl _ _ rfl w.heap.size _ (done.map (.int .i64)) rfl OI2.out _ _ rfl ?c0 rfl ?c1 ?c2 ?_)
      case c0 => simp
      case c1 => simp; omega
      case c2 => exact hsz
      intro v' w' h1 h2
      have HN := hid h1
      have HBB := hid (BI2.out.trans (grown_below h2 hsz (fun g hg => OI2.out.ge g hg)))
      clear h1 h2
      go_wp2
      go_roundw
      case rel => exact ⟨s &&& (s - 1), done ++ [(L : Int)], rfl, hlt2, HM2.out, by simpa using HN.out, HBB.out⟩
      case measure => simp [intOf]; omega
set_option maxHeartbeats 4000000 in
theorem wide_any (a : Option Addr) (zs : List Int) (c : Nat) (w : World) (hr : Rd (Value.int .i64) w a zs) (hn : zs.length ≤ 1048576) : Calls Tryd.prog 36 #[.slice a zs.length c] w (RetOwn 2 (zs.map (.int .i64)) w) := by
  have RA := hid hr; clear hr
  go_enter Tryd.func36, Tryd.ntmps36
  go_wp2_with (at_make; refine law_make0 tI64 _ rfl _ _ rfl zs.length _ _ rfl rfl (by omega) ?_; intro w1 hown hb hsz)
  have HO := hid hown; have B0 := hid hb; clear hown hb
  go_wp2
  go_loopw [3, 5, 11] (fun o _ i wr => ∃ k : Nat, k ≤ zs.length ∧ i = .int .i64 k ∧ Own 2 wr w.heap.size o ((zs.take k).map (.int .i64)) ∧ Below w.heap.size w wr) (fun _ _ i _ => zs.length - (intOf i).toNat)
  case atStart => exact ⟨0, Nat.zero_le _, rfl, HO.out, B0.out⟩
  case round =>
    obtain ⟨k, hk, rfl, ho, hb⟩ := hrel
    have OI := hid ho; have BI := hid hb; clear ho hb
    by_cases hlt : k < zs.length
    · obtain ⟨b, o, rfl, hc⟩ := (RA.out.below BI.out (Nat.le_refl _)) k hlt
      have HS := hid (List.take_succ_eq_append_getElem hlt)
      have hi0 : (k : Int) < (zs.length : Int) := by omega
      have hsz2 := BI.out.size
      generalize zs[k] = x at *
      go_wp2_with (at_builtin; refine law_push tI64 _ rfl _ _ rfl w.heap.size _ ((zs.take k).map (.int .i64)) rfl OI.out _ _ rfl ?c0 rfl ?c1 ?c2 ?_)
      case c0 => simp
      case c1 => simp; omega
      case c2 => exact hsz2
      intro v' w' h1 h2
      have HN := hid h1
      have HBB := hid (BI.out.trans (grown_below h2 hsz2 (fun g hg => OI.out.ge g hg)))
      clear h1 h2
      go_wp2
      go_roundw
      case rel => exact ⟨k + 1, by omega, by go_num, by rw [HS.out, List.map_append]; simpa using HN.out, HBB.out⟩
      case measure => simp [intOf]; omega
    · obtain rfl : k = zs.length := by omega
      rw [List.take_length] at OI
      go_wp2
      go_ret
      exact ⟨_, rfl, OI.out, BI.out⟩
end Go.Proofs.YtdncmloajajiaaaDoor
