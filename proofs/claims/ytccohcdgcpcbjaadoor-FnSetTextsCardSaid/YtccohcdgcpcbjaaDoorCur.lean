/- The reference's cursor over the bytes of a draw, and numbers drawn from it. -/
import Derived.Test.YtccohcdgcpcbjaaDoorOpen
import Derived.Test.YtccohcdgcpcbjaaDoorGr
import Derived.Test.YtccohcdgcpcbjaaDoorMem3
import Derived.Test.YtccohcdgcpcbjaaDoorEdges
import Derived.Deep.RegionHeld3
import Derived.StillTailTactics
import Derived.Laws.Bits128
namespace Go.Proofs.YtccohcdgcpcbjaaDoor
open Go.RowKit
section
/-- The cursor: a block with the code, the place in it and a number. -/
def CurB (w : World) (g : Nat) (a : Option Addr) (n c i : Nat) (h : Int) : Prop := w.heap[g]? = some (.cells #[.slice a n c, .int .i64 (i : Nat), .int .i64 h] 76 (0, 0))
theorem CurB.lt {w : World} {g n c i : Nat} {a : Option Addr} {h : Int} (hd : CurB w g a n c i h) : g < w.heap.size := (Array.getElem?_eq_some_iff.1 hd).1
theorem CurB.past {w w' : World} {g n c i : Nat} {a : Option Addr} {h : Int} (hd : CurB w g a n c i h) (hb : Below w.heap.size w w') : CurB w' g a n c i h := (hb.block g hd.lt).trans hd
theorem CurB.c0 {w : World} {g n c i : Nat} {a : Option Addr} {h : Int} (hd : CurB w g a n c i h) : w.cell? ⟨g, 0, none⟩ = some (.slice a n c) := by simp [World.cell?, show w.heap[g]? = _ from hd]
theorem CurB.c1 {w : World} {g n c i : Nat} {a : Option Addr} {h : Int} (hd : CurB w g a n c i h) : w.cell? ⟨g, 1, none⟩ = some (.int .i64 (i : Nat)) := by simp [World.cell?, show w.heap[g]? = _ from hd]
theorem CurB.c2 {w : World} {g n c i : Nat} {a : Option Addr} {h : Int} (hd : CurB w g a n c i h) : w.cell? ⟨g, 2, none⟩ = some (.int .i64 h) := by simp [World.cell?, show w.heap[g]? = _ from hd]
theorem CurB.f {w : World} {g n c i : Nat} {a : Option Addr} {h : Int} (hd : CurB w g a n c i h) (k : Nat) : w.frozen? ⟨g, k, none⟩ = false := by simp [World.frozen?, show w.heap[g]? = _ from hd]
theorem CurB.put1 {w : World} {g n c i : Nat} {a : Option Addr} {h : Int} (hd : CurB w g a n c i h) (j : Nat) : CurB (w.setCell ⟨g, 1, none⟩ (.int .i64 (j : Nat))) g a n c j h := by
  unfold CurB at *
  simp only [World.setCell, Array.getElem?_modify, hd]
  simp
theorem CurB.put2 {w : World} {g n c i : Nat} {a : Option Addr} {h : Int} (hd : CurB w g a n c i h) (h2 : Int) : CurB (w.setCell ⟨g, 2, none⟩ (.int .i64 h2)) g a n c i h2 := by
  unfold CurB at *
  simp only [World.setCell, Array.getElem?_modify, hd]
  simp
theorem CurB.ne {w : World} {g n c i b o : Nat} {a : Option Addr} {h z : Int} (hd : CurB w g a n c i h) (hc : w.cell? ⟨b, o, none⟩ = some (.int .u8 z)) : b ≠ g := by
  intro e
  subst e
  have hh : w.heap[b]? = some (.cells #[.slice a n c, .int .i64 (i : Nat), .int .i64 h] 76 (0, 0)) := hd
  simp only [World.cell?, hh] at hc
  match o, hc with
  | 0, hc => simp at hc
  | 1, hc => simp at hc
  | 2, hc => simp at hc
  | o + 3, hc => simp at hc
/-- The cursor lies at g, the code below it. -/
def Cur (w : World) (g : Nat) : Prop := ∃ (a : Option Addr) (n c i : Nat) (h : Int) (zs : List Int), CurB w g a n c i h ∧ Rd (Value.int .u8) w a zs ∧ zs.length = n ∧ n ≤ 4096 ∧ ∀ ad, a = some ad → 0 < n → ad.block < g
theorem Cur.lt {w : World} {g : Nat} (h : Cur w g) : g < w.heap.size := by
  obtain ⟨a, n, c, i, h, zs, hd, _⟩ := h; exact hd.lt
theorem Cur.keep {S : Nat → Prop} {w w' : World} {g : Nat} (h : Cur w g) (k : Kept S w w') (hS : ∀ j, j ≤ g → ¬ S j) : Cur w' g := by
  obtain ⟨a, n, c, i, h, zs, hd, hr, hl, hn, hb⟩ := h
  refine ⟨a, n, c, i, h, zs, (k.block g hd.lt (hS g (Nat.le_refl _))).trans hd, ?_, hl, hn, hb⟩
  intro j hj
  obtain ⟨b, o, hab, cz⟩ := hr j hj
  refine ⟨b, o, hab, cellK k cz (hS b ?_)⟩
  have := hb _ hab (by omega)
  simp at this; omega
theorem Cur.past {w w' : World} {g B : Nat} (h : Cur w g) (hb : Below B w w') (hB : w.heap.size ≤ B) : Cur w' g :=
  h.keep (S := fun j => w.heap.size ≤ j) ⟨hb.os, hb.tape, hb.output, hb.size, fun k hk _ => hb.block k (by omega)⟩ (fun j hj hn => by have := h.lt; omega)
theorem i64_and255 (n : Int) : bits .and .i64 n 255 = n % 256 := by
  have h127 : (BitVec.ofInt 64 255).toNat = 2 ^ 8 - 1 := by decide
  have key : (BitVec.ofInt 64 n &&& BitVec.ofInt 64 255).toNat = (n % ((2 ^ 64 : Nat) : Int)).toNat % 2 ^ 8 := by
    rw [BitVec.toNat_and, BitVec.toNat_ofInt, h127, Nat.and_two_pow_sub_one_eq_mod]
  show IntKind.i64.wrap ((BitVec.ofInt 64 n &&& BitVec.ofInt 64 255).toNat : Nat) = n % 256
  rw [key, IntKind.wrap_i64]
  omega
/-- A number below m has been drawn. -/
def NPost (g m : Nat) (w : World) (e : Ending) (w' : World) : Prop := ∃ x : Nat, e = .returned (.int .i64 (x : Nat)) ∧ x < m ∧ Cur w' g ∧ Kept (fun k => k = g) w w'
/-- A number has been drawn. -/
def IPost (g : Nat) (w : World) (e : Ending) (w' : World) : Prop := ∃ x : Int, e = .returned (.int .i64 x) ∧ Cur w' g ∧ Kept (fun k => k = g) w w'
/-- A truth value has been drawn. -/
def TPost (g : Nat) (w : World) (e : Ending) (w' : World) : Prop := ∃ b : Bool, e = .returned (.bool b) ∧ Cur w' g ∧ Kept (fun k => k = g) w w'
theorem rdK {w w' : World} {g n : Nat} {a : Option Addr} {zs : List Int} (hb : ∀ ad, a = some ad → 0 < n → ad.block < g) (hr : Rd (Value.int .u8) w a zs) (hl : zs.length = n) (hk : Kept (fun k => k = g) w w') : Rd (Value.int .u8) w' a zs := by
  intro j hj
  obtain ⟨b, o, hab, cz⟩ := hr j hj
  refine ⟨b, o, hab, cellK hk cz ?_⟩
  have := hb _ hab (by omega)
  simp at this
  show ¬ b = g
  omega
set_option maxHeartbeats 1000000 in
theorem l1Byte_any (g : Nat) (w : World) (hc : Cur w g) : Calls Tryd.prog 74 #[.pointer (some ⟨g, 0, none⟩)] w (NPost g 256 w) := by
  obtain ⟨a, n, c, i, h, zs, hd, hr, hl, hn, hb⟩ := hc
  have DB := hid hd; have RZ := hid hr; have HLN := hid hl; have HB := hid hb
  have c0 := hd.c0
  have c1 := hd.c1
  have c2 := hd.c2
  have f2 := hd.f 2
  clear hr hd hl hb
  have hA : ∀ n : Int, bits .and .i64 n 255 = n % 256 := i64_and255
  go_enter Tryd.func74, Tryd.ntmps74
  go_wp2
  have CB2 := hid (DB.out.put2 (wrap64 (wrap64 (h * 6364136223846793005) + 1442695040888963407)))
  have K2 := hid (Kept.setCell (S := fun k => k = g) (Kept.refl _ w) (p := ⟨g, 2, none⟩) rfl (.int .i64 (wrap64 (wrap64 (h * 6364136223846793005) + 1442695040888963407))))
  generalize wrap64 (wrap64 (h * 6364136223846793005) + 1442695040888963407) = h2 at *
  generalize w.setCell ⟨g, 2, none⟩ (.int .i64 h2) = w5 at *
  clear c0 c1 c2 f2
  have c0 := CB2.out.c0
  have c1 := CB2.out.c1
  have c2 := CB2.out.c2
  have BL := hid (Below.refl w5.heap.size w5)
  by_cases hin : i < n
  · have hii : (i : Int) < (n : Int) := by omega
    have hd1 : decide (i < n) = true := by rw [decide_eq_true_iff]; exact hin
    obtain ⟨b, o, hab, cz⟩ := RZ.out i (by rw [HLN.out]; exact hin)
    subst hab
    have hbg : b ≠ g := by
      have := HB.out _ rfl (by omega)
      simp at this; omega
    have hil : i < zs.length := by rw [HLN.out]; exact hin
    replace cz := cellK K2.out cz hbg
    generalize zs[i] = z at *
    clear hil
    have qc0 := fun (p : Bel _) => cellB p.h c0 (Nat.le_refl _)
    have qc1 := fun (p : Bel _) => cellB p.h c1 (Nat.le_refl _)
    have qc2 := fun (p : Bel _) => cellB p.h c2 (Nat.le_refl _)
    have qcz := fun (p : Bel _) => cellB p.h cz (Nat.le_refl _)
    refine wp_quiet_b (by kernel_rfl) (by kernel_rfl) ?_
    repeat (go_big_quiet_step (fail))
    refine wpQuiet_nil ?_
    intro _ hw'
    obtain ⟨⟨w1, hb⟩, rfl⟩ := hw'
    clear qc0 qc1 qc2 qcz
    replace BL := hid (bon BL.out hb)
    replace c0 := cellB hb c0 (Nat.le_refl _)
    replace c1 := cellB hb c1 (Nat.le_refl _)
    replace c2 := cellB hb c2 (Nat.le_refl _)
    replace cz := cellB hb cz (Nat.le_refl _)
    clear hb
    go_wp2_with fail
    have qc0 := fun (p : Bel _) => cellB p.h c0 (Nat.le_refl _)
    have qc1 := fun (p : Bel _) => cellB p.h c1 (Nat.le_refl _)
    have qc2 := fun (p : Bel _) => cellB p.h c2 (Nat.le_refl _)
    have qcz := fun (p : Bel _) => cellB p.h cz (Nat.le_refl _)
    refine wp_quiet_b (by kernel_rfl) (by kernel_rfl) ?_
    repeat (go_big_quiet_step (fail))
    refine wpQuiet_nil ?_
    intro _ hw'
    obtain ⟨⟨w2, hb⟩, rfl⟩ := hw'
    clear qc0 qc1 qc2 qcz
    replace BL := hid (bon BL.out hb)
    replace c0 := cellB hb c0 (Nat.le_refl _)
    replace c1 := cellB hb c1 (Nat.le_refl _)
    replace c2 := cellB hb c2 (Nat.le_refl _)
    replace cz := cellB hb cz (Nat.le_refl _)
    clear hb
    go_wp2_with fail
    have qc0 := fun (p : Bel _) => cellB p.h c0 (Nat.le_refl _)
    have qc1 := fun (p : Bel _) => cellB p.h c1 (Nat.le_refl _)
    have qc2 := fun (p : Bel _) => cellB p.h c2 (Nat.le_refl _)
    have qcz := fun (p : Bel _) => cellB p.h cz (Nat.le_refl _)
    refine wp_quiet_b (by kernel_rfl) (by kernel_rfl) ?_
    repeat (go_big_quiet_step (fail))
    refine wpQuiet_nil ?_
    intro _ hw'
    obtain ⟨⟨w3, hb⟩, rfl⟩ := hw'
    clear qc0 qc1 qc2 qcz
    replace BL := hid (bon BL.out hb)
    replace c0 := cellB hb c0 (Nat.le_refl _)
    replace c1 := cellB hb c1 (Nat.le_refl _)
    replace c2 := cellB hb c2 (Nat.le_refl _)
    replace cz := cellB hb cz (Nat.le_refl _)
    clear hb
    rename_i wz
    have CB3 := hid (CB2.out.past BL.out)
    have f1 := CB3.out.f 1
    have CB4 := hid (CB3.out.put1 (i + 1))
    have K4 := hid (Kept.setCell (S := fun k => k = g) (K2.out.trans (Kept.of_below _ BL.out)) (p := ⟨g, 1, none⟩) rfl (.int .i64 ((i + 1 : Nat) : Int)))
    have e1 : ((i + 1 : Nat) : Int) = (i : Int) + 1 := by omega
    rw [e1] at CB4 K4
    clear c0 cz c2
    go_wp2
    go_ret
    refine ⟨Int.toNat _, ret_int (Int.toNat_of_nonneg (Int.emod_nonneg _ (by decide))).symm, ?_, ⟨_, n, c, i + 1, h2, zs, ?_, ?_, HLN.out, hn, HB.out⟩, K4.out⟩
    · have h8 := Int.emod_lt_of_pos (wrap64 (bits BinOp.xor IntKind.i64 (h2 / 8589934592) (h2 / 35184372088832) % 256 + wrap64 z)) (show (0 : Int) < 256 by decide)
      have h9 := Int.emod_nonneg (wrap64 (bits BinOp.xor IntKind.i64 (h2 / 8589934592) (h2 / 35184372088832) % 256 + wrap64 z)) (show (256 : Int) ≠ 0 by decide)
      omega
    · rw [← e1] at CB4; exact CB4.out
    · exact rdK HB.out RZ.out HLN.out K4.out
  · have hd1 : decide (i < n) = false := by rw [decide_eq_false_iff_not]; exact hin
    have hii : ¬ (i : Int) < (n : Int) := by omega
    have qc0 := fun (p : Bel _) => cellB p.h c0 (Nat.le_refl _)
    have qc1 := fun (p : Bel _) => cellB p.h c1 (Nat.le_refl _)
    have qc2 := fun (p : Bel _) => cellB p.h c2 (Nat.le_refl _)
    refine wp_quiet_b (by kernel_rfl) (by kernel_rfl) ?_
    repeat (go_big_quiet_step (fail))
    refine wpQuiet_nil ?_
    intro _ hw'
    obtain ⟨⟨w4, hb⟩, rfl⟩ := hw'
    clear qc0 qc1 qc2
    replace BL := hid (bon BL.out hb)
    replace c0 := cellB hb c0 (Nat.le_refl _)
    replace c1 := cellB hb c1 (Nat.le_refl _)
    replace c2 := cellB hb c2 (Nat.le_refl _)
    clear hb
    go_wp2_with fail
    have qc0 := fun (p : Bel _) => cellB p.h c0 (Nat.le_refl _)
    have qc1 := fun (p : Bel _) => cellB p.h c1 (Nat.le_refl _)
    have qc2 := fun (p : Bel _) => cellB p.h c2 (Nat.le_refl _)
    refine wp_quiet_b (by kernel_rfl) (by kernel_rfl) ?_
    repeat (go_big_quiet_step (fail))
    refine wpQuiet_nil ?_
    intro _ hw'
    obtain ⟨⟨w5, hb⟩, rfl⟩ := hw'
    clear qc0 qc1 qc2
    replace BL := hid (bon BL.out hb)
    replace c0 := cellB hb c0 (Nat.le_refl _)
    replace c1 := cellB hb c1 (Nat.le_refl _)
    replace c2 := cellB hb c2 (Nat.le_refl _)
    clear hb
    have DB3 := hid (CB2.out.past BL.out)
    have K3 := hid (K2.out.trans (Kept.of_below _ BL.out))
    go_wp2
    go_ret
    refine ⟨Int.toNat _, ret_int (Int.toNat_of_nonneg ?_).symm, ?_, ⟨a, n, c, i, h2, zs, DB3.out, rdK HB.out RZ.out HLN.out K3.out, HLN.out, hn, HB.out⟩, K3.out⟩
    · exact Int.emod_nonneg _ (by decide)
    · have h8 := Int.emod_lt_of_pos (bits BinOp.xor IntKind.i64 (h2 / 8589934592) (h2 / 35184372088832)) (show (0 : Int) < 256 by decide)
      have h9 := Int.emod_nonneg (bits BinOp.xor IntKind.i64 (h2 / 8589934592) (h2 / 35184372088832)) (show (256 : Int) ≠ 0 by decide)
      omega
theorem l1Below_any (g m : Nat) (k : Int) (w : World) (hk : k = (m : Int)) (hc : Cur w g) (hm : 0 < m) (hm2 : m ≤ 256) :
    Calls Tryd.prog 56 #[.pointer (some ⟨g, 0, none⟩), .int .i64 k] w (NPost g m w) := by
  subst hk
  have CU := hid hc; clear hc
  have h1 : ¬ (m : Int) ≤ 0 := by omega
  have h2 : (m : Int) ≤ 256 := by omega
  have hm0 : (m : Int) ≠ 0 := by omega
  go_enter Tryd.func56, Tryd.ntmps56
  go_wp2_with fail
  refine (l1Byte_any g _ CU.out).mono ?_
  rintro e w1 ⟨x, rfl, hx, hc, hk⟩
  have C1 := hid hc; have K1 := hid hk; clear hc hk CU
  have hmod := Nat.mod_lt x hm
  go_wp2
  go_ret
  exact ⟨x % m, ret_int (by simp), hmod, C1.out, K1.out⟩
theorem l1Once_any (g m : Nat) (w : World) (hc : Cur w g) (hm : 0 < m) (hm2 : m ≤ 256) :
    Calls Tryd.prog 36 #[.pointer (some ⟨g, 0, none⟩), .int .i64 (m : Nat)] w (TPost g w) := by
  have CU := hid hc; clear hc
  go_enter Tryd.func36, Tryd.ntmps36
  go_wp2_with fail
  refine (l1Below_any g m _ _ rfl CU.out hm hm2).mono ?_
  rintro e w1 ⟨x, rfl, hx, hc, hk⟩
  have C1 := hid hc; have K1 := hid hk; clear hc hk CU
  go_wp2
  go_ret
  exact ⟨_, rfl, C1.out, K1.out⟩
theorem l1Min_any (a b : Nat) (w : World) : Calls Tryd.prog 76 #[.int .i64 (a : Nat), .int .i64 (b : Nat)] w fun e w' => e = .returned (.int .i64 ((min a b : Nat) : Int)) ∧ w = w' := by
  go_enter Tryd.func76, Tryd.ntmps76
  by_cases h : a < b
  · have h1 : (a : Int) < (b : Int) := by omega
    go_wp2
    go_ret
    refine ⟨ret_int ?_, rfl⟩
    rw [Nat.min_eq_left (by omega)]
  · have h1 : ¬ (a : Int) < (b : Int) := by omega
    go_wp2
    go_ret
    refine ⟨ret_int ?_, rfl⟩
    rw [Nat.min_eq_right (by omega)]
set_option maxRecDepth 100000 in
theorem l1From_any (g : Nat) (w : World) (hc : Cur w g) :
    Calls Tryd.prog 61 #[.pointer (some ⟨g, 0, none⟩), .int .i64 (-1), .int .i64 7] w (IPost g w) := by
  have CU := hid hc; clear hc
  go_enter Tryd.func61, Tryd.ntmps61
  go_wp2_with fail
  refine (l1Below_any g 9 _ _ rfl CU.out (by decide) (by decide)).mono ?_
  rintro e w1 ⟨x, rfl, hx, hc, hk⟩
  have C1 := hid hc; have K1 := hid hk; clear hc hk CU
  go_wp2
  go_ret
  exact ⟨_, rfl, C1.out, K1.out⟩
set_option maxHeartbeats 1000000 in
theorem l1New_any (n c : Nat) (a : Option Addr) (zs : List Int) (w : World) (hr : Rd (Value.int .u8) w a zs) (hl : zs.length = n) (hn : n ≤ 4096) :
    Calls Tryd.prog 34 #[.slice a n c] w fun e w' => ∃ g : Nat, e = .returned (.pointer (some ⟨g, 0, none⟩)) ∧ w.heap.size ≤ g ∧ Cur w' g ∧ Below w.heap.size w w' := by
  have RZ := hid hr; have HLN := hid hl
  clear hr hl
  go_enter Tryd.func34, Tryd.ntmps34
  go_wp2
  go_loopw [3, 4] (fun h x wr => ∃ (k : Nat) (z : Int), k ≤ n ∧ h = .int .i64 z ∧ x = .int .i64 (k : Nat) ∧ w = wr) (fun _ x _ => n - (intOf x).toNat)
  case atStart => exact ⟨0, _, Nat.zero_le _, rfl, rfl, rfl⟩
  case round =>
    obtain ⟨k, z, hk, rfl, rfl, rfl⟩ := hrel
    by_cases hlt : k < n
    · have hki : (k : Int) < (n : Int) := by omega
      obtain ⟨b, o, hab, cz⟩ := RZ.out k (by rw [HLN.out]; exact hlt)
      subst hab
      have hil : k < zs.length := by rw [HLN.out]; exact hlt
      generalize zs[k] = y at *
      clear hil
      go_wp2
      go_roundw
      case rel => exact ⟨k + 1, _, by omega, by go_num, by first | rfl | trivial⟩
      case measure => simp [intOf]; omega
    · obtain rfl : k = n := by omega
      have HB := hid (alloc_below w (.cells #[.slice a k c, .int .i64 0, .int .i64 z] 76))
      have HC := hid (show CurB (w.alloc (.cells #[.slice a k c, .int .i64 0, .int .i64 z] 76)) w.heap.size a k c 0 z from by
        unfold CurB
        show (w.heap.push _)[w.heap.size]? = _
        simp)
      have HK := hid (show ∀ ad, a = some ad → 0 < k → ad.block < w.heap.size from fun ad had hk0 => by
        obtain ⟨b, o, hab, cz⟩ := RZ.out 0 (by rw [HLN.out]; exact hk0)
        have h9 := World.block_lt_of_cell? _ _ cz
        rw [had] at hab
        cases hab
        exact h9)
      go_wp2
      go_ret
      exact ⟨w.heap.size, rfl, Nat.le_refl _, ⟨a, k, c, 0, z, zs, HC.out, RZ.out.below HB.out (Nat.le_refl _), HLN.out, hn, HK.out⟩, HB.out⟩
def oddL : List Int := [-1, 0, 1, 2147483648, -2147483648, 1099511627776, 4611686018427387904, -4611686018427387904, 9223372036854775807, -9223372036854775808]
set_option maxRecDepth 100000 in
theorem l1Odd_any (g : Nat) (w : World) (hc : Cur w g) : Calls Tryd.prog 75 #[.pointer (some ⟨g, 0, none⟩)] w (IPost g w) := by
  have hg := hc.lt
  go_enter Tryd.func75, Tryd.ntmps75
  have OO := hid (show Own 2 (w.alloc (.cells #[.int .i64 (-1), .int .i64 0, .int .i64 1, .int .i64 2147483648, .int .i64 (-2147483648), .int .i64 1099511627776, .int .i64 4611686018427387904, .int .i64 (-4611686018427387904), .int .i64 9223372036854775807, .int .i64 (-9223372036854775808)] 2)) w.heap.size (.slice (some ⟨w.heap.size, 0, none⟩) 10 10) (oddL.map (.int .i64)) from own_new 2 w (oddL.map (.int .i64)) (by decide))
  have HB := hid (alloc_below w (.cells #[.int .i64 (-1), .int .i64 0, .int .i64 1, .int .i64 2147483648, .int .i64 (-2147483648), .int .i64 1099511627776, .int .i64 4611686018427387904, .int .i64 (-4611686018427387904), .int .i64 9223372036854775807, .int .i64 (-9223372036854775808)] 2))
  have C0 := hid (hc.past HB.out (Nat.le_refl _))
  clear hc
  go_wp2_with fail
  generalize w.alloc (.cells #[.int .i64 (-1), .int .i64 0, .int .i64 1, .int .i64 2147483648, .int .i64 (-2147483648), .int .i64 1099511627776, .int .i64 4611686018427387904, .int .i64 (-4611686018427387904), .int .i64 9223372036854775807, .int .i64 (-9223372036854775808)] 2) = w1 at *
  refine (l1Below_any g 10 _ _ rfl C0.out (by decide) (by decide)).mono ?_
  rintro e w2 ⟨x, rfl, hx, hc, hk⟩
  have C1 := hid hc
  have K1 := hid ((Kept.of_below _ HB.out).trans hk)
  obtain ⟨b, o, hab, cz⟩ := (ownL_rd (OO.out.keptS hk (fun j hj hs => by simp [Value.ownBlock] at hj; omega))) x hx
  cases hab
  have hil : x < oddL.length := hx
  rw [Nat.zero_add] at cz
  generalize oddL[x] = z at *
  have hxi : (x : Int) < 10 := by omega
  clear hc hk OO HB C0 hil
  go_wp2
  go_ret
  exact ⟨z, rfl, C1.out, K1.out⟩
set_option maxRecDepth 100000 in
theorem l1Num_any (g m : Nat) (k : Int) (w : World) (hk : k = (m : Int)) (hc : Cur w g) (hm : m ≤ 100) : Calls Tryd.prog 57 #[.pointer (some ⟨g, 0, none⟩), .int .i64 k] w (IPost g w) := by
  subst hk
  have hg := hc.lt
  have CU := hid hc; clear hc
  go_enter Tryd.func57, Tryd.ntmps57
  go_wp2_with fail
  refine (l1Once_any g 10 _ CU.out (by decide) (by decide)).mono ?_
  rintro e w1 ⟨t, rfl, hc, hk⟩
  have C1 := hid hc; have K1 := hid hk; clear hc hk CU
  have hs1 := K1.out.size
  cases t
  · go_wp2_with fail
    refine (l1Once_any g 2 _ C1.out (by decide) (by decide)).mono ?_
    rintro e w2 ⟨t, rfl, hc, hk⟩
    have C2 := hid hc; have K2 := hid (K1.out.trans hk); clear hc hk C1 K1
    cases t
    · go_wp2_with fail
      refine (l1Below_any g (m + 1) _ _ (by omega) C2.out (by omega) (by omega)).mono ?_
      rintro e w3 ⟨x, rfl, hx, hc, hk⟩
      have C3 := hid hc; have K3 := hid (K2.out.trans hk); clear hc hk C2 K2
      go_wp2
      go_ret
      exact ⟨_, rfl, C3.out, K3.out⟩
    · go_wp2_with fail
      refine (l1Min_any m 4 _).mono ?_
      rintro e w3 ⟨rfl, rfl⟩
      have hmin : min m 4 ≤ 4 := Nat.min_le_right _ _
      generalize min m 4 = q at *
      go_wp2_with fail
      refine (l1Below_any g (q + 1) _ _ (by omega) C2.out (by omega) (by omega)).mono ?_
      rintro e w3 ⟨x, rfl, hx, hc, hk⟩
      have C3 := hid hc; have K3 := hid (K2.out.trans hk); clear hc hk C2 K2
      go_wp2
      go_ret
      exact ⟨_, rfl, C3.out, K3.out⟩
  · go_wp2_with fail
    refine (l1Odd_any g _ C1.out).mono ?_
    rintro e w2 ⟨z, rfl, hc, hk⟩
    have C2 := hid hc; have K2 := hid (K1.out.trans hk); clear hc hk C1 K1
    have hs2 := K2.out.size
    have OO := hid (show Own 2 (w2.alloc (.cells #[.int .i64 (-1), .int .i64 (m : Nat), .int .i64 ((m : Int) + 1), .int .i64 z] 2)) w2.heap.size (.slice (some ⟨w2.heap.size, 0, none⟩) 4 4) (([-1, (m : Int), (m : Int) + 1, z] : List Int).map (.int .i64)) from own_new 2 w2 (([-1, (m : Int), (m : Int) + 1, z] : List Int).map (.int .i64)) (by simp [maxLen]))
    have HB := hid (alloc_below w2 (.cells #[.int .i64 (-1), .int .i64 (m : Nat), .int .i64 ((m : Int) + 1), .int .i64 z] 2))
    have C3 := hid (C2.out.past HB.out (Nat.le_refl _))
    go_wp2_with fail
    generalize w2.alloc (.cells #[.int .i64 (-1), .int .i64 (m : Nat), .int .i64 ((m : Int) + 1), .int .i64 z] 2) = w3 at *
    refine (l1Below_any g 4 _ _ rfl C3.out (by decide) (by decide)).mono ?_
    rintro e w4 ⟨x, rfl, hx, hc, hk⟩
    have C4 := hid hc
    have K4 := hid ((K2.out.trans (Kept.of_below _ HB.out)).trans hk)
    obtain ⟨b, o, hab, cz⟩ := (ownL_rd (OO.out.keptS hk (fun j hj hs => by simp [Value.ownBlock] at hj; omega))) x hx
    cases hab
    rw [Nat.zero_add] at cz
    have hil : x < ([-1, (m : Int), (m : Int) + 1, z] : List Int).length := hx
    generalize ([-1, (m : Int), (m : Int) + 1, z] : List Int)[x] = y at *
    have hxi : (x : Int) < 4 := by omega
    clear hc hk OO HB C3 hil C2 K2
    go_wp2
    go_ret
    exact ⟨y, rfl, C4.out, K4.out⟩
end
end Go.Proofs.YtccohcdgcpcbjaaDoor
