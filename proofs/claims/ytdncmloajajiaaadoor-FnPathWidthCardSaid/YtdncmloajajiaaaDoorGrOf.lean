/- Dice: numbers that follow from a code. · A graph out of its edges: the reference's. Small graphs by dice. -/
import Derived.Test.YtdncmloajajiaaaDoorOpen
import Derived.Test.YtdncmloajajiaaaDoorGr
import Derived.Test.YtdncmloajajiaaaDoorMem3
import Derived.Deep.RegionHeld3
import Derived.StillTailTactics
import Derived.Laws.BitsLemmas
import Derived.Lib.EndianBits
import Derived.Test.YtdncmloajajiaaaDoorOther
namespace Go.Proofs.YtdncmloajajiaaaDoor
open Go.RowKit
section
open Go.ChangeShapes Go.WideShapes Go.ChangeAt Go.RowKit Go.Deep Go.Joins
section
variable {H : Type} {enc : TypeId × Value → H} {P : Program} {w : World} {base : Nat} {held : Bool}
theorem open_bytesF {t e fuel : Nat} {cs : List Value} {x : DataW H × List MemPlace} (ht : P.underlying t = some (.slice e)) (he : P.underlying e = some (.int .u8)) (ce : P.cellsOf e = 1)
    (h : DataW.trod enc P w base (fun _ => true) held fuel t cs = some x) :
    ∃ a zs c, cs = [.slice a zs.length c] ∧ Rd (Value.int .u8) w a zs ∧ zs.length ≤ c ∧ c ≤ maxLen ∧ (a = none → c = 0) ∧ ∀ z ∈ zs, 0 ≤ z ∧ z < 256 := by
  rcases open_ints ht he ce h with ⟨hcs, _⟩ | ⟨a, len, cap, zs, hcs, _, hl, hm, hz, _, hcell, hwf⟩
  · exact ⟨none, [], 0, hcs, Rd.nil _ _ _, Nat.le_refl _, Nat.zero_le _, fun _ => rfl, fun z hz => by cases hz⟩
  · simp only [if_true] at hz
    have hzl : (zs.take len).length = len := by rw [List.length_take]; omega
    refine ⟨some a, zs.take len, cap, by rw [hzl]; exact hcs, ?_, by rw [hzl]; exact hl, hm, (fun h => by cases h), fun z hz' => ?_⟩
    · intro i hi
      have hi' : i < len := by omega
      obtain ⟨b, o, s⟩ := a
      have hs : s = none := by simpa [Addr.add] using World.cell?_spot (hcell 0 (by omega))
      subst hs
      refine ⟨b, o, rfl, ?_⟩
      have e1 : (⟨b, o, none⟩ : Addr).add i = ⟨b, o + i, none⟩ := by unfold Addr.add; split <;> simp_all
      have hc := hcell i (by omega)
      rw [e1] at hc
      rw [hc]
      have : i < zs.length := by omega
      simp [List.getElem_take, List.getElem?_eq_getElem this]
    · have h1 := hwf z (List.mem_of_mem_take hz')
      simp [Lit.wf] at h1
      have e1 : IntKind.u8.min = 0 := by decide
      have e2 : IntKind.u8.max = 255 := by decide
      rw [e1, e2] at h1
      omega
end
set_option maxRecDepth 100000
section
variable {H : Type} {enc : TypeId × Value → H} {w : World} {base b0 : Nat} {held : Bool} {r : Reach}
theorem open_B {v : Value} {d : DataW H} {p : List MemPlace} (hv : Value.okWide Tryd.prog w r b0 22 v) (h : DataW.Trod enc Tryd.prog w base (fun _ => true) held 22 v d p) :
    ∃ a zs c, v = .slice a zs.length c ∧ Rd (Value.int .u8) w a zs ∧ zs.length ≤ c ∧ c ≤ maxLen ∧ (a = none → c = 0) ∧ ∀ z ∈ zs, 0 ≤ z ∧ z < 256 := by
  obtain ⟨a0, len, cap, rfl⟩ := okWide_slice Tryd.underlying22 hv
  obtain ⟨fuel, hf⟩ := h
  obtain ⟨a, zs, c, h1, h2⟩ := open_bytesF Tryd.underlying22 Tryd.underlying5 (by kernel_rfl) hf
  exact ⟨a, zs, c, by simpa [Value.cells] using h1, h2⟩
end
section
/-- Dice: a block with the code, the place in it and a number. -/
def DiceB (w : World) (g : Nat) (a : Option Addr) (n c i : Nat) (h : Int) : Prop := w.heap[g]? = some (.cells #[.slice a n c, .int .i64 (i : Nat), .int .u64 h] 53 (0, 0))
theorem DiceB.lt {w : World} {g n c i : Nat} {a : Option Addr} {h : Int} (hd : DiceB w g a n c i h) : g < w.heap.size := (Array.getElem?_eq_some_iff.1 hd).1
theorem DiceB.past {w w' : World} {g n c i : Nat} {a : Option Addr} {h : Int} (hd : DiceB w g a n c i h) (hb : Below w.heap.size w w') : DiceB w' g a n c i h := (hb.block g hd.lt).trans hd
theorem DiceB.c0 {w : World} {g n c i : Nat} {a : Option Addr} {h : Int} (hd : DiceB w g a n c i h) : w.cell? ⟨g, 0, none⟩ = some (.slice a n c) := by simp [World.cell?, show w.heap[g]? = _ from hd]
theorem DiceB.c1 {w : World} {g n c i : Nat} {a : Option Addr} {h : Int} (hd : DiceB w g a n c i h) : w.cell? ⟨g, 1, none⟩ = some (.int .i64 (i : Nat)) := by simp [World.cell?, show w.heap[g]? = _ from hd]
theorem DiceB.c2 {w : World} {g n c i : Nat} {a : Option Addr} {h : Int} (hd : DiceB w g a n c i h) : w.cell? ⟨g, 2, none⟩ = some (.int .u64 h) := by simp [World.cell?, show w.heap[g]? = _ from hd]
theorem DiceB.f {w : World} {g n c i : Nat} {a : Option Addr} {h : Int} (hd : DiceB w g a n c i h) (k : Nat) : w.frozen? ⟨g, k, none⟩ = false := by simp [World.frozen?, show w.heap[g]? = _ from hd]
theorem DiceB.put1 {w : World} {g n c i : Nat} {a : Option Addr} {h : Int} (hd : DiceB w g a n c i h) (j : Nat) : DiceB (w.setCell ⟨g, 1, none⟩ (.int .i64 (j : Nat))) g a n c j h := by
  unfold DiceB at *
  simp only [World.setCell, Array.getElem?_modify, hd]
  simp
theorem DiceB.put2 {w : World} {g n c i : Nat} {a : Option Addr} {h : Int} (hd : DiceB w g a n c i h) (h2 : Int) : DiceB (w.setCell ⟨g, 2, none⟩ (.int .u64 h2)) g a n c i h2 := by
  unfold DiceB at *
  simp only [World.setCell, Array.getElem?_modify, hd]
  simp
theorem DiceB.ne {w : World} {g n c i b o : Nat} {a : Option Addr} {h z : Int} (hd : DiceB w g a n c i h) (hc : w.cell? ⟨b, o, none⟩ = some (.int .u8 z)) : b ≠ g := by
  intro e
  subst e
  have hh : w.heap[b]? = some (.cells #[.slice a n c, .int .i64 (i : Nat), .int .u64 h] 53 (0, 0)) := hd
  simp only [World.cell?, hh] at hc
  match o, hc with
  | 0, hc => simp at hc
  | 1, hc => simp at hc
  | 2, hc => simp at hc
  | o + 3, hc => simp at hc
theorem dice_and (y : Int) : ∃ k : Nat, k < 16777216 ∧ bits .and .u64 (IntKind.u64.wrap y / 8589934592) 16777215 = (k : Int) := by
  have h1 : 0 ≤ IntKind.u64.wrap y / 8589934592 ∧ IntKind.u64.wrap y / 8589934592 < 2 ^ 64 := by rw [IntKind.wrap_u64]; omega
  have h2 := bits_mask .u64 64 (by decide) (fun n h₀ h₁ => by rw [IntKind.wrap_u64]; omega) 24 (by decide) _ h1.1 h1.2
  have e : ((2 : Int) ^ 24 - 1) = 16777215 := by decide
  rw [e] at h2
  rw [h2]
  have h3 : 0 ≤ IntKind.u64.wrap y / 8589934592 % 2 ^ 24 ∧ IntKind.u64.wrap y / 8589934592 % 2 ^ 24 < 16777216 := by omega
  obtain ⟨k, hk⟩ := Int.eq_ofNat_of_zero_le h3.1
  exact ⟨k, by omega, hk⟩
def BelPost (g n c : Nat) (a : Option Addr) (m : Nat) (w : World) (e : Ending) (w' : World) : Prop :=
  ∃ x i' : Nat, ∃ h' : Int, e = .returned (.int .i64 (x : Nat)) ∧ x < m ∧ i' ≤ n ∧ DiceB w' g a n c i' h' ∧ Kept (fun k => k = g) w w'
set_option maxHeartbeats 1000000 in
theorem below_any (g n c i : Nat) (a : Option Addr) (h : Int) (zs : List Int) (m : Nat) (w : World) (hd : DiceB w g a n c i h) (hr : Rd (Value.int .u8) w a zs) (hl : zs.length = n) (hz : ∀ z ∈ zs, 0 ≤ z ∧ z < 256) (hn : n ≤ 4096) (hi : i ≤ n) (hm : 0 < m) (hm2 : m ≤ 1000) :
    Calls Tryd.prog 16 #[.pointer (some ⟨g, 0, none⟩), .int .i64 (m : Nat)] w (BelPost g n c a m w) := by
  have DB := hid hd; have RZ := hid hr; have HZ := hid hz; have HLN := hid hl
  obtain ⟨x0, hx0, hxe⟩ := dice_and (IntKind.u64.wrap (h * 6364136223846793005) + 1442695040888963407)
  have c0 := hd.c0
  have c1 := hd.c1
  have c2 := hd.c2
  have f2 := hd.f 2
  have hmi : (0 : Int) < (m : Int) := by omega
  have hm0 : (m : Int) ≠ 0 := by omega
  clear hr hd hl hz
  go_enter Tryd.func16, Tryd.ntmps16
  go_wp2
  clear hxe
  have DB2 := hid (DB.out.put2 (IntKind.u64.wrap (IntKind.u64.wrap (h * 6364136223846793005) + 1442695040888963407)))
  have K2 := hid (Kept.setCell (S := fun k => k = g) (Kept.refl _ w) (p := ⟨g, 2, none⟩) rfl (.int .u64 (IntKind.u64.wrap (IntKind.u64.wrap (h * 6364136223846793005) + 1442695040888963407))))
  generalize IntKind.u64.wrap (IntKind.u64.wrap (h * 6364136223846793005) + 1442695040888963407) = h2 at *
  generalize w.setCell ⟨g, 2, none⟩ (.int .u64 h2) = w5 at *
  clear c0 c1 c2 f2
  have c0 := DB2.out.c0
  have c1 := DB2.out.c1
  have BL := hid (Below.refl w5.heap.size w5)
  by_cases hin : i < n
  · have hii : (i : Int) < (n : Int) := by omega
    have hd1 : decide (i < n) = true := by rw [decide_eq_true_iff]; exact hin
    obtain ⟨b, o, hab, cz⟩ := RZ.out i (by rw [HLN.out]; exact hin)
    subst hab
    have hbg := DB.out.ne cz
    have hil : i < zs.length := by rw [HLN.out]; exact hin
    have hzi := HZ.out zs[i] (List.getElem_mem hil)
    replace cz := cellK K2.out cz hbg
    generalize zs[i] = z at *
    clear hil
    obtain ⟨zn, hzn⟩ := Int.eq_ofNat_of_zero_le hzi.1
    subst hzn
    have hz256 : zn < 256 := by omega
    clear hzi hbg
    have qc0 := fun (p : Bel _) => cellB p.h c0 (Nat.le_refl _)
    have qc1 := fun (p : Bel _) => cellB p.h c1 (Nat.le_refl _)
    have qcz := fun (p : Bel _) => cellB p.h cz (Nat.le_refl _)
    refine wp_quiet_b (by kernel_rfl) (by kernel_rfl) ?_
    repeat (go_big_quiet_step (fail))
    refine wpQuiet_nil ?_
    intro _ hw'
    obtain ⟨⟨w1, hb⟩, rfl⟩ := hw'
    clear qc0 qc1 qcz
    replace BL := hid (bon BL.out hb)
    replace c0 := cellB hb c0 (Nat.le_refl _)
    replace c1 := cellB hb c1 (Nat.le_refl _)
    replace cz := cellB hb cz (Nat.le_refl _)
    clear hb
    go_wp2_with fail
    have qc0 := fun (p : Bel _) => cellB p.h c0 (Nat.le_refl _)
    have qc1 := fun (p : Bel _) => cellB p.h c1 (Nat.le_refl _)
    have qcz := fun (p : Bel _) => cellB p.h cz (Nat.le_refl _)
    refine wp_quiet_b (by kernel_rfl) (by kernel_rfl) ?_
    repeat (go_big_quiet_step (fail))
    refine wpQuiet_nil ?_
    intro _ hw'
    obtain ⟨⟨w2, hb⟩, rfl⟩ := hw'
    clear qc0 qc1 qcz
    replace BL := hid (bon BL.out hb)
    replace c0 := cellB hb c0 (Nat.le_refl _)
    replace c1 := cellB hb c1 (Nat.le_refl _)
    replace cz := cellB hb cz (Nat.le_refl _)
    clear hb
    rename_i wz
    have DB3 := hid (DB2.out.past BL.out)
    have f1 := DB3.out.f 1
    have DB4 := hid (DB3.out.put1 (i + 1))
    have K4 := hid (Kept.setCell (S := fun k => k = g) (K2.out.trans (Kept.of_below _ BL.out)) (p := ⟨g, 1, none⟩) rfl (.int .i64 ((i + 1 : Nat) : Int)))
    have e1 : ((i + 1 : Nat) : Int) = (i : Int) + 1 := by omega
    rw [e1] at DB4 K4
    have hx1 : x0 + zn < 16777472 := by omega
    have hmod := Nat.mod_lt (x0 + zn) hm
    clear c0 cz
    go_wp2
    go_ret
    refine ⟨(x0 + zn) % m, i + 1, h2, ?_, hmod, by omega, DB4.out, K4.out⟩
    simp
  · have hd1 : decide (i < n) = false := by rw [decide_eq_false_iff_not]; exact hin
    have hii : ¬ (i : Int) < (n : Int) := by omega
    have qc0 := fun (p : Bel _) => cellB p.h c0 (Nat.le_refl _)
    have qc1 := fun (p : Bel _) => cellB p.h c1 (Nat.le_refl _)
    refine wp_quiet_b (by kernel_rfl) (by kernel_rfl) ?_
    repeat (go_big_quiet_step (fail))
    refine wpQuiet_nil ?_
    intro _ hw'
    obtain ⟨⟨w3, hb⟩, rfl⟩ := hw'
    clear qc0 qc1
    replace BL := hid (bon BL.out hb)
    replace c0 := cellB hb c0 (Nat.le_refl _)
    replace c1 := cellB hb c1 (Nat.le_refl _)
    clear hb
    have DB3 := hid (DB2.out.past BL.out)
    have K3 := hid (K2.out.trans (Kept.of_below _ BL.out))
    have hmod := Nat.mod_lt x0 hm
    go_wp2
    go_ret
    refine ⟨x0 % m, i, h2, ?_, hmod, hi, DB3.out, K3.out⟩
    simp
theorem below_k (g n c i : Nat) (a : Option Addr) (h : Int) (zs : List Int) (k : Int) (m : Nat) (w : World) (hk : k = (m : Int)) (hd : DiceB w g a n c i h) (hr : Rd (Value.int .u8) w a zs) (hl : zs.length = n) (hz : ∀ z ∈ zs, 0 ≤ z ∧ z < 256) (hn : n ≤ 4096) (hi : i ≤ n) (hm : 0 < m) (hm2 : m ≤ 1000) :
    Calls Tryd.prog 16 #[.pointer (some ⟨g, 0, none⟩), .int .i64 k] w (BelPost g n c a m w) := by
  subst hk; exact below_any g n c i a h zs m w hd hr hl hz hn hi hm hm2
theorem u64_any (x : Int) : ∃ y : Int, y = x := ⟨x, rfl⟩
set_option maxHeartbeats 1000000 in
theorem roll_any (n c : Nat) (a : Option Addr) (zs : List Int) (seed : Int) (w : World) (hr : Rd (Value.int .u8) w a zs) (hl : zs.length = n) (hz : ∀ z ∈ zs, 0 ≤ z ∧ z < 256) (hn : n ≤ 4096) :
    Calls Tryd.prog 7 #[.slice a n c, .int .u64 seed] w fun e w' => ∃ g : Nat, ∃ h : Int, e = .returned (.pointer (some ⟨g, 0, none⟩)) ∧ w.heap.size ≤ g ∧ DiceB w' g a n c 0 h ∧ Below w.heap.size w w' := by
  have RZ0 := hid hr; have HZ := hid hz; have HLN := hid hl
  clear hr hz hl
  go_enter Tryd.func7, Tryd.ntmps7
  go_wp2
  generalize IntKind.u64.wrap (IntKind.u64.wrap (seed * 7919) + (n : Int)) = h0 at *
  have DB0 := hid (show DiceB (w.alloc (.cells #[.slice a n c, .int .i64 0, .int .u64 h0] 53)) w.heap.size a n c 0 h0 from by
    unfold DiceB
    show (w.heap.push _)[w.heap.size]? = _
    simp)
  have B0 := hid (alloc_below w (.cells #[.slice a n c, .int .i64 0, .int .u64 h0] 53))
  generalize w.alloc (.cells #[.slice a n c, .int .i64 0, .int .u64 h0] 53) = w1 at *
  go_loopw [6] (fun x wr => ∃ (k : Nat) (h : Int), k ≤ n ∧ x = .int .i64 (k : Nat) ∧ DiceB wr w.heap.size a n c 0 h ∧ Below w.heap.size w wr) (fun x _ => n - (intOf x).toNat)
  case atStart => exact ⟨0, h0, Nat.zero_le _, rfl, DB0.out, B0.out⟩
  case round =>
    clear DB0 B0
    obtain ⟨k, h, hk, rfl, hd, hb⟩ := hrel
    have DB := hid hd; have BW := hid hb
    by_cases hlt : k < n
    · have hki : (k : Int) < (n : Int) := by omega
      obtain ⟨b, o, hab, cz⟩ := (RZ0.out.below hb (Nat.le_refl _)) k (by rw [HLN.out]; exact hlt)
      subst hab
      have hil : k < zs.length := by rw [HLN.out]; exact hlt
      have hzi := HZ.out zs[k] (List.getElem_mem hil)
      generalize zs[k] = z at *
      obtain ⟨zn, hzn⟩ := Int.eq_ofNat_of_zero_le hzi.1
      subst hzn
      have hz256 : zn < 256 := by omega
      have c2 := hd.c2
      clear hil hzi hd hb
      obtain ⟨w2, rfl⟩ : ∃ z, z = wr := ⟨_, rfl⟩
      have BL := hid (Below.refl w2.heap.size w2)
      go_wp2_with fail
      have qc2 := fun (p : Bel _) => cellB p.h c2 (Nat.le_refl _)
      have qcz := fun (p : Bel _) => cellB p.h cz (Nat.le_refl _)
      refine wp_quiet_tail_b 13 (by kernel_rfl) (by kernel_rfl) ?_
      simp only [List.take_succ_cons, List.take_zero, List.drop_succ_cons, List.drop_zero]
      repeat (go_big_quiet_step (fail))
      refine wpQuiet_nil ?_
      intro _ hw'
      obtain ⟨⟨w1, hb⟩, rfl⟩ := hw'
      clear qc2 qcz
      replace BL := hid (bon BL.out hb)
      replace c2 := cellB hb c2 (Nat.le_refl _)
      replace cz := cellB hb cz (Nat.le_refl _)
      clear hb
      rename_i wt
      have DB2 := hid (DB.out.past BL.out)
      have BW2 := hid (bon BW.out BL.out)
      have f2 := DB2.out.f 2
      have DB3 := hid (fun h2 => DB2.out.put2 h2)
      have BW3 := hid (fun v => Below.setCell BW2.out (p := ⟨w.heap.size, 2, none⟩) (Nat.le_refl _) v)
      clear cz
      go_wp2
      go_roundw
      case rel => exact ⟨k + 1, _, by omega, by go_num, DB3.out _, BW3.out _⟩
      case measure => simp [intOf]; omega
    · obtain rfl : k = n := by omega
      clear hb hd
      go_wp2
      go_ret
      exact ⟨w.heap.size, h, rfl, Nat.le_refl _, DB.out, BW.out⟩
end
end
section
section
theorem bt_zero (n a b : Nat) : bt (List.replicate n 0) a b = false := by
  unfold bt
  have : (List.replicate n 0).getD a 0 = 0 := by
    rw [List.getD_eq_getElem?_getD, List.getElem?_replicate]
    split <;> rfl
  rw [this, Nat.zero_testBit]
theorem GA.zero {n : Nat} (h0 : 1 ≤ n) (h16 : n ≤ 16) : GA n (List.replicate n 0) where
  len := by simp
  pos := h0
  le := h16
  irr a := bt_zero n a a
  sym a b := by rw [bt_zero, bt_zero]
theorem GA.link {n : Nat} {A : List Nat} (h : GA n A) {u v : Nat} (hu : u < n) (hv : v < n) (huv : u ≠ v) : GA n (linkA A u v) where
  len := by rw [linkA_len]; exact h.len
  pos := h.pos
  le := h.le
  irr a := by
    rw [Bool.eq_false_iff]
    intro hb
    rcases (bt_link (by rw [h.len]; exact hu) (by rw [h.len]; exact hv) huv a a).1 hb with h1 | h1 | h1
    · rw [h.irr] at h1; cases h1
    · exact huv (h1.1.symm.trans h1.2)
    · exact huv (h1.2.symm.trans h1.1)
  sym a b := by
    rw [Bool.eq_iff_iff, bt_link (by rw [h.len]; exact hu) (by rw [h.len]; exact hv) huv, bt_link (by rw [h.len]; exact hu) (by rw [h.len]; exact hv) huv, h.sym a b]
    constructor
    · rintro (h1 | h1 | h1)
      · exact .inl h1
      · exact .inr (.inr ⟨h1.2, h1.1⟩)
      · exact .inr (.inl ⟨h1.2, h1.1⟩)
    · rintro (h1 | h1 | h1)
      · exact .inl h1
      · exact .inr (.inr ⟨h1.2, h1.1⟩)
      · exact .inr (.inl ⟨h1.2, h1.1⟩)
theorem l1Set_pair (a : Option Addr) (u v n : Nat) (c : Nat) (w : World) (hr : Rd (Value.int .i64) w a [(u : Int), (v : Int)]) (huv : u < v) (hv : v < n) (hn : n ≤ 16) :
    Calls Tryd.prog 68 #[.slice a 2 c, .int .i64 (n : Nat)] w fun e w' => e = .returned (.bool true) ∧ Drawn w w' :=
  l1Set_b a [(u : Int), (v : Int)] c n w true (by
    rw [decide_eq_true_iff]
    refine ⟨fun x hx => ?_, by simp; exact huv⟩
    simp at hx
    rcases hx with rfl | rfl <;> omega) hr (by simp) (by omega) (by omega)
theorem ret_cell_tmpD {fn : Func} {c d : Tmp} {t : TypeId} (h : fn.results = #[.cell c t, .tmp d]) (tmps : Array Value) (P : Program) (w : World) (ad : Addr) (v u : Value) (ha : tmps.getD c undef = .pointer (some ad)) (hu : tmps.getD d undef = u) (hl : (loadVar t ad).run P w = .ok v w) : (results fn tmps).run P w = .ok (.tuple #[v, u]) w := by
  have ha2 : tmps[c]?.getD undef = .pointer (some ad) := by rw [← Array.getD_eq_getD_getElem?]; exact ha
  have hu2 : tmps[d]?.getD undef = u := by rw [← Array.getD_eq_getD_getElem?]; exact hu
  simp [results, h, ha2, hu2, asAddr, hl]
def pairI (p : Nat × Nat) : List Int := [(p.1 : Int), (p.2 : Int)]
def GrPost (n : Nat) (w : World) (e : Ending) (w' : World) : Prop :=
  ∃ gb cap A, e = .returned (.tuple #[.agg #[.slice (some ⟨gb, 0, none⟩) n cap], .bool true]) ∧ GA n A ∧ OwnG (fun _ => False) w' w.heap.size gb n cap A ∧ Below w.heap.size w w'
set_option maxRecDepth 100000 in
set_option maxHeartbeats 4000000 in
theorem graphOf_any (n : Nat) (a : Option Addr) (es : List Row) (E : List (Nat × Nat)) (c : Nat) (w : World) (hE : nums es = E.map pairI) (hlt : ∀ p ∈ E, p.1 < p.2 ∧ p.2 < n) (h0 : 1 ≤ n) (h16 : n ≤ 16) (hlen : es.length ≤ 120) (hr : RdM w a es) :
    Calls Tryd.prog 29 #[.int .i64 (n : Nat), .slice a es.length c] w (GrPost n w) := by
  have RE := hid hr; have HE := hid hE; have HLT := hid hlt
  have hel : es.length = E.length := by have := congrArg List.length hE; simpa [nums] using this
  have HEL := hid hel
  have HIN := hid (show decide ((1 : Int) ≤ (n : Int) ∧ (n : Int) ≤ 16) = true by rw [decide_eq_true_iff]; omega)
  have hcmp : ¬ (120 : Int) < (es.length : Int) := by omega
  clear hr hE hlt hel
  obtain ⟨w0, hw0⟩ : ∃ w0, w0 = (w.alloc (.cells #[.slice none 0 0] 29)) := ⟨_, rfl⟩
  have B0 := hid (show Below w.heap.size w w0 by rw [hw0]; exact ((Below.refl _ _).alloc (Nat.le_refl _) _))
  have c0 : w0.cell? ⟨w.heap.size, 0, none⟩ = some (.slice none 0 0) := by rw [hw0]; simp [go_sem]
  have HW := hid hw0; clear hw0
  have hsz0 : w0.heap.size = w.heap.size + 1 := by rw [HW.out]; simp
  have OR := hid (show Own 29 w0 w.heap.size (.slice (some ⟨w.heap.size, 0, none⟩) 1 1) [.slice none 0 0] by
    have h := own_new 29 w [.slice none 0 0] (by simp [maxLen])
    rw [HW.out]
    exact h)
  have RE0 := hid (RE.out.below B0.out (Nat.le_refl _))
  have B00 := hid B0.out
  have hszw : w.heap.size ≤ w0.heap.size := by omega
  clear c0 RE B0
  go_enter Tryd.func29, Tryd.ntmps29
  go_wp2_with (first | (go_at_call 66; refine (l1In_b _ _ _ _ true HIN.out).mono ?_; rintro e w' ⟨rfl, rfl⟩))
  rw [← HW.out]
  refine (l1Empty_any n _ h0 h16).mono ?_
  rintro e w2 ⟨gb, cap, rfl, hog, hb2⟩
  have hgb : w0.heap.size ≤ gb := by obtain ⟨ps, h1, _⟩ := hog; exact h1.outer.ge gb rfl
  have hgl : gb < w2.heap.size := by obtain ⟨ps, h1, _⟩ := hog; exact h1.outer.lt gb rfl
  have hs12 := hb2.size
  have hb3 := alloc_below w2 (.cells #[.slice (some ⟨gb, 0, none⟩) n cap] 29)
  have OC2 := hid (own_new 29 w2 [.slice (some ⟨gb, 0, none⟩) n cap] (by simp [maxLen]))
  have OG2 := hid (hog.past hb3 (Nat.le_refl _))
  have LB2 := hid (hb2.trans (hb3.mono (by omega)))
  clear hog hb2 hb3
  go_wp2
  generalize w2.alloc (.cells #[.slice (some ⟨gb, 0, none⟩) n cap] 29) = wb at *
  generalize hlb : w2.heap.size = lb at *
  have hlb0 : w0.heap.size ≤ lb := by omega
  clear hlb
  go_loopw [7] (fun x wr => ∃ (k : Nat) (C : List Nat), k ≤ es.length ∧ x = .int .i64 k ∧ GA n C ∧ OwnG (fun _ => False) wr w0.heap.size gb n cap C ∧ Own 29 wr lb (.slice (some ⟨lb, 0, none⟩) 1 1) [.slice (some ⟨gb, 0, none⟩) n cap] ∧ Below w0.heap.size w0 wr) (fun x _ => es.length - (intOf x).toNat)
  case atStart => exact ⟨0, _, Nat.zero_le _, rfl, GA.zero h0 h16, OG2.out, OC2.out, LB2.out⟩
  case round =>
    clear OG2 OC2 LB2
    obtain ⟨k, C, hk, rfl, hga, hog, hoc, hlb⟩ := hrel
    have HGA := hid hga; have OG := hid hog; have OC := hid hoc; have LB := hid hlb
    have RE := hid (RE0.out.below hlb (Nat.le_refl _))
    clear hga hog hoc hlb
    by_cases hkl : k < es.length
    · have hki : (k : Int) < (es.length : Int) := by omega
      have hkE : k < E.length := by have := HEL.out; omega
      obtain ⟨eb, eo, hea, ck, hok⟩ := RE.out.at k hkl
      have hz : es[k].z = pairI E[k] := by
        have h1 : (nums es)[k]'(by rw [nums_length]; exact hkl) = (E.map pairI)[k]'(by simpa using hkE) := by simp only [HE.out]
        simpa [nums] using h1
      have hpq := HLT.out E[k] (List.getElem_mem hkE)
      have hrd := hok.1
      rw [hz] at hrd
      obtain ⟨eb3, eo3, hea3, ck3, hok3⟩ := RE0.out.at k hkl
      have hrd3 := hok3.1
      rw [hz] at hrd3
      have hebw : eb < w0.heap.size := by
        have h9 := World.block_lt_of_cell? _ _ ck3
        rw [hea] at hea3
        have e9 : eb = eb3 := by simp at hea3; exact hea3.1
        rw [e9]; exact h9
      have hrbw : ∀ b o, es[k].a = some ⟨b, o, none⟩ → b < w0.heap.size := fun b o hbo => by
        obtain ⟨b3, o3, h8, h9⟩ := hrd3 0 (by simp [pairI])
        have h9 := World.block_lt_of_cell? _ _ h9
        rw [hbo] at h8
        have e9 : b = b3 := by simp at h8; exact h8.1
        rw [e9]; exact h9
      clear hea3 ck3 hok3 hrd3
      have hzl : es[k].z.length = 2 := by rw [hz]; rfl
      rw [hzl] at ck
      generalize es[k].a = ra at *
      generalize es[k].c = rc at *
      generalize E[k] = pq at *
      obtain ⟨u, v⟩ := pq
      have hrd : Rd (Value.int .i64) wr ra [(u : Int), (v : Int)] := hrd
      have huv : u < v := hpq.1
      have hvn : v < n := hpq.2
      obtain ⟨rb, ro, hra, e0⟩ := hrd 0 (by simp)
      obtain ⟨rb', ro', hra', e1⟩ := hrd 1 (by simp)
      have HRD := hid hrd
      subst hra
      obtain ⟨rfl, rfl⟩ : rb = rb' ∧ ro = ro' := by simpa using hra'
      simp only [List.getElem_cons_zero, List.getElem_cons_succ, Nat.add_zero] at e0 e1
      subst hea
      have hrbw2 := hrbw rb ro rfl
      clear hok hz hpq hrd hra' hzl hrbw
      go_wp2_with (first | (go_at_call 68; refine (l1Set_pair (some ⟨rb, ro, none⟩) u v n rc _ HRD.out huv hvn h16).mono ?_; rintro e w5 ⟨rfl, hd⟩; have HD := hid hd; clear hd))
      have hune : u ≠ v := by omega
      have hun : u < n := by omega
      have HCL := hid HGA.out.len; have HCT := hid HGA.out.in16
      have D5 : Drawn w5 w5.drew := ⟨1, rfl⟩
      have D : Drawn wr w5.drew := HD.out.trans D5
      have OC5 := hid (OC.out.past (D.below wr.heap.size) (Nat.le_refl _))
      have OG5 := hid (OG.out.past (D.below wr.heap.size) (Nat.le_refl _))
      have LB5 := hid (bonL LB.out (D.below wr.heap.size) (Nat.le_refl _))
      have f0 := OC5.out.cell 0 (by simp)
      rw [List.getElem_cons_zero] at f0
      have f1 := dcell D ck
      have f2 := dcell D e0
      have f3 := dcell D e1
      have hsz5 : w0.heap.size ≤ w5.drew.heap.size := LB5.out.size
      have hnelg : lb ≠ gb := by
        obtain ⟨ps, h1, _⟩ := OG5.out
        have h2 := h1.outer.ne OC5.out (by decide)
        simpa [Value.ownBlock] using fun e : lb = gb => (h2.elim (fun h => by simp [Value.ownBlock] at h) (fun h => h (by simp [Value.ownBlock, e])))
      have hebg : eb ≠ gb := by omega
      have hrbg : rb ≠ gb := by omega
      clear ck e0 e1 OG OC LB D D5 HD
      have hebl : eb ≠ lb := by omega
      have hrbl : rb ≠ lb := by omega
      go_region_held3 (fun w' => w'.cell? ⟨lb, 0, none⟩ = some (.slice (some ⟨gb, 0, none⟩) n cap) ∧ w'.cell? ⟨eb, eo + k, none⟩ = some (.slice (some ⟨rb, ro, none⟩) 2 rc) ∧ w'.cell? ⟨rb, ro, none⟩ = some (.int .i64 u) ∧ w'.cell? ⟨rb, ro + 1, none⟩ = some (.int .i64 v)) (first | exact ⟨f0, f1, f2, f3⟩ | exact ⟨g0, g1, g2, g3⟩ | exact ⟨k0, k1, k2, k3⟩) ((first | (go_at_call 69; refine (l1Link_any (fun _ => False) w0.heap.size gb n cap u v C _ OG5.out (fun k hk => hk.elim) HCT.out HCL.out h16 hun hvn hune hsz5).mono ?_; rintro e w9 ⟨rfl, hog, hk⟩; have OG9 := hid hog; have K9 := hid hk; have g0 := cellK hk f0 hnelg; have g1 := cellK hk f1 hebg; have g2 := cellK hk f2 hrbg; have g3 := cellK hk f3 hrbg; have OC9 := hid (OC5.out.keptS hk (fun g hg hs => by simp [Value.ownBlock] at hg; omega)); have hfr := OC9.out.free 0; have OC10 := hid (show Own 29 (w9.setCell ⟨lb, 0, none⟩ (.slice (some ⟨gb, 0, none⟩) n cap)) lb (.slice (some ⟨lb, 0, none⟩) 1 1) [.slice (some ⟨gb, 0, none⟩) n cap] from by (have h := OC9.out.store 0 (by simp) (.slice (some ⟨gb, 0, none⟩) n cap); simpa using h)); have k0 := OC10.out.cell 0 (by simp); rw [List.getElem_cons_zero] at k0; have k1 := cell_other g1 (.slice (some ⟨gb, 0, none⟩) n cap) (q := ⟨lb, 0, none⟩) hebl; have k2 := cell_other g2 (.slice (some ⟨gb, 0, none⟩) n cap) (q := ⟨lb, 0, none⟩) hrbl; have k3 := cell_other g3 (.slice (some ⟨gb, 0, none⟩) n cap) (q := ⟨lb, 0, none⟩) hrbl; clear hog hk)))
      have HGA2 := hid (HGA.out.link hun hvn hune)
      have hlbl := OC9.out.lt lb rfl
      have OG10 := hid (show OwnG (fun _ => False) (w9.setCell ⟨lb, 0, none⟩ (.slice (some ⟨gb, 0, none⟩) n cap)) w0.heap.size gb n cap (linkA C u v) from by
        obtain ⟨ps, h1, h2, h3⟩ := OG9.out
        exact ⟨ps, h1.setCell_typed OC9.out (by decide) (by decide) 0 _, h2, h3⟩)
      have LB10 := hid (Below.setCell (LB5.out.trans (K9.out.below w0.heap.size hsz5 (fun k hk hs => by omega))) (p := ⟨lb, 0, none⟩) (by simp only; omega) (.slice (some ⟨gb, 0, none⟩) n cap))
      clear f0 f1 f2 f3 g0 g1 g2 g3 k0 k1 k2 k3 OG9 K9 OC9
      go_wp2
      go_roundw
      case rel => exact ⟨k + 1, _, by omega, by go_num, HGA2.out, OG10.out, OC10.out, LB10.out⟩
      case measure => simp [intOf]; omega
    · obtain rfl : k = es.length := by omega
      have cc := OC.out.cell 0 (by simp)
      rw [List.getElem_cons_zero] at cc
      have OR2 := hid (OR.out.past LB.out (Nat.le_refl _))
      have c1 := OR2.out.cell 0 (by simp)
      rw [List.getElem_cons_zero] at c1
      have hfr := OR2.out.free 0
      have hszl := LB.out.size
      have OG2 := hid (show OwnG (fun _ => False) (wr.setCell ⟨w.heap.size, 0, none⟩ (.slice (some ⟨gb, 0, none⟩) n cap)) w.heap.size gb n cap C from by
        obtain ⟨ps, h1, h2, h3⟩ := OG.out
        exact ⟨ps, (h1.setCell_below (by simp only; omega) _).base hszw, h2, h3⟩)
      have LB2 := hid (show Below w.heap.size w (wr.setCell ⟨w.heap.size, 0, none⟩ (.slice (some ⟨gb, 0, none⟩) n cap)) from Below.setCell (B00.out.trans (LB.out.mono hszw)) (p := ⟨w.heap.size, 0, none⟩) (Nat.le_refl _) _)
      have c110 : (wr.setCell ⟨w.heap.size, 0, none⟩ (.slice (some ⟨gb, 0, none⟩) n cap)).cell? ⟨w.heap.size, 0, none⟩ = some (.slice (some ⟨gb, 0, none⟩) n cap) := by
        have h := (OR2.out.store 0 (by simp) (.slice (some ⟨gb, 0, none⟩) n cap)).cell 0 (by simp)
        simpa using h
      have HC110 := hid c110
      clear c110 OG OC LB
      go_wp2
      refine bodyPost_ret (ret_cell_tmpD rfl _ _ _ ⟨w.heap.size, 0, none⟩ (.agg #[.slice (some ⟨gb, 0, none⟩) n cap]) (.bool true) rfl rfl ?_) rfl ⟨gb, cap, C, rfl, HGA.out, OG2.out, LB2.out⟩
      have c110 := HC110.out
      clear OG2 LB2
      go_simp
theorem rdB_kept {w w' : World} {g n c i : Nat} {a : Option Addr} {h : Int} {zs : List Int} (hd : DiceB w g a n c i h) (hr : Rd (Value.int .u8) w a zs) (hk : Kept (fun k => k = g) w w') : Rd (Value.int .u8) w' a zs := by
  intro j hj
  obtain ⟨b, o, ha, hc⟩ := hr j hj
  exact ⟨b, o, ha, cellK hk hc (hd.ne hc)⟩
/-- What the dice hold all along. -/
structure DiceR (w wr : World) (g n c : Nat) (a : Option Addr) (zs : List Int) : Prop where
  ex : ∃ i h, i ≤ n ∧ DiceB wr g a n c i h
  rd : Rd (Value.int .u8) wr a zs
  kept : Kept (fun k => k = g) w wr
  old : g < w.heap.size
  rd0 : Rd (Value.int .u8) w a zs
theorem DiceR.past2 {w wr w' : World} {g n c : Nat} {a : Option Addr} {zs : List Int} (h : DiceR w wr g n c a zs) (hb : Below w.heap.size wr w') : DiceR w w' g n c a zs := by
  obtain ⟨i, x, hi, hd⟩ := h.ex
  refine ⟨⟨i, x, hi, (hb.block g h.old).trans hd⟩, ?_, ⟨hb.os.trans h.kept.os, hb.tape.trans h.kept.tape, hb.output.trans h.kept.output, Nat.le_trans h.kept.size hb.size, fun k hk hn => (hb.block k hk).trans (h.kept.block k hk hn)⟩, h.old, h.rd0⟩
  · intro j hj
    obtain ⟨b, o, h1, h2⟩ := h.rd j hj
    obtain ⟨b', o', h3, h4⟩ := h.rd0 j hj
    have e : b = b' := by rw [h1] at h3; simp at h3; exact h3.1
    subst e
    exact ⟨b, o, h1, (World.cell?_of_block (w := wr) (hb.block b (World.block_lt_of_cell? _ _ h4))).trans h2⟩
theorem DiceR.setc {w wr : World} {g n c : Nat} {a : Option Addr} {zs : List Int} (h : DiceR w wr g n c a zs) (u : Value) : DiceR w (wr.setCell ⟨w.heap.size, 0, none⟩ u) g n c a zs :=
  h.past2 (Below.setCell (Below.refl w.heap.size wr) (p := ⟨w.heap.size, 0, none⟩) (Nat.le_refl _) u)
theorem DiceR.past {w wr w' : World} {g n c : Nat} {a : Option Addr} {zs : List Int} (h : DiceR w wr g n c a zs) (hb : Below wr.heap.size wr w') : DiceR w w' g n c a zs := by
  obtain ⟨i, x, hi, hd⟩ := h.ex
  exact ⟨⟨i, x, hi, hd.past hb⟩, h.rd.below hb (Nat.le_refl _), h.kept.trans (Kept.of_below _ hb), h.old, h.rd0⟩
theorem DiceR.lt {w wr : World} {g n c : Nat} {a : Option Addr} {zs : List Int} (h : DiceR w wr g n c a zs) : g < wr.heap.size := by
  obtain ⟨i, x, hi, hd⟩ := h.ex; exact hd.lt
/-- A throw. -/
theorem DiceR.below {w wr : World} {g n c : Nat} {a : Option Addr} {zs : List Int} (h : DiceR w wr g n c a zs) (hl : zs.length = n) (hz : ∀ z ∈ zs, 0 ≤ z ∧ z < 256) (hn : n ≤ 4096) (k : Int) (m : Nat) (hk : k = (m : Int)) (hm : 0 < m) (hm2 : m ≤ 1000) :
    Calls Tryd.prog 16 #[.pointer (some ⟨g, 0, none⟩), .int .i64 k] wr fun e w' => ∃ x : Nat, e = .returned (.int .i64 (x : Nat)) ∧ x < m ∧ DiceR w w' g n c a zs ∧ Kept (fun k => k = g) wr w' := by
  obtain ⟨i, x, hi, hd⟩ := h.ex
  refine (below_k g n c i a x zs k m wr hk hd h.rd hl hz hn hi hm hm2).mono ?_
  rintro e w' ⟨y, i', h', rfl, hy, hi', hd', hk'⟩
  exact ⟨y, rfl, hy, ⟨⟨i', h', hi', hd'⟩, rdB_kept hd h.rd hk', h.kept.trans hk', h.old, h.rd0⟩, hk'⟩
theorem ownM_someG {eo ei : TypeId} {w : World} {B : Nat} {v : Value} {rs : List Row} (h : OwnM eo ei w B v rs) (h0 : 0 < rs.length) : ∃ a c, v = .slice (some a) rs.length c := by
  rcases h.outer.form with ⟨_, h2⟩ | ⟨g, cap, spare, h2, _⟩
  · have := congrArg List.length h2
    rw [List.length_map, List.length_nil] at this; omega
  · exact ⟨_, _, by rw [h2, List.length_map]⟩
def WGPost (g len c m : Nat) (a : Option Addr) (zs : List Int) (w : World) (e : Ending) (w' : World) : Prop :=
  ∃ n gb cap A, e = .returned (.agg #[.slice (some ⟨gb, 0, none⟩) n cap]) ∧ n ≤ m ∧ GA n A ∧ OwnG (fun _ => False) w' w.heap.size gb n cap A ∧ DiceR w w' g len c a zs
set_option maxRecDepth 100000 in
set_option maxHeartbeats 4000000 in
theorem w9Graph_any (g len c : Nat) (a : Option Addr) (zs : List Int) (k : Int) (m : Nat) (w : World) (hk : k = (m : Int)) (h : DiceR w w g len c a zs) (hl : zs.length = len) (hz : ∀ z ∈ zs, 0 ≤ z ∧ z < 256) (hn : len ≤ 4096) (hm : 0 < m) (hm2 : m ≤ 9) :
    Calls Tryd.prog 8 #[.pointer (some ⟨g, 0, none⟩), .int .i64 k] w (WGPost g len c m a zs w) := by
  have DR0 := hid h; have HL := hid hl; have HZ := hid hz; have HK := hid hk
  have hgw := h.lt
  clear h hl hz hk
  obtain ⟨w0, hw0⟩ : ∃ w0, w0 = (w.alloc (.cells #[.slice none 0 0] 29)) := ⟨_, rfl⟩
  have B0 := hid (show Below w.heap.size w w0 by rw [hw0]; exact ((Below.refl _ _).alloc (Nat.le_refl _) _))
  have c0 : w0.cell? ⟨w.heap.size, 0, none⟩ = some (.slice none 0 0) := by rw [hw0]; simp [go_sem]
  have HW := hid hw0; clear hw0
  have hsz0 : w0.heap.size = w.heap.size + 1 := by rw [HW.out]; simp
  have OR := hid (show Own 29 w0 w.heap.size (.slice (some ⟨w.heap.size, 0, none⟩) 1 1) [.slice none 0 0] by
    have h := own_new 29 w [.slice none 0 0] (by simp [maxLen])
    rw [HW.out]
    exact h)
  have DR := hid (DR0.out.past B0.out)
  clear c0 B0
  go_enter Tryd.func8, Tryd.ntmps8
  go_wp2_with fail
  rw [← HW.out]
  refine (DR.out.below HL.out HZ.out hn k m HK.out hm (by omega)).mono ?_
  rintro e w1 ⟨x, rfl, hx, hdr, hk1⟩
  have DR1 := hid hdr; have OR1 := hid (OR.out.keptS hk1 (fun g' hg hs => by simp [Value.ownBlock] at hg; omega))
  have hs1 := hk1.size
  clear hdr hk1 DR OR
  go_wp2_with fail
  refine (DR1.out.below HL.out HZ.out hn 3 3 rfl (by decide) (by decide)).mono ?_
  rintro e w2 ⟨y, rfl, hy, hdr, hk2⟩
  have DR2 := hid hdr; have OR2 := hid (OR1.out.keptS hk2 (fun g' hg hs => by simp [Value.ownBlock] at hg; omega))
  have hs2 := hk2.size
  clear hdr hk2 DR1 OR1
  have hbA := alloc_below w2 (.cells #[] 33)
  have DR3 := hid (DR2.out.past hbA)
  have OR3 := hid (OR2.out.past hbA (Nat.le_refl _))
  have OE := hid (show OwnM 33 2 (w2.alloc (.cells #[] 33)) (w.heap.size + 1) (.slice (some ⟨w2.heap.size, 0, none⟩) 0 0) [] from ⟨(own_new 33 w2 [] (by decide)).base (by omega), Inner.nil _ _ _⟩)
  have hs3 := hbA.size
  clear hbA DR2 OR2
  obtain ⟨n, hn1⟩ : ∃ n, n = 1 + x := ⟨_, rfl⟩
  have hne : (1 : Int) + (x : Int) = (n : Int) := by omega
  have hnm : n ≤ m := by omega
  have hn0 : 1 ≤ n := by omega
  have HN1 := hid hn1
  clear hn1
  go_wp2
  generalize w2.alloc (.cells #[] 33) = w3 at *
  have hsw3 : w.heap.size < w3.heap.size := by omega
  clear hs1 hs2 hs3 hsz0
  generalize w2.heap.size = eb0 at *
  have hgw1 : g < w.heap.size + 1 := by omega
  have hm9 : n ≤ 9 := by omega
  go_loopw [7, 8] (fun o x wr => ∃ (v : Nat) (qs : List Row) (E : List (Nat × Nat)), 1 ≤ v ∧ v ≤ n ∧ x = .int .i64 (v : Nat) ∧ OwnM 33 2 wr (w.heap.size + 1) o qs ∧ nums qs = E.map pairI ∧ (∀ p ∈ E, p.1 < p.2 ∧ p.2 < n) ∧ E.length ≤ 9 * v ∧ DiceR w wr g len c a zs ∧ Own 29 wr w.heap.size (.slice (some ⟨w.heap.size, 0, none⟩) 1 1) [.slice none 0 0] ∧ w.heap.size < wr.heap.size ∧ (∃ a' c', o = .slice (some a') qs.length c')) (fun _ x _ => n - (intOf x).toNat)
  case atStart => exact ⟨1, [], [], Nat.le_refl _, hn0, rfl, OE.out, rfl, (fun p hp => by simp at hp), by simp, DR3.out, OR3.out, hsw3, ⟨_, _, rfl⟩⟩
  case round =>
    clear OE DR3 OR3
    obtain ⟨v, qs, E, hv1, hvn, rfl, ho, hq, hE, hel, hdr, hor, hsz, hsl⟩ := hrel
    obtain ⟨eg, ec, rfl⟩ := ownM_slice ho hsl
    have OE := hid ho; have HQ := hid hq; have HE := hid hE; have DR := hid hdr; have OR := hid hor; have HEL := hid hel
    clear ho hq hE hdr hor hel hsl
    by_cases hvl : v < n
    · have hvi : (v : Int) < (n : Int) := by omega
      go_wp2
      go_loopw [7, 9] (fun o x wr => ∃ (u : Nat) (qs : List Row) (E : List (Nat × Nat)), u ≤ v ∧ x = .int .i64 (u : Nat) ∧ OwnM 33 2 wr (w.heap.size + 1) o qs ∧ nums qs = E.map pairI ∧ (∀ p ∈ E, p.1 < p.2 ∧ p.2 < n) ∧ E.length ≤ 9 * v + u ∧ DiceR w wr g len c a zs ∧ Own 29 wr w.heap.size (.slice (some ⟨w.heap.size, 0, none⟩) 1 1) [.slice none 0 0] ∧ w.heap.size < wr.heap.size ∧ (∃ a' c', o = .slice (some a') qs.length c')) (fun _ x _ => v - (intOf x).toNat)
      case atStart => exact ⟨0, qs, E, Nat.zero_le _, rfl, OE.out, HQ.out, HE.out, by have := HEL.out; omega, DR.out, OR.out, hsz, ⟨_, _, rfl⟩⟩
      case round =>
        clear OE HQ HE DR OR HEL
        obtain ⟨u, qs, E, huv, rfl, ho, hq, hE, hel, hdr, hor, hsz, hsl⟩ := hrel
        obtain ⟨eg, ec, rfl⟩ := ownM_slice ho hsl
        have OE := hid ho; have HQ := hid hq; have HE := hid hE; have DR := hid hdr; have OR := hid hor; have HEL := hid hel
        clear ho hq hE hdr hor hel hsl
        by_cases hul : u < v
        · have hui : (u : Int) < (v : Int) := by omega
          go_wp2_with fail
          refine (DR.out.below HL.out HZ.out hn 4 4 rfl (by decide) (by decide)).mono ?_
          rintro e w4 ⟨r, rfl, hr, hdr, hk4⟩
          have DR4 := hid hdr; have OR4 := hid (OR.out.keptS hk4 (fun g' hg hs => by simp [Value.ownBlock] at hg; omega))
          have OE4 := hid (OE.out.keptS hk4 (OE.out.blocks.mono (fun k hk hs => by omega)))
          have hs4 := hk4.size
          have hsz4 : w.heap.size + 1 ≤ w4.heap.size := by omega
          clear hdr hk4 DR OR OE hs4
          by_cases hro : (r : Int) < 1 + (y : Int)
          · have hbA := alloc_below w4 (.cells #[.int .i64 (u : Int), .int .i64 (v : Int)] 2)
            have ON := hid (show Own 2 (w4.alloc (.cells #[.int .i64 (u : Int), .int .i64 (v : Int)] 2)) w4.heap.size (.slice (some ⟨w4.heap.size, 0, none⟩) 2 2) ((pairI (u, v)).map (Value.int .i64)) from own_new 2 w4 [.int .i64 (u : Int), .int .i64 (v : Int)] (show (2 : Nat) ≤ maxLen by decide))
            have OA := hid (OE4.out.past hbA (Nat.le_refl _))
            have IA := hid (OE4.out.inner.snoc hbA hsz4 ⟨some ⟨w4.heap.size, 0, none⟩, pairI (u, v), 2⟩ ON.out)
            have DR5 := hid (DR4.out.past hbA)
            have OR5 := hid (OR4.out.past hbA (Nat.le_refl _))
            have hqe : qs.length = E.length := by have := congrArg List.length HQ.out; simpa [nums] using this
            have HML := hid (show (qs.map Row.val).length < 1099511627776 by have := HEL.out; rw [List.length_map]; omega)
            have HSA := hid (show w.heap.size + 1 ≤ (w4.alloc (.cells #[.int .i64 (u : Int), .int .i64 (v : Int)] 2)).heap.size from Nat.le_trans hsz4 hbA.size)
            clear hbA DR4 OR4 OE4 hqe
            go_wp2_with (at_builtin; refine law_push tRows _ rfl _ _ rfl (w.heap.size + 1) _ (qs.map Row.val) rfl OA.out.outer _ _ rfl ?c0 rfl ?c1 ?c2 ?_)
            case c0 => simp
            case c1 => have := HML.out; simpa using this
            case c2 => have := HSA.out; simp at this ⊢; omega
            intro v' w6 h1 h2
            have OM6 := hid (show OwnM 33 2 w6 (w.heap.size + 1) v' (qs ++ [⟨some ⟨w4.heap.size, 0, none⟩, pairI (u, v), 2⟩]) from rows_push (by decide) OA.out.outer IA.out h1 h2)
            have hb6 := grown_below h2 HSA.out (fun g hg => OA.out.outer.ge g hg)
            have DR6 := hid (DR5.out.past2 (hb6.mono (by omega)))
            have OR6 := hid (OR5.out.below hb6 (fun g' hg => by simp [Value.ownBlock] at hg; omega))
            have HS6 := hid (show w.heap.size < w6.heap.size by have := hb6.size; have := HSA.out; omega)
            have HQ6 := hid (show nums (qs ++ [(⟨some ⟨w4.heap.size, 0, none⟩, pairI (u, v), 2⟩ : Row)]) = (E ++ [(u, v)]).map pairI by rw [nums_push, HQ.out]; simp)
            have HE6 := hid (show ∀ p ∈ E ++ [(u, v)], p.1 < p.2 ∧ p.2 < n from fun p hp => by
              rcases List.mem_append.1 hp with h3 | h3
              · exact HE.out p h3
              · obtain rfl : p = (u, v) := by simpa using h3
                exact ⟨hul, hvl⟩)
            obtain ⟨oa, oc, hv6⟩ := ownM_someG OM6.out (by simp)
            subst hv6
            clear h1 h2 hb6 OA IA ON DR5 OR5
            go_wp2
            go_roundw
            case rel => exact ⟨u + 1, _, E ++ [(u, v)], by omega, by go_num, OM6.out, HQ6.out, HE6.out, by have := HEL.out; simp; omega, DR6.out, OR6.out, HS6.out, ⟨_, _, rfl⟩⟩
            case measure => simp [intOf]; omega
          · go_wp2
            go_roundw
            case rel => exact ⟨u + 1, qs, E, by omega, by go_num, OE4.out, HQ.out, HE.out, by have := HEL.out; omega, DR4.out, OR4.out, by omega, ⟨_, _, rfl⟩⟩
            case measure => simp [intOf]; omega
        · obtain rfl : u = v := by omega
          have hui : ¬ (u : Int) < (u : Int) := by omega
          go_wp2
          go_roundw
          case rel => exact ⟨u + 1, qs, E, by omega, by omega, by go_num, OE.out, HQ.out, HE.out, by have := HEL.out; omega, DR.out, OR.out, hsz, ⟨_, _, rfl⟩⟩
          case measure => simp [intOf]; omega
    · obtain rfl : v = n := by omega
      have hvi : ¬ (v : Int) < (v : Int) := by omega
      go_wp2_with fail
      obtain ⟨a', c', e1, hrd, _⟩ := OE.out.rd
      have hqe : qs.length = E.length := by have := congrArg List.length HQ.out; simpa [nums] using this
      refine (graphOf_any v _ qs E ec _ HQ.out HE.out hn0 (by omega) (by have := HEL.out; omega) OE.out.rdm).mono ?_
      rintro e w6 ⟨gb, cap, A, rfl, hga, hog, hb6⟩
      have HGA := hid hga; have OG := hid hog
      have DR6 := hid (DR.out.past hb6)
      have OR6 := hid (OR.out.past hb6 (Nat.le_refl _))
      have hs6 := hb6.size
      clear hga hog hb6 OE HQ HE DR OR hrd e1 hqe HEL
      have hbA := alloc_below w6 (.cells #[.slice (some ⟨gb, 0, none⟩) v cap] 29)
      have OC := hid (own_new 29 w6 [.slice (some ⟨gb, 0, none⟩) v cap] (by simp [maxLen]))
      have OR7 := hid (OR6.out.past hbA (Nat.le_refl _))
      have OG7 := hid (OG.out.past hbA (Nat.le_refl _))
      have DR7 := hid (DR6.out.past hbA)
      have HBA := hid hbA
      have c1 := OR7.out.cell 0 (by simp)
      rw [List.getElem_cons_zero] at c1
      have hfr := OR7.out.free 0
      have OG2 := hid (show OwnG (fun _ => False) ((w6.alloc (.cells #[.slice (some ⟨gb, 0, none⟩) v cap] 29)).setCell ⟨w.heap.size, 0, none⟩ (.slice (some ⟨gb, 0, none⟩) v cap)) w.heap.size gb v cap A from by
        obtain ⟨ps, h1, h2, h3⟩ := OG7.out
        exact ⟨ps, (h1.setCell_below (by simp only; omega) _).base (by omega), h2, h3⟩)
      have DR2 := hid (DR7.out.setc (.slice (some ⟨gb, 0, none⟩) v cap))
      have c110 : ((w6.alloc (.cells #[.slice (some ⟨gb, 0, none⟩) v cap] 29)).setCell ⟨w.heap.size, 0, none⟩ (.slice (some ⟨gb, 0, none⟩) v cap)).cell? ⟨w.heap.size, 0, none⟩ = some (.slice (some ⟨gb, 0, none⟩) v cap) := by
        have h := (OR7.out.store 0 (by simp) (.slice (some ⟨gb, 0, none⟩) v cap)).cell 0 (by simp)
        simpa using h
      have HC110 := hid c110
      clear c110 hbA OR6 OG DR6 OR7 OG7 DR7 OC
      go_wp2
      refine bodyPost_ret (ret_cell rfl _ _ _ ⟨w.heap.size, 0, none⟩ (.agg #[.slice (some ⟨gb, 0, none⟩) v cap]) rfl ?_) rfl ⟨v, gb, cap, A, rfl, hnm, HGA.out, OG2.out, DR2.out⟩
      have c110 := HC110.out
      clear OG2 DR2
      go_simp
theorem big_any (a : Option Addr) (n c : Nat) (w : World) (b : Bool) (hb : decide (4096 < n) = b) :
    Calls Tryd.prog 6 #[.slice a n c] w fun e w' => e = .returned (.bool b) ∧ w = w' := by
  cases b with
  | true =>
    have h1 : (4096 : Int) < (n : Int) := by have := of_decide_eq_true hb; omega
    clear hb
    go_enter Tryd.func6, Tryd.ntmps6
    go_wp2
    go_ret
    exact ⟨rfl, rfl⟩
  | false =>
    have h1 : ¬ (4096 : Int) < (n : Int) := by have := of_decide_eq_false hb; omega
    clear hb
    go_enter Tryd.func6, Tryd.ntmps6
    go_wp2
    go_ret
    exact ⟨rfl, rfl⟩
theorem DiceR.start {w : World} {g n c : Nat} {a : Option Addr} {zs : List Int} {h : Int} (hd : DiceB w g a n c 0 h) (hr : Rd (Value.int .u8) w a zs) : DiceR w w g n c a zs :=
  ⟨⟨0, h, Nat.zero_le _, hd⟩, hr, Kept.refl _ _, hd.lt, hr⟩
end
end
end Go.Proofs.YtdncmloajajiaaaDoor
