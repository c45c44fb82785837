/- WaysIn: the program's. -/
import Derived.Test.YtnlcmbelpdnffaaWays2
namespace Go.Proofs.Ytnlcmbelpdnffaa
open Go.RowKit
theorem tInts : SliceT Try.prog 65 3 (.int .i64 0) := ⟨Try.underlying65, 8, by decide, by kernel_rfl, rfl⟩

set_option maxHeartbeats 4000000 in
theorem maxInts_any (a : Option Addr) (xs : List Int) (c : Nat) (w : World) (hz : Rd (Value.int .i64) w a xs) (h0 : 1 ≤ xs.length) (hm : xs.length ≤ 1048576) :
    Calls Try.prog 64 #[.slice a xs.length c] w fun e w' => (∃ m, e = .returned (.int .i64 m) ∧ m ∈ xs ∧ ∀ x ∈ xs, x ≤ m) ∧ w = w' := by
  have RZ := hid hz; clear hz
  have hd0 : decide ((xs.length : Int) < 1) = false := by rw [decide_eq_false_iff_not]; omega
  have hd0n : decide (xs.length < 1) = false := by rw [decide_eq_false_iff_not]; omega
  obtain ⟨b, o, rfl, c0⟩ := RZ.out 0 (by omega)
  rw [Nat.add_zero] at c0
  have hi0 : (0 : Int) < (xs.length : Int) := by omega
  go_enter Try.func64, Try.ntmps64
  go_wp2
  go_loop [3, 4] (fun m i => ∃ k : Nat, ∃ y : Int, 1 ≤ k ∧ k ≤ xs.length ∧ i = .int .i64 k ∧ m = .int .i64 y ∧ y ∈ xs.take k ∧ ∀ x ∈ xs.take k, x ≤ y) (fun _ i => xs.length - (intOf i).toNat)
  case atStart => exact ⟨1, xs[0], Nat.le_refl _, h0, rfl, rfl, by simp [List.mem_take_iff_getElem]; exact ⟨0, by omega, rfl⟩, by
    intro x hx; rw [List.take_succ_eq_append_getElem h0] at hx; simp at hx; rw [hx]; exact Int.le_refl _⟩
  case round =>
    obtain ⟨k, y, hk1, hk, rfl, rfl, hy, hle⟩ := hrel
    have HY := hid hy; have HL := hid hle; clear hy hle
    by_cases hlt : k < xs.length
    · obtain ⟨b', o', hbo, cc⟩ := RZ.out k hlt
      obtain ⟨rfl, rfl⟩ : b' = b ∧ o' = o := by simp at hbo; exact ⟨hbo.1.symm, hbo.2.symm⟩
      clear hbo
      have HS := hid (List.take_succ_eq_append_getElem hlt)
      have HV := hid (show max y xs[k] ∈ xs.take (k + 1) by
        rw [HS.out, List.mem_append]
        rcases Int.le_total y xs[k] with h | h
        · right; rw [Int.max_eq_right h]; simp
        · left; rw [Int.max_eq_left h]; exact HY.out)
      have HW2 := hid (show ∀ x ∈ xs.take (k + 1), x ≤ max y xs[k] by
        intro x hx
        rw [HS.out, List.mem_append] at hx
        rcases hx with h | h
        · exact Int.le_trans (HL.out x h) (Int.le_max_left _ _)
        · simp at h; rw [h]; exact Int.le_max_right _ _)
      generalize xs[k] = z at *
      go_wp2
      go_round
      case rel => exact ⟨k + 1, max y z, by omega, by omega, by go_num, by rw [show max y z = if y < z then z else y by split <;> omega], HV.out, HW2.out⟩
      case measure => simp [intOf]; omega
    · obtain rfl : k = xs.length := by omega
      go_wp2
      go_ret
      exact ⟨⟨y, rfl, List.mem_of_mem_take HY.out, fun x hx => HL.out x (by rw [List.take_length]; exact hx)⟩, rfl⟩

theorem maxInts_n (a : Option Addr) (xs : List Int) (c n : Nat) (w : World) (hl : xs.length = n) (hz : Rd (Value.int .i64) w a xs) (h0 : 1 ≤ n) (hm : n ≤ 1048576) :
    Calls Try.prog 64 #[.slice a n c] w fun e w' => (∃ m, e = .returned (.int .i64 m) ∧ m ∈ xs ∧ ∀ x ∈ xs, x ≤ m) ∧ w = w' := by
  subst hl; exact maxInts_any a xs c w hz h0 hm
set_option maxHeartbeats 4000000 in
theorem implWaysIn_b (a : Option Addr) (rs : List Row) (c : Nat) (b : Option Addr) (qs : List Row) (d : Nat) (w : World) (r : Bool) (hb : decide (WaysP rs.length (nums qs)) = r) (hn : rs.length ≤ 1048576) (hq : RdM w b qs) (hm : Small qs) :
    Calls Try.prog 36 #[.agg #[.slice a rs.length c, .slice b qs.length d]] w fun e w' => e = .returned (.bool r) ∧ Below w.heap.size w w' := by
  have RQ := hid hq; have HB := hid hb; clear hq hb
  have hm1 := hm.1
  obtain ⟨w0, hw0⟩ : ∃ w0, w0 = (w.alloc (.cells #[.slice a rs.length c, .slice b qs.length d] 33)) := ⟨_, rfl⟩
  have B0 := hid (show Below w.heap.size w w0 by rw [hw0]; exact ((Below.refl _ _).alloc (Nat.le_refl _) _))
  have c0 : w0.cell? ⟨w.heap.size, 0, none⟩ = some (.slice a rs.length c) := by rw [hw0]; simp [go_sem]
  have c0a : w0.cell? ⟨w.heap.size, 1, none⟩ = some (.slice b qs.length d) := by rw [hw0]; simp [go_sem]
  replace RQ := hid (RQ.out.below B0.out (Nat.le_refl _))
  have HW := hid hw0; clear hw0
  by_cases hf : FormP rs.length (nums qs)
  · have HF := hid hf
    have h1 := hid (show decide (FormP rs.length (nums qs)) = true by simpa using hf)
    have hq16 : qs.length ≤ 16 := by have := hf.few; rwa [nums_length] at this
    have hr1 := hf.one
    clear hf
    go_enter Try.func36, Try.ntmps36
    go_wp2_with fail
    rw [← HW.out]
    go_wp2_with fail
    refine (canCount_b a rs c b qs d _ _ h1.out hn RQ.out hm).mono ?_
    rintro e w1 ⟨rfl, hb⟩
    replace RQ := hid (RQ.out.below hb (Nat.le_refl _))
    replace B0 := hid (bon B0.out hb)
    replace c0 := cellB hb c0 (Nat.le_refl _)
    replace c0a := cellB hb c0a (Nat.le_refl _)
    clear hb
    have BW := hid B0.out
    go_wp2_with (at_make; refine law_make tInts _ rfl _ _ rfl rs.length _ _ rfl rfl (by omega) ?_; intro w2 hown hb hsz; have d0 := cellB hb c0 (Nat.le_refl _); have d0a := cellB hb c0a (Nat.le_refl _))
    have HO := hid hown; have HB2 := hid hb; clear hown hb hsz d0 d0a
    go_loopw [5, 16] (fun _ i wr => ∃ k : Nat, k ≤ qs.length ∧ i = .int .i64 k ∧ Own 3 wr w1.heap.size (.slice (some ⟨w1.heap.size, 0, none⟩) rs.length rs.length) ((degs rs.length ((nums qs).take k)).map (.int .i64)) ∧ Below w1.heap.size w1 wr) (fun _ i _ => qs.length - (intOf i).toNat)
    case atStart => exact ⟨0, Nat.zero_le _, rfl, by rw [List.take_zero, degs_nil, List.map_replicate]; exact HO.out, HB2.out⟩
    case round =>
      obtain ⟨k, hk, rfl, hown, hb⟩ := hrel
      have BL := hid hb
      have RQ1 := hid RQ.out
      replace RQ := hid (RQ.out.below hb (Nat.le_refl _))
      replace B0 := hid (bon B0.out hb)
      replace c0 := cellB hb c0 (Nat.le_refl _)
      replace c0a := cellB hb c0a (Nat.le_refl _)
      clear hb
      by_cases hlt : k < qs.length
      · obtain ⟨b', o, rfl, cc, hok⟩ := RQ.out.at k hlt
        have hnl : k < (nums qs).length := by rw [nums_length]; exact hlt
        have hzk : (nums qs)[k] = qs[k].z := by simp [nums]
        have hrow := HF.out.row qs[k].z (List.mem_map.2 ⟨qs[k], List.getElem_mem hlt, rfl⟩)
        have hsnoc := List.take_succ_eq_append_getElem hnl
        rw [hzk] at hsnoc
        have hbase := (RQ1.out.row qs[k] (List.getElem_mem hlt)).1
        generalize qs[k] = q at *
        have hi0 : (k : Int) < (qs.length : Int) := by omega
        obtain ⟨zz, hzz⟩ : ∃ zz, zz = q.z := ⟨_, rfl⟩
        obtain ⟨h2, hinc⟩ := hrow
        obtain ⟨x, y, hxy⟩ : ∃ x y, q.z = [x, y] := by
          match hq : q.z, h2 with
          | [x, y], _ => exact ⟨x, y, rfl⟩
        rw [hxy] at hinc hsnoc
        obtain ⟨x, rfl⟩ := Int.eq_ofNat_of_zero_le (hinc.1 x (by simp)).1
        obtain ⟨y, rfl⟩ := Int.eq_ofNat_of_zero_le (hinc.1 y (by simp)).1
        have hyn : y < rs.length := by have := (hinc.1 y (by simp)).2; omega
        have hlt2 : x < y := by have := hinc.2; simp at this; omega
        obtain ⟨b3, o3, ha3, e0⟩ := hok.1 0 (by omega)
        obtain ⟨b4, o4, ha4, e1⟩ := hok.1 1 (by omega)
        obtain ⟨rfl, rfl⟩ : b4 = b3 ∧ o4 = o3 := by rw [ha3] at ha4; simp at ha4; exact ⟨ha4.1.symm, ha4.2.symm⟩
        obtain ⟨b5, o5, ha5, e5⟩ := hbase 0 (by omega)
        have hb5 : b5 = b4 := by rw [ha3] at ha5; simp at ha5; exact ha5.1.symm
        have hlb : b4 < w1.heap.size := by have := World.block_lt_of_cell? _ _ e5; rw [hb5] at this; exact this
        have hne : ¬ b4 = w1.heap.size := by omega
        have hne' : ¬ w1.heap.size = b4 := by omega
        have hv0 : q.z[0]'(by omega) = (x : Int) := by simp [hxy]
        have hv1 : q.z[1]'(by omega) = (y : Int) := by simp [hxy]
        rw [hv0, Nat.add_zero] at e0
        rw [hv1] at e1
        have hz2 : q.z.length = 2 := h2
        rw [ha3, hz2] at cc
        have hdx := deg_le ((nums qs).take k) x
        have hdy := deg_le ((nums qs).take k) y
        have hkl : ((nums qs).take k).length ≤ 16 := by simp; omega
        have HSN := hid hsnoc
        have HDS := hid (degs_step rs.length ((nums qs).take k) x y hlt2)
        have hl := degs_length rs.length ((nums qs).take k)
        have hcx := hown.cell x (by simp [hl]; omega)
        have hcy := hown.cell y (by simp [hl]; omega)
        rw [List.getElem_map, degs_get] at hcx hcy
        have hfx := hown.free x
        have hfy := hown.free y
        have hs1 := hown.store x (by simp [hl]; omega) (.int .i64 ((deg ((nums qs).take k) x : Nat) + 1))
        have hs2 := hs1.store y (by simp [hl]; omega) (.int .i64 ((deg ((nums qs).take k) y : Nat) + 1))
        have HS := hid hs2
        have HBS := hid (((BL.out).setCell (p := ⟨w1.heap.size, x, none⟩) (Nat.le_refl _) (.int .i64 ((deg ((nums qs).take k) x : Nat) + 1))).setCell (p := ⟨w1.heap.size, y, none⟩) (Nat.le_refl _) (.int .i64 ((deg ((nums qs).take k) y : Nat) + 1)))
        have hxn : ((x : Nat) : Int) < (rs.length : Int) := by omega
        have hyn' : ((y : Nat) : Int) < (rs.length : Int) := by omega
        have hxy1 : ¬ x = y := by omega
        have hxy2 : ¬ y = x := by omega
        clear hs1 hs2 hown hl hsnoc hinc hok hbase ha4 ha5 e5 hb5 hxy hzz hzk hv0 hv1 h2 hz2 ha3
        generalize hDX : deg ((nums qs).take k) x = dx at *
        generalize hDY : deg ((nums qs).take k) y = dy at *
        have HDX := hid hDX; have HDY := hid hDY; clear hDX hDY
        go_wp2
        go_roundw
        case rel => exact ⟨k + 1, by omega, by go_num, by rw [HSN.out, ← HDS.out, List.map_set, List.map_set]; exact HS.out, HBS.out⟩
        case measure => simp [intOf]; omega
      · obtain rfl : k = qs.length := by omega
        rw [List.take_of_length_le (by rw [nums_length]; exact Nat.le_refl _)] at hown
        have HRD := hid (ownL_rd hown)
        have B2 := hid (BW.out.trans (BL.out.mono BW.out.size))
        clear hown
        go_wp2_with fail
        refine (maxInts_n _ (degs rs.length (nums qs)) _ _ _ (degs_length _ _) HRD.out hr1 hn).mono ?_
        rintro e w4 ⟨⟨m, rfl, hmem, hmax⟩, rfl⟩
        have HMEM := hid hmem; have HMAX := hid hmax; clear hmem hmax
        go_wp2
        go_ret
        refine ⟨ret_bool ?_, B2.out⟩
        rw [← HB.out, Bool.eq_iff_iff, decide_eq_true_iff, decide_eq_true_iff]
        constructor
        · intro h
          refine ⟨HF.out, fun v hv => ?_⟩
          have := HMAX.out ((deg (nums qs) v : Nat) : Int) (List.mem_map.2 ⟨v, List.mem_range.2 hv, rfl⟩)
          omega
        · intro h
          obtain ⟨v, hv, hvm⟩ := List.mem_map.1 HMEM.out
          have := h.two v (List.mem_range.1 hv)
          rw [← hvm]; omega
  · have HF := hid hf
    have h1 := hid (show decide (FormP rs.length (nums qs)) = false by simpa using hf)
    clear hf
    go_enter Try.func36, Try.ntmps36
    go_wp2_with fail
    rw [← HW.out]
    go_wp2_with fail
    refine (canCount_b a rs c b qs d _ _ h1.out hn RQ.out hm).mono ?_
    rintro e w2 ⟨rfl, hb⟩
    replace RQ := hid (RQ.out.below hb (Nat.le_refl _))
    replace B0 := hid (bon B0.out hb)
    replace c0 := cellB hb c0 (Nat.le_refl _)
    replace c0a := cellB hb c0a (Nat.le_refl _)
    clear hb
    go_wp2
    go_ret
    exact ⟨ret_bool (dec_f HB.out fun h => HF.out h.form), B0.out⟩
theorem specWaysIn_c (a : Option Addr) (rs : List Row) (c : Nat) (b : Option Addr) (qs : List Row) (d : Nat) (w : World) (r : Bool) (hb : decide (WaysP (nums rs).length (nums qs)) = r) (_hr : RdM w a rs) (hn : Small rs) (hq : RdM w b qs) (hm : Small qs) :
    Calls Try.prog 35 #[.agg #[.slice a rs.length c, .slice b qs.length d]] w fun e w' => e = .returned (.bool r) ∧ Below w.heap.size w w' :=
  specWaysIn_b a rs c b qs d w r (by rwa [nums_length] at hb) hn.1 hq hm
theorem implWaysIn_c (a : Option Addr) (rs : List Row) (c : Nat) (b : Option Addr) (qs : List Row) (d : Nat) (w : World) (r : Bool) (hb : decide (WaysP (nums rs).length (nums qs)) = r) (_hr : RdM w a rs) (hn : Small rs) (hq : RdM w b qs) (hm : Small qs) :
    Calls Try.prog 36 #[.agg #[.slice a rs.length c, .slice b qs.length d]] w fun e w' => e = .returned (.bool r) ∧ Below w.heap.size w w' :=
  implWaysIn_b a rs c b qs d w r (by rwa [nums_length] at hb) hn.1 hq hm
end Go.Proofs.Ytnlcmbelpdnffaa
