/- The program's sets of vertices: of a list, of each row of a graph. · CodeOf: both. · CodeOf: the program's. -/
import Derived.Test.YtccohcdgcpcbjaaDoorMask
import Derived.Test.YtccohcdgcpcbjaaDoorEdges
import Derived.Test.YtccohcdgcpcbjaaDoorMem3
namespace Go.Proofs.YtccohcdgcpcbjaaDoor
open Go.RowKit
section

set_option maxHeartbeats 1000000 in
theorem maskOf_any (a : Option Addr) (zs : List Int) (c : Nat) (w : World) (hz : Rd (Value.int .i64) w a zs) (hm : zs.length ≤ 1048576) (h16 : ∀ v ∈ zs, 0 ≤ v ∧ v < 16) :
    Calls Tryd.prog 67 #[.slice a zs.length c] w fun e w' => e = .returned (.int .u32 (maskL zs : Nat)) ∧ w = w' := by
  have RZ := hid hz; have H16 := hid h16; clear hz h16
  go_enter Tryd.func67, Tryd.ntmps67
  go_wp2
  go_loop [3, 5, 8] (fun m _ i => ∃ k : Nat, k ≤ zs.length ∧ i = .int .i64 k ∧ m = .int .u32 (maskL (zs.take k) : Nat)) (fun _ _ i => zs.length - (intOf i).toNat)
  case atStart => exact ⟨0, Nat.zero_le _, rfl, rfl⟩
  case round =>
    obtain ⟨k, hk, rfl, rfl⟩ := hrel
    by_cases hlt : k < zs.length
    · obtain ⟨b, o, rfl, hc⟩ := RZ.out k hlt
      have HMT := hid (maskL_take zs k hlt)
      have hml := maskL_lt (zs.take k) 16 (fun v hv => H16.out v (List.mem_of_mem_take hv))
      have hv := H16.out _ (List.getElem_mem hlt)
      have hi0 : (k : Int) < (zs.length : Int) := by omega
      obtain ⟨m, hmm⟩ := Int.eq_ofNat_of_zero_le hv.1
      have hm16 : m < 16 := by omega
      rw [hmm] at hc HMT
      have hml2 : maskL (zs.take k) < 4294967296 := Nat.lt_trans hml (by decide)
      have hor := hid (show bits .or .u32 ((maskL (zs.take k) : Nat) : Int) ((2 : Int) ^ m) = ((maskL (zs.take k) ||| 2 ^ m : Nat) : Int) by have := u32_or_nat (maskL (zs.take k)) (2 ^ m) hml2 (pow_lt32 m (by omega)); simpa using this)
      have HM2 := hid (show maskL (zs.take (k + 1)) = maskL (zs.take k) ||| 2 ^ m by rw [HMT.out]; rfl)
      clear HMT hv hmm hml
      generalize hM : maskL (zs.take k) = M at *
      have HM := hid hM; clear hM
      go_wp2_with (first | (go_at_call 84; refine (one_any m _ (by omega)).mono ?_; rintro e w' ⟨rfl, rfl⟩))
      go_round
      case rel => exact ⟨k + 1, by omega, by go_num, by rw [HM2.out, ← hor.out]⟩
      case measure => simp [intOf]; omega
    · obtain rfl : k = zs.length := by omega
      rw [List.take_length]
      go_wp2
      go_ret
      exact ⟨rfl, rfl⟩
theorem tNets : SliceT Tryd.prog 66 69 (.int .u32 0) := ⟨Tryd.underlying66, 4, by decide, by kernel_rfl, rfl⟩
/-- The sets of a graph's rows, as values. -/
def netsV (g : List (List Int)) : List Value := g.map fun l => .int .u32 (maskL l : Nat)
theorem netsV_snoc (g : List (List Int)) (k : Nat) (h : k < g.length) : netsV (g.take (k + 1)) = netsV (g.take k) ++ [.int .u32 (maskL g[k] : Nat)] := by
  unfold netsV
  rw [List.take_succ_eq_append_getElem h, List.map_append]; rfl
set_option maxHeartbeats 4000000 in
theorem netsOf_any (a : Option Addr) (rs : List Row) (c : Nat) (w : World) (hg : GOk (nums rs)) (hr : RdM w a rs) (hn : Small rs) :
    Calls Tryd.prog 52 #[.agg #[.slice a rs.length c]] w fun e w' => ∃ v, e = .returned v ∧ Own 69 w' w.heap.size v (netsV (nums rs)) ∧ Below w.heap.size w w' := by
  have h16 : rs.length ≤ 16 := by have := hg.le; rwa [nums_length] at this
  have HG := hid hg
  have HR := hid hr; clear hr hg
  have B0 := hid ((alloc_below w (.cells #[.slice a rs.length c] 24)).alloc (by simp) (.cells #[] 69))
  have HO := hid (show Own 69 ((w.alloc (.cells #[.slice a rs.length c] 24)).alloc (.cells #[] 69)) w.heap.size (.slice (some ⟨w.heap.size + 1, 0, none⟩) 0 0) [] by
    simpa using (own_new 69 (w.alloc (.cells #[.slice a rs.length c] 24)) [] (by decide)).base (B' := w.heap.size) (by simp))
  go_enter Tryd.func52, Tryd.ntmps52
  go_wp2
  go_loopw [3, 5, 10] (fun o _ i wr => ∃ k, k ≤ rs.length ∧ i = .int .i64 (k : Nat) ∧ Own 69 wr w.heap.size o (netsV ((nums rs).take k)) ∧ Below w.heap.size w wr) (fun _ _ i _ => rs.length - (intOf i).toNat)
  case atStart => exact ⟨0, Nat.zero_le _, rfl, HO.out, B0.out⟩
  case round =>
    obtain ⟨k, hk, rfl, ho, hb⟩ := hrel
    have HOM := hid ho; have HB := hid hb; clear ho hb
    by_cases hlt : k < rs.length
    · obtain ⟨b', o, rfl, hc, hok⟩ := (HR.out.below HB.out (Nat.le_refl _)).at k hlt
      have HK := hid hok.1; clear hok
      have hz := hn.2 _ (List.getElem_mem hlt)
      have hnl : k < (nums rs).length := by rw [nums_length]; exact hlt
      have hzk : (nums rs)[k] = rs[k].z := by simp [nums]
      have HV := hid (show ∀ v ∈ rs[k].z, 0 ≤ v ∧ v < 16 by
        intro v hv
        rw [← row_rs rs k hlt] at hv
        have := gok_range HG.out (u := (k : Int)) (by omega) (by rw [nums_length]; omega) hv
        rw [nums_length] at this; omega)
      have hs := netsV_snoc (nums rs) k hnl
      rw [hzk] at hs
      have HS := hid hs; clear hs hzk
      generalize rs[k] = r at *
      have hpl : (netsV ((nums rs).take k)).length ≤ 16 := by simp [netsV, nums_length]; omega
      have hBs := HB.out.size
      have hoA := HOM.out.past (alloc_below wr (.cells #[.int .u32 (maskL r.z : Nat)] 69)) (Nat.le_refl _)
      have HOA := hid HOM.out; clear hoA
      go_wp2_with (first | (go_at_call 67; refine (maskOf_any _ _ _ _ HK.out hz HV.out).mono ?_; rintro e w' ⟨rfl, rfl⟩) | (at_builtin; refine law_push tNets _ rfl _ _ rfl w.heap.size _ (netsV ((nums rs).take k)) rfl HOA.out _ _ rfl ?c0 rfl ?c1 ?c2 ?_))
      case c0 => simp
      case c1 => omega
      case c2 => omega
      intro v' w' h1 h2
      have HN := hid h1
      have HBB := hid (HB.out.trans (grown_below h2 hBs (fun g hg => HOA.out.ge g hg)))
      clear h1 h2 HOA HOM HB
      go_wp2
      go_roundw
      case rel => exact ⟨k + 1, by omega, by go_num, by rw [HS.out]; exact HN.out, HBB.out⟩
      case measure => simp [intOf]; omega
    · obtain rfl : k = rs.length := by omega
      have HE := hid (show (nums rs).take rs.length = nums rs from List.take_of_length_le (by rw [nums_length]; exact Nat.le_refl _))
      rw [HE.out] at HOM
      go_wp2
      go_ret
      exact ⟨_, rfl, HOM.out, HB.out⟩
end
section
section
/-- The flags of v's pairs (u, v), u below k. -/
def codeRow (g : List (List Int)) (v k : Nat) : List Int := (List.range k).map fun u : Nat => if (v : Int) ∈ row g (u : Int) then 1 else 0
def codeTo (g : List (List Int)) (k : Nat) : List Int := (List.range k).flatMap fun v => codeRow g v v
theorem codeRow_succ (g : List (List Int)) (v k : Nat) : codeRow g v (k + 1) = codeRow g v k ++ [if (v : Int) ∈ row g (k : Int) then 1 else 0] := by simp [codeRow, List.range_succ]
theorem codeTo_succ (g : List (List Int)) (k : Nat) : codeTo g (k + 1) = codeTo g k ++ codeRow g k k := by simp [codeTo, List.range_succ]
theorem codeRow_len (g : List (List Int)) (v k : Nat) : (codeRow g v k).length = k := by simp [codeRow]
theorem codeTo_len (g : List (List Int)) : ∀ k, k ≤ 16 → (codeTo g k).length ≤ 16 * k
  | 0, _ => by simp [codeTo]
  | k + 1, h => by
    have := codeTo_len g k (by omega)
    rw [codeTo_succ, List.length_append, codeRow_len]
    omega
noncomputable def codeOr (g : List (List Int)) : List Int := if GOk g then codeTo g g.length else []
theorem codeOr_len (g : List (List Int)) : (codeOr g).length ≤ 1048576 := by
  unfold codeOr
  split
  · rename_i h
    have := codeTo_len g g.length h.le
    have := h.le
    omega
  · simp
theorem l1Flag_any (b : Bool) (w : World) : Calls Tryd.prog 47 #[.bool b] w fun e w' => e = .returned (.int .i64 (if b then 1 else 0)) ∧ w = w' := by
  cases b
  · go_enter Tryd.func47, Tryd.ntmps47
    go_wp2
    go_ret
    exact ⟨rfl, rfl⟩
  · go_enter Tryd.func47, Tryd.ntmps47
    go_wp2
    go_ret
    exact ⟨rfl, rfl⟩
theorem bonL {B : Nat} {w0 W W' : World} (h : Below B w0 W) (hb : Below W.heap.size W W') (hB : B ≤ w0.heap.size) : Below B w0 W' := h.trans (hb.mono (Nat.le_trans hB h.size))
end
section
/-- A set as a value. -/
def netF (l : List Int) : Value := .int .u32 (maskL l : Nat)
theorem row_mask_lt {g : List (List Int)} (h : GOk g) (v : Nat) (hv : v < g.length) : maskL (row g (v : Int)) < 2 ^ 16 :=
  maskL_lt _ 16 fun x hx => by
    have := gok_range h (u := (v : Int)) (by omega) (by omega) hx
    have := h.le
    omega
theorem row_mask_bit {g : List (List Int)} (h : GOk g) (v u : Nat) (hv : v < g.length) : (maskL (row g (v : Int))).testBit u = decide ((u : Int) ∈ row g (v : Int)) :=
  testBit_maskL _ _ fun x hx => (gok_range h (u := (v : Int)) (by omega) (by omega) hx).1
end
end
end Go.Proofs.YtccohcdgcpcbjaaDoor
