/- Numbers as text: the reference's. -/
import Derived.Test.YtccohcdgcpcbjaaDoorMem3
import Derived.Laws.IdiomStrings
import Derived.Laws.Concat
namespace Go.Proofs.YtccohcdgcpcbjaaDoor
open Go.RowKit
theorem tBytes : SliceT Tryd.prog 35 5 (.int .u8 0) := ⟨Tryd.underlying35, 1, by decide, by kernel_rfl, rfl⟩
/-- The text with these bytes. -/
def str (l : List UInt8) : ByteArray := ⟨l.toArray⟩
theorem str_append (a b : List UInt8) : str a ++ str b = str (a ++ b) := by
  unfold str; simp [ByteArray.mk_append_mk]
theorem str_size (l : List UInt8) : (str l).size = l.length := by show l.toArray.size = _; simp
theorem str_inj {a b : List UInt8} (h : str a = str b) : a = b := by
  have := congrArg (fun x : ByteArray => x.data.toList) h
  simpa [str] using this
theorem str_add (P : Program) (a b : List UInt8) (w : World) (h : a.length + b.length ≤ 9223372036854775807) : (Op.stringOp .add (str a) (str b)).run P w = .ok (.string (str (a ++ b))) w := by
  rw [run_string_add_sum w _ _ (by rw [str_size, str_size]; exact h), str_append]
/-- The decimal digits of a number. -/
def dec (n : Nat) : List UInt8 := if h : n < 10 then [UInt8.ofNat (48 + n)] else dec (n / 10) ++ [UInt8.ofNat (48 + n % 10)]
termination_by n
decreasing_by omega
theorem dec_small (n : Nat) (h : n < 10) : dec n = [UInt8.ofNat (48 + n)] := by rw [dec, dif_pos h]
theorem dec_big (n : Nat) (h : 10 ≤ n) : dec n = dec (n / 10) ++ [UInt8.ofNat (48 + n % 10)] := by rw [dec, dif_neg (by omega)]
theorem dec_len (n : Nat) : (dec n).length ≤ n + 1 := by
  induction n using Nat.strongRecOn with
  | ind n ih =>
    by_cases h : n < 10
    · rw [dec_small n h]; simp
    · rw [dec_big n (by omega), List.length_append]
      have := ih (n / 10) (by omega)
      simp; omega
theorem dec_ne (n : Nat) : dec n ≠ [] := by
  by_cases h : n < 10
  · rw [dec_small n h]; simp
  · rw [dec_big n (by omega)]; simp
theorem ret_str {a b : ByteArray} (h : a = b) : Ending.returned (.string a) = .returned (.string b) := by rw [h]
/-- One byte in a fresh block, as text. -/
theorem run_byte (w : World) (d : Nat) (hd : d < 256) : (convert 35 9 (.slice (some ⟨w.heap.size, 0, none⟩) 1 1)).run Tryd.prog (w.alloc (.cells #[.int .u8 (d : Int)] 5)) = .ok (.string (str [UInt8.ofNat d])) (w.alloc (.cells #[.int .u8 (d : Int)] 5)) := by
  have := run_convert_bytes_back (P := Tryd.prog) (w.alloc (.cells #[.int .u8 (d : Int)] 5)) 35 9 5 ⟨w.heap.size, 0, none⟩ 1 [UInt8.ofNat d] Tryd.underlying35 Tryd.underlying5 Tryd.underlying9 (fun j hj => by
    obtain rfl : j = 0 := by simpa using hj
    have : (UInt8.ofNat d).toNat = d := by simp; omega
    simp [Addr.add, this, go_sem])
  exact this
/-- What the loop of l1Int knows. -/
def DecAt (n m : Nat) (l : List UInt8) : Prop := (l = [] ∧ m = n) ∨ (l ≠ [] ∧ dec n = (if m = 0 then [] else dec m) ++ l)
theorem DecAt.len {n m : Nat} {l : List UInt8} (h : DecAt n m l) : l.length ≤ n + 1 := by
  rcases h with ⟨rfl, _⟩ | ⟨_, h⟩
  · simp
  · have h1 := dec_len n
    rw [h, List.length_append] at h1
    omega
theorem DecAt.step {n m : Nat} {l : List UInt8} (h : DecAt n m l) (hg : l = [] ∨ m ≠ 0) : DecAt n (m / 10) ([UInt8.ofNat (48 + m % 10)] ++ l) := by
  refine .inr ⟨by simp, ?_⟩
  have key : dec m = (if m / 10 = 0 then [] else dec (m / 10)) ++ [UInt8.ofNat (48 + m % 10)] := by
    by_cases hm : m < 10
    · rw [dec_small m hm, if_pos (by omega), show m % 10 = m by omega]; rfl
    · rw [dec_big m (by omega), if_neg (by omega)]
  rcases h with ⟨rfl, rfl⟩ | ⟨h1, h2⟩
  · rw [key]; simp
  · rcases hg with h3 | h3
    · exact absurd h3 h1
    · rw [h2, if_neg h3, key]; simp
theorem DecAt.done {n m : Nat} {l : List UInt8} (h : DecAt n m l) (h1 : l ≠ []) (h2 : m = 0) : l = dec n := by
  rcases h with ⟨h3, _⟩ | ⟨_, h4⟩
  · exact absurd h3 h1
  · rw [h4, if_pos h2]; rfl
def emp (v : Value) : Nat := match v with
  | .string s => if s.size = 0 then 1 else 0
  | _ => 0
theorem str_empty (l : List UInt8) : (str l).toList.isEmpty = decide (l = []) := by
  rw [ByteArray.toList_eq]; cases l <;> simp [str]
set_option maxRecDepth 100000 in
set_option maxHeartbeats 4000000 in
theorem l1Int_any (n : Nat) (w : World) (hn : n ≤ 1099511627776) : Calls Tryd.prog 41 #[.int .i64 n] w fun e w' => e = .returned (.string (str (dec n))) ∧ Below w.heap.size w w' := by
  have hd0 : decide ((n : Int) < 0) = false := by rw [decide_eq_false_iff_not]; omega
  have hd1 : ¬ ((n : Int) < 0) := by omega
  go_enter Tryd.func41, Tryd.ntmps41
  go_wp2
  go_loopw [0, 3, 5] (fun x s _ wr => ∃ (m : Nat) (l : List UInt8), x = .int .i64 m ∧ s = .string (str l) ∧ m ≤ n ∧ DecAt n m l ∧ Below w.heap.size w wr) (fun x s _ _ => (intOf x).toNat + emp s)
  case atStart => exact ⟨n, [], rfl, rfl, Nat.le_refl _, .inl ⟨rfl, rfl⟩, Below.refl _ _⟩
  case round =>
    obtain ⟨m, l, rfl, rfl, hm, hdec, hb⟩ := hrel
    have HD := hid hdec; have HB := hid hb; clear hdec hb
    have hE := str_empty l
    have hll := HD.out.len
    by_cases hg : l = [] ∨ m ≠ 0
    · have HST := hid (HD.out.step hg)
      have hadd := str_add Tryd.prog [UInt8.ofNat (48 + m % 10)] l (wr.alloc (.cells #[.int .u8 (48 + ((m % 10 : Nat) : Int))] 5)) (by simp; omega)
      have hcv := run_byte wr (48 + m % 10) (by omega)
      rw [show ((48 + m % 10 : Nat) : Int) = 48 + ((m % 10 : Nat) : Int) by omega] at hcv
      have hmt : (m : Int).tmod 10 = ((m % 10 : Nat) : Int) := by rw [Int.tmod_eq_emod_of_nonneg (by omega)]; rfl
      have hmd : (m : Int).tdiv 10 = ((m / 10 : Nat) : Int) := by rw [Int.tdiv_eq_ediv_of_nonneg (by omega)]; rfl
      have hem : emp (.string (str l)) = if l = [] then 1 else 0 := by unfold emp; simp only [str_size]; cases l <;> simp
      have hem2 : emp (.string (str ([UInt8.ofNat (48 + m % 10)] ++ l))) = 0 := by unfold emp; simp only [str_size]; simp
      have hdl : m % 10 ≤ 9 := by omega
      have hq : m / 10 ≤ m := Nat.div_le_self _ _
      have HMS := hid (show m / 10 + 0 < m + (if l = [] then 1 else 0) by
        rcases hg with h | h
        · rw [if_pos h]; omega
        · have : m / 10 < m := by omega
          omega)
      obtain ⟨be, hbe⟩ : ∃ be, decide (l = []) = be := ⟨_, rfl⟩
      rw [hbe] at hE
      have hGE : be = true ∨ ((m : Int) != 0) = true := by
        rcases hg with h | h
        · left; rw [← hbe]; simpa using h
        · right; simp; omega
      have hB2 := HB.out.trans ((alloc_below wr (.cells #[.int .u8 (48 + ((m % 10 : Nat) : Int))] 5)).mono HB.out.size)
      rw [← hem, ← hem2] at HMS
      have HBN := hid hB2
      generalize [UInt8.ofNat (48 + m % 10)] ++ l = L at *
      generalize hc1 : str [UInt8.ofNat (48 + m % 10)] = C at *
      generalize hS : str l = S at *
      generalize hT : str L = T at *
      generalize m % 10 = D at *
      generalize hQ : m / 10 = Q at *
      have HT := hid hT
      clear hB2 hem hem2 hll hg hbe hc1 hS hT hQ
      cases be
      · have hm1 : ((m : Int) != 0) = true := by simpa using hGE
        clear hGE
        go_wp2
        go_roundw
        case rel => exact ⟨Q, L, rfl, by rw [HT.out], by omega, HST.out, HBN.out⟩
        case measure =>
          have := HMS.out
          simp [intOf]
          omega
      · clear hGE
        go_wp2
        go_roundw
        case rel => exact ⟨Q, L, rfl, by rw [HT.out], by omega, HST.out, HBN.out⟩
        case measure =>
          have := HMS.out
          simp [intOf]
          omega
    · have hl : l ≠ [] := fun h => hg (.inl h)
      have hm0 : m = 0 := Classical.byContradiction fun h => hg (.inr h)
      have HF := hid (HD.out.done hl hm0)
      have hE2 : (str l).toList.isEmpty = false := by rw [hE]; simpa using hl
      have hmz : ((m : Int) != 0) = false := by rw [hm0]; rfl
      clear hE hg hl hm0
      generalize hS : str l = S at *
      have HS := hid hS; clear hS
      go_wp2
      go_ret
      exact ⟨ret_str (by rw [← HS.out, HF.out]), HB.out⟩
end Go.Proofs.YtccohcdgcpcbjaaDoor
