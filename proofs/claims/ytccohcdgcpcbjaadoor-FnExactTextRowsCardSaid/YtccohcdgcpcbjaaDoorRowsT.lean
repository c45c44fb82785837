/- RowsText: both. -/
import Derived.Test.YtccohcdgcpcbjaaDoorText
import Derived.Test.YtccohcdgcpcbjaaDoorCode2
import Derived.Test.YtccohcdgcpcbjaaDoorPush
namespace Go.Proofs.YtccohcdgcpcbjaaDoor
open Go.RowKit
/-- A row's ones and noughts, k of them. -/
def rowBits (g : List (List Int)) (v k : Nat) : List UInt8 := (List.range k).map fun u : Nat => if (u : Int) ∈ row g (v : Int) then 49 else 48
def rowsTo (g : List (List Int)) (n k : Nat) : List UInt8 := (List.range k).flatMap fun v => rowBits g v n ++ [10]
theorem rowBits_succ (g : List (List Int)) (v k : Nat) : rowBits g v (k + 1) = rowBits g v k ++ [if (k : Int) ∈ row g (v : Int) then 49 else 48] := by simp [rowBits, List.range_succ]
theorem rowsTo_succ (g : List (List Int)) (n k : Nat) : rowsTo g n (k + 1) = rowsTo g n k ++ (rowBits g k n ++ [10]) := by simp [rowsTo, List.range_succ]
theorem rowBits_len (g : List (List Int)) (v k : Nat) : (rowBits g v k).length = k := by simp [rowBits]
theorem rowsTo_len (g : List (List Int)) (n : Nat) (hn : n ≤ 16) : ∀ k, (rowsTo g n k).length ≤ 17 * k
  | 0 => by simp [rowsTo]
  | k + 1 => by
    have := rowsTo_len g n hn k
    rw [rowsTo_succ, List.length_append, List.length_append, rowBits_len]
    simp; omega
noncomputable def rowsStr (g : List (List Int)) : ByteArray := if GOk g then str (rowsTo g g.length g.length) else str []
theorem l1Flag_n (b : Bool) (nb : Nat) (w : World) (h : (if b then 1 else 0 : Nat) = nb) : Calls Tryd.prog 47 #[.bool b] w fun e w' => e = .returned (.int .i64 nb) ∧ w = w' := by
  subst h
  refine (l1Flag_any b w).mono ?_
  rintro e w' ⟨rfl, rfl⟩
  cases b <;> exact ⟨rfl, rfl⟩
set_option maxRecDepth 100000 in
set_option maxHeartbeats 4000000 in
theorem specRowsText_any (a : Option Addr) (rs : List Row) (c : Nat) (w : World) (r : ByteArray) (hx : rowsStr (nums rs) = r) (hr : RdM w a rs) (hn : Small rs) :
    Calls Tryd.prog 24 #[.agg #[.slice a rs.length c]] w fun e w' => e = .returned (.string r) ∧ Below w.heap.size w w' := by
  have RA := hid hr; have HX := hid hx; clear hr hx
  have hn1 := hn.1
  obtain ⟨w0, hw0⟩ : ∃ w0, w0 = (w.alloc (.cells #[.slice a rs.length c] 24)) := ⟨_, rfl⟩
  have B0 := hid (show Below w.heap.size w w0 by rw [hw0]; exact ((Below.refl _ _).alloc (Nat.le_refl _) _))
  have c0 : w0.cell? ⟨w.heap.size, 0, none⟩ = some (.slice a rs.length c) := by rw [hw0]; simp [go_sem]
  replace RA := hid (RA.out.below B0.out (Nat.le_refl _))
  have HW := hid hw0; clear hw0
  obtain ⟨bg, hbg⟩ : ∃ bg, decide (GOk (nums rs)) = bg := ⟨_, rfl⟩
  have HG := hid hbg
  have HT := hid (fun (h : bg = true) => (show GOk (nums rs) by rw [h] at hbg; simpa using hbg))
  have HRT := hid (fun (h : bg = true) => (show r = str (rowsTo (nums rs) rs.length rs.length) by rw [← HX.out]; unfold rowsStr; rw [nums_length, if_pos (HT.out h)]))
  have HRF := hid (fun (h : bg = false) => (show r = str [] by rw [← HX.out]; unfold rowsStr; rw [if_neg (by rw [h] at hbg; simpa using hbg)]))
  have h16 : bg = true → rs.length ≤ 16 := fun h => by have := (HT.out h).le; rwa [nums_length] at this
  clear hbg
  have hpos : bg = true ∨ bg = false := by cases bg <;> simp
  go_enter Tryd.func24, Tryd.ntmps24
  go_wp2
  rw [← HW.out]
  go_loopw [3, 4, 5] (fun s x _ wr => ∃ v : Nat, v ≤ rs.length ∧ x = .int .i64 v ∧ (0 < v → bg = true) ∧ s = .string (str (rowsTo (nums rs) rs.length v)) ∧ Below w0.heap.size w0 wr) (fun _ x _ _ => rs.length - (intOf x).toNat)
  case atStart => exact ⟨0, Nat.zero_le _, rfl, fun h => absurd h (Nat.lt_irrefl 0), rfl, Below.refl _ _⟩
  case round =>
    obtain ⟨v, hv, rfl, hvb, rfl, hd⟩ := hrel
    have BL := hid hd
    have HVB := hid hvb; clear hvb
    replace RA := hid (RA.out.below hd (Nat.le_refl _))
    replace B0 := hid (bon B0.out hd)
    replace c0 := cellB hd c0 (Nat.le_refl _)
    clear hd
    by_cases hlt : v < rs.length
    · have hi0 : (v : Int) < (rs.length : Int) := by omega
      have hi0d : decide ((v : Int) < (rs.length : Int)) = true := by rw [decide_eq_true_iff]; exact hi0
      go_wp2_with fail
      refine (l1Size_any a rs c _ hn1).mono ?_
      rintro e w1 ⟨rfl, hb⟩
      replace RA := hid (RA.out.below hb (Nat.le_refl _))
      replace B0 := hid (bon B0.out hb)
      replace BL := hid (bon BL.out hb)
      replace c0 := cellB hb c0 (Nat.le_refl _)
      clear hb
      go_wp2_with fail
      refine (specGraphOk_b a rs c _ bg HG.out RA.out hn).mono ?_
      rintro e w2 ⟨rfl, hb⟩
      replace RA := hid (RA.out.below hb (Nat.le_refl _))
      replace B0 := hid (bon B0.out hb)
      replace BL := hid (bon BL.out hb)
      replace c0 := cellB hb c0 (Nat.le_refl _)
      clear hb
      cases bg
      · have HN0 := hid (show v = 0 by
          rcases Nat.eq_zero_or_pos v with h | h
          · exact h
          · have := HVB.out h; cases this)
        have HFIN := hid (show str (rowsTo (nums rs) rs.length v) = r by rw [HN0.out, HRF.out rfl]; rfl)
        rw [HFIN.out]
        go_wp2
        go_ret
        exact ⟨rfl, B0.out⟩
      · have HGT := hid (HT.out rfl)
        have h16b := h16 rfl
        have HSU := hid (rowsTo_succ (nums rs) rs.length v)
        have hTL := rowsTo_len (nums rs) rs.length h16b v
        go_wp2
        obtain ⟨w5, rfl⟩ : ∃ w5, w5 = w2 := ⟨_, rfl⟩
        go_loopw [3, 5] (fun s y wq => ∃ u : Nat, u ≤ rs.length ∧ y = .int .i64 u ∧ s = .string (str (rowsTo (nums rs) rs.length v ++ rowBits (nums rs) v u)) ∧ Below w5.heap.size w5 wq) (fun _ y _ => rs.length - (intOf y).toNat)
        case atStart => exact ⟨0, Nat.zero_le _, rfl, by simp [rowBits], Below.refl _ _⟩
        case round =>
          obtain ⟨u, hu, rfl, rfl, hd⟩ := hrel
          have BK := hid hd
          replace RA := hid (RA.out.below hd (Nat.le_refl _))
          replace B0 := hid (bon B0.out hd)
          replace BL := hid (bon BL.out hd)
          replace c0 := cellB hd c0 (Nat.le_refl _)
          clear hd
          by_cases hlu : u < rs.length
          · have hi1 : (u : Int) < (rs.length : Int) := by omega
            have hi1d : decide ((u : Int) < (rs.length : Int)) = true := by rw [decide_eq_true_iff]; exact hi1
            obtain ⟨be, hbe⟩ : ∃ be, decide ((u : Int) ∈ row (nums rs) (v : Int)) = be := ⟨_, rfl⟩
            have HE := hid hbe
            have hl0 : (0 : Int) ≤ (v : Int) := by omega
            have hbl := rowBits_len (nums rs) v u
            have HST := hid (show rowsTo (nums rs) rs.length v ++ rowBits (nums rs) v u ++ dec (if be then 1 else 0) = rowsTo (nums rs) rs.length v ++ rowBits (nums rs) v (u + 1) by
              rw [rowBits_succ, ← List.append_assoc]
              congr 1
              rw [← hbe]
              by_cases h : (u : Int) ∈ row (nums rs) (v : Int)
              · rw [if_pos (by simpa using h), if_pos h, dec_small 1 (by decide)]; rfl
              · rw [if_neg (by simpa using h), if_neg h, dec_small 0 (by decide)]; rfl)
            have hdl := dec_len (if be then 1 else 0)
            have hadd : ∀ W, (Op.stringOp .add (str (rowsTo (nums rs) rs.length v ++ rowBits (nums rs) v u)) (str (dec (if be then 1 else 0)))).run Tryd.prog W = .ok (.string (str (rowsTo (nums rs) rs.length v ++ rowBits (nums rs) v u ++ dec (if be then 1 else 0)))) W := fun W => str_add Tryd.prog _ _ W (by
              rw [List.length_append]
              have : (if be = true then 1 else 0 : Nat) ≤ 1 := by split <;> omega
              omega)
            rw [HST.out] at hadd
            have hsm : (if be then 1 else 0 : Nat) ≤ 1099511627776 := by split <;> omega
            clear hbe hbl hdl
            generalize hnb : (if be then 1 else 0 : Nat) = nb at *
            have HNB := hid hnb; clear hnb
            generalize str (rowsTo (nums rs) rs.length v ++ rowBits (nums rs) v u) = S1 at *
            generalize hS2 : str (rowsTo (nums rs) rs.length v ++ rowBits (nums rs) v (u + 1)) = S2 at *
            have HS2 := hid hS2; clear hS2
            go_wp2_with fail
            refine (l1Size_any a rs c _ hn1).mono ?_
            rintro e w3 ⟨rfl, hb⟩
            replace RA := hid (RA.out.below hb (Nat.le_refl _))
            replace B0 := hid (bon B0.out hb)
            replace BL := hid (bon BL.out hb)
            replace BK := hid (bon BK.out hb)
            replace c0 := cellB hb c0 (Nat.le_refl _)
            clear hb
            go_wp2_with fail
            refine (l1Edge_b a rs c v u _ be hl0 hi0 HE.out RA.out hn).mono ?_
            rintro e w4 ⟨rfl, hb⟩
            replace RA := hid (RA.out.below hb (Nat.le_refl _))
            replace B0 := hid (bon B0.out hb)
            replace BL := hid (bon BL.out hb)
            replace BK := hid (bon BK.out hb)
            replace c0 := cellB hb c0 (Nat.le_refl _)
            clear hb
            go_wp2_with (first | (go_at_call 47; refine (l1Flag_n _ _ _ HNB.out).mono ?_; rintro e w' ⟨rfl, rfl⟩))
            go_wp2_with fail
            refine (l1Int_any nb _ hsm).mono ?_
            rintro e w5 ⟨rfl, hb⟩
            replace RA := hid (RA.out.below hb (Nat.le_refl _))
            replace B0 := hid (bon B0.out hb)
            replace BL := hid (bon BL.out hb)
            replace BK := hid (bon BK.out hb)
            replace c0 := cellB hb c0 (Nat.le_refl _)
            clear hb
            go_wp2
            go_roundw
            case rel => exact ⟨u + 1, by omega, by go_num, by rw [HS2.out], BK.out⟩
            case measure => simp [intOf]; omega
          · obtain rfl : u = rs.length := by omega
            have hadd : ∀ W, (Op.stringOp .add (str (rowsTo (nums rs) rs.length v ++ rowBits (nums rs) v rs.length)) ⟨#[10]⟩).run Tryd.prog W = .ok (.string (str (rowsTo (nums rs) rs.length v ++ rowBits (nums rs) v rs.length ++ [10]))) W := fun W => str_add Tryd.prog _ [10] W (by
              rw [List.length_append, rowBits_len]; simp; omega)
            rw [List.append_assoc, ← HSU.out] at hadd
            generalize str (rowsTo (nums rs) rs.length v ++ rowBits (nums rs) v rs.length) = S1 at *
            generalize hS2 : str (rowsTo (nums rs) rs.length (v + 1)) = S2 at *
            have HS2 := hid hS2; clear hS2
            go_wp2_with fail
            refine (l1Size_any a rs c _ hn1).mono ?_
            rintro e w6 ⟨rfl, hb⟩
            replace RA := hid (RA.out.below hb (Nat.le_refl _))
            replace B0 := hid (bon B0.out hb)
            replace BL := hid (bon BL.out hb)
            replace BK := hid (bon BK.out hb)
            replace c0 := cellB hb c0 (Nat.le_refl _)
            clear hb
            go_wp2
            go_roundw
            case rel => exact ⟨v + 1, by omega, by go_num, fun _ => trivial, by rw [HS2.out], BL.out⟩
            case measure => simp [intOf]; omega
    · obtain rfl : v = rs.length := by omega
      have HFIN := hid (show str (rowsTo (nums rs) rs.length rs.length) = r by
        rcases hpos with h | h
        · rw [HRT.out h]
        · rcases Nat.eq_zero_or_pos rs.length with h0 | h0
          · rw [h0, HRF.out h]; rfl
          · have := HVB.out h0; rw [h] at this; cases this)
      rw [HFIN.out]
      go_wp2_with fail
      refine (l1Size_any a rs c _ hn1).mono ?_
      rintro e w7 ⟨rfl, hb⟩
      replace RA := hid (RA.out.below hb (Nat.le_refl _))
      replace B0 := hid (bon B0.out hb)
      replace BL := hid (bon BL.out hb)
      replace c0 := cellB hb c0 (Nat.le_refl _)
      clear hb
      go_wp2
      go_ret
      exact ⟨rfl, B0.out⟩
/-- A byte, as a value. -/
def byteV (b : UInt8) : Value := .int .u8 (b.toNat : Int)
theorem run_bytes (w : World) (g c : Nat) (o : Nat) (l : List UInt8) (h : Rd byteV w (some ⟨g, o, none⟩) l) : (convert 35 9 (.slice (some ⟨g, o, none⟩) l.length c)).run Tryd.prog w = .ok (.string (str l)) w :=
  run_convert_bytes_back (P := Tryd.prog) w 35 9 5 ⟨g, o, none⟩ c l Tryd.underlying35 Tryd.underlying5 Tryd.underlying9 (fun j hj => by
    obtain ⟨b, o', h1, h2⟩ := h j hj
    simp at h1
    obtain ⟨rfl, rfl⟩ := h1
    have : (Addr.add ⟨g, o, none⟩ j) = ⟨g, o + j, none⟩ := by
      by_cases h0 : j = 0
      · subst h0; simp [Addr.add]
      · simp [Addr.add, h0]
    rw [this, h2]; rfl)
theorem row_get0 {g : List (List Int)} (v : Nat) (hv : v < g.length) : row g (v : Int) = g[v] := row_nat _ _ _
theorem own_rdF {α : Type} {f : α → Value} {e : TypeId} {w : World} {B n c : Nat} {a : Option Addr} {zs : List α} (h : Own e w B (.slice a n c) (zs.map f)) : Rd f w a zs := by
  obtain ⟨a', c', h1, h2, _⟩ := h.rd
  obtain ⟨rfl, _, rfl⟩ := slice_inj h1
  exact h2
/-- One bit of a set, as the program takes it. -/
theorem bit_nat (m v nb : Nat) (h : (if m.testBit v then 1 else 0 : Nat) = nb) (hm : m < 4294967296) : bits .and .u32 ((m : Int) / 2 ^ v) 1 = (nb : Int) := by
  have e : (m : Int) / 2 ^ v = ((m / 2 ^ v : Nat) : Int) := by simp
  have hl : m / 2 ^ v < 4294967296 := Nat.lt_of_le_of_lt (Nat.div_le_self _ _) hm
  rw [e, show (1 : Int) = ((1 : Nat) : Int) from rfl, u32_and_nat _ _ hl (by decide), nat_mask1, ← h, Nat.testBit_eq_decide_div_mod_eq]
  by_cases hb : m / 2 ^ v % 2 = 1
  · simp [hb]
  · simp [hb]; omega
set_option maxRecDepth 100000 in
set_option maxHeartbeats 4000000 in
theorem rowsText_any (a : Option Addr) (rs : List Row) (c : Nat) (w : World) (hg : GOk (nums rs)) (hr : RdM w a rs) (hn : Small rs) :
    Calls Tryd.prog 27 #[.agg #[.slice a rs.length c]] w fun e w' => e = .returned (.string (str (rowsTo (nums rs) rs.length rs.length))) ∧ Below w.heap.size w w' := by
  have RA := hid hr; have HG := hid hg; clear hr hg
  have hn1 := hn.1
  have h16 : rs.length ≤ 16 := by have := HG.out.le; rwa [nums_length] at this
  have hpos : 1 ≤ rs.length := by have := HG.out.pos; rwa [nums_length] at this
  obtain ⟨w0, hw0⟩ : ∃ w0, w0 = (w.alloc (.cells #[.slice a rs.length c] 24)) := ⟨_, rfl⟩
  have B0 := hid (show Below w.heap.size w w0 by rw [hw0]; exact ((Below.refl _ _).alloc (Nat.le_refl _) _))
  have c0 : w0.cell? ⟨w.heap.size, 0, none⟩ = some (.slice a rs.length c) := by rw [hw0]; simp [go_sem]
  replace RA := hid (RA.out.below B0.out (Nat.le_refl _))
  have HW := hid hw0; clear hw0
  have OO := hid (show Own 5 (w0.alloc (.cells #[] 5)) w0.heap.size (.slice (some ⟨w0.heap.size, 0, none⟩) 0 0) [] from own_new 5 w0 [] (by decide))
  have hsz : w0.heap.size = w.heap.size + 1 := by rw [HW.out]; simp
  rw [hsz] at OO
  have hb0 := alloc_below w0 (.cells #[] 5)
  go_enter Tryd.func27, Tryd.ntmps27
  go_wp2_with fail
  rw [← HW.out]
  replace RA := hid (RA.out.below hb0 (Nat.le_refl _))
  replace B0 := hid (bon B0.out hb0)
  replace c0 := cellB hb0 c0 (Nat.le_refl _)
  clear hb0
  go_wp2_with fail
  refine (netsOf_any a rs c _ HG.out RA.out hn).mono ?_
  rintro e w1 ⟨v, rfl, hown, hb⟩
  replace RA := hid (RA.out.below hb (Nat.le_refl _))
  replace OO := hid (OO.out.past hb (Nat.le_refl _))
  replace B0 := hid (bon B0.out hb)
  replace c0 := cellB hb c0 (Nat.le_refl _)
  clear hb
  obtain ⟨na, nc, rfl, _⟩ := Own.rd (f := netF) hown
  rw [nums_length] at hown ⊢
  obtain ⟨wn, rfl⟩ : ∃ wn, wn = w1 := ⟨_, rfl⟩
  have hBn : w.heap.size + 1 ≤ wn.heap.size := World.block_lt_of_cell? _ _ c0
  have ON := hid (hown.base (B' := w.heap.size) (by simp; omega)); clear hown
  go_wp2
  go_loopw [3, 5, 6, 11] (fun o _ _ x wr => ∃ v : Nat, v ≤ rs.length ∧ x = .int .i64 v ∧ Own 5 wr (w.heap.size + 1) o ((rowsTo (nums rs) rs.length v).map byteV) ∧ Own 69 wr w.heap.size (.slice na rs.length nc) ((nums rs).map netF) ∧ Below (w.heap.size + 1) wn wr) (fun _ _ _ x _ => rs.length - (intOf x).toNat)
  case atStart => exact ⟨0, Nat.zero_le _, rfl, OO.out, ON.out, Below.refl _ _⟩
  case round =>
    obtain ⟨v, hv, rfl, ho, hon, hd⟩ := hrel
    have OM := hid ho; have LB := hid hd; have OND := hid hon; clear ho hd hon
    by_cases hlt : v < rs.length
    · have hi0 : (v : Int) < (rs.length : Int) := by omega
      have hnl : v < (nums rs).length := by rw [nums_length]; exact hlt
      obtain ⟨nb, no, hna, hc1⟩ := own_rdF OND.out v hnl
      have hat := at_slice tNets hna rs.length nc v hlt
      have HNA := hid hna; clear hna
      have c01 := (LB.out.cell (p := ⟨w.heap.size, 0, none⟩) (by simp)).trans c0
      have HRW := hid (row_get0 v hnl)
      have hml := row_mask_lt HG.out v hnl
      have HBIT := hid (fun u => row_mask_bit HG.out v u hnl)
      have HSU := hid (rowsTo_succ (nums rs) rs.length v)
      have hTL := rowsTo_len (nums rs) rs.length h16 v
      unfold netF at hc1
      rw [← HRW.out] at hc1
      generalize maskL (row (nums rs) (v : Int)) = M at *
      go_wp2
      go_loopw [3, 6, 18] (fun o _ y wq => ∃ u : Nat, u ≤ rs.length ∧ y = .int .i64 u ∧ Own 5 wq (w.heap.size + 1) o ((rowsTo (nums rs) rs.length v ++ rowBits (nums rs) v u).map byteV) ∧ Own 69 wq w.heap.size (.slice na rs.length nc) ((nums rs).map netF) ∧ Below (w.heap.size + 1) wn wq) (fun _ _ y _ => rs.length - (intOf y).toNat)
      case atStart => exact ⟨0, Nat.zero_le _, rfl, by simpa [rowBits] using OM.out, OND.out, LB.out⟩
      case round =>
        obtain ⟨u, hu, rfl, ho, hon, hd⟩ := hrel
        have OI := hid ho; have LI := hid hd; have OQ := hid hon; clear ho hd hon
        have hBw : w.heap.size + 1 ≤ wr.heap.size := Nat.le_trans hBn LI.out.size
        by_cases hlu : u < rs.length
        · have hi1 : (u : Int) < (rs.length : Int) := by omega
          have hbl := rowBits_len (nums rs) v u
          have hlen : ((rowsTo (nums rs) rs.length v ++ rowBits (nums rs) v u).map byteV).length ≤ 1048576 := by
            rw [List.length_map, List.length_append]; omega
          obtain ⟨nb, hnb⟩ : ∃ nb, (if M.testBit u then 1 else 0 : Nat) = nb := ⟨_, rfl⟩
          have hbn := bit_nat M u nb hnb (by omega)
          have hnb1 : nb ≤ 1 := by rw [← hnb]; split <;> omega
          have HST := hid (show (rowsTo (nums rs) rs.length v ++ rowBits (nums rs) v (u + 1)).map byteV = (rowsTo (nums rs) rs.length v ++ rowBits (nums rs) v u).map byteV ++ [.int .u8 (48 + (nb : Int))] by
            rw [rowBits_succ, ← List.append_assoc, List.map_append]
            congr 1
            rw [← hnb, HBIT.out]
            by_cases h : (u : Int) ∈ row (nums rs) (v : Int)
            · simp [h, byteV]
            · simp [h, byteV])
          clear hbl hnb
          generalize (rowsTo (nums rs) rs.length v ++ rowBits (nums rs) v u).map byteV = XS at *
          go_wp2_with (at_builtin; refine law_push tBytes _ rfl _ _ rfl (w.heap.size + 1) _ XS rfl OI.out _ _ rfl ?c0 rfl ?c1 ?c2 ?_)
          case c0 => simp
          case c1 => omega
          case c2 => exact hBw
          intro v' w' h1 h2
          have HN := hid h1
          have HBB := hid (LI.out.trans (grown_below h2 hBw (fun g hg => OI.out.ge g hg)))
          have OQ2 := hid (OQ.out.kept h2 (OQ.out.ne OI.out (by decide)))
          clear h1 h2
          go_wp2
          go_roundw
          case rel => exact ⟨u + 1, by omega, by go_num, by rw [HST.out]; exact HN.out, OQ2.out, HBB.out⟩
          case measure => simp [intOf]; omega
        · obtain rfl : u = rs.length := by omega
          have hbl := rowBits_len (nums rs) v rs.length
          have hlen : ((rowsTo (nums rs) rs.length v ++ rowBits (nums rs) v rs.length).map byteV).length ≤ 1048576 := by
            rw [List.length_map, List.length_append]; omega
          have HST := hid (show (rowsTo (nums rs) rs.length (v + 1)).map byteV = (rowsTo (nums rs) rs.length v ++ rowBits (nums rs) v rs.length).map byteV ++ [.int .u8 10] by
            rw [HSU.out, ← List.append_assoc, List.map_append]; rfl)
          clear hbl
          generalize (rowsTo (nums rs) rs.length v ++ rowBits (nums rs) v rs.length).map byteV = XS at *
          go_wp2_with (at_builtin; refine law_push tBytes _ rfl _ _ rfl (w.heap.size + 1) _ XS rfl OI.out _ _ rfl ?c0 rfl ?c1 ?c2 ?_)
          case c0 => simp
          case c1 => omega
          case c2 => exact hBw
          intro v' w' h1 h2
          have HN := hid h1
          have HBB := hid (LI.out.trans (grown_below h2 hBw (fun g hg => OI.out.ge g hg)))
          have OQ2 := hid (OQ.out.kept h2 (OQ.out.ne OI.out (by decide)))
          clear h1 h2
          go_wp2
          go_roundw
          case rel => exact ⟨v + 1, by omega, by go_num, by rw [HST.out]; exact HN.out, OQ2.out, HBB.out⟩
          case measure => simp [intOf]; omega
    · obtain rfl : v = rs.length := by omega
      have hTL := rowsTo_len (nums rs) rs.length h16 rs.length
      obtain ⟨oa, oc, rfl, hrd, _⟩ := Own.rd OM.out
      have hne : 0 < (rowsTo (nums rs) rs.length rs.length).length := by
        obtain ⟨n, hn⟩ : ∃ n, rs.length = n + 1 := ⟨rs.length - 1, by omega⟩
        rw [hn, rowsTo_succ]; simp; omega
      obtain ⟨ob, oo, rfl, _⟩ := hrd 0 hne
      have hcv := run_bytes _ ob oc oo _ hrd
      have HB2 := hid (B0.out.trans (LB.out.mono (by omega)))
      generalize hT : rowsTo (nums rs) rs.length rs.length = T at *
      have HT := hid hT; clear hT
      go_wp2
      go_ret
      exact ⟨ret_str (by rw [HT.out]), HB2.out⟩
end Go.Proofs.YtccohcdgcpcbjaaDoor
