/- SetText: both. -/
import Derived.Test.YtccohcdgcpcbjaaDoorText
import Derived.Test.YtccohcdgcpcbjaaDoorGOk
import Derived.Test.YtccohcdgcpcbjaaDoorEdges
import Derived.Test.YtccohcdgcpcbjaaDoorShelf
namespace Go.Proofs.YtccohcdgcpcbjaaDoor
open Go.RowKit
theorem tStrs : SliceT Tryd.prog 40 9 (.string ⟨#[]⟩) := ⟨Tryd.underlying40, 16, by decide, by kernel_rfl, rfl⟩
def strF (l : List UInt8) : Value := .string (str l)
theorem decDigits_eq (n : Nat) : Go.Lib.decDigits n = dec n := by
  induction n using Nat.strongRecOn with
  | ind n ih =>
    rw [Go.Lib.decDigits, dec]
    by_cases h : n < 10
    · rw [dif_pos h, dif_pos h]
    · rw [dif_neg h, dif_neg h, ih (n / 10) (by omega)]
theorem fmt_any (n : Nat) (w : World) (hn : n < 100) : Calls Tryd.prog 54 #[.int .i64 n, .int .i64 10] w fun e w' => e = .returned (.string (str (dec n))) ∧ w = w' := by
  refine (Tryd.strconv_FormatInt_10_small n hn w).mono ?_
  rintro e w' ⟨rfl, rfl⟩
  exact ⟨by rw [decDigits_eq]; rfl, rfl⟩
theorem join_snoc (M : List (List UInt8)) (y sep : List UInt8) : Go.Lib.join (M ++ [y]) sep = Go.Lib.join M sep ++ (if M = [] then [] else sep) ++ y := by
  cases M with
  | nil => rw [List.nil_append, Go.Lib.join_one, Go.Lib.join_nil, if_pos rfl]; rfl
  | cons x r =>
    rw [List.cons_append, Go.Lib.join_cons, Go.Lib.join_cons, if_neg (by simp)]
    unfold Go.Lib.joinTail
    simp
theorem join_take (L : List (List UInt8)) (sep : List UInt8) (k : Nat) (h : k < L.length) : Go.Lib.join (L.take (k + 1)) sep = Go.Lib.join (L.take k) sep ++ (if 0 < k then sep else []) ++ L[k] := by
  rw [List.take_succ_eq_append_getElem h, join_snoc]
  by_cases hk : k = 0
  · subst hk; simp
  · rw [if_neg (by simp; exact ⟨hk, fun h2 => by rw [h2] at h; simp at h⟩), if_pos (by omega)]
theorem join_len (L : List (List UInt8)) (sep : List UInt8) (hs : sep.length ≤ 1) (hL : ∀ l ∈ L, l.length ≤ 16) : ∀ k, k ≤ L.length → (Go.Lib.join (L.take k) sep).length ≤ 17 * k := by
  intro k
  induction k with
  | zero => intro _; simp [Go.Lib.join_nil]
  | succ k ih =>
    intro h
    rw [join_take L sep k (by omega), List.length_append, List.length_append]
    have h1 := ih (by omega)
    have h2 := hL _ (List.getElem_mem (show k < L.length by omega))
    split
    · omega
    · simp; omega
def digs (v : Int) : List UInt8 := dec v.toNat
def OkTxt (s : List Int) : Prop := s.length ≤ 16 ∧ ∀ v ∈ s, 0 ≤ v ∧ v ≤ 15
instance (s : List Int) : Decidable (OkTxt s) := by unfold OkTxt; infer_instance
def setBytes (s : List Int) : List UInt8 := if OkTxt s then (if s = [] then [45] else Go.Lib.join (s.map digs) [44]) else []
def setStr (s : List Int) : ByteArray := str (setBytes s)
theorem digs_len {v : Int} (h : v ≤ 15) : (digs v).length ≤ 16 := by
  have := dec_len v.toNat
  unfold digs; omega
theorem setStr_no {s : List Int} (h : ¬ OkTxt s) : setStr s = ⟨#[]⟩ := by unfold setStr setBytes; rw [if_neg h]; rfl
theorem setStr_nil : setStr [] = ⟨#[45]⟩ := by
  unfold setStr setBytes
  rw [if_pos ⟨by simp, by simp⟩, if_pos rfl]; rfl
theorem setStr_ok {s : List Int} (h : OkTxt s) (h0 : s ≠ []) : setStr s = str (Go.Lib.join (s.map digs) [44]) := by unfold setStr setBytes; rw [if_pos h, if_neg h0]
set_option maxRecDepth 100000 in
set_option maxHeartbeats 4000000 in
theorem l1Words_any (a : Option Addr) (L : List (List UInt8)) (n c : Nat) (w : World) (hn : L.length = n) (hr : Rd strF w a L) (hm : L.length ≤ 16) (hL : ∀ l ∈ L, l.length ≤ 16) :
    Calls Tryd.prog 42 #[.slice a n c, .string ⟨#[44]⟩] w fun e w' => e = .returned (.string (str (Go.Lib.join L [44]))) ∧ w = w' := by
  subst hn
  have RA := hid hr; have HL := hid hL; clear hr hL
  have HJ := hid (join_len L [44] (by simp) HL.out)
  go_enter Tryd.func42, Tryd.ntmps42
  go_wp2
  go_loopw [5, 6] (fun s x wr => ∃ k : Nat, k ≤ L.length ∧ x = .int .i64 k ∧ s = .string (str (Go.Lib.join (L.take k) [44])) ∧ w = wr) (fun _ x _ => L.length - (intOf x).toNat)
  case atStart => exact ⟨0, Nat.zero_le _, rfl, rfl, rfl⟩
  case round =>
    obtain ⟨k, hk, rfl, rfl, rfl⟩ := hrel
    by_cases hlt : k < L.length
    · have hki : (k : Int) < (L.length : Int) := by omega
      obtain ⟨b, o, rfl, ck⟩ := RA.out k hlt
      have HS := hid (join_take L [44] k hlt)
      have h1 := HJ.out k hk
      have h2 := HL.out _ (List.getElem_mem hlt)
      unfold strF at ck
      generalize Go.Lib.join (L.take k) [44] = J at *
      generalize L[k] = y at *
      by_cases h0 : 0 < k
      · have h0i : (0 : Int) < (k : Int) := by omega
        rw [if_pos h0] at HS
        have ha1 : (Op.stringOp .add (str J) ⟨#[44]⟩).run Tryd.prog w = .ok (.string (str (J ++ [44]))) w := str_add _ J [44] w (by simp; omega)
        have ha2 := str_add Tryd.prog (J ++ [44]) y w (by simp; omega)
        have HE := hid (show Value.string (str (J ++ [44] ++ y)) = .string (str (Go.Lib.join (L.take (k + 1)) [44])) by rw [HS.out])
        generalize str (J ++ [44] ++ y) = V2 at *
        generalize str (J ++ [44]) = V1 at *
        generalize str J = V0 at *
        generalize str y = VY at *
        go_wp2
        go_roundw
        case rel => exact ⟨k + 1, by omega, by go_num, HE.out, by first | rfl | trivial⟩
        case measure => simp [intOf]; omega
      · have h0i : ¬ (0 : Int) < (k : Int) := by omega
        rw [if_neg h0, List.append_nil] at HS
        have ha2 := str_add Tryd.prog J y w (by omega)
        have HE := hid (show Value.string (str (J ++ y)) = .string (str (Go.Lib.join (L.take (k + 1)) [44])) by rw [HS.out])
        generalize str (J ++ y) = V2 at *
        generalize str J = V0 at *
        generalize str y = VY at *
        go_wp2
        go_roundw
        case rel => exact ⟨k + 1, by omega, by go_num, HE.out, by first | rfl | trivial⟩
        case measure => simp [intOf]; omega
    · obtain rfl : k = L.length := by omega
      have HE := hid (show Value.string (str (Go.Lib.join (L.take L.length) [44])) = .string (str (Go.Lib.join L [44])) by rw [List.take_length])
      go_wp2
      go_ret
      exact ⟨ret_str (by rw [List.take_length]), rfl⟩
theorem join_any (a : Option Addr) (L : List (List UInt8)) (n c : Nat) (w : World) (hn : L.length = n) (hr : Rd strF w a L) (hm : L.length ≤ 16) (hL : ∀ l ∈ L, l.length ≤ 16) (h0 : L ≠ []) (hcap : L.length ≤ c) :
    Calls Tryd.prog 62 #[.slice a n c, .string ⟨#[44]⟩] w fun e w' => e = .returned (.string (str (Go.Lib.join L [44]))) ∧ Below w.heap.size w w' := by
  subst hn
  have hpos : 0 < L.length := List.length_pos_iff.2 h0
  obtain ⟨b, o, rfl, c0⟩ := hr 0 hpos
  have hlen := join_len L [44] (by simp) hL L.length (Nat.le_refl _)
  rw [List.take_length] at hlen
  have hxs : (L.map str).map (·.data.toList) = L := by
    rw [List.map_map]
    apply List.ext_getElem (by simp)
    intro i h1 h2
    simp [str]
  have := Tryd.strings_Join b o c (L.map str) ⟨#[44]⟩ w (fun j x hx => by
    rw [List.getElem?_map] at hx
    obtain ⟨y, hy, rfl⟩ := Option.map_eq_some_iff.1 hx
    obtain ⟨hj, rfl⟩ := List.getElem?_eq_some_iff.1 hy
    obtain ⟨b', o', e, cj⟩ := hr j hj
    simp at e
    obtain ⟨rfl, rfl⟩ := e
    exact cj) (World.block_lt_of_cell? _ _ c0) (by rw [List.length_map]; omega) (by rw [List.length_map]; exact hcap) (by rw [hxs]; show (Go.Lib.join L [44]).length ≤ _; omega)
  rw [List.length_map, hxs] at this
  exact this
set_option maxRecDepth 100000 in
set_option maxHeartbeats 4000000 in
theorem joined_any (a : Option Addr) (zs : List Int) (c : Nat) (w : World) (hr : Rd (Value.int .i64) w a zs) (hok : OkTxt zs) (h0 : zs ≠ []) :
    Calls Tryd.prog 39 #[.slice a zs.length c, .string ⟨#[44]⟩] w fun e w' => e = .returned (.string (setStr zs)) ∧ Below w.heap.size w w' := by
  have RA := hid hr; have HOK := hid hok; clear hr
  have h16 := hok.1
  have HO := hid (show Own 9 (w.alloc (.cells #[] 9)) w.heap.size (.slice (some ⟨w.heap.size, 0, none⟩) 0 0) [] from own_new 9 w [] (by decide))
  have B0 := hid (alloc_below w (.cells #[] 9))
  go_enter Tryd.func39, Tryd.ntmps39
  go_wp2
  go_loopw [5, 7, 11] (fun o _ x wr => ∃ k : Nat, k ≤ zs.length ∧ x = .int .i64 k ∧ Own 9 wr w.heap.size o (((zs.take k).map digs).map strF) ∧ Below w.heap.size w wr) (fun _ _ x _ => zs.length - (intOf x).toNat)
  case atStart => exact ⟨0, Nat.zero_le _, rfl, HO.out, B0.out⟩
  case round =>
    obtain ⟨k, hk, rfl, ho, hb⟩ := hrel
    have OI := hid ho; have LI := hid hb
    have RZ := hid (RA.out.below hb (Nat.le_refl _))
    clear ho hb
    by_cases hlt : k < zs.length
    · have hki : (k : Int) < (zs.length : Int) := by omega
      obtain ⟨b, o, rfl, ck⟩ := RZ.out k hlt
      have hv := HOK.out.2 _ (List.getElem_mem hlt)
      have HS := hid (show ((zs.take (k + 1)).map digs).map strF = ((zs.take k).map digs).map strF ++ [strF (digs zs[k])] by rw [List.take_succ_eq_append_getElem hlt, List.map_append, List.map_append]; rfl)
      generalize zs[k] = x at *
      obtain ⟨n, rfl⟩ := Int.eq_ofNat_of_zero_le hv.1
      have hszr := LI.out.size
      have hlen : (((zs.take k).map digs).map strF).length < 1099511627776 := by simp; omega
      generalize ((zs.take k).map digs).map strF = M at *
      go_wp2_with (first | (go_at_call 54; refine (fmt_any n _ (by omega)).mono ?_; rintro e w' ⟨rfl, rfl⟩) | (at_builtin; refine law_push tStrs _ rfl _ _ rfl w.heap.size _ M rfl OI.out _ _ rfl ?c0 rfl ?c1 ?c2 ?_))
      case c0 => simp
      case c1 => exact hlen
      case c2 => exact hszr
      intro v' w' h1 h2
      have HN := hid h1
      have HBB := hid (LI.out.trans (grown_below h2 hszr (fun g hg => OI.out.ge g hg)))
      clear h1 h2
      go_wp2
      go_roundw
      case rel => exact ⟨k + 1, by omega, by go_num, by rw [HS.out]; exact HN.out, HBB.out⟩
      case measure => simp [intOf]; omega
    · obtain rfl : k = zs.length := by omega
      rw [List.take_length] at OI
      obtain ⟨pa, pc, rfl, hpr, hcap, _⟩ := Own.rd OI.out
      have RP := hid hpr
      have HLL := hid (show ∀ l ∈ zs.map digs, l.length ≤ 16 from fun l hl => by
        obtain ⟨v, hv, rfl⟩ := List.mem_map.1 hl
        exact digs_len (HOK.out.2 v hv).2)
      have HNE := hid (show zs.map digs ≠ [] by simpa using h0)
      have HE := hid (setStr_ok HOK.out h0)
      clear hpr OI
      go_wp2_with fail
      refine (join_any pa (zs.map digs) zs.length pc _ (List.length_map _) RP.out (by rw [List.length_map]; exact h16) HLL.out HNE.out hcap).mono ?_
      rintro e wz ⟨rfl, hb⟩
      have BB := hid (LI.out.trans (hb.mono LI.out.size))
      clear hb
      go_wp2
      go_ret
      exact ⟨ret_str HE.out.symm, BB.out⟩
set_option maxRecDepth 100000 in
set_option maxHeartbeats 4000000 in
theorem implSetText_any (a : Option Addr) (zs : List Int) (c : Nat) (w : World) (r : ByteArray) (hx : setStr zs = r) (hr : Rd (Value.int .i64) w a zs) (hm : zs.length ≤ 1048576) :
    Calls Tryd.prog 18 #[.slice a zs.length c] w fun e w' => e = .returned (.string r) ∧ Below w.heap.size w w' := by
  subst hx
  have RA := hid hr; clear hr
  have BR := hid (Below.refl w.heap.size w)
  by_cases h16 : zs.length ≤ 16
  · have h16i : ¬ (zs.length : Int) > 16 := by omega
    go_enter Tryd.func18, Tryd.ntmps18
    go_wp2
    go_loopw [4, 10] (fun _ x wr => ∃ k : Nat, k ≤ zs.length ∧ x = .int .i64 k ∧ (∀ v ∈ zs.take k, 0 ≤ v ∧ v ≤ 15) ∧ w = wr) (fun _ x _ => zs.length - (intOf x).toNat)
    case atStart => exact ⟨0, Nat.zero_le _, rfl, by simp, rfl⟩
    case round =>
      obtain ⟨k, hk, rfl, hin, rfl⟩ := hrel
      have HIN := hid hin; clear hin
      by_cases hlt : k < zs.length
      · have hki : (k : Int) < (zs.length : Int) := by omega
        obtain ⟨b, o, rfl, ck⟩ := RA.out k hlt
        by_cases hv : 0 ≤ zs[k] ∧ zs[k] ≤ 15
        · have HV := hid (show decide (0 ≤ zs[k] ∧ zs[k] ≤ 15) = true by simpa using hv)
          have HN := hid (show ∀ v ∈ zs.take (k + 1), 0 ≤ v ∧ v ≤ 15 from fun v hvm => by
            rw [List.take_succ_eq_append_getElem hlt, List.mem_append] at hvm
            rcases hvm with h | h
            · exact HIN.out v h
            · have : v = zs[k] := by simpa using h
              rw [this]; exact hv)
          clear hv
          generalize zs[k] = x at *
          go_wp2_with (first | (go_at_call 33; refine (inRange_b x 0 15 _ _ HV.out).mono ?_; rintro e w' ⟨rfl, rfl⟩))
          go_roundw
          case rel => exact ⟨k + 1, by omega, by go_num, HN.out, by first | rfl | trivial⟩
          case measure => simp [intOf]; omega
        · have HV := hid (show decide (0 ≤ zs[k] ∧ zs[k] ≤ 15) = false by simpa using hv)
          have HE := hid (setStr_no (s := zs) (fun h => hv (h.2 _ (List.getElem_mem hlt))))
          clear hv
          generalize zs[k] = x at *
          go_wp2_with (first | (go_at_call 33; refine (inRange_b x 0 15 _ _ HV.out).mono ?_; rintro e w' ⟨rfl, rfl⟩))
          go_ret
          exact ⟨ret_str HE.out.symm, BR.out⟩
      · obtain rfl : k = zs.length := by omega
        have HOK := hid (show OkTxt zs from ⟨h16, by have := HIN.out; rwa [List.take_length] at this⟩)
        by_cases h0 : zs = []
        · subst h0
          go_wp2
          go_ret
          exact ⟨ret_str setStr_nil.symm, BR.out⟩
        · have hl0 : (zs.length : Int) ≠ 0 := by
            have := List.length_pos_iff.2 h0; omega
          go_wp2_with fail
          refine (joined_any a zs c _ RA.out HOK.out h0).mono ?_
          rintro e wz ⟨rfl, hb⟩
          have BB := hid hb; clear hb
          go_wp2
          go_ret
          exact ⟨rfl, BB.out⟩
  · have h16i : (zs.length : Int) > 16 := by omega
    have HE := hid (setStr_no (s := zs) (fun h => h16 h.1))
    go_enter Tryd.func18, Tryd.ntmps18
    go_wp2
    go_ret
    exact ⟨ret_str HE.out.symm, BR.out⟩
set_option maxRecDepth 100000 in
set_option maxHeartbeats 4000000 in
theorem specSetText_any (a : Option Addr) (zs : List Int) (c : Nat) (w : World) (r : ByteArray) (hx : setStr zs = r) (hr : Rd (Value.int .i64) w a zs) (hm : zs.length ≤ 1048576) :
    Calls Tryd.prog 19 #[.slice a zs.length c] w fun e w' => e = .returned (.string r) ∧ Below w.heap.size w w' := by
  subst hx
  have RA := hid hr; clear hr
  have BR := hid (Below.refl w.heap.size w)
  by_cases h16 : zs.length ≤ 16
  · have h16i : ¬ (zs.length : Int) > 16 := by omega
    by_cases h0 : zs = []
    · subst h0
      go_enter Tryd.func19, Tryd.ntmps19
      go_wp2
      go_ret
      exact ⟨ret_str setStr_nil.symm, BR.out⟩
    · have hl0 : (zs.length : Int) ≠ 0 := by
        have := List.length_pos_iff.2 h0; omega
      have HO := hid (show Own 9 (w.alloc (.cells #[] 9)) w.heap.size (.slice (some ⟨w.heap.size, 0, none⟩) 0 0) [] from own_new 9 w [] (by decide))
      have B0 := hid (alloc_below w (.cells #[] 9))
      go_enter Tryd.func19, Tryd.ntmps19
      go_wp2
      go_loopw [3, 4] (fun o x wr => ∃ k : Nat, k ≤ zs.length ∧ x = .int .i64 k ∧ (∀ v ∈ zs.take k, 0 ≤ v ∧ v ≤ 15) ∧ Own 9 wr w.heap.size o (((zs.take k).map digs).map strF) ∧ Below w.heap.size w wr) (fun _ x _ => zs.length - (intOf x).toNat)
      case atStart => exact ⟨0, Nat.zero_le _, rfl, by simp, HO.out, B0.out⟩
      case round =>
        obtain ⟨k, hk, rfl, hin, ho, hb⟩ := hrel
        have HIN := hid hin; have OI := hid ho; have BL := hid hb
        have RZ := hid (RA.out.below hb (Nat.le_refl _))
        clear hin ho hb
        by_cases hlt : k < zs.length
        · have hki : (k : Int) < (zs.length : Int) := by omega
          obtain ⟨b, o, rfl, ck⟩ := RZ.out k hlt
          by_cases hv : 0 ≤ zs[k] ∧ zs[k] ≤ 15
          · have HV := hid (show decide (0 ≤ zs[k] ∧ zs[k] ≤ 15) = true by simpa using hv)
            have HN := hid (show ∀ v ∈ zs.take (k + 1), 0 ≤ v ∧ v ≤ 15 from fun v hvm => by
              rw [List.take_succ_eq_append_getElem hlt, List.mem_append] at hvm
              rcases hvm with h | h
              · exact HIN.out v h
              · have : v = zs[k] := by simpa using h
                rw [this]; exact hv)
            have HS := hid (show ((zs.take (k + 1)).map digs).map strF = ((zs.take k).map digs).map strF ++ [strF (digs zs[k])] by rw [List.take_succ_eq_append_getElem hlt, List.map_append, List.map_append]; rfl)
            generalize zs[k] = x at *
            obtain ⟨n, rfl⟩ := Int.eq_ofNat_of_zero_le hv.1
            have hn15 : n ≤ 15 := by omega
            clear hv
            have hlen : (((zs.take k).map digs).map strF).length < 1099511627776 := by simp; omega
            generalize ((zs.take k).map digs).map strF = M at *
            go_wp2_with (first | (go_at_call 40; refine (l1In_b (n : Int) 0 15 _ _ HV.out).mono ?_; rintro e w' ⟨rfl, rfl⟩))
            go_wp2_with fail
            refine (l1Int_any n _ (by omega)).mono ?_
            rintro e w1 ⟨rfl, hb⟩
            replace OI := hid (OI.out.past hb (Nat.le_refl _))
            replace BL := hid (bon BL.out hb)
            clear hb
            have hszr := BL.out.size
            go_wp2_with (at_builtin; refine law_push tStrs _ rfl _ _ rfl w.heap.size _ M rfl OI.out _ _ rfl ?c0 rfl ?c1 ?c2 ?_)
            case c0 => simp
            case c1 => exact hlen
            case c2 => exact hszr
            intro v' w' h1 h2
            have HNN := hid h1
            have HBB := hid (BL.out.trans (grown_below h2 hszr (fun g hg => OI.out.ge g hg)))
            clear h1 h2
            go_wp2
            go_roundw
            case rel => exact ⟨k + 1, by omega, by go_num, HN.out, by rw [HS.out]; exact HNN.out, HBB.out⟩
            case measure => simp [intOf]; omega
          · have HV := hid (show decide (0 ≤ zs[k] ∧ zs[k] ≤ 15) = false by simpa using hv)
            have HE := hid (setStr_no (s := zs) (fun h => hv (h.2 _ (List.getElem_mem hlt))))
            clear hv
            generalize zs[k] = x at *
            go_wp2_with (first | (go_at_call 40; refine (l1In_b x 0 15 _ _ HV.out).mono ?_; rintro e w' ⟨rfl, rfl⟩))
            go_ret
            exact ⟨ret_str HE.out.symm, BL.out⟩
        · obtain rfl : k = zs.length := by omega
          have HOK := hid (show OkTxt zs from ⟨h16, by have := HIN.out; rwa [List.take_length] at this⟩)
          rw [List.take_length] at OI
          obtain ⟨pa, pc, rfl, hpr, _⟩ := Own.rd OI.out
          have RP := hid hpr
          have HLL := hid (show ∀ l ∈ zs.map digs, l.length ≤ 16 from fun l hl => by
            obtain ⟨v, hv, rfl⟩ := List.mem_map.1 hl
            exact digs_len (HOK.out.2 v hv).2)
          have HE := hid (setStr_ok HOK.out h0)
          clear hpr OI
          go_wp2_with fail
          refine (l1Words_any pa (zs.map digs) zs.length pc _ (List.length_map _) RP.out (by rw [List.length_map]; exact h16) HLL.out).mono ?_
          rintro e wz ⟨rfl, rfl⟩
          go_wp2
          go_ret
          exact ⟨ret_str HE.out.symm, BL.out⟩
  · have h16i : (zs.length : Int) > 16 := by omega
    have HE := hid (setStr_no (s := zs) (fun h => h16 h.1))
    go_enter Tryd.func19, Tryd.ntmps19
    go_wp2
    go_ret
    exact ⟨ret_str HE.out.symm, BR.out⟩
end Go.Proofs.YtccohcdgcpcbjaaDoor
