/- A number out of a text: the reference's, the program's. -/
import Derived.Test.YtccohcdgcpcbjaaDoorSplit
import Derived.Lib.LaidTab
import Derived.Lib.AppendIntMem
import Derived.Lib.AtoiErrMem
namespace Go.Proofs.YtccohcdgcpcbjaaDoor
open Go.RowKit
section
/-- What digits tell. -/
def rdv (l : List UInt8) : Nat := l.foldl (fun n b => n * 10 + (b.toNat - 48)) 0
theorem rdv_snoc (l : List UInt8) (b : UInt8) : rdv (l ++ [b]) = rdv l * 10 + (b.toNat - 48) := by simp [rdv]
/-- The numbers from 0 to 15 as texts. -/
theorem dec16 {v : Nat} (hv : v < 16) : (dec v).length ≤ 2 ∧ (∀ b ∈ dec v, 48 ≤ b.toNat ∧ b.toNat ≤ 57) ∧ rdv (dec v) = v ∧ ¬ ((dec v).headD 0 = 48 ∧ 1 < (dec v).length) ∧ Go.Lib.parseIntB 64 (dec v) = .ok (v : Int) := by
  have h : v = 0 ∨ v = 1 ∨ v = 2 ∨ v = 3 ∨ v = 4 ∨ v = 5 ∨ v = 6 ∨ v = 7 ∨ v = 8 ∨ v = 9 ∨ v = 10 ∨ v = 11 ∨ v = 12 ∨ v = 13 ∨ v = 14 ∨ v = 15 := by omega
  rcases h with rfl | rfl | rfl | rfl | rfl | rfl | rfl | rfl | rfl | rfl | rfl | rfl | rfl | rfl | rfl | rfl
  all_goals first
    | (rw [dec_small _ (by decide)]; exact ⟨by decide, by decide, by decide, by decide, by rfl⟩)
    | (rw [dec_big _ (by decide), dec_small _ (by decide)]; exact ⟨by decide, by decide, by decide, by decide, by rfl⟩)
theorem dec16_inj {a b : Nat} (ha : a < 16) (hb : b < 16) (h : dec a = dec b) : a = b := by
  rw [← (dec16 ha).2.2.1, ← (dec16 hb).2.2.1, h]
/-- What both read at a word that is a number from 0 to 15. -/
def RdPost (l : List UInt8) (n : Int) (b : Bool) : Prop := -9223372036854775808 ≤ n ∧ n ≤ 9223372036854775807 ∧ ∀ v : Nat, v < 16 → l = dec v → n = (v : Int) ∧ b = true
theorem RdPost.no {l : List UInt8} (h : ∀ v : Nat, v < 16 → l ≠ dec v) (b : Bool) : RdPost l 0 b := ⟨by decide, by decide, fun v hv e => absurd e (h v hv)⟩
def RdRes (l : List UInt8) (w : World) (e : Ending) (w' : World) : Prop := ∃ (n : Int) (b : Bool), e = .returned (.tuple #[.int .i64 n, .bool b]) ∧ RdPost l n b ∧ (b = true → l ≠ []) ∧ w = w'
set_option maxRecDepth 100000 in
set_option maxHeartbeats 4000000 in
theorem l1Read_any (l : List UInt8) (w : World) (hl : l.length ≤ 4194304) :
    Calls Tryd.prog 31 #[.string (str l)] w (RdRes l w) := by
  have hsz : (str l).size = l.length := str_size l
  by_cases h0 : l.length < 1
  · have h0i : (l.length : Int) < 1 := by omega
    have HP := hid (RdPost.no (l := l) (fun v hv e => by
      have := dec_ne v
      rw [← e] at this
      exact this (List.eq_nil_of_length_eq_zero (by omega))) false)
    go_enter Tryd.func31, Tryd.ntmps31
    go_wp2
    go_ret2
    exact ⟨0, false, rfl, HP.out, (fun h => by cases h), rfl⟩
  · have h0i : ¬ (l.length : Int) < 1 := by omega
    by_cases h9 : 9 < l.length
    · have h9i : (9 : Int) < (l.length : Int) := by omega
      have HP := hid (RdPost.no (l := l) (fun v hv e => by
        have := (dec16 hv).1
        rw [← e] at this; omega) false)
      go_enter Tryd.func31, Tryd.ntmps31
      go_wp2
      go_ret2
      exact ⟨0, false, rfl, HP.out, (fun h => by cases h), rfl⟩
    · have h9i : ¬ (9 : Int) < (l.length : Int) := by omega
      have hp : 0 < l.length := by omega
      have hg0 := fun h : 0 < (str l).size => str_get l 0 h hp
      obtain ⟨b0, hb0⟩ : ∃ b, l[0] = b := ⟨_, rfl⟩
      have hget0 : ∀ h : 0 < (str l).size, (str l)[0]'h = b0 := fun h => (hg0 h).trans hb0
      have hhead : l.headD 0 = b0 := by
        rw [← hb0]
        cases l with
        | nil => simp at hp
        | cons x r => rfl
      have HH := hid hhead
      clear hg0 hb0 hhead
      have hz0 : (0 : Int) < (l.length : Int) := by omega
      by_cases hz : b0 = 48 ∧ 1 < l.length
      · have hzb : ((b0.toNat : Int) == 48) = true := by rw [hz.1]; rfl
        have h1i : (1 : Int) < (l.length : Int) := by omega
        have HP := hid (RdPost.no (l := l) (fun v hv e => by
          have := (dec16 hv).2.2.2.1
          rw [← e, HH.out] at this
          exact this hz) false)
        clear hz
        go_enter Tryd.func31, Tryd.ntmps31
        go_wp2
        go_ret2
        exact ⟨0, false, rfl, HP.out, (fun h => by cases h), rfl⟩
      · have HP0 := hid hz
        obtain ⟨zb, hzb⟩ : ∃ zb, ((b0.toNat : Int) == 48) = zb := ⟨_, rfl⟩
        have h1i : zb = true → ¬ (1 : Int) < (l.length : Int) := by
          intro e h
          rw [e] at hzb
          refine hz ⟨?_, by omega⟩
          have h2 := beq_iff_eq.1 hzb
          exact UInt8.toNat_inj.1 (by show b0.toNat = 48; omega)
        have HZ := hid h1i
        clear hz h1i
        have HHD := hid (fun (v : Nat) (hv : v < 16) (e : l = dec v) => (e ▸ (dec16 hv).2.1 : ∀ b ∈ l, 48 ≤ b.toNat ∧ b.toNat ≤ 57))
        have HRV := hid (fun (v : Nat) (hv : v < 16) (e : l = dec v) => (e ▸ (dec16 hv).2.2.1 : rdv l = v))
        have hz1 : zb = false ∨ (zb = true ∧ ¬ (1 : Int) < (l.length : Int)) := by
          cases zb with
          | true => exact .inr ⟨rfl, HZ.out rfl⟩
          | false => exact .inl rfl
        clear HZ
        go_enter Tryd.func31, Tryd.ntmps31
        rcases hz1 with rfl | ⟨rfl, h1i⟩
        all_goals (
          go_wp2
          go_loop [4, 5] (fun n x => ∃ k : Nat, k ≤ l.length ∧ x = .int .i64 k ∧ n = .int .i64 (rdv (l.take k) : Nat) ∧ rdv (l.take k) < 10 ^ k ∧ ∀ b ∈ l.take k, 48 ≤ b.toNat ∧ b.toNat ≤ 57) (fun _ x => l.length - (intOf x).toNat)
          case atStart => exact ⟨0, Nat.zero_le _, rfl, rfl, by simp [rdv], by simp⟩
          case round =>
            obtain ⟨k, hk, rfl, rfl, hlt, hall⟩ := hrel
            have HALL := hid hall
            have h10 : 10 ^ k ≤ 10 ^ 9 := Nat.pow_le_pow_right (by decide) (by omega)
            have hb9 : rdv (l.take k) < 1000000000 := Nat.lt_of_lt_of_le hlt h10
            clear hall h10
            by_cases hkl : k < l.length
            · have hki : (k : Int) < (l.length : Int) := by omega
              have hgk := fun h : k < (str l).size => str_get l k h hkl
              have htk := List.take_succ_eq_append_getElem hkl
              have hmem : l[k] ∈ l := List.getElem_mem hkl
              obtain ⟨b, hb⟩ : ∃ b, l[k] = b := ⟨_, rfl⟩
              have hget : ∀ h : k < (str l).size, (str l)[k]'h = b := fun h => (hgk h).trans hb
              rw [hb] at htk hmem
              have HTK := hid htk; have HMEM := hid hmem
              clear hgk hb htk hmem
              by_cases hd : b.toNat < 48
              · have hdi : (b.toNat : Int) < 48 := by omega
                have HP := hid (RdPost.no (l := l) (fun v hv e => by have := (HHD.out v hv e b HMEM.out).1; omega) false)
                go_wp2
                go_ret2
                exact ⟨0, false, rfl, HP.out, (fun h => by cases h), rfl⟩
              · have hdi : ¬ (b.toNat : Int) < 48 := by omega
                by_cases hd2 : 57 < b.toNat
                · have hdi2 : (57 : Int) < (b.toNat : Int) := by omega
                  have HP := hid (RdPost.no (l := l) (fun v hv e => by have := (HHD.out v hv e b HMEM.out).2; omega) false)
                  go_wp2
                  go_ret2
                  exact ⟨0, false, rfl, HP.out, (fun h => by cases h), rfl⟩
                · have hdi2 : ¬ (57 : Int) < (b.toNat : Int) := by omega
                  have HR := hid (show rdv (l.take (k + 1)) = rdv (l.take k) * 10 + (b.toNat - 48) by rw [HTK.out, rdv_snoc])
                  have HA2 := hid (show ∀ x ∈ l.take (k + 1), 48 ≤ x.toNat ∧ x.toNat ≤ 57 by
                    rw [HTK.out]
                    intro x hx
                    rcases List.mem_append.1 hx with h | h
                    · exact HALL.out x h
                    · rw [List.mem_singleton.1 h]; omega)
                  have HLT := hid (show rdv (l.take (k + 1)) < 10 ^ (k + 1) by rw [HR.out, Nat.pow_succ]; omega)
                  have hw1 : IntKind.u8.wrap ((b.toNat : Int) - 48) = (b.toNat : Int) - 48 := by
                    simp [IntKind.wrap, IntKind.bits, IntKind.signed]; omega
                  clear HALL
                  generalize hm : rdv (l.take k) = m at *
                  have HM := hid hm
                  clear hm
                  go_wp2
                  go_round
                  case rel => exact ⟨k + 1, by omega, by go_num, by rw [HR.out]; go_num, HLT.out, HA2.out⟩
                  case measure => simp [intOf]; omega
            · obtain rfl : k = l.length := by omega
              have hki : ¬ ((l.length : Nat) : Int) < (l.length : Int) := by omega
              have HP := hid (show RdPost l (rdv l : Nat) true from ⟨by omega, by rw [List.take_length] at hb9; omega, fun v hv e => ⟨by rw [HRV.out v hv e], rfl⟩⟩)
              rw [List.take_length]
              go_wp2
              go_ret2
              exact ⟨(rdv l : Nat), true, rfl, HP.out, (fun _ h => by rw [h] at hp; simp at hp), rfl⟩)
end
section
/-- The name of the table of powers. -/
noncomputable def pow10Name : String := (Go.Proofs.Tryd.prog.globals[3]?).elim "" (·.name)
/-- What strconv's variables hold. -/
structure NumOk (w : World) : Prop where
  syn : ∃ tp p e z, w.heap[1]? = some (.cells #[.iface tp p] e z)
  ran : ∃ tp p e z, w.heap[2]? = some (.cells #[.iface tp p] e z)
  tab : ∃ e z, w.heap[3]? = some (.cells (Go.Lib.pow10Tab.map fun z => Value.int .u64 z).toArray e z)
theorem NumOk.below {B : Nat} {w w' : World} (h : NumOk w) (hb : Below B w w') (hB : w.heap.size ≤ B) : NumOk w' := by
  obtain ⟨⟨tp, p, e, z, h1⟩, ⟨tp', p', e', z', h2⟩, ⟨e'', z'', h3⟩⟩ := h
  have k := fun (g : Nat) (o : Obj) (hg : w.heap[g]? = some o) => (hb.block g (Nat.lt_of_lt_of_le (Array.getElem?_eq_some_iff.1 hg).1 hB)).trans hg
  exact ⟨⟨tp, p, e, z, k _ _ h1⟩, ⟨tp', p', e', z', k _ _ h2⟩, ⟨e'', z'', k _ _ h3⟩⟩
theorem var_of {w : World} {name : String} {g : Nat} {cs : Array Value} {e : TypeId} {z : Nat × Nat} (hg : Tryd.prog.globalNamed name = some g) (h : w.heap[g]? = some (.cells cs e z)) : w.var? Tryd.prog name = some cs := by
  unfold World.var?
  rw [hg]
  simp [h]
theorem itoa_nat (n : Nat) : Go.Lib.itoa (n : Int) = dec n := by
  unfold Go.Lib.itoa
  rw [if_neg (by omega), Int.toNat_natCast, decDigits_eq]
theorem fmtAll_any (n : Int) (w : World) (h0 : -9223372036854775808 ≤ n) (h1 : n ≤ 9223372036854775807) (hT : NumOk w) :
    Calls Tryd.prog 54 #[.int .i64 n, .int .i64 10] w fun e w' => e = .returned (.string (str (Go.Lib.itoa n))) ∧ Below w.heap.size w w' := by
  obtain ⟨e, z, h⟩ := hT.tab
  have hv : Go.Lib.TabIs Tryd.prog w pow10Name .u64 Go.Lib.pow10Tab := var_of (by kernel_rfl) h
  refine (Any.strconv_FormatInt_10 Tryd.laysM173 n h0 h1 w (by exact (congrArg (fun s => Go.Lib.TabIs Tryd.prog w s .u64 Go.Lib.pow10Tab) (show pow10Name = _ by kernel_rfl)) ▸ hv)).mono ?_
  rintro e w' ⟨rfl, k, os, rfl⟩
  exact ⟨rfl, Go.Lib.below_grow _ w (Nat.le_refl _) k os⟩
theorem parse_ok (l : List UInt8) (w : World) (hl : l.length ≤ 9) (v : Int) (h : Go.Lib.parseIntB 64 l = .ok v) :
    Calls Tryd.prog 53 #[.string (str l), .int .i64 10, .int .i64 64] w fun e w' => e = .returned (.tuple #[.int .i64 v, .nilIface]) ∧ Below w.heap.size w w' := by
  have e0 : (str l).data.toList = l := by unfold str; simp
  refine (Tryd.strconv_ParseInt_10_at64_ok (str l) (by rw [str_size]; omega) v (by rw [e0]; exact h) w).mono ?_
  rintro e w' ⟨rfl, rfl | ⟨t, rfl⟩⟩
  · exact ⟨rfl, Below.refl _ _⟩
  · exact ⟨rfl, Go.Lib.bytesWorld_below w _ t⟩
theorem parse_no (l : List UInt8) (w : World) (hl : l.length ≤ 9) (h : ∀ v, Go.Lib.parseIntB 64 l ≠ .ok v) (hT : NumOk w) :
    Calls Tryd.prog 53 #[.string (str l), .int .i64 10, .int .i64 64] w fun e w' => ∃ x t p, e = .returned (.tuple #[.int .i64 x, .iface t p]) ∧ Below w.heap.size w w' := by
  have e0 : (str l).data.toList = l := by unfold str; simp
  cases hp : Go.Lib.parseIntB 64 l with
  | ok v => exact absurd hp (h v)
  | range =>
    obtain ⟨tp, p, e, z, h⟩ := hT.ran
    refine (Tryd.strconv_ParseInt_10_at64_range_var (str l) (by rw [str_size]; omega) (by rw [e0]; exact hp) tp p w (var_of (by kernel_rfl) h)).mono ?_
    rintro e w' ⟨N, rfl, _, _, hb⟩
    exact ⟨_, _, _, rfl, hb⟩
  | _ =>
    obtain ⟨tp, p, e, z, h⟩ := hT.syn
    refine (Any.strconv_ParseInt_10_at64_syntax_var Tryd.laysC174 (str l) (by rw [str_size]; omega) (by rw [e0]; exact hp) tp p w (var_of (by kernel_rfl) h)).mono ?_
    rintro e w' ⟨N, rfl, _, _, hb⟩
    exact ⟨_, _, _, rfl, hb⟩
theorem parse_bound {l : List UInt8} {v : Int} (h : Go.Lib.parseIntB 64 l = .ok v) : -9223372036854775808 ≤ v ∧ v ≤ 9223372036854775807 := by
  unfold Go.Lib.parseIntB at h
  split at h
  · cases h
  · dsimp only at h
    split at h
    · cases h
    · cases h
    · split at h
      · cases h
      · split at h
        · cases h
        · rename_i u _ h1 h2
          injection h with h
          rw [← h]
          split
          · rename_i hn
            have : ¬ 2 ^ (64 - 1) < u := fun hh => h2 ⟨hn, hh⟩
            omega
          · rename_i hn
            have : ¬ 2 ^ (64 - 1) ≤ u := fun hh => h1 ⟨hn, hh⟩
            omega
theorem bne_str {a b : List UInt8} (h : a = b) : (str a != str b) = false := by rw [h, bne, (Go.MapKept.bytes_beq _ _).2 rfl]; rfl
theorem bne_str' {a b : List UInt8} (h : a ≠ b) : (str a != str b) = true := by
  rw [bne, Bool.not_eq_true']
  rw [Bool.eq_false_iff]
  intro e
  exact h (str_inj ((Go.MapKept.bytes_beq _ _).1 e))
theorem eqs_str {a b : List UInt8} (h : a = b) : ((str a).toList == (str b).toList) = true := by rw [h]; exact beq_self_eq_true _
theorem eqs_str' {a b : List UInt8} (h : a ≠ b) : ((str a).toList == (str b).toList) = false := by
  rw [Bool.eq_false_iff]
  intro e
  have e2 := eq_of_beq e
  rw [Go.Lib.toList_data, Go.Lib.toList_data] at e2
  exact h (by simpa [str] using e2)
/-- What readNumber answers. -/
def RnRes (l : List UInt8) (w : World) (e : Ending) (w' : World) : Prop := ∃ (n : Int) (b : Bool), e = .returned (.tuple #[.int .i64 n, .bool b]) ∧ RdPost l n b ∧ (b = true → 0 ≤ n → n ≤ 15 → l = dec n.toNat) ∧ Below w.heap.size w w'
set_option maxRecDepth 100000 in
set_option maxHeartbeats 4000000 in
theorem readNumber_any (l : List UInt8) (w : World) (hl : l.length ≤ 4194304) (hT : NumOk w) : Calls Tryd.prog 32 #[.string (str l)] w (RnRes l w) := by
  have HT := hid hT; clear hT
  have hsz : (str l).size = l.length := str_size l
  by_cases h0 : l.length < 1
  · have h0i : (l.length : Int) < 1 := by omega
    have HP := hid (RdPost.no (l := l) (fun v _ e => by
      have := dec_ne v
      rw [← e] at this
      exact this (List.eq_nil_of_length_eq_zero (by omega))) false)
    go_enter Tryd.func32, Tryd.ntmps32
    go_wp2
    go_ret2
    exact ⟨0, false, rfl, HP.out, (fun h => by cases h), Below.refl _ _⟩
  · have h0i : ¬ (l.length : Int) < 1 := by omega
    by_cases h9 : 9 < l.length
    · have h9i : (9 : Int) < (l.length : Int) := by omega
      have HP := hid (RdPost.no (l := l) (fun v hv e => by
        have := (dec16 hv).1
        rw [← e] at this; omega) false)
      go_enter Tryd.func32, Tryd.ntmps32
      go_wp2
      go_ret2
      exact ⟨0, false, rfl, HP.out, (fun h => by cases h), Below.refl _ _⟩
    · have h9i : ¬ (9 : Int) < (l.length : Int) := by omega
      have hl9 : l.length ≤ 9 := by omega
      by_cases hp : ∃ v, Go.Lib.parseIntB 64 l = .ok v
      · obtain ⟨v, hv⟩ := hp
        obtain ⟨hb1, hb2⟩ := parse_bound hv
        have HV := hid hv
        clear hv
        go_enter Tryd.func32, Tryd.ntmps32
        go_wp2_with fail
        refine (parse_ok l _ hl9 v HV.out).mono ?_
        rintro e w1 ⟨rfl, hb⟩
        have B1 := hid hb
        have HT1 := hid (HT.out.below hb (Nat.le_refl _))
        clear hb
        by_cases hf : Go.Lib.itoa v = l
        · have hne := bne_str hf
          have hne2 := eqs_str hf
          have HP := hid (show RdPost l v true from ⟨hb1, hb2, fun v' hv' e => ⟨by
            have h2 := (dec16 hv').2.2.2.2
            rw [← e, HV.out] at h2
            injection h2, rfl⟩⟩)
          have HQ := hid (show true = true → 0 ≤ v → v ≤ 15 → l = dec v.toNat from fun _ q1 q2 => by
            obtain ⟨m, rfl⟩ := Int.eq_ofNat_of_zero_le q1
            rw [← hf, itoa_nat, Int.toNat_natCast])
          clear hf
          generalize hS : str (Go.Lib.itoa v) = S at *
          go_wp2_with fail
          refine (fmtAll_any v _ hb1 hb2 HT1.out).mono ?_
          rintro e w2 ⟨rfl, hb⟩
          have B2 := hid (bon B1.out hb)
          clear hb
          rw [hS]
          go_wp2
          go_ret2
          exact ⟨v, true, rfl, HP.out, (fun _ => HQ.out trivial), B2.out⟩
        · have hne := bne_str' hf
          have hne2 := eqs_str' hf
          have HP := hid (show RdPost l 0 false from RdPost.no (fun v' hv' e => by
            have h2 := (dec16 hv').2.2.2.2
            rw [← e, HV.out] at h2
            injection h2 with h2
            exact hf (by rw [h2, itoa_nat, e])) false)
          clear hf
          generalize hS : str (Go.Lib.itoa v) = S at *
          go_wp2_with fail
          refine (fmtAll_any v _ hb1 hb2 HT1.out).mono ?_
          rintro e w2 ⟨rfl, hb⟩
          have B2 := hid (bon B1.out hb)
          clear hb
          rw [hS]
          go_wp2
          go_ret2
          exact ⟨0, false, rfl, HP.out, (fun h => by cases h), B2.out⟩
      · have HP := hid (RdPost.no (l := l) (fun v hv e => hp ⟨v, by rw [e]; exact (dec16 hv).2.2.2.2⟩) false)
        have HNO := hid (show ∀ v, Go.Lib.parseIntB 64 l ≠ .ok v from fun v e => hp ⟨v, e⟩)
        clear hp
        go_enter Tryd.func32, Tryd.ntmps32
        go_wp2_with fail
        refine (parse_no l _ hl9 HNO.out HT.out).mono ?_
        rintro e w1 ⟨x, t, p, rfl, hb⟩
        have B1 := hid hb
        clear hb
        go_wp2
        go_ret2
        exact ⟨0, false, rfl, HP.out, (fun h => by cases h), B1.out⟩
end
end Go.Proofs.YtccohcdgcpcbjaaDoor
