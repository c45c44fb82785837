/- Least sets that meet all sets: the program's search. -/
import Derived.Test.YtalfbldkdlanoaaDoorCovM
import Derived.Test.YtalfbldkdlanoaaDoorLeft
import Derived.Test.YtalfbldkdlanoaaDoorFn
import Derived.Test.YtalfbldkdlanoaaDoorMiss
namespace Go.Proofs.YtalfbldkdlanoaaDoor
open Go.RowKit
/-- What is asked of a test of sets. -/
def TestsV (P : Program) (F : FuncId) (caps : Array Value) (p : Nat → Bool) (B : List Nat) (w : World) : Prop :=
  ∀ t ∈ B, ∀ w1, Below w.heap.size w w1 → Calls P F (#[.int .u32 t] ++ caps) w1 fun e w2 => e = .returned (.bool (p t)) ∧ Below w1.heap.size w1 w2
set_option maxHeartbeats 1000000 in
theorem indexV_any (a : Option Addr) (B : List Nat) (c : Nat) (w : World) (F : FuncId) (caps : Array Value) (p : Nat → Bool) (hr : Rd maskF w a B) (hn : B.length ≤ 1048576) (hE : Enters Tryd.prog F) (hF : TestsV Tryd.prog F caps p B w) :
    Calls Tryd.prog 166 #[.slice a B.length c, .func (.func F) #[] caps] w fun e w' => ∃ x : Int, e = .returned (.int .i64 x) ∧ decide (0 ≤ x) = B.any p ∧ Below w.heap.size w w' := by
  have HR := hid hr; have HF := hid hF; clear hr hF
  go_enter Tryd.func166, Tryd.ntmps166
  go_wp2
  go_loopw [5, 8] (fun _ i wr => ∃ k : Nat, k ≤ B.length ∧ i = .int .i64 k ∧ (B.take k).any p = false ∧ Below w.heap.size w wr) (fun _ i _ => B.length - (intOf i).toNat)
  case atStart => exact ⟨0, Nat.zero_le _, rfl, rfl, Below.refl _ _⟩
  case round =>
    obtain ⟨k, hk, rfl, hp, hb⟩ := hrel
    have HP := hid hp; have HB := hid hb; clear hp hb
    by_cases hlt : k < B.length
    · obtain ⟨b, o, rfl, hc⟩ := (HR.out.below HB.out (Nat.le_refl _)) k hlt
      have HS := hid (List.take_succ_eq_append_getElem hlt)
      have HT := hid (HF.out B[k] (List.getElem_mem hlt) wr HB.out)
      have HM := hid (List.getElem_mem hlt)
      unfold maskF at hc
      generalize B[k] = r at *
      have hE' := hE
      unfold Enters at hE'
      cases hpr : p r
      · go_wp2_with fail
        refine HT.out.mono ?_
        rintro e w2 ⟨rfl, hb2⟩
        have HB2 := hid (HB.out.trans (hb2.mono HB.out.size)); clear hb2
        rw [hpr]
        go_wp2
        go_roundw
        case rel => exact ⟨k + 1, by omega, by go_num, by rw [HS.out, List.any_append, HP.out]; simpa using hpr, HB2.out⟩
        case measure => simp [intOf]; omega
      · go_wp2_with fail
        refine HT.out.mono ?_
        rintro e w2 ⟨rfl, hb2⟩
        have HB2 := hid (HB.out.trans (hb2.mono HB.out.size)); clear hb2
        rw [hpr]
        go_wp2
        go_ret
        refine ⟨k, rfl, ?_, HB2.out⟩
        rw [List.any_eq_true.2 ⟨r, HM.out, hpr⟩]
        simp
    · go_wp2
      go_ret
      refine ⟨-1, rfl, ?_, HB.out⟩
      have := HP.out
      rw [List.take_of_length_le (by omega)] at this
      rw [this]; rfl
set_option maxHeartbeats 1000000 in
theorem containsV_any (a : Option Addr) (B : List Nat) (c : Nat) (w : World) (F : FuncId) (caps : Array Value) (p : Nat → Bool) (hr : Rd maskF w a B) (hn : B.length ≤ 1048576) (hE : Enters Tryd.prog F) (hF : TestsV Tryd.prog F caps p B w) :
    Calls Tryd.prog 146 #[.slice a B.length c, .func (.func F) #[] caps] w fun e w' => e = .returned (.bool (B.any p)) ∧ Below w.heap.size w w' := by
  have HR := hid hr; have HF := hid hF; have HE := hid hE; clear hr hF hE
  go_enter Tryd.func146, Tryd.ntmps146
  go_wp2_with fail
  refine (indexV_any a B c _ F caps p HR.out hn HE.out HF.out).mono ?_
  rintro e w2 ⟨x, rfl, hx, hb2⟩
  have HX := hid hx; have HB := hid hb2; clear hx hb2
  go_wp2
  go_ret
  exact ⟨ret_bool (by rw [← HX.out]), HB.out⟩
theorem missTest_any (t S b : Nat) (w : World) (ht : t < 65536) (hS : S < 65536) (hc : w.cell? ⟨b, 0, none⟩ = some (.int .u32 S)) :
    Calls Tryd.prog 147 #[.int .u32 t, .pointer (some ⟨b, 0, none⟩)] w fun e w' => e = .returned (.bool (decide (S &&& t = 0))) ∧ Below w.heap.size w w' := by
  have hand := u32_and_nat S t (by omega) (by omega)
  have BR := hid (Below.refl w.heap.size w)
  generalize S &&& t = R at *
  by_cases h : R = 0
  · subst h
    go_enter Tryd.func147, Tryd.ntmps147
    go_wp2
    go_ret
    exact ⟨ret_bool (by simp), BR.out⟩
  · have h2 : ((R : Int) == 0) = false := by simp; omega
    have h3 := hid (show decide (R = 0) = false by simpa using h)
    clear h
    go_enter Tryd.func147, Tryd.ntmps147
    go_wp2
    go_ret
    exact ⟨ret_bool h3.out.symm, BR.out⟩
set_option maxHeartbeats 1000000 in
theorem fits_any (S sb : Nat) (sa : Option Addr) (B : List Nat) (sc : Nat) (w : World) (hr : Rd maskF w sa B) (hn : B.length ≤ 1048576) (hB : ∀ t ∈ B, t < 65536) (hS : S < 65536) (hc : w.cell? ⟨sb, 0, none⟩ = some (.slice sa B.length sc)) :
    Calls Tryd.prog 145 #[.int .u32 S, .pointer (some ⟨sb, 0, none⟩)] w fun e w' => e = .returned (.bool (hits B S)) ∧ Below w.heap.size w w' := by
  have RB := hid hr; clear hr
  have B0 := hid (alloc_below w (.cells #[.int .u32 S] 82))
  have RB1 := hid (RB.out.below B0.out (Nat.le_refl _))
  have c1 := cellB B0.out hc (Nat.le_refl _)
  have c2 : (w.alloc (.cells #[.int .u32 S] 82)).cell? ⟨w.heap.size, 0, none⟩ = some (.int .u32 S) := by simp [go_sem]
  have HC2 := hid c2
  have HE := hid (enters_of Tryd.func147 (by kernel_rfl) (by kernel_rfl))
  have HTT : Hid (TestsV Tryd.prog 147 #[.pointer (some ⟨w.heap.size, 0, none⟩)] (fun t => decide (S &&& t = 0)) B (w.alloc (.cells #[.int .u32 S] 82))) := fun t ht w1 hw1 =>
    missTest_any t S w.heap.size w1 (hB t ht) hS (cellB hw1 HC2.out (Nat.le_refl _))
  have HH := hid (show (!(B.any fun t => decide (S &&& t = 0))) = hits B S by
    unfold hits
    rw [List.all_eq_not_any_not]
    congr 1
    congr 1
    funext t
    by_cases h : S &&& t = 0 <;> simp [h])
  clear c2
  go_enter Tryd.func145, Tryd.ntmps145
  go_wp2_with fail
  refine (containsV_any sa B sc _ _ _ _ RB1.out hn HE.out HTT.out).mono ?_
  rintro e w2 ⟨rfl, hb⟩
  have BB := hid (B0.out.trans (hb.mono B0.out.size))
  clear hb
  go_wp2
  go_ret
  exact ⟨ret_bool (by rw [← HH.out]), BB.out⟩
/-- What the search works on: the sets, the test, in a world wb; the found set's own cell behind it. -/
structure Env (wb : World) (sb gx fb : Nat) (sa : Option Addr) (B : List Nat) (sc : Nat) : Prop where
  rd : Rd maskF wb sa B
  len : B.length ≤ 1048576
  small : ∀ t ∈ B, t < 65536
  cs : wb.cell? ⟨sb, 0, none⟩ = some (.slice sa B.length sc)
  cg : wb.cell? ⟨gx, 0, none⟩ = some (.func (.func 145) #[] #[.pointer (some ⟨sb, 0, none⟩)])
  fb : wb.heap.size = fb
def Found (fb S : Nat) (w : World) : Prop := Own 82 w fb (.slice (some ⟨fb, 0, none⟩) 1 1) [.int .u32 S]
set_option maxHeartbeats 1000000 in
theorem each_any (wb w : World) (sb gx fb : Nat) (sa : Option Addr) (B : List Nat) (sc S S0 : Nat) (hE : Env wb sb gx fb sa B sc) (hb : Below fb wb w) (hf : Found fb S0 w) (hS : S < 65536) :
    Calls Tryd.prog 165 #[.int .u32 S, .pointer (some ⟨fb, 0, none⟩), .pointer (some ⟨gx, 0, none⟩)] w fun e w' => e = .returned (.bool (hits B S)) ∧ Found fb S w' ∧ Below fb wb w' := by
  have hfb := hE.fb
  have hce := hf.cell 0 (by simp)
  rw [List.getElem_cons_zero] at hce
  have hfr := hf.free 0
  have hst := hf.store 0 (by simp) (.int .u32 S)
  have OF2 := hid (show Found fb S (w.setCell ⟨fb, 0, none⟩ (.int .u32 S)) from hst)
  have BL2 := hid (hb.setCell (p := ⟨fb, 0, none⟩) (Nat.le_refl _) (.int .u32 S))
  have cg := cellB BL2.out hE.cg (by omega)
  have cs := hid (cellB BL2.out hE.cs (by omega))
  have RB := hid (hE.rd.below BL2.out (by omega))
  have HE := hid (enters_of Tryd.func145 (by kernel_rfl) (by kernel_rfl))
  have hE' := HE.out
  unfold Enters at hE'
  have hn := hE.len
  have HSM := hid hE.small
  clear hst hf hb hE
  go_enter Tryd.func165, Tryd.ntmps165
  go_wp2_with fail
  generalize w.setCell ⟨fb, 0, none⟩ (.int .u32 S) = w1 at *
  refine (fits_any S sb sa B sc _ RB.out hn HSM.out hS cs.out).mono ?_
  rintro e w2 ⟨rfl, hb⟩
  have OF3 := hid (show Found fb S w2 from Own.past OF2.out hb (Nat.le_refl _))
  have BL3 := hid (BL2.out.trans (hb.mono (by have := BL2.out.size; omega)))
  clear hb
  go_wp2
  go_ret
  exact ⟨rfl, OF3.out, BL3.out⟩
def ChPost (wb : World) (fb n m a C : Nat) (B : List Nat) (e : Ending) (w' : World) : Prop :=
  ∃ (b : Bool) (S' : Nat), e = .returned (.bool b) ∧ Found fb S' w' ∧ Below fb wb w' ∧
      (b = true → ∃ T, InR a n T ∧ card T = m ∧ hits B (C ||| T) = true ∧ S' = C ||| T) ∧ (b = false → ∀ T, InR a n T → card T = m → hits B (C ||| T) = false)
set_option maxRecDepth 100000 in
set_option maxHeartbeats 4000000 in
theorem chooseSets_any (wb : World) (sb gx fb n : Nat) (sa : Option Addr) (B : List Nat) (sc : Nat) (hE : Env wb sb gx fb sa B sc) (hn : n ≤ 16) : ∀ (m a C S0 : Nat) (w : World), m ≤ n → a ≤ 17 → C < 2 ^ n → Below fb wb w → Found fb S0 w →
    Calls Tryd.prog 164 #[.int .i64 n, .int .i64 a, .int .i64 m, .int .u32 C, .func (.func 165) #[] #[.pointer (some ⟨fb, 0, none⟩), .pointer (some ⟨gx, 0, none⟩)]] w (ChPost wb fb n m a C B) := by
  have hp : 2 ^ n ≤ 65536 := Nat.pow_le_pow_right (n := 2) (i := n) (j := 16) (by decide) hn
  intro m
  induction m with
  | zero =>
    intro a C S0 w hm ha hC hb hf
    have HEN := hid (enters_of Tryd.func165 (by kernel_rfl) (by kernel_rfl))
    have hE' := HEN.out
    unfold Enters at hE'
    have BL := hid hb; have OF := hid hf
    clear hb hf
    go_enter Tryd.func164, Tryd.ntmps164
    go_wp2_with fail
    refine (each_any wb _ sb gx fb sa B sc C S0 hE BL.out OF.out (by omega)).mono ?_
    rintro e w2 ⟨rfl, hf2, hb2⟩
    have BL2 := hid hb2; have OF2 := hid hf2
    clear hb2 hf2 hE'
    go_wp2
    go_ret
    refine ⟨_, C, rfl, OF2.out, BL2.out, fun h => ⟨0, fun i hi => by simp at hi, by unfold card; rw [memsN_zero]; rfl, by rw [Nat.or_zero]; exact h, by rw [Nat.or_zero]⟩, fun h T hT hc => ?_⟩
    have h0 : T = 0 := (card_zero (Nat.lt_of_lt_of_le hT.lt (by omega))).1 hc
    rw [h0, Nat.or_zero]; exact h
  | succ m ih =>
    intro a C S0 w hm ha hC hb hf
    have BL := hid hb; have OF := hid hf; have IH := hid ih
    clear hb hf ih
    have hm1 : ((m + 1 : Nat) : Int) = (m : Int) + 1 := by omega
    have hmz : ((m : Int) + 1 == 0) = false := by simp; omega
    rw [hm1]
    clear hm1
    go_enter Tryd.func164, Tryd.ntmps164
    go_wp2
    go_loopw [11] (fun x wr => ∃ v S1 : Nat, a ≤ v ∧ v ≤ 34 ∧ x = .int .i64 v ∧ Found fb S1 wr ∧ Below fb wb wr ∧ (∀ v0 T', a ≤ v0 → v0 < v → InR (v0 + 1) n T' → card T' = m → hits B (C ||| (2 ^ v0 ||| T')) = false)) (fun x _ => 40 - (intOf x).toNat)
    case atStart => exact ⟨a, S0, Nat.le_refl _, by omega, rfl, OF.out, BL.out, fun v0 T' h1 h2 => by omega⟩
    case round =>
      clear BL OF
      obtain ⟨v, S1, hav, hv34, rfl, hf, hb, hno⟩ := hrel
      have BL := hid hb; have OF := hid hf; have HNO := hid hno
      clear hb hf hno
      by_cases hle : v + (m + 1) ≤ n
      · have hi1 : (v : Int) + ((m : Int) + 1) ≤ (n : Int) := by omega
        have hvn : v < n := by omega
        have hpw : 2 ^ v < 65536 := Nat.pow_lt_pow_right (by decide) (show v < 16 by omega)
        have hor := u32_or_nat C (2 ^ v) (by omega) (by omega)
        have hpv : 2 ^ v < 2 ^ n := Nat.pow_lt_pow_right (by decide) hvn
        have hC2 : C ||| 2 ^ v < 2 ^ n := Nat.or_lt_two_pow hC hpv
        have HIH := hid (fun (w' : World) (h1 : Below fb wb w') (h2 : Found fb S1 w') => IH.out (v + 1) (C ||| 2 ^ v) S1 w' (by omega) (by omega) hC2 h1 h2)
        have HAS := hid (fun T' => Nat.or_assoc C (2 ^ v) T')
        have HJ := hid (fun T' (h : InR (v + 1) n T') => InR.join h hav hvn (by omega))
        generalize C ||| 2 ^ v = C2 at *
        have hv1 : ((v + 1 : Nat) : Int) = (v : Int) + 1 := by omega
        rw [hv1] at HIH
        clear hv1
        obtain ⟨PV, hPV⟩ : ∃ PV, 2 ^ v = PV := ⟨_, rfl⟩
        rw [hPV] at hor
        go_wp2_with (first | (go_at_call 117; refine (one_p v PV _ (by omega) hPV).mono ?_; rintro e w' ⟨rfl, rfl⟩))
        refine (HIH.out _ BL.out OF.out).mono ?_
        rintro e w2 ⟨b, S2, rfl, hf2, hb2, hyes, hnot⟩
        have BL2 := hid hb2; have OF2 := hid hf2
        cases b with
        | true =>
          obtain ⟨T', h1, h2, h3, h4⟩ := hyes rfl
          obtain ⟨h5, h6⟩ := HJ.out T' h1
          have HT := hid (show ∃ T, InR a n T ∧ card T = m + 1 ∧ hits B (C ||| T) = true ∧ S2 = C ||| T from ⟨2 ^ v ||| T', h5, by omega, by rw [← HAS.out]; exact h3, by rw [← HAS.out]; exact h4⟩)
          clear hyes hnot hf2 hb2 h3 h4 h5 h6 h1
          go_wp2
          go_ret
          exact ⟨true, S2, rfl, OF2.out, BL2.out, fun _ => HT.out, fun h => by cases h⟩
        | false =>
          have HN := hid (hnot rfl)
          clear hyes hnot hf2 hb2
          have HNO2 := hid (show ∀ v0 T', a ≤ v0 → v0 < v + 1 → InR (v0 + 1) n T' → card T' = m → hits B (C ||| (2 ^ v0 ||| T')) = false from fun v0 T' h1 h2 h3 h4 => by
            rcases Nat.lt_or_ge v0 v with h5 | h5
            · exact HNO.out v0 T' h1 h5 h3 h4
            · have e : v0 = v := by omega
              subst e
              rw [← HAS.out]; exact HN.out T' h3 h4)
          go_wp2
          go_roundw
          case rel => exact ⟨v + 1, S2, by omega, by omega, by go_num, OF2.out, BL2.out, HNO2.out⟩
          case measure => simp [intOf]; omega
      · have hi1 : ¬ (v : Int) + ((m : Int) + 1) ≤ (n : Int) := by omega
        have HF := hid (show ∀ T, InR a n T → card T = m + 1 → hits B (C ||| T) = false from fun T hT hc => by
          have h0 : T ≠ 0 := by
            intro h
            rw [h] at hc
            unfold card at hc; rw [memsN_zero] at hc; simp at hc
          obtain ⟨v0, T', h1, h2, h3, h4, h5⟩ := hT.split h0 (by omega)
          rw [h3]
          rcases Nat.lt_or_ge v0 v with h6 | h6
          · exact HNO.out v0 T' h1 h6 h4 (by omega)
          · have := h4.card_le (by omega) (by omega)
            omega)
        go_wp2
        go_ret
        exact ⟨false, S1, rfl, OF.out, BL.out, (fun h => by cases h), fun _ => HF.out⟩
theorem hits_zero (B : List Nat) (T : Nat) : hits B (0 ||| T) = hits B T := by rw [Nat.zero_or]
def SmPost (n : Nat) (B : List Nat) (w : World) (e : Ending) (w' : World) : Prop :=
  ∃ S : Nat, e = .returned (.tuple #[.int .u32 S, .bool true]) ∧ InR 0 n S ∧ LeastHit B n (card S) ∧ Below w.heap.size w w'
set_option maxRecDepth 100000 in
set_option maxHeartbeats 4000000 in
theorem smallestSet_any (n sb : Nat) (sa : Option Addr) (B : List Nat) (sc : Nat) (w : World) (hn : n ≤ 16) (hr : Rd maskF w sa B) (hl : B.length ≤ 1048576) (hB : ∀ t ∈ B, t < 65536) (hc : w.cell? ⟨sb, 0, none⟩ = some (.slice sa B.length sc)) (hfull : hits B (2 ^ n - 1) = true) :
    Calls Tryd.prog 144 #[.int .i64 n, .func (.func 145) #[] #[.pointer (some ⟨sb, 0, none⟩)]] w (SmPost n B w) := by
  obtain ⟨w0, hw0⟩ : ∃ w0, w0 = w.alloc (.cells #[.func (.func 145) #[] #[.pointer (some ⟨sb, 0, none⟩)]] 133) := ⟨_, rfl⟩
  have B0 := hid (show Below w.heap.size w w0 by rw [hw0]; exact alloc_below _ _)
  have hsz : w0.heap.size = w.heap.size + 1 := by rw [hw0]; simp
  have HEN := hid (show Env w0 sb w.heap.size w0.heap.size sa B sc from ⟨hr.below B0.out (Nat.le_refl _), hl, hB, cellB B0.out hc (Nat.le_refl _), by rw [hw0]; simp [go_sem], rfl⟩)
  have OF := hid (show Found w0.heap.size 0 (w0.alloc (.cells #[.int .u32 0] 82)) from own_new 82 w0 [.int .u32 0] (by simp [maxLen]))
  have BL := hid (alloc_below w0 (.cells #[.int .u32 0] 82))
  have HCH := hid (chooseSets_any w0 sb w.heap.size w0.heap.size n sa B sc HEN.out hn)
  have hpos := Nat.two_pow_pos n
  have HW := hid hw0
  clear hw0 hr hl hB hc
  rw [hsz] at OF
  go_enter Tryd.func144, Tryd.ntmps144
  go_wp2
  rw [← HW.out]
  have hgx : w.heap.size + 1 = w0.heap.size := hsz.symm
  rw [hgx] at OF ⊢
  clear hsz hgx HW
  go_loopw [7] (fun x wr => ∃ k S1 : Nat, k ≤ n + 1 ∧ x = .int .i64 k ∧ Found w0.heap.size S1 wr ∧ Below w0.heap.size w0 wr ∧ ∀ j, j < k → NoHit B n j) (fun x _ => n + 1 - (intOf x).toNat)
  case atStart => exact ⟨0, 0, Nat.zero_le _, rfl, OF.out, BL.out, fun j h => absurd h (Nat.not_lt_zero _)⟩
  case round =>
    clear OF BL
    obtain ⟨k, S1, hk, rfl, hf, hb, hno⟩ := hrel
    have BL := hid hb; have OF := hid hf; have HNO := hid hno
    have cg := cellB hb HEN.out.cg (by omega)
    clear hb hf hno
    by_cases hlt : k ≤ n
    · have hki : (k : Int) ≤ (n : Int) := by omega
      have HC := hid (HCH.out k 0 0 S1 wr hlt (by omega) hpos BL.out OF.out)
      have e0 : ((0 : Nat) : Int) = 0 := rfl
      rw [e0] at HC
      go_wp2_with fail
      refine HC.out.mono ?_
      rintro e w2 ⟨b, S2, rfl, hf2, hb2, hyes, hnot⟩
      have BL2 := hid hb2; have OF2 := hid hf2
      cases b with
      | true =>
        obtain ⟨T, h1, h2, h3, h4⟩ := hyes rfl
        rw [hits_zero] at h3
        rw [Nat.zero_or] at h4
        subst h4
        have HLE := hid (show LeastHit B n (card S2) from ⟨⟨S2, h1, rfl, h3⟩, fun j hj => HNO.out j (by omega)⟩)
        have HI := hid h1
        have cf := hf2.cell 0 (by simp)
        rw [List.getElem_cons_zero] at cf
        clear hyes hnot hf2 hb2 h1 h2 h3 HC
        go_wp2
        go_ret2
        exact ⟨S2, rfl, HI.out, HLE.out, B0.out.trans (BL2.out.mono B0.out.size)⟩
      | false =>
        have HN2 := hid (show ∀ j, j < k + 1 → NoHit B n j from fun j hj => by
          rcases Nat.lt_or_ge j k with h | h
          · exact HNO.out j h
          · have e : j = k := by omega
            subst e
            intro T hT hc
            have := hnot rfl T hT hc
            rwa [hits_zero] at this)
        clear hyes hnot hf2 hb2 HC
        go_wp2
        go_roundw
        case rel => exact ⟨k + 1, S2, by omega, by go_num, OF2.out, BL2.out, HN2.out⟩
        case measure => simp [intOf]; omega
    · have := HNO.out n (by omega) (2 ^ n - 1) (full_inR n) (card_full (by omega))
      rw [hfull] at this; cases this
def CoPost (n : Nat) (B : List Nat) (w : World) (e : Ending) (w' : World) : Prop :=
  ∃ S : Nat, e = .returned (.int .u32 S) ∧ InR 0 n S ∧ LeastHit B n (card S) ∧ Below w.heap.size w w'
theorem coverOf_any (n : Nat) (sa : Option Addr) (B : List Nat) (sc : Nat) (w : World) (hn : n ≤ 16) (hr : Rd maskF w sa B) (hl : B.length ≤ 1048576) (hB : ∀ t ∈ B, t < 65536) (hfull : hits B (2 ^ n - 1) = true) :
    Calls Tryd.prog 99 #[.int .i64 n, .slice sa B.length sc] w (CoPost n B w) := by
  obtain ⟨w0, hw0⟩ : ∃ w0, w0 = w.alloc (.cells #[.slice sa B.length sc] 72) := ⟨_, rfl⟩
  have B0 := hid (show Below w.heap.size w w0 by rw [hw0]; exact alloc_below _ _)
  have HC := hid (smallestSet_any n w.heap.size sa B sc w0 hn (hr.below B0.out (Nat.le_refl _)) hl hB (by rw [hw0]; simp [go_sem]) hfull)
  have HW := hid hw0
  clear hw0 hr hl hB
  go_enter Tryd.func99, Tryd.ntmps99
  go_wp2_with fail
  rw [← HW.out]
  refine HC.out.mono ?_
  rintro e w2 ⟨S, rfl, h1, h2, hb⟩
  have HI := hid h1; have HL := hid h2
  have BB := hid (bon B0.out hb)
  clear h1 h2 hb
  go_wp2
  go_ret
  exact ⟨S, rfl, HI.out, HL.out, BB.out⟩
end Go.Proofs.YtalfbldkdlanoaaDoor
