/- The tree width by the reference: marks, the table, the number of a set. · What is behind a vertex, by the reference. -/
import Derived.Test.YtdncmloajajiaaaDoorFnWM
import Derived.Test.YtdncmloajajiaaaDoorLeft
import Derived.Test.YtdncmloajajiaaaDoorCode2
import Derived.Test.YtdncmloajajiaaaDoorOther
import Derived.Test.YtdncmloajajiaaaDoorLink
import Derived.Test.YtdncmloajajiaaaDoorGOk
namespace Go.Proofs.YtdncmloajajiaaaDoor
open Go.RowKit
section
section
/-- Those that are gone, as flags. -/
def gnL (S n : Nat) : List Bool := (List.range n).map fun v => S.testBit v
theorem gnL_len (S n : Nat) : (gnL S n).length = n := by simp [gnL]
theorem gnL_get (S n v : Nat) (h : v < (gnL S n).length) : (gnL S n)[v] = S.testBit v := by simp [gnL]
theorem gnL_on {S n v : Nat} : (gnL S n).set v true = gnL (S ||| 2 ^ v) n := by
  apply List.ext_getElem (by simp [gnL])
  intro i h1 h2
  rw [List.getElem_set, gnL_get, gnL_get, Nat.testBit_or, Nat.testBit_two_pow]
  by_cases h : v = i <;> simp [h]
theorem gnL_off {S n v : Nat} (hv : S.testBit v = false) : (gnL (S ||| 2 ^ v) n).set v false = gnL S n := by
  apply List.ext_getElem (by simp [gnL])
  intro i h1 h2
  rw [List.getElem_set, gnL_get, gnL_get, Nat.testBit_or, Nat.testBit_two_pow]
  by_cases h : v = i
  · subst h; simp [hv]
  · simp [h]
theorem gnL_zero (n : Nat) : gnL 0 n = List.replicate n false := by
  apply List.ext_getElem (by simp [gnL])
  intro i h1 h2
  rw [gnL_get, List.getElem_replicate, Nat.zero_testBit]
theorem code_step (S j : Nat) : S / 2 ^ j = 2 * (S / 2 ^ (j + 1)) + (if S.testBit j then 1 else 0) := by
  rw [Nat.pow_succ, ← Nat.div_div_eq_div_mul, Nat.testBit_eq_decide_div_mod_eq]
  rcases Nat.mod_two_eq_zero_or_one (S / 2 ^ j) with h | h
  · rw [h]; simp; omega
  · rw [h]; simp; omega
theorem div_le_self16 (S j : Nat) (h : S < 65536) : S / 2 ^ j < 65536 := Nat.lt_of_le_of_lt (Nat.div_le_self _ _) h
set_option maxHeartbeats 1000000 in
theorem l10Code_any (a : Option Addr) (S n c : Nat) (w : World) (hn : n ≤ 16) (hS : S < 2 ^ n) (hz : Rd Value.bool w a (gnL S n)) :
    Calls Tryd.prog 100 #[.slice a n c] w fun e w' => e = .returned (.int .i64 (S : Nat)) ∧ w = w' := by
  have RG := hid hz
  have HL := hid (gnL_len S n)
  have h16 : S < 65536 := Nat.lt_of_lt_of_le hS (Nat.pow_le_pow_right (n := 2) (i := n) (j := 16) (by decide) hn)
  have H0 := hid (show S / 2 ^ n = 0 from Nat.div_eq_of_lt hS)
  clear hz hS
  go_enter Tryd.func100, Tryd.ntmps100
  go_wp2
  go_loop [3, 4] (fun m x => ∃ j : Nat, j ≤ n ∧ x = .int .i64 ((j : Int) - 1) ∧ m = .int .i64 ((S / 2 ^ j : Nat) : Int)) (fun _ x => ((intOf x) + 1).toNat)
  case atStart => exact ⟨n, Nat.le_refl _, rfl, by rw [H0.out]; rfl⟩
  case round =>
    obtain ⟨j, hj, rfl, rfl⟩ := hrel
    by_cases h0 : j = 0
    · subst h0
      have H1 := hid (show S / 2 ^ 0 = S by simp)
      rw [H1.out]
      go_wp2
      go_ret
      exact ⟨rfl, rfl⟩
    · obtain ⟨k, rfl⟩ : ∃ k, j = k + 1 := ⟨j - 1, by omega⟩
      have hk : k < n := by omega
      have e1 : ((k + 1 : Nat) : Int) - 1 = (k : Int) := by omega
      rw [e1]
      have hki : (k : Int) < (n : Int) := by omega
      have HST := hid (code_step S k)
      have hlt := div_le_self16 S (k + 1) h16
      obtain ⟨gb, go, hga, cg⟩ := RG.out k (by rw [HL.out]; exact hk)
      have hatg := at_slice tBools hga n c k hk
      have HGA := hid hga; clear hga
      rw [gnL_get] at cg
      generalize S / 2 ^ (k + 1) = q at *
      generalize S.testBit k = bb at *
      go_wp2_with (first | (go_at_call 103; refine (l1Flag_any _ _).mono ?_; rintro e w' ⟨rfl, rfl⟩))
      cases bb
      · go_wp2
        go_round
        case rel => exact ⟨k, by omega, by go_num, by (have e := HST.out; simp at e ⊢; exact_mod_cast e.symm)⟩
        case measure => simp [intOf]; omega
      · go_wp2
        go_round
        case rel => exact ⟨k, by omega, by go_num, by (have e := HST.out; simp at e ⊢; exact_mod_cast e.symm)⟩
        case measure => simp [intOf]; omega
end
section
set_option maxHeartbeats 1000000 in
theorem l10Marks_none (a : Option Addr) (n c : Nat) (a2 : Option Addr) (c2 : Nat) (w : World) (h0 : 1 ≤ n) (hn : n ≤ 16) :
    Calls Tryd.prog 90 #[.agg #[.slice a n c], .slice a2 0 c2] w fun e w' => ∃ gb, e = .returned (.slice (some ⟨gb, 0, none⟩) n n) ∧ Own 4 w' w.heap.size (.slice (some ⟨gb, 0, none⟩) n n) ((gnL 0 n).map Value.bool) ∧ Below w.heap.size w w' := by
  obtain ⟨w0, hw0⟩ : ∃ w0, w0 = (w.alloc (.cells #[.slice a n c] 29)) := ⟨_, rfl⟩
  have B0 := hid (show Below w.heap.size w w0 by rw [hw0]; exact ((Below.refl _ _).alloc (Nat.le_refl _) _))
  have c0 : w0.cell? ⟨w.heap.size, 0, none⟩ = some (.slice a n c) := by rw [hw0]; simp [go_sem]
  have HW := hid hw0; clear hw0
  have HREP := hid (show List.replicate n (Value.bool false) = (gnL 0 n).map Value.bool by rw [gnL_zero]; simp)
  go_enter Tryd.func90, Tryd.ntmps90
  go_wp2_with (first | (at_make; refine law_make tBools _ rfl _ _ rfl n _ _ rfl rfl (by omega) ?_; intro wm hown hb hsz; have OG := hid hown; have BG := hid hb; clear hown hb) | (rw [← HW.out]; go_at_call 53; refine (l1Size_n a n c _ (by omega)).mono ?_; rintro e w1 ⟨rfl, hb⟩; have B1 := hid (B0.out.trans (hb.mono B0.out.size)); clear hb))
  go_wp2
  go_loopw [6] (fun x wr => x = .int .i64 0 ∧ wr = wm) (fun x _ => 0)
  case atStart => exact ⟨rfl, rfl⟩
  case round =>
    obtain ⟨rfl, rfl⟩ := hrel
    go_wp2
    go_ret
    refine ⟨_, rfl, ?_, ?_⟩
    · rw [← HREP.out]; exact OG.out.base B1.out.size
    · exact B1.out.trans (BG.out.mono B1.out.size)
theorem two_powI (v : Nat) : ((2 ^ v : Nat) : Int) * 2 = ((2 ^ (v + 1) : Nat) : Int) := by rw [Nat.pow_succ]; omega
theorem set_runT (n k : Nat) (z u : Value) (hk : k < n) : (List.replicate k u ++ List.replicate (n - k) z).set k u = List.replicate (k + 1) u ++ List.replicate (n - (k + 1)) z := by
  apply List.ext_getElem?
  intro i
  rw [List.getElem?_set]
  simp only [List.getElem?_append, List.length_append, List.length_replicate, List.getElem?_replicate]
  by_cases h1 : k = i
  · subst h1
    simp; omega
  · rw [if_neg h1]
    repeat' split
    all_goals first | rfl | (exfalso; omega)
set_option maxHeartbeats 1000000 in
theorem l10Table_any (a : Option Addr) (n c : Nat) (w : World) (hn : n ≤ 16) :
    Calls Tryd.prog 91 #[.agg #[.slice a n c]] w fun e w' => ∃ gb, e = .returned (.slice (some ⟨gb, 0, none⟩) (2 ^ n) (2 ^ n)) ∧ Own 2 w' w.heap.size (.slice (some ⟨gb, 0, none⟩) (2 ^ n) (2 ^ n)) ((List.replicate (2 ^ n) (-1 : Int)).map (.int .i64)) ∧ Below w.heap.size w w' := by
  obtain ⟨w0, hw0⟩ : ∃ w0, w0 = (w.alloc (.cells #[.slice a n c] 29)) := ⟨_, rfl⟩
  have B0 := hid (show Below w.heap.size w w0 by rw [hw0]; exact ((Below.refl _ _).alloc (Nat.le_refl _) _))
  have c0 : w0.cell? ⟨w.heap.size, 0, none⟩ = some (.slice a n c) := by rw [hw0]; simp [go_sem]
  have HW := hid hw0; clear hw0
  have hs0 : w.heap.size ≤ w0.heap.size := B0.out.size
  have hc0 := hid c0
  go_enter Tryd.func91, Tryd.ntmps91
  go_wp2
  rw [← HW.out]
  go_loopw [3, 4] (fun s x wr => ∃ v : Nat, v ≤ n ∧ x = .int .i64 (v : Nat) ∧ s = .int .i64 ((2 ^ v : Nat) : Int) ∧ Below w0.heap.size w0 wr) (fun _ x _ => n - (intOf x).toNat)
  case atStart => exact ⟨0, Nat.zero_le _, rfl, rfl, Below.refl _ _⟩
  case round =>
    obtain ⟨v, hv, rfl, rfl, hb⟩ := hrel
    have BL := hid hb
    have hP : 2 ^ v ≤ 65536 := Nat.pow_le_pow_right (n := 2) (i := v) (j := 16) (by decide) (by omega)
    replace c0 := cellB hb c0 (Nat.le_refl _)
    have HPS := hid (two_powI v)
    clear hb
    generalize hPv : 2 ^ v = P at *
    have HPV := hid hPv; clear hPv
    by_cases hlt : v < n
    · have hvi : (v : Int) < (n : Int) := by omega
      go_wp2_with (first | (go_at_call 53; refine (l1Size_n a n c _ (by omega)).mono ?_; rintro e w1 ⟨rfl, hb⟩; have B1 := hid (BL.out.trans (hb.mono BL.out.size)); clear hb))
      go_wp2
      go_roundw
      case rel => exact ⟨v + 1, by omega, by go_num, by rw [← HPS.out], B1.out⟩
      case measure => simp [intOf]; omega
    · obtain rfl : v = n := by omega
      have hvi : ¬ (v : Int) < (v : Int) := by omega
      go_wp2_with (first | (at_make; refine law_make tI64 _ rfl _ _ rfl P _ _ rfl rfl (by omega) ?_; intro wm hown hb hsz; have OG := hid hown; have BG := hid (B1.out.trans (hb.mono B1.out.size)); have HG0 := hid B1.out.size; clear hown hb B1 BL) | (go_at_call 53; refine (l1Size_n a v c _ (by omega)).mono ?_; rintro e w1 ⟨rfl, hb⟩; have B1 := hid (BL.out.trans (hb.mono BL.out.size)); clear hb))
      go_wp2
      generalize w1.heap.size = gb at *
      go_loopw [6] (fun x wr => ∃ k : Nat, k ≤ P ∧ x = .int .i64 (k : Nat) ∧ Own 2 wr gb (.slice (some ⟨gb, 0, none⟩) P P) (List.replicate k (.int .i64 (-1)) ++ List.replicate (P - k) (.int .i64 0)) ∧ Below w0.heap.size w0 wr) (fun x _ => P - (intOf x).toNat)
      case atStart => exact ⟨0, Nat.zero_le _, rfl, by simpa using OG.out, BG.out⟩
      case round =>
        clear OG BG
        obtain ⟨k, hk, rfl, ho, hb⟩ := hrel
        have OM := hid ho; have BM := hid hb; clear ho hb
        by_cases hlt : k < P
        · have hki : (k : Int) < (P : Int) := by omega
          obtain ⟨u0, hc⟩ := OM.out.cellE k hlt
          have hf := OM.out.free k
          have hst := OM.out.store k (by simp; omega) (.int .i64 (-1))
          rw [set_runT _ _ _ _ hlt] at hst
          have HST := hid hst
          have HBS := hid (BM.out.setCell (p := ⟨gb, k, none⟩) HG0.out (.int .i64 (-1)))
          clear hst OM BM
          go_wp2
          go_roundw
          case rel => exact ⟨k + 1, by omega, by go_num, HST.out, HBS.out⟩
          case measure => simp [intOf]; omega
        · obtain rfl : k = P := by omega
          go_wp2
          go_ret
          rw [HPV.out]
          refine ⟨gb, rfl, ?_, ?_⟩
          · have h := OM.out
            rw [Nat.sub_self] at h
            rw [List.map_replicate]
            simpa using h.base (Nat.le_trans hs0 HG0.out)
          · exact B0.out.trans (BM.out.mono hs0)
end
end
section
section
/-- Where the search stands: D tells the pairs that were looked at. -/
structure BI (A : List Nat) (S v : Nat) (M : List Nat) (O : List Int) (D : Nat → Nat → Prop) : Prop where
  st : v ∈ M
  nd : M.Nodup
  rc : ∀ x ∈ M, ∃ d, Rch A S v d x
  cl : ∀ x u, D x u → S.testBit u = true → u ∈ M
  so : O.Pairwise (· < ·)
  ou : ∀ z : Int, z ∈ O ↔ ∃ u x : Nat, z = (u : Int) ∧ S.testBit u = false ∧ u ≠ v ∧ D x u
  ed : ∀ x u, D x u → x ∈ M ∧ bt A x u = true
theorem BI.start (A : List Nat) (S v : Nat) : BI A S v [v] [] fun _ _ => False where
  st := by simp
  nd := by simp
  rc := fun x hx => ⟨0, show x = v by simpa using hx⟩
  cl := fun _ _ h => h.elim
  so := by simp
  ou := fun z => by simp
  ed := fun _ _ h => h.elim
theorem BI.congr {A : List Nat} {S v : Nat} {M : List Nat} {O : List Int} {D D' : Nat → Nat → Prop} (h : BI A S v M O D) (hD : ∀ x u, D x u ↔ D' x u) : BI A S v M O D' := by
  have : D = D' := by funext x u; exact propext (hD x u)
  rw [← this]; exact h
theorem BI.met {A : List Nat} {S v y u : Nat} {M : List Nat} {O : List Int} {D : Nat → Nat → Prop} (h : BI A S v M O D) (hy : y ∈ M) (hb : bt A y u = true) (hS : S.testBit u = true) (hu : u ∈ M) : BI A S v M O fun a b => D a b ∨ (a = y ∧ b = u) where
  st := h.st
  nd := h.nd
  rc := h.rc
  cl := fun a b hD hs => by
    rcases hD with hD | ⟨rfl, rfl⟩
    · exact h.cl a b hD hs
    · exact hu
  so := h.so
  ou := fun z => by
    rw [h.ou z]
    constructor
    · rintro ⟨b, a, h1, h2, h3, h4⟩; exact ⟨b, a, h1, h2, h3, .inl h4⟩
    · rintro ⟨b, a, h1, h2, h3, h4 | ⟨rfl, rfl⟩⟩
      · exact ⟨b, a, h1, h2, h3, h4⟩
      · rw [hS] at h2; cases h2
  ed := fun a b hD => by
    rcases hD with hD | ⟨rfl, rfl⟩
    · exact h.ed a b hD
    · exact ⟨hy, hb⟩
theorem BI.more {A : List Nat} {S v y u : Nat} {M : List Nat} {O : List Int} {D : Nat → Nat → Prop} (h : BI A S v M O D) (hy : y ∈ M) (hb : bt A y u = true) (hS : S.testBit u = true) (hu : u ∉ M) : BI A S v (M ++ [u]) O D where
  st := List.mem_append.2 (.inl h.st)
  nd := by
    rw [List.nodup_append]
    refine ⟨h.nd, by simp, ?_⟩
    intro a ha b hb' e
    simp at hb'
    subst hb'; subst e
    exact hu ha
  rc := fun x hx => by
    rcases List.mem_append.1 hx with hx | hx
    · exact h.rc x hx
    · obtain rfl : x = u := by simpa using hx
      obtain ⟨d, hd⟩ := h.rc y hy
      exact ⟨d + 1, hS, y, hd, hb⟩
  cl := fun a b hD hs => List.mem_append.2 (.inl (h.cl a b hD hs))
  so := h.so
  ou := h.ou
  ed := fun a b hD => ⟨List.mem_append.2 (.inl (h.ed a b hD).1), (h.ed a b hD).2⟩
theorem BI.self {A : List Nat} {S v y u : Nat} {M : List Nat} {O : List Int} {D : Nat → Nat → Prop} (h : BI A S v M O D) (hy : y ∈ M) (hb : bt A y u = true) (hS : S.testBit u = false) (hu : u = v) : BI A S v M O fun a b => D a b ∨ (a = y ∧ b = u) where
  st := h.st
  nd := h.nd
  rc := h.rc
  cl := fun a b hD hs => by
    rcases hD with hD | ⟨rfl, rfl⟩
    · exact h.cl a b hD hs
    · rw [hS] at hs; cases hs
  so := h.so
  ou := fun z => by
    rw [h.ou z]
    constructor
    · rintro ⟨b, a, h1, h2, h3, h4⟩; exact ⟨b, a, h1, h2, h3, .inl h4⟩
    · rintro ⟨b, a, h1, h2, h3, h4 | ⟨rfl, rfl⟩⟩
      · exact ⟨b, a, h1, h2, h3, h4⟩
      · exact absurd hu h3
  ed := fun a b hD => by
    rcases hD with hD | ⟨rfl, rfl⟩
    · exact h.ed a b hD
    · exact ⟨hy, hb⟩
theorem BI.out {A : List Nat} {S v y u : Nat} {M : List Nat} {O O' : List Int} {D : Nat → Nat → Prop} (h : BI A S v M O D) (hy : y ∈ M) (hb : bt A y u = true) (hS : S.testBit u = false) (hu : u ≠ v) (hs : O'.Pairwise (· < ·)) (hm : ∀ z, z ∈ O' ↔ z ∈ O ∨ z = (u : Int)) : BI A S v M O' fun a b => D a b ∨ (a = y ∧ b = u) where
  st := h.st
  nd := h.nd
  rc := h.rc
  cl := fun a b hD hs => by
    rcases hD with hD | ⟨rfl, rfl⟩
    · exact h.cl a b hD hs
    · rw [hS] at hs; cases hs
  so := hs
  ou := fun z => by
    rw [hm z, h.ou z]
    constructor
    · rintro (⟨b, a, h1, h2, h3, h4⟩ | rfl)
      · exact ⟨b, a, h1, h2, h3, .inl h4⟩
      · exact ⟨u, y, rfl, hS, hu, .inr ⟨rfl, rfl⟩⟩
    · rintro ⟨b, a, h1, h2, h3, h4 | ⟨rfl, rfl⟩⟩
      · exact .inl ⟨b, a, h1, h2, h3, h4⟩
      · exact .inr h1
  ed := fun a b hD => by
    rcases hD with hD | ⟨rfl, rfl⟩
    · exact h.ed a b hD
    · exact ⟨hy, hb⟩
theorem BI.lt {A : List Nat} {S v n : Nat} {M : List Nat} {O : List Int} {D : Nat → Nat → Prop} (h : BI A S v M O D) (hA : GA n A) (hv : v < n) : ∀ x ∈ M, x < n := by
  intro x hx
  obtain ⟨d, hd⟩ := h.rc x hx
  cases d with
  | zero => have : x = v := hd; omega
  | succ d =>
    obtain ⟨_, y, _, hb⟩ := hd
    exact (hA.lt hb).2
theorem BI.mlen {A : List Nat} {S v n : Nat} {M : List Nat} {O : List Int} {D : Nat → Nat → Prop} (h : BI A S v M O D) (hA : GA n A) (hv : v < n) : M.length ≤ n := by
  have := h.nd.length_le_of_subset (l₂ := List.range n) (fun x hx => List.mem_range.2 (h.lt hA hv x hx))
  simpa using this
theorem sorted_nodupI {l : List Int} (h : l.Pairwise (· < ·)) : l.Nodup := h.imp fun h => Int.ne_of_lt h
theorem BI.olen {A : List Nat} {S v n : Nat} {M : List Nat} {O : List Int} {D : Nat → Nat → Prop} (h : BI A S v M O D) (hA : GA n A) : O.length ≤ n := by
  have := (sorted_nodupI h.so).length_le_of_subset (l₂ := (List.range n).map fun i : Nat => (i : Int)) (fun z hz => by
    obtain ⟨u, x, rfl, _, _, hD⟩ := (h.ou z).1 hz
    exact List.mem_map.2 ⟨u, List.mem_range.2 (hA.lt (h.ed x u hD).2).2, rfl⟩)
  simpa using this
theorem BI.done {A : List Nat} {S v n : Nat} {M : List Nat} {O : List Int} {D : Nat → Nat → Prop} (h : BI A S v M O D) (hA : GA n A) (hD : ∀ x u, D x u ↔ x ∈ M ∧ bt A x u = true) : O.length = bhN A S v := by
  have hin : ∀ d x, Rch A S v d x → x ∈ M := by
    intro d
    induction d with
    | zero => intro x hx; have e : x = v := hx; rw [e]; exact h.st
    | succ d ih =>
      rintro x ⟨hs, y, hy, hb⟩
      exact h.cl y x ((hD y x).2 ⟨ih y hy, hb⟩) hs
  have hb : ∀ z, z ∈ O ↔ ∃ u : Nat, z = (u : Int) ∧ Beh A S v u := by
    intro z
    rw [h.ou z]
    constructor
    · rintro ⟨u, x, rfl, h1, h2, h3⟩
      have h4 := (hD x u).1 h3
      obtain ⟨d, hd⟩ := h.rc x h4.1
      exact ⟨u, rfl, h1, h2, d, x, hd, h4.2⟩
    · rintro ⟨u, rfl, h1, h2, d, x, h3, h4⟩
      exact ⟨u, x, rfl, h1, h2, (hD x u).2 ⟨hin d x h3, h4⟩⟩
  have hp : O.Perm (((List.range 16).filter (behB A S v)).map fun i : Nat => (i : Int)) := by
    rw [List.perm_ext_iff_of_nodup (sorted_nodupI h.so)]
    · intro z
      rw [hb z, List.mem_map]
      constructor
      · rintro ⟨u, rfl, hu⟩
        refine ⟨u, List.mem_filter.2 ⟨List.mem_range.2 ?_, by simpa [behB] using hu⟩, rfl⟩
        obtain ⟨_, _, _, x, _, hbt⟩ := hu
        have := (hA.lt hbt).2
        have := hA.le
        omega
      · rintro ⟨u, hu, rfl⟩
        exact ⟨u, rfl, by simpa [behB] using (List.mem_filter.1 hu).2⟩
    · refine List.Pairwise.map _ ?_ (List.nodup_range.filter _)
      intro a b hab e
      exact hab (by omega)
  have := hp.length_eq
  rw [List.length_map] at this
  exact this
end
end
end Go.Proofs.YtdncmloajajiaaaDoor
