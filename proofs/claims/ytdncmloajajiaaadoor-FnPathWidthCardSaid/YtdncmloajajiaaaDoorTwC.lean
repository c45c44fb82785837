/- What is behind a vertex, by the reference: the walk. -/
import Derived.Test.YtdncmloajajiaaaDoorTwA
namespace Go.Proofs.YtdncmloajajiaaaDoor
open Go.RowKit
section
variable {P : Program} {ops : Array Oper} {rest : List Oper} {o : Oper} {a : Act} {Q : Exit → Act → World → Prop}
/-- append(s, x): the slice stays in its block, or lies in a new one. -/
theorem law_push_v {t e : TypeId} {z : Value} (hT : SliceT P t e z) (w : World) (hg : o.guard = none) (s x : Operand) (hop : o.op = .call { callee := .builtin .append, args := #[s, x], argTypes := #[t, t] })
    (B : Nat) (v : Value) (xs : List Value) (hs : a.eval s = v) (hown : Own e w B v xs) (u : Value) (g : Nat) (hx : a.eval x = .slice (some ⟨g, 0, none⟩) 1 1) (hgs : g = w.heap.size) (hu : u.oneCell' = true) (hn : xs.length < 1099511627776) (hB : B ≤ w.heap.size)
    (hK : ∀ v' w', Own e w' B v' (xs ++ [u]) → w.grownBy w' v.ownBlock → (v'.ownBlock = v.ownBlock ∨ ∃ k, v'.ownBlock = some k ∧ w.heap.size ≤ k) → wpList P ops Q rest (a.put o.dst v') w') :
    wpList P ops Q (o :: rest) a (w.alloc (.cells #[u] e)) := by
  subst hgs
  obtain ⟨ht, bytes, hby, hi0, hz⟩ := hT
  obtain ⟨i, hi, hz0, hz1, hz2⟩ := info_parts hi0
  have hown2 : (w.alloc (.cells #[u] e)).ownsRow B e 1 v xs.length xs := World.ownsRow.alloc hown _
  have hnews : ∀ j y, [u][j]? = some y → (w.alloc (.cells #[u] e)).cell? ((⟨w.heap.size, 0, none⟩ : Addr).add j) = some y := by
    intro j y hj
    have hj0 : j = 0 := by
      rcases Nat.eq_zero_or_pos j with h | h
      · exact h
      · rw [List.getElem?_eq_none (by simp; omega)] at hj; cases hj
    subst hj0
    have : u = y := by simpa using hj
    subst this
    simp [Addr.add]
  have hone : ∀ y ∈ [u], y.oneCell' = true := by intro y hy; simp at hy; subst hy; exact hu
  have hbytes : (xs.length + 1) * bytes ≤ 140737488355328 := Nat.le_trans (Nat.mul_le_mul_left _ hby) (by omega)
  obtain ⟨v', w', hr, h2, h3, _⟩ := run_append_own (P := P) (w.alloc (.cells #[u] e)) B t o.type e i z 1 bytes ht hi hz0 hz1 hz2 (by rw [hz]; rfl) (by decide) v xs.length xs hown2 ⟨w.heap.size, 0, none⟩ 1 1 [u] (by simp) hnews hone (by unfold maxLen; omega) hbytes (by simp; omega)
  have hwh : v'.ownBlock = v.ownBlock ∨ ∃ k, v'.ownBlock = some k ∧ w.heap.size ≤ k := by
    rcases hown2.2 with ⟨hv, _⟩ | ⟨g, cap, cur, hv, hbg, hgg, hnc, hcm, hcs, htake⟩
    · subst hv
      have hr2 := run_append_nil (P := P) (w.alloc (.cells #[u] e)) t o.type e i z ht hi hz0 ⟨w.heap.size, 0, none⟩ 1 1 [u] (by simp [hz1]) hnews (by decide) (by decide) (by rw [hz2]; omega)
      rw [hr2] at hr
      injection hr with e1 e2
      exact .inr ⟨_, by rw [← e1]; rfl, by simp⟩
    · subst hv
      by_cases hroom : xs.length + 1 ≤ cap
      · have hr2 := run_append_room (P := P) (w.alloc (.cells #[u] e)) t o.type e i ht hi g xs.length cap cur hgg ⟨w.heap.size, 0, none⟩ 1 1 [u] (by simp [hz1]) hnews hone hroom (by rw [hz1, hcs]; simp; omega)
        rw [hr2] at hr
        injection hr with e1 e2
        exact .inl (by rw [← e1]; rfl)
      · have hr2 := run_append_grow (P := P) (w.alloc (.cells #[u] e)) t o.type e i z ht hi hz0 ⟨g, 0, none⟩ xs.length cap xs (by rw [hz1]; simp) (hown2.cells (g := g) rfl) ⟨w.heap.size, 0, none⟩ 1 1 [u] (by simp [hz1]) hnews (by omega) (by omega) (by rw [hz2]; exact growslice_fits (by omega) hbytes)
        rw [hr2] at hr
        injection hr with e1 e2
        exact .inr ⟨_, by rw [← e1]; rfl, by simp⟩
  refine wpList_plain hg fun K hKK => ?_
  unfold Oper.wp execOp
  simp only [hop, resolve, invoke, builtin, Sem.run_bind, Sem.run_pure, Result.andThen_ok, List.map_toArray, List.map_cons, List.map_nil, hs, hx, hr]
  refine hKK _ _ (hK v' w' (by simpa [Own] using h2) ?_ hwh)
  exact ⟨h3.os, h3.tape, h3.output, Nat.le_trans (by simp) h3.size, fun k hk hne => (h3.block k (by simp; omega) hne).trans (Below.heap_alloc w _ k hk)⟩
end
section
theorem castN_mem {M : List Nat} {u : Nat} : (u : Int) ∈ castN M ↔ u ∈ M := by
  unfold castN
  rw [List.mem_map]
  constructor
  · rintro ⟨x, hx, he⟩
    have : x = u := by omega
    rw [← this]; exact hx
  · exact fun h => ⟨u, h, rfl⟩
theorem own_form8 {e : TypeId} {w : World} {B : Nat} {v : Value} {xs : List Value} (h : Own e w B v xs) (hne : 0 < xs.length) : ∃ g c, v = .slice (some ⟨g, 0, none⟩) xs.length c := by
  rcases h.form with ⟨_, h2⟩ | ⟨g, cap, spare, h2, _⟩
  · rw [h2] at hne; simp at hne
  · exact ⟨_, _, h2⟩
theorem own_slice9 {e : TypeId} {w : World} {B : Nat} {v : Value} {zs : List Int} (h : Own e w B v (zs.map (.int .i64))) : ∃ a c, v = .slice a zs.length c ∧ Rd (Value.int .i64) w a zs ∧ zs.length ≤ c ∧ c ≤ maxLen ∧ (a = none → c = 0) ∧ (∀ ad, a = some ad → ∃ b o, ad = ⟨b, o, none⟩) := by
  obtain ⟨a, c, h1, h2, h3, h4, h5, _⟩ := h.rd
  refine ⟨a, c, h1, h2, h3, h4, h5, ?_⟩
  intro ad had
  subst had
  rcases h.form with ⟨h6, _⟩ | ⟨g, cap, spare, h6, _⟩
  · rw [h1] at h6; cases h6
  · rw [h1] at h6
    injection h6 with e1 _ _
    injection e1 with e1
    exact ⟨g, 0, e1⟩
theorem take_snoc_same {α : Type} {M : List α} {x : α} {i : Nat} (h : i ≤ M.length) : (M ++ [x]).take i = M.take i := by
  rw [List.take_append_of_le_length h]
theorem nums_z {rs : List Row} {A : List Nat} (h : nums rs = A.map mems) {i : Nat} (hi : i < rs.length) (hA : i < A.length) : rs[i].z = mems A[i] := by
  have h1 : (nums rs)[i]'(by rw [nums_length]; exact hi) = (A.map mems)[i]'(by simpa using hA) := by simp only [h]
  simpa [nums] using h1
theorem z_bt {n : Nat} {A : List Nat} (hA : GA n A) {y : Nat} (hy : y < n) (z : Int) : z ∈ mems (A.getD y 0) ↔ ∃ u : Nat, z = (u : Int) ∧ bt A y u = true := by
  have hl := hA.len
  have h16 := hA.in16 A[y] (List.getElem_mem (by omega))
  rw [getD_in (by omega), mems_mem (by omega)]
  constructor
  · rintro ⟨i, rfl, hi⟩; exact ⟨i, rfl, by unfold bt; rw [getD_in (by omega)]; exact hi⟩
  · rintro ⟨i, rfl, hi⟩; exact ⟨i, rfl, by unfold bt at hi; rw [getD_in (by omega)] at hi; exact hi⟩
def BehPost (A : List Nat) (S v : Nat) (w : World) (e : Ending) (w' : World) : Prop :=
  ∃ (a : Option Addr) (c : Nat), e = .returned (.slice a (bhN A S v) c) ∧ Below w.heap.size w w'
set_option maxRecDepth 100000 in
set_option maxHeartbeats 8000000 in
theorem l10Behind_any (a : Option Addr) (rs : List Row) (c : Nat) (A : List Nat) (a2 : Option Addr) (S c2 v n : Nat) (w : World) (hA : GA n A) (hq : nums rs = A.map mems) (hn : rs.length = n) (hr : RdM w a rs) (hz : Rd Value.bool w a2 (gnL S n)) (hv : v < n) :
    Calls Tryd.prog 101 #[.agg #[.slice a n c], .slice a2 n c2, .int .i64 (v : Nat)] w (BehPost A S v w) := by
  have HGA := hid hA; have HQ := hid hq; have RA := hid hr; have RG := hid hz; have HN := hid hn
  have hn16 := hA.le
  have hAl := hid hA.len
  have HGL := hid (gnL_len S n)
  clear hA hq hr hz hn
  have hvi : (v : Int) < (n : Int) := by omega
  obtain ⟨w0, hw0⟩ : ∃ w0, w0 = (w.alloc (.cells #[.slice a n c] 29)) := ⟨_, rfl⟩
  have B0 := hid (show Below w.heap.size w w0 by rw [hw0]; exact ((Below.refl _ _).alloc (Nat.le_refl _) _))
  have c0 : w0.cell? ⟨w.heap.size, 0, none⟩ = some (.slice a n c) := by rw [hw0]; simp [go_sem]
  replace RA := hid (RA.out.below B0.out (Nat.le_refl _))
  replace RG := hid (RG.out.below B0.out (Nat.le_refl _))
  have HW := hid hw0; clear hw0
  have hs0 : w.heap.size ≤ w0.heap.size := B0.out.size
  have hsz0 : w0.heap.size = w.heap.size + 1 := by rw [HW.out]; simp
  have OM0 := hid (show Own 2 (w0.alloc (.cells #[.int .i64 (v : Nat)] 2)) w0.heap.size (.slice (some ⟨w0.heap.size, 0, none⟩) 1 1) ((castN [v]).map (Value.int .i64)) from own_new 2 w0 [.int .i64 (v : Nat)] (show (1 : Nat) ≤ maxLen by decide))
  have hb1 := alloc_below w0 (.cells #[.int .i64 (v : Nat)] 2)
  obtain ⟨w1, hw1⟩ : ∃ w1, w1 = w0.alloc (.cells #[.int .i64 (v : Nat)] 2) := ⟨_, rfl⟩
  rw [← hw1] at OM0 hb1
  have hsz1 : w1.heap.size = w0.heap.size + 1 := by rw [hw1]; simp
  have HW1 := hid hw1; clear hw1
  have OO0 := hid (show Own 2 (w1.alloc (.cells #[] 2)) w0.heap.size (.slice (some ⟨w1.heap.size, 0, none⟩) 0 0) (([] : List Int).map (Value.int .i64)) from (own_new 2 w1 [] (by decide)).base (by omega))
  have hb2 := alloc_below w1 (.cells #[] 2)
  have OM1 := hid (OM0.out.past hb2 (Nat.le_refl _))
  have LB1 := hid (hb1.trans (hb2.mono (by omega)))
  have HST := hid (BI.start A S v)
  clear hb1 hb2 OM0
  go_enter Tryd.func101, Tryd.ntmps101
  go_wp2
  rw [← HW.out, ← HW1.out]
  generalize w1.alloc (.cells #[] 2) = w2 at *
  go_loopw [7, 8, 9, 10, 11] (fun mv ov x _ _ wr => ∃ (M : List Nat) (O : List Int) (i : Nat), i ≤ M.length ∧ x = .int .i64 (i : Nat) ∧ Own 2 wr w0.heap.size mv ((castN M).map (.int .i64)) ∧ Own 2 wr w0.heap.size ov (O.map (.int .i64)) ∧ (ov.ownBlock = none ∨ ov.ownBlock ≠ mv.ownBlock) ∧ BI A S v M O (fun x u => x ∈ M.take i ∧ bt A x u = true) ∧ Below w0.heap.size w0 wr) (fun _ _ x _ _ _ => 16 - (intOf x).toNat)
  case atStart => exact ⟨[v], [], 0, Nat.zero_le _, rfl, by rw [← hsz0]; exact OM1.out, by rw [← hsz0, ← hsz1]; exact OO0.out, .inr (by simp [Value.ownBlock]), HST.out.congr (fun x u => by simp), LB1.out⟩
  case round =>
    clear OM1 OO0 HST LB1 hsz0 hsz1
    obtain ⟨M, O, i, hi, rfl, hom, hoo, hse, hbi, hlb⟩ := hrel
    have OM := hid hom; have OO := hid hoo; have HSE := hid hse; have HBI := hid hbi; have LB := hid hlb
    have hml := hbi.mlen HGA.out hv
    replace c0 := cellB hlb c0 (Nat.le_refl _)
    clear hom hoo hse hlb
    by_cases hil : i < M.length
    · have hii : (i : Int) < (M.length : Int) := by omega
      have hyn := hbi.lt HGA.out hv M[i] (List.getElem_mem hil)
      have HTI := hid (show M.take (i + 1) = M.take i ++ [M[i]] from List.take_succ_eq_append_getElem hil)
      have HYM := hid (List.getElem_mem hil)
      have HGI := hid (show M[i]? = some M[i] from List.getElem?_eq_getElem hil)
      clear hbi
      obtain ⟨mb, mc, hmv⟩ := own_form8 OM.out (by rw [List.length_map, castN_len]; omega)
      rw [List.length_map, castN_len] at hmv
      subst hmv
      have cm := OM.out.cell i (by rw [List.length_map, castN_len]; exact hil)
      rw [List.getElem_map] at cm
      have hcg : (castN M)[i]'(by rw [castN_len]; exact hil) = ((M[i] : Nat) : Int) := by simp [castN]
      rw [hcg] at cm
      clear hcg
      generalize M[i] = y at *
      have hyr : y < rs.length := by rw [HN.out]; exact hyn
      have hyi : (y : Int) < (n : Int) := by omega
      obtain ⟨rb, ro, hra, crow, hrok⟩ := (RA.out.below LB.out (Nat.le_refl _)).at y hyr
      obtain ⟨b9, o9, h9, c9, hrok0⟩ := RA.out.at y hyr
      clear h9 c9
      have HRZ := hid (show rs[y].z = mems (A.getD y 0) by rw [nums_z HQ.out hyr (by rw [hAl.out]; exact hyn), getD_in (by rw [hAl.out]; exact hyn)])
      have RR0 := hid hrok0.1
      have hatr := at_slice tRows hra n c y hyn
      have HRA := hid hra; clear hra hrok hrok0
      have hz32 : rs[y].z.length ≤ 32 := by rw [HRZ.out]; exact mems_len _
      generalize rs[y] = r at *
      have HZB := hid (fun z => z_bt HGA.out hyn z)
      rw [← HRZ.out] at HZB
      have hz0 : w0.heap.size ≤ w0.heap.size := Nat.le_refl _
      go_wp2
      have qc0 := fun (p : Bel _) => cellB p.h c0 (Nat.le_refl _)
      have qcm := fun (p : Bel _) => cellB p.h cm (Nat.le_refl _)
      have qcrow := fun (p : Bel _) => cellB p.h crow (Nat.le_refl _)
      refine wp_quiet_b (by kernel_rfl) (by kernel_rfl) ?_
      repeat (go_big_quiet_step (fail))
      refine wpQuiet_nil ?_
      intro _ hw'
      obtain ⟨⟨w1, hb⟩, rfl⟩ := hw'
      clear qc0 qcm qcrow
      replace OM := hid (OM.out.past hb (Nat.le_refl _))
      replace OO := hid (OO.out.past hb (Nat.le_refl _))
      replace LB := hid (bonL LB.out hb hz0)
      replace c0 := cellB hb c0 (Nat.le_refl _)
      replace cm := cellB hb cm (Nat.le_refl _)
      replace crow := cellB hb crow (Nat.le_refl _)
      clear hb
      go_wp2
      go_loopw [7, 8, 11] (fun mv ov x wr => ∃ (M2 : List Nat) (O2 : List Int) (k : Nat), k ≤ r.z.length ∧ x = .int .i64 (k : Nat) ∧ Own 2 wr w0.heap.size mv ((castN M2).map (.int .i64)) ∧ Own 2 wr w0.heap.size ov (O2.map (.int .i64)) ∧ (ov.ownBlock = none ∨ ov.ownBlock ≠ mv.ownBlock) ∧ BI A S v M2 O2 (fun x u => (x ∈ M.take i ∧ bt A x u = true) ∨ (x = y ∧ (u : Int) ∈ r.z.take k)) ∧ (y ∈ M2 ∧ M2.take (i + 1) = M.take (i + 1) ∧ i + 1 ≤ M2.length) ∧ Below w0.heap.size w0 wr) (fun _ _ x _ => r.z.length - (intOf x).toNat)
      case atStart => exact ⟨M, O, 0, Nat.zero_le _, rfl, OM.out, OO.out, HSE.out, HBI.out.congr (fun x u => by simp), ⟨HYM.out, rfl, hil⟩, LB.out⟩
      case round =>
        obtain ⟨M2, O2, k, hk, rfl, hom, hoo, hse, hbi, hm2, hlb⟩ := hrel
        have OM2 := hid hom; have OO2 := hid hoo; have HSE2 := hid hse; have HBI2 := hid hbi; have LB2 := hid hlb; have HM2 := hid hm2
        have hml2 := hbi.mlen HGA.out hv
        have hol2 := hbi.olen HGA.out
        clear hom hoo hse hm2
        by_cases hkl : k < r.z.length
        · have hki : (k : Int) < (r.z.length : Int) := by omega
          obtain ⟨yb, yo, hya, cy0⟩ := RR0.out k hkl
          have cy := cellB hlb cy0 (Nat.le_refl _)
          have haty := at_slice tI64 hya r.z.length r.c k hkl
          have HYA := hid hya; clear hya
          obtain ⟨u, hu, hub⟩ := (HZB.out _).1 (List.getElem_mem hkl)
          have HTK := hid (fun x u' => (show ((x ∈ M.take i ∧ bt A x u' = true) ∨ (x = y ∧ (u' : Int) ∈ r.z.take k)) ∨ (x = y ∧ u' = u) ↔ (x ∈ M.take i ∧ bt A x u' = true) ∨ (x = y ∧ (u' : Int) ∈ r.z.take (k + 1)) by
            rw [mem_take_succ r.z k hkl, hu]
            have e2 : ((u' : Int) = (u : Int) ↔ u' = u) := ⟨fun h => by omega, fun h => by omega⟩
            simp only [e2]
            constructor
            · rintro ((h | ⟨h, h'⟩) | ⟨h, h'⟩)
              · exact .inl h
              · exact .inr ⟨h, .inl h'⟩
              · exact .inr ⟨h, .inr h'⟩
            · rintro (h | ⟨h, h' | h'⟩)
              · exact .inl (.inl h)
              · exact .inl (.inr ⟨h, h'⟩)
              · exact .inr ⟨h, h'⟩))
          have hun := (HGA.out.lt hub).2
          have HUB := hid hub
          have huz := hu
          rw [huz] at cy cy0
          clear hu huz hub hbi
          have hui : (u : Int) < (n : Int) := by omega
          obtain ⟨gb, go, hga, cg0⟩ := RG.out u (by rw [HGL.out]; exact hun)
          have cg := cellB hlb cg0 (Nat.le_refl _)
          have hatg := at_slice tBools hga n c2 u hun
          have HGAa := hid hga; clear hga
          rw [gnL_get] at cg cg0
          obtain ⟨ma, mc2, rfl, hrm, _⟩ := own_slice9 OM2.out
          have RM2 := hid hrm; clear hrm
          obtain ⟨oa, oc, rfl, hro, hoc, hocm, hoca, hoaf⟩ := own_slice9 OO2.out
          have RO2 := hid hro; have HOC := hid hoca; have HOF := hid hoaf; clear hro hoca hoaf
          have hcm17 : (castN M2).length ≤ 16777216 := by rw [castN_len]; omega
          have hor := LB2.out
          clear hlb
          by_cases hS : S.testBit u = true
          · rw [hS] at cg cg0
            by_cases hm : u ∈ M2
            · have H5 := hid (show decide ((u : Int) ∈ castN M2) = true by simpa using castN_mem.2 hm)
              have HB3 := hid ((HBI2.out.met HM2.out.1 HUB.out hS hm).congr HTK.out)
              clear hm hS
              go_wp2_with (first | (go_at_call 70; refine (l1Has_b _ _ _ _ _ _ H5.out RM2.out hcm17).mono ?_; rintro e w' ⟨rfl, rfl⟩))
              go_roundw
              case rel => exact ⟨M2, O2, k + 1, by omega, by go_num, OM2.out, OO2.out, HSE2.out, HB3.out, HM2.out, LB2.out⟩
              case measure => simp [intOf]; omega
            · have H5 := hid (show decide ((u : Int) ∈ castN M2) = false by simpa using fun h => hm (castN_mem.1 h))
              have HB3 := hid (((HBI2.out.more HM2.out.1 HUB.out hS hm).met (List.mem_append.2 (.inl HM2.out.1)) HUB.out hS (by simp)).congr HTK.out)
              have HM3 := hid (show y ∈ M2 ++ [u] ∧ (M2 ++ [u]).take (i + 1) = M.take (i + 1) ∧ i + 1 ≤ (M2 ++ [u]).length from ⟨List.mem_append.2 (.inl HM2.out.1), by rw [take_snoc_same HM2.out.2.2]; exact HM2.out.2.1, by rw [List.length_append]; have := HM2.out.2.2; omega⟩)
              have hxl : ((castN M2).map (Value.int .i64)).length ≤ 16 := by rw [List.length_map, castN_len]; omega
              have hsr := LB2.out.size
              clear hm hS
              go_wp2_with (first | (go_at_call 70; refine (l1Has_b _ _ _ _ _ _ H5.out RM2.out hcm17).mono ?_; rintro e w' ⟨rfl, rfl⟩) | (at_builtin; refine law_push_v tI64 _ rfl _ _ rfl w0.heap.size _ ((castN M2).map (.int .i64)) rfl OM2.out _ _ rfl ?c0 rfl ?c1 ?c2 ?_))
              try (case c0 => simp)
              try (case c1 => exact Nat.lt_of_le_of_lt hxl (by decide))
              try (case c2 => exact hsr)
              intro v' w5 h1 h2 hwh
              have OM5 := hid (show Own 2 w5 w0.heap.size v' ((castN (M2 ++ [u])).map (.int .i64)) by
                rw [show castN (M2 ++ [u]) = castN M2 ++ [(u : Int)] by simp [castN], List.map_append]; exact h1)
              have OO5 := hid (OO2.out.kept h2 HSE2.out)
              have SE5 := hid (show (Value.slice oa O2.length oc).ownBlock = none ∨ (Value.slice oa O2.length oc).ownBlock ≠ v'.ownBlock from by
                rcases hwh with h | ⟨q, h, hq⟩
                · rw [h]; exact HSE2.out
                · right
                  rw [h]
                  intro e
                  have := OO2.out.lt q e
                  omega)
              have LB5 := hid (LB2.out.trans (grown_below h2 hsr (fun g hg => OM2.out.ge g hg)))
              have cy5 := cellB (LB2.out.trans (grown_below h2 hsr (fun g hg => OM2.out.ge g hg))) cy0 (Nat.le_refl _)
              have cg5 := cellB (LB2.out.trans (grown_below h2 hsr (fun g hg => OM2.out.ge g hg))) cg0 (Nat.le_refl _)
              clear h1 h2 hwh
              go_wp2
              go_roundw
              case rel => exact ⟨M2 ++ [u], O2, k + 1, by omega, by go_num, OM5.out, OO5.out, SE5.out, HB3.out, HM3.out, LB5.out⟩
              case measure => simp [intOf]; omega
          · have hS2 : S.testBit u = false := by simpa using hS
            rw [hS2] at cg cg0
            clear hS
            by_cases huv : u = v
            · have HB3 := hid ((HBI2.out.self HM2.out.1 HUB.out hS2 huv).congr HTK.out)
              have hd : ((u : Int) != (v : Int)) = false := by rw [huv]; simp
              clear hS2 huv
              go_wp2
              go_roundw
              case rel => exact ⟨M2, O2, k + 1, by omega, by go_num, OM2.out, OO2.out, HSE2.out, HB3.out, HM2.out, LB2.out⟩
              case measure => simp [intOf]; omega
            · have hd : ((u : Int) != (v : Int)) = true := by rw [bne_iff_ne]; omega
              have HBO := hid (fun (O' : List Int) h1 h2 => (HBI2.out.out (O' := O') HM2.out.1 HUB.out hS2 huv h1 h2).congr HTK.out)
              have HSO := hid HBI2.out.so
              have hd2 : ¬ (u : Int) = (v : Int) := by omega
              clear hS2 huv
              go_wp2_with fail
              refine (l1Into_any oa O2 oc (u : Int) wr HSO.out RO2.out (by omega) hoc hocm HOC.out HOF.out).mono ?_
              rintro e w5 (⟨hin, rfl, hb5⟩ | ⟨hout, R, ⟨rv, rfl, hown, hb5⟩, hR1, hR2, hR3⟩)
              · have HB3 := hid (HBO.out O2 HSO.out (fun z => ⟨.inl, fun h => h.elim id (fun h => by rw [h]; exact hin)⟩))
                have OM5 := hid (OM2.out.past hb5 (Nat.le_refl _))
                have OO5 := hid (OO2.out.past hb5 (Nat.le_refl _))
                have LB5 := hid (LB2.out.trans (hb5.mono LB2.out.size))
                clear hb5 hin
                go_wp2
                go_roundw
                case rel => exact ⟨M2, O2, k + 1, by omega, by go_num, OM5.out, OO5.out, HSE2.out, HB3.out, HM2.out, LB5.out⟩
                case measure => simp [intOf]; omega
              · have HB3 := hid (HBO.out R hR1 hR3)
                have OM5 := hid (OM2.out.past hb5 (Nat.le_refl _))
                have OO5 := hid (hown.base LB2.out.size)
                have LB5 := hid (LB2.out.trans (hb5.mono LB2.out.size))
                have SE5 := hid (show rv.ownBlock = none ∨ rv.ownBlock ≠ (Value.slice ma (castN M2).length mc2).ownBlock from by
                  cases hq : rv.ownBlock with
                  | none => exact .inl rfl
                  | some q =>
                    right
                    intro e
                    have h1 := hown.ge q hq
                    have h2 := OM2.out.lt q e.symm
                    omega)
                clear hb5 hout hown hR1 hR2 hR3
                go_wp2
                go_roundw
                case rel => exact ⟨M2, R, k + 1, by omega, by go_num, OM5.out, OO5.out, SE5.out, HB3.out, HM2.out, LB5.out⟩
                case measure => simp [intOf]; omega
        · obtain rfl : k = r.z.length := by omega
          have hki : ¬ (r.z.length : Int) < (r.z.length : Int) := by omega
          have HB3 := hid (show BI A S v M2 O2 (fun x u => x ∈ M2.take (i + 1) ∧ bt A x u = true) from hbi.congr (fun x u => by
            rw [List.take_length, HM2.out.2.1, HTI.out, List.mem_append, List.mem_singleton, HZB.out]
            constructor
            · rintro (⟨h1, h2⟩ | ⟨rfl, u', h1, h2⟩)
              · exact ⟨.inl h1, h2⟩
              · have e : u = u' := by omega
                rw [e]; exact ⟨.inr rfl, h2⟩
            · rintro ⟨h1 | rfl, h2⟩
              · exact .inl ⟨h1, h2⟩
              · exact .inr ⟨rfl, u, rfl, h2⟩))
          have hl2 := HM2.out.2.2
          clear hbi hlb
          go_wp2
          go_roundw
          case rel => exact ⟨M2, O2, i + 1, by omega, by go_num, OM2.out, OO2.out, HSE2.out, HB3.out, LB2.out⟩
          case measure => simp [intOf]; omega
    · obtain rfl : i = M.length := by omega
      obtain ⟨oa, oc, rfl, _⟩ := own_slice9 OO.out
      have HD := hid (hbi.done HGA.out (fun x u => by rw [List.take_length]))
      obtain ⟨ma, mc, rfl, _⟩ := own_slice9 OM.out
      have hcl : (castN M).length = M.length := castN_len M
      clear hbi
      rw [hcl]
      go_wp2
      go_ret
      exact ⟨oa, oc, by rw [← HD.out]; rfl, B0.out.trans (LB.out.mono hs0)⟩
end
end Go.Proofs.YtdncmloajajiaaaDoor
