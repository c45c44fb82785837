/- MeetsOf: both. -/
import Derived.Test.YthdfkpinaidkkaaMeet
import Derived.Test.YthdfkpinaidkkaaPush
import Derived.Test.YthdfkpinaidkkaaWays2
namespace Go.Proofs.Ythdfkpinaidkkaa
open Go.RowKit
/-- What the two bags of a link have in common. -/
noncomputable def meetOf (g : List (List Int)) (l : List Int) : List Int := meetL (row g (l.getD 0 0)) (row g (l.getD 1 0))
noncomputable def meetsL (g ls : List (List Int)) : List (List Int) := ls.map (meetOf g)
noncomputable def meetsOr (g ls : List (List Int)) : List (List Int) := if FormP g.length ls then meetsL g ls else []
theorem meetsL_succ (g ls : List (List Int)) (k : Nat) (h : k < ls.length) : meetsL g (ls.take (k + 1)) = meetsL g (ls.take k) ++ [meetOf g ls[k]] := by
  unfold meetsL
  rw [List.take_succ_eq_append_getElem h, List.map_append]; rfl
theorem meetsL_len (g ls : List (List Int)) : (meetsL g ls).length = ls.length := by simp [meetsL]
/-- A link's two ends. -/
theorem ends_of {n : Nat} {l : List Int} (h : l.length = 2 ∧ Inc n l) : ∃ x y : Nat, l = [(x : Int), (y : Int)] ∧ x < n ∧ y < n := by
  obtain ⟨h2, h3, _⟩ := h
  match l, h2 with
  | [p, q], _ =>
    have hp := h3 p (by simp)
    have hq := h3 q (by simp)
    exact ⟨p.toNat, q.toNat, by rw [Int.toNat_of_nonneg hp.1, Int.toNat_of_nonneg hq.1], by omega, by omega⟩
theorem small_meets {g ls : List (List Int)} (hg : ∀ r ∈ g, r.length ≤ 1048576) : SmallZ (meetsOr g ls) := by
  unfold meetsOr
  split
  · rename_i hf
    refine ⟨by rw [meetsL_len]; have := hf.few; omega, fun r hr => ?_⟩
    obtain ⟨l, hl, rfl⟩ := List.mem_map.1 hr
    refine Nat.le_trans (meetL_len _ _) ?_
    unfold row
    by_cases h : (l.getD 0 0).toNat < g.length
    · rw [List.getD_eq_getElem?_getD, List.getElem?_eq_getElem h]
      exact hg _ (List.getElem_mem h)
    · rw [List.getD_eq_getElem?_getD, List.getElem?_eq_none (by omega)]
      simp
  · exact ⟨by simp, fun r hr => by cases hr⟩
theorem small_meets2 {rs qs : List Row} (h : Small rs) : SmallZ (meetsOr (nums rs) (nums qs)) :=
  small_meets fun r hr => by obtain ⟨q, hq, rfl⟩ := List.mem_map.1 hr; exact h.2 q hq
set_option maxRecDepth 100000 in
set_option maxHeartbeats 4000000 in
theorem specMeetsOf_any (a : Option Addr) (rs : List Row) (c : Nat) (b : Option Addr) (qs : List Row) (d : Nat) (w : World) (r : List (List Int)) (hx : meetsOr (nums rs) (nums qs) = r) (hr : RdM w a rs) (hn : Small rs) (hq : RdM w b qs) (hm : Small qs) :
    Calls Try.prog 16 #[.agg #[.slice a rs.length c, .slice b qs.length d]] w (RetOwnM 42 2 r w) := by
  have RA := hid hr; have RQ := hid hq; have HX := hid hx; clear hr hq hx
  have hn1 := hn.1; have hm1 := hm.1
  obtain ⟨w0, hw0⟩ : ∃ w0, w0 = (w.alloc (.cells #[.slice a rs.length c, .slice b qs.length d] 35)) := ⟨_, rfl⟩
  have B0 := hid (show Below w.heap.size w w0 by rw [hw0]; exact ((Below.refl _ _).alloc (Nat.le_refl _) _))
  have c0 : w0.cell? ⟨w.heap.size, 0, none⟩ = some (.slice a rs.length c) := by rw [hw0]; simp [go_sem]
  have c0a : w0.cell? ⟨w.heap.size, 1, none⟩ = some (.slice b qs.length d) := by rw [hw0]; simp [go_sem]
  replace RA := hid (RA.out.below B0.out (Nat.le_refl _))
  replace RQ := hid (RQ.out.below B0.out (Nat.le_refl _))
  have HW := hid hw0; clear hw0
  have HO := hid (show Own 42 (w0.alloc (.cells #[] 42)) w0.heap.size (.slice (some ⟨w0.heap.size, 0, none⟩) 0 0) [] from own_new 42 w0 [] (by decide))
  have hsz : w0.heap.size = w.heap.size + 1 := by rw [HW.out]; simp
  rw [hsz] at HO
  have HE0 := hid (alloc_below w0 (.cells #[] 42))
  obtain ⟨bf, hbf⟩ : ∃ bf, decide (FormP rs.length (nums qs)) = bf := ⟨_, rfl⟩
  have HF := hid hbf
  have HR := hid (show r = if bf = true then meetsL (nums rs) (nums qs) else [] by
    rw [← HX.out]; unfold meetsOr
    rw [nums_length]
    by_cases h : FormP rs.length (nums qs)
    · have : bf = true := by rw [← hbf]; simpa using h
      rw [if_pos h, if_pos this]
    · have : ¬ bf = true := by rw [← hbf]; simpa using h
      rw [if_neg h, if_neg this])
  have HFT := hid (fun (h : bf = true) => (show FormP rs.length (nums qs) by rw [h] at hbf; simpa using hbf))
  have HMT := hid (show bf = true → meetsL (nums rs) (nums qs) = r from fun h => by rw [HR.out, if_pos h])
  have HMF := hid (show bf = false → [] = r from fun h => by rw [HR.out, if_neg (by rw [h]; decide)])
  clear hbf
  go_enter Try.func16, Try.ntmps16
  go_wp2
  rw [← HW.out]
  go_loopw [3, 4] (fun o i wr => ∃ k ps, k ≤ qs.length ∧ i = .int .i64 (k : Nat) ∧ (0 < k → bf = true) ∧ OwnM 42 2 wr (w.heap.size + 1) o ps ∧ nums ps = meetsL (nums rs) ((nums qs).take k) ∧ Below (w.heap.size + 1) w0 wr) (fun _ i _ => qs.length - (intOf i).toNat)
  case atStart => exact ⟨0, [], Nat.zero_le _, rfl, fun h => absurd h (Nat.lt_irrefl 0), ⟨HO.out, Inner.nil _ _ _⟩, rfl, by rw [← hsz]; exact HE0.out⟩
  case round =>
    obtain ⟨k, ps, hk, rfl, hkb, ho, hps, hb⟩ := hrel
    have OM := hid ho; have HPS := hid hps; have LB := hid hb
    have hz0 : w0.heap.size ≤ w.heap.size + 1 := by omega
    have RQ1 := hid (RQ.out.below LB.out hz0)
    have c01 := cellB LB.out c0 hz0
    have c0a1 := cellB LB.out c0a hz0
    clear ho hps hb
    by_cases hlt : k < qs.length
    · have hi0 : (k : Int) < (qs.length : Int) := by omega
      have hi0d : decide ((k : Int) < (qs.length : Int)) = true := by rw [decide_eq_true_iff]; exact hi0
      obtain ⟨w1, rfl⟩ : ∃ w1, w1 = wr := ⟨_, rfl⟩
      obtain ⟨BB, hBB⟩ : ∃ BB, BB = w.heap.size + 1 := ⟨_, rfl⟩
      rw [← hBB] at OM LB hz0
      go_wp2_with fail
      refine (l9Form_b a rs c b qs d _ _ HF.out hn1 RQ1.out hm).mono ?_
      rintro e w2 ⟨rfl, hb⟩
      have OM2 := hid (OM.out.past hb (Nat.le_refl _))
      have HB1 := LB.out.size
      have LB2 := hid (LB.out.trans (hb.mono (show BB ≤ w1.heap.size by omega)))
      clear hb OM RQ1 c01 c0a1 LB
      cases bf
      · have HN0 := hid (show k = 0 by
          rcases Nat.eq_zero_or_pos k with h | h
          · exact h
          · have := hkb h; cases this)
        have HFIN := hid (show nums ps = r by rw [HPS.out, HN0.out, ← HMF.out rfl]; rfl)
        go_wp2
        go_ret
        refine ⟨_, ps, rfl, HFIN.out, OM2.out.base (by omega), ?_⟩
        exact B0.out.trans (LB2.out.mono (by omega))
      · have HFM := HFT.out rfl
        have hrow := HFM.row _ (List.mem_map.2 ⟨qs[k], List.getElem_mem hlt, rfl⟩)
        obtain ⟨x, y, hxy, hxn, hyn⟩ := ends_of hrow
        have hq16 : qs.length ≤ 16 := by have := HFM.few; rwa [nums_length] at this
        clear hrow HFM
        obtain ⟨lb, lo, rfl, hlc, hlok⟩ := RQ.out.at k hlt
        have HSU := hid (meetsL_succ (nums rs) (nums qs) k (by rw [nums_length]; exact hlt))
        rw [show (nums qs)[k]'(by rw [nums_length]; exact hlt) = qs[k].z by simp [nums], hxy, show meetOf (nums rs) [(x : Int), (y : Int)] = meetL rs[x].z rs[y].z by
          unfold meetOf
          rw [show ([(x : Int), (y : Int)] : List Int).getD 0 0 = (x : Int) from rfl, show ([(x : Int), (y : Int)] : List Int).getD 1 0 = (y : Int) from rfl, row_rs rs x hxn, row_rs rs y hyn]] at HSU
        have hl2 : qs[k].z.length = 2 := by rw [hxy]; rfl
        obtain ⟨qb, qo, hqa, hq0⟩ := hlok.1 0 (by rw [hl2]; decide)
        obtain ⟨qb', qo', hqa', hq1⟩ := hlok.1 1 (by rw [hl2]; decide)
        rw [hqa] at hqa'
        obtain ⟨rfl, rfl⟩ : qb = qb' ∧ qo = qo' := by simp at hqa'; exact hqa'
        have e0 : qs[k].z[0]'(by rw [hl2]; decide) = (x : Int) := by simp [hxy]
        have e1 : qs[k].z[1]'(by rw [hl2]; decide) = (y : Int) := by simp [hxy]
        rw [e0] at hq0; rw [e1] at hq1
        rw [hqa, hl2] at hlc
        clear hqa' hqa e0 e1 hl2 hxy hlok
        generalize qs[k] = q at *
        obtain ⟨ab, ao, rfl, hxc, hxok⟩ := RA.out.at x hxn
        obtain ⟨ab', ao', hab, hyc, hyok⟩ := RA.out.at y hyn
        obtain ⟨rfl, rfl⟩ : ab = ab' ∧ ao = ao' := by simp at hab; exact hab
        clear hab
        have hzx := hn.2 _ (List.getElem_mem hxn)
        have hzy := hn.2 _ (List.getElem_mem hyn)
        have RX := hid hxok.1; have RY := hid hyok.1; clear hxok hyok
        have hpl : (ps.map Row.val).length < 1099511627776 := by
          have h1 := congrArg List.length HPS.out
          rw [nums_length, meetsL_len] at h1
          simp at h1 ⊢; omega
        generalize rs[x] = p at *
        generalize rs[y] = q2 at *
        have hxi : (x : Int) < (rs.length : Int) := by omega
        have hyi : (y : Int) < (rs.length : Int) := by omega
        have HB2 := LB2.out.size
        go_wp2_with fail
        have D3 : Drawn w2 w2.drew := ⟨1, rfl⟩
        have OM3 := hid (OM2.out.past (D3.below w2.heap.size) (Nat.le_refl _))
        have hs3 : w2.drew.heap.size = w2.heap.size := rfl
        have LB3 := hid (LB2.out.trans (D3.below BB))
        have RX3 := hid (RX.out.below LB3.out hz0)
        have RY3 := hid (RY.out.below LB3.out hz0)
        rw [Nat.add_zero] at hq0
        have f0 := cellB LB3.out c0 hz0
        have f1 := cellB LB3.out c0a hz0
        have f2 := cellB LB3.out hlc hz0
        have f3 := cellB LB3.out hq0 hz0
        have f4 := cellB LB3.out hq1 hz0
        have f5 := cellB LB3.out hxc hz0
        have f6 := cellB LB3.out hyc hz0
        have hBw : BB ≤ w2.drew.heap.size := by rw [hs3]; omega
        clear RX RY OM2 LB2 HB2
        go_region_held3 (fun w' => w'.cell? ⟨w.heap.size, 0, none⟩ = some (.slice (some ⟨ab, ao, none⟩) rs.length c) ∧ w'.cell? ⟨w.heap.size, 1, none⟩ = some (.slice (some ⟨lb, lo, none⟩) qs.length d) ∧ w'.cell? ⟨lb, lo + k, none⟩ = some (.slice (some ⟨qb, qo, none⟩) 2 q.c) ∧ w'.cell? ⟨qb, qo, none⟩ = some (.int .i64 x) ∧ w'.cell? ⟨qb, qo + 1, none⟩ = some (.int .i64 y) ∧ w'.cell? ⟨ab, ao + x, none⟩ = some (.slice p.a p.z.length p.c) ∧ w'.cell? ⟨ab, ao + y, none⟩ = some (.slice q2.a q2.z.length q2.c)) (first | exact ⟨f0, f1, f2, f3, f4, f5, f6⟩ | exact ⟨g0, g1, g2, g3, g4, g5, g6⟩ | exact ⟨cellB (alloc_below w4 _) g0 (Nat.le_refl _), cellB (alloc_below w4 _) g1 (Nat.le_refl _), cellB (alloc_below w4 _) g2 (Nat.le_refl _), cellB (alloc_below w4 _) g3 (Nat.le_refl _), cellB (alloc_below w4 _) g4 (Nat.le_refl _), cellB (alloc_below w4 _) g5 (Nat.le_refl _), cellB (alloc_below w4 _) g6 (Nat.le_refl _)⟩ | exact ⟨k0, k1, k2, k3, k4, k5, k6⟩) ((first | (go_at_call 49; refine (l8Meet_any _ _ _ _ _ _ _ RX3.out RY3.out hzx hzy).mono ?_; rintro e w4 ⟨mv, rfl, hown, hb⟩; obtain ⟨ma, mc, rfl, _⟩ := Own.rd hown; have g0 := cellB hb f0 (Nat.le_refl _); have g1 := cellB hb f1 (Nat.le_refl _); have g2 := cellB hb f2 (Nat.le_refl _); have g3 := cellB hb f3 (Nat.le_refl _); have g4 := cellB hb f4 (Nat.le_refl _); have g5 := cellB hb f5 (Nat.le_refl _); have g6 := cellB hb f6 (Nat.le_refl _); have OM4 := hid (OM3.out.past hb (Nat.le_refl _)); have IN4 := hid (OM3.out.inner.snoc hb hBw ⟨ma, meetL p.z q2.z, mc⟩ hown); have hs4 := hb.size; have hBw4 := Nat.le_trans hBw hs4; have LB4 := hid (LB3.out.trans (hb.mono hBw)); clear hown hb) | (refine step_push tRows _ (by rfl) _ _ (by rfl) BB _ (ps.map Row.val) (by rfl) OM4.out.outer _ _ (by rfl) (by rfl) (by rfl) hpl hBw4 ?_; intro v' w5 h1 h2; have LB5 := hid (LB4.out.trans (grown_below h2 hBw4 (fun g hg => OM4.out.outer.ge g hg))); have k0 := cellB LB5.out c0 hz0; have k1 := cellB LB5.out c0a hz0; have k2 := cellB LB5.out hlc hz0; have k3 := cellB LB5.out hq0 hz0; have k4 := cellB LB5.out hq1 hz0; have k5 := cellB LB5.out hxc hz0; have k6 := cellB LB5.out hyc hz0)))
        have OM5 := hid (rows_push (by decide) OM4.out.outer IN4.out h1 h2)
        clear k0 k1 k2 k3 k4 k5 k6 f0 f1 f2 f3 f4 f5 f6 g0 g1 g2 g3 g4 g5 g6 h1 h2 OM4 IN4 LB4 OM3 LB3 RX3 RY3
        rw [hBB] at OM5 LB5
        go_wp2
        go_roundw
        case rel => exact ⟨k + 1, _, by omega, by go_num, fun _ => trivial, OM5.out, by rw [nums_push, HPS.out, HSU.out], LB5.out⟩
        case measure => simp [intOf]; omega
    · obtain rfl : k = qs.length := by omega
      have HFIN := hid (show nums ps = r by
        rw [HPS.out, ← nums_length qs, List.take_length]
        cases hbb : bf
        · rcases Nat.eq_zero_or_pos qs.length with h | h
          · have : nums qs = [] := List.eq_nil_of_length_eq_zero (by rw [nums_length]; exact h)
            rw [this, ← HMF.out hbb]; rfl
          · have := hkb h; rw [hbb] at this; cases this
        · exact HMT.out hbb)
      go_wp2
      go_ret
      exact ⟨_, ps, rfl, HFIN.out, OM.out.base (by omega), B0.out.trans (LB.out.mono (by omega))⟩
set_option maxRecDepth 100000 in
set_option maxHeartbeats 4000000 in
theorem implMeetsOf_any (a : Option Addr) (rs : List Row) (c : Nat) (b : Option Addr) (qs : List Row) (d : Nat) (w : World) (r : List (List Int)) (hx : meetsOr (nums rs) (nums qs) = r) (hr : RdM w a rs) (hn : Small rs) (hq : RdM w b qs) (hm : Small qs) :
    Calls Try.prog 18 #[.agg #[.slice a rs.length c, .slice b qs.length d]] w (RetOwnM 42 2 r w) := by
  have RA := hid hr; have RQ := hid hq; have HX := hid hx; clear hr hq hx
  have hn1 := hn.1; have hm1 := hm.1
  obtain ⟨w0, hw0⟩ : ∃ w0, w0 = (w.alloc (.cells #[.slice a rs.length c, .slice b qs.length d] 35)) := ⟨_, rfl⟩
  have B0 := hid (show Below w.heap.size w w0 by rw [hw0]; exact ((Below.refl _ _).alloc (Nat.le_refl _) _))
  have c0 : w0.cell? ⟨w.heap.size, 0, none⟩ = some (.slice a rs.length c) := by rw [hw0]; simp [go_sem]
  have c0a : w0.cell? ⟨w.heap.size, 1, none⟩ = some (.slice b qs.length d) := by rw [hw0]; simp [go_sem]
  replace RA := hid (RA.out.below B0.out (Nat.le_refl _))
  replace RQ := hid (RQ.out.below B0.out (Nat.le_refl _))
  have HW := hid hw0; clear hw0
  by_cases hf : FormP rs.length (nums qs)
  · have h1 := hid (show decide (FormP rs.length (nums qs)) = true by simpa using hf)
    have HX2 := hid (show meetsL (nums rs) (nums qs) = r by rw [← HX.out]; unfold meetsOr; rw [nums_length, if_pos hf])
    have HF := hid hf
    have hq16 : qs.length ≤ 16 := by have := hf.few; rwa [nums_length] at this
    clear hf HX
    go_enter Try.func18, Try.ntmps18
    go_wp2_with fail
    rw [← HW.out]
    go_wp2_with fail
    refine (canCount_b a rs c b qs d _ _ h1.out hn1 RQ.out hm).mono ?_
    rintro e w1 ⟨rfl, hb⟩
    replace RA := hid (RA.out.below hb (Nat.le_refl _))
    replace RQ := hid (RQ.out.below hb (Nat.le_refl _))
    replace B0 := hid (bon B0.out hb)
    replace c0 := cellB hb c0 (Nat.le_refl _)
    replace c0a := cellB hb c0a (Nat.le_refl _)
    clear hb
    have HO := hid (show Own 42 (w1.alloc (.cells #[] 42)) w1.heap.size (.slice (some ⟨w1.heap.size, 0, none⟩) 0 0) [] from own_new 42 w1 [] (by decide))
    have HE0 := hid (alloc_below w1 (.cells #[] 42))
    have c0A := cellB HE0.out c0 (Nat.le_refl _)
    have c0aA := cellB HE0.out c0a (Nat.le_refl _)
    have hsz : w.heap.size + 1 ≤ w1.heap.size := World.block_lt_of_cell? _ _ c0
    go_wp2
    go_loopw [3, 5, 6, 8, 16] (fun o _ _ _ i wr => ∃ k ps, k ≤ qs.length ∧ i = .int .i64 (k : Nat) ∧ OwnM 42 2 wr w1.heap.size o ps ∧ nums ps = meetsL (nums rs) ((nums qs).take k) ∧ Below w1.heap.size w1 wr) (fun _ _ _ _ i _ => qs.length - (intOf i).toNat)
    case atStart => exact ⟨0, [], Nat.zero_le _, rfl, ⟨HO.out, Inner.nil _ _ _⟩, rfl, HE0.out⟩
    case round =>
      obtain ⟨k, ps, hk, rfl, ho, hps, hb⟩ := hrel
      have OM := hid ho; have HPS := hid hps; have BL := hid hb
      clear ho hps
      replace RA := hid (RA.out.below hb (Nat.le_refl _))
      replace RQ := hid (RQ.out.below hb (Nat.le_refl _))
      replace B0 := hid (bon B0.out hb)
      replace c0 := cellB hb c0 (Nat.le_refl _)
      replace c0a := cellB hb c0a (Nat.le_refl _)
      clear hb
      by_cases hlt : k < qs.length
      · have hi0 : (k : Int) < (qs.length : Int) := by omega
        have hrow := HF.out.row _ (List.mem_map.2 ⟨qs[k], List.getElem_mem hlt, rfl⟩)
        obtain ⟨x, y, hxy, hxn, hyn⟩ := ends_of hrow
        clear hrow
        obtain ⟨lb, lo, hba, hlc, hlok⟩ := RQ.out.at k hlt
        have hatl := at_slice tRows hba qs.length d k hlt
        have HSU := hid (meetsL_succ (nums rs) (nums qs) k (by rw [nums_length]; exact hlt))
        rw [show (nums qs)[k]'(by rw [nums_length]; exact hlt) = qs[k].z by simp [nums], hxy, show meetOf (nums rs) [(x : Int), (y : Int)] = meetL rs[x].z rs[y].z by
          unfold meetOf
          rw [show ([(x : Int), (y : Int)] : List Int).getD 0 0 = (x : Int) from rfl, show ([(x : Int), (y : Int)] : List Int).getD 1 0 = (y : Int) from rfl, row_rs rs x hxn, row_rs rs y hyn]] at HSU
        have hl2 : qs[k].z.length = 2 := by rw [hxy]; rfl
        obtain ⟨qb, qo, hqa, hq0⟩ := hlok.1 0 (by rw [hl2]; decide)
        obtain ⟨qb', qo', hqa', hq1⟩ := hlok.1 1 (by rw [hl2]; decide)
        rw [hqa] at hqa'
        obtain ⟨rfl, rfl⟩ : qb = qb' ∧ qo = qo' := by simp at hqa'; exact hqa'
        have e0 : qs[k].z[0]'(by rw [hl2]; decide) = (x : Int) := by simp [hxy]
        have e1 : qs[k].z[1]'(by rw [hl2]; decide) = (y : Int) := by simp [hxy]
        rw [e0, Nat.add_zero] at hq0; rw [e1] at hq1
        rw [hqa, hl2] at hlc
        clear hqa' hqa e0 e1 hl2 hxy hlok
        generalize qs[k] = q at *
        obtain ⟨ab, ao, haa, hxc, hxok⟩ := RA.out.at x hxn
        obtain ⟨ab', ao', hab, hyc, hyok⟩ := RA.out.at y hyn
        obtain ⟨rfl, rfl⟩ : ab = ab' ∧ ao = ao' := by rw [haa] at hab; simp at hab; exact hab
        clear hab
        have hatx := at_slice tRows haa rs.length c x hxn
        have haty := at_slice tRows haa rs.length c y hyn
        have HAA := hid haa; have HBA := hid hba; clear haa hba
        have hzx := hn.2 _ (List.getElem_mem hxn)
        have hzy := hn.2 _ (List.getElem_mem hyn)
        have RX := hid hxok.1; have RY := hid hyok.1; clear hxok hyok
        have hpl : (ps.map Row.val).length < 1099511627776 := by
          have h1 := congrArg List.length HPS.out
          rw [nums_length, meetsL_len] at h1
          simp at h1 ⊢; omega
        generalize rs[x] = p at *
        generalize rs[y] = q2 at *
        have hxi : (x : Int) < (rs.length : Int) := by omega
        have hyi : (y : Int) < (rs.length : Int) := by omega
        obtain ⟨w2, rfl⟩ : ∃ w2, w2 = wr := ⟨_, rfl⟩
        have hBw := BL.out.size
        have B3 := hid (alloc_below w2 (.cells #[] 2))
        have ON := hid (own_new 2 w2 [] (by decide))
        have kc0 := cellB B3.out c0 (Nat.le_refl _)
        have kc0a := cellB B3.out c0a (Nat.le_refl _)
        have khq0 := cellB B3.out hq0 (Nat.le_refl _)
        have kxc := cellB B3.out hxc (Nat.le_refl _)
        go_wp2
        have ckc0 := kc0; have ckhq0 := khq0; have ckxc := kxc
        clear kc0 khq0 kxc kc0a
        have qckc0 := fun (p : Bel _) => cellB p.h ckc0 (Nat.le_refl _)
        have qckhq0 := fun (p : Bel _) => cellB p.h ckhq0 (Nat.le_refl _)
        have qckxc := fun (p : Bel _) => cellB p.h ckxc (Nat.le_refl _)
        refine wp_quiet_b (by kernel_rfl) (by kernel_rfl) ?_
        repeat (go_big_quiet_step (fail))
        refine wpQuiet_nil ?_
        intro _ hw'
        obtain ⟨⟨w2, hb⟩, rfl⟩ := hw'
        clear qckc0 qckhq0 qckxc
        replace B3 := hid (bon B3.out hb)
        replace ON := hid (ON.out.past hb (Nat.le_refl _))
        replace ckc0 := cellB hb ckc0 (Nat.le_refl _)
        replace ckhq0 := cellB hb ckhq0 (Nat.le_refl _)
        replace ckxc := cellB hb ckxc (Nat.le_refl _)
        clear hb
        clear ckc0 ckhq0 ckxc
        go_wp2
        go_loopw [6, 8, 29] (fun o _ x wq => ∃ j : Nat, j ≤ p.z.length ∧ x = .int .i64 j ∧ Own 2 wq w2.heap.size o ((meetL (p.z.take j) q2.z).map (.int .i64)) ∧ Below w2.heap.size w2 wq) (fun _ _ x _ => p.z.length - (intOf x).toNat)
        case atStart => exact ⟨0, Nat.zero_le _, rfl, ON.out, B3.out⟩
        case round =>
          obtain ⟨j, hj, rfl, ho, hb⟩ := hrel
          have OI := hid ho; have BI := hid hb; clear ho hb
          by_cases hlj : j < p.z.length
          · have cc0 := cellB BI.out c0 (Nat.le_refl _)
            have cq1 := cellB BI.out hq1 (Nat.le_refl _)
            have cyc := cellB BI.out hyc (Nat.le_refl _)
            have RYI := hid (RY.out.below BI.out (Nat.le_refl _))
            obtain ⟨pb, po, hpa, cpc⟩ := (RX.out.below BI.out (Nat.le_refl _)) j hlj
            have hatp := at_slice tI64 hpa p.z.length p.c j hlj
            have HPA := hid hpa; clear hpa
            have HS := hid (meetL_succ p.z q2.z j hlj)
            have hlen : ((meetL (p.z.take j) q2.z).map (Value.int .i64)).length ≤ 1048576 := by
              rw [List.length_map]; have := meetL_len (p.z.take j) q2.z; rw [List.length_take] at this; omega
            have hji : (j : Int) < (p.z.length : Int) := by omega
            have hzq : q2.z.length ≤ 16777216 := by omega
            generalize p.z[j] = v at *
            by_cases hm2 : v ∈ q2.z
            · have H4 := hid (show decide (v ∈ q2.z) = true by simpa using hm2)
              have HS2 := hid (show meetL (p.z.take (j + 1)) q2.z = meetL (p.z.take j) q2.z ++ [v] by rw [HS.out, if_pos hm2])
              clear hm2
              go_wp2
              have qcc0 := fun (p : Bel _) => cellB p.h cc0 (Nat.le_refl _)
              have qcq1 := fun (p : Bel _) => cellB p.h cq1 (Nat.le_refl _)
              have qcyc := fun (p : Bel _) => cellB p.h cyc (Nat.le_refl _)
              refine wp_quiet_b (by kernel_rfl) (by kernel_rfl) ?_
              repeat (go_big_quiet_step (first | (go_at_call 51; exact qbs (contains_b _ _ _ _ _ _ H4.out (RYI.out.bel _) hzq))))
              refine wpQuiet_nil ?_
              intro _ hw'
              obtain ⟨⟨w3, hb⟩, rfl⟩ := hw'
              clear qcc0 qcq1 qcyc
              replace OI := hid (OI.out.past hb (Nat.le_refl _))
              replace BI := hid (bon BI.out hb)
              replace RYI := hid (RYI.out.below hb (Nat.le_refl _))
              replace cc0 := cellB hb cc0 (Nat.le_refl _)
              replace cq1 := cellB hb cq1 (Nat.le_refl _)
              replace cyc := cellB hb cyc (Nat.le_refl _)
              clear hb
              have hLI := BI.out.size
              go_wp2_with (at_builtin; refine law_push tI64 _ rfl _ _ rfl w2.heap.size _ ((meetL (p.z.take j) q2.z).map (.int .i64)) rfl OI.out _ _ rfl ?c0 rfl ?c1 ?c2 ?_)
              case c0 => simp
              case c1 => omega
              case c2 => exact hLI
              intro v' w' h1 h2
              have HN := hid h1
              have HBB := hid (BI.out.trans (grown_below h2 hLI (fun g hg => OI.out.ge g hg)))
              clear h1 h2
              go_wp2
              go_roundw
              case rel => exact ⟨j + 1, by omega, by go_num, by rw [HS2.out, List.map_append]; exact HN.out, HBB.out⟩
              case measure => simp [intOf]; omega
            · have H4 := hid (show decide (v ∈ q2.z) = false by simpa using hm2)
              have HS2 := hid (show meetL (p.z.take (j + 1)) q2.z = meetL (p.z.take j) q2.z by rw [HS.out, if_neg hm2, List.append_nil])
              clear hm2
              go_wp2
              have qcc0 := fun (p : Bel _) => cellB p.h cc0 (Nat.le_refl _)
              have qcq1 := fun (p : Bel _) => cellB p.h cq1 (Nat.le_refl _)
              have qcyc := fun (p : Bel _) => cellB p.h cyc (Nat.le_refl _)
              refine wp_quiet_b (by kernel_rfl) (by kernel_rfl) ?_
              repeat (go_big_quiet_step (first | (go_at_call 51; exact qbs (contains_b _ _ _ _ _ _ H4.out (RYI.out.bel _) hzq))))
              refine wpQuiet_nil ?_
              intro _ hw'
              obtain ⟨⟨w4, hb⟩, rfl⟩ := hw'
              clear qcc0 qcq1 qcyc
              replace OI := hid (OI.out.past hb (Nat.le_refl _))
              replace BI := hid (bon BI.out hb)
              replace RYI := hid (RYI.out.below hb (Nat.le_refl _))
              replace cc0 := cellB hb cc0 (Nat.le_refl _)
              replace cq1 := cellB hb cq1 (Nat.le_refl _)
              replace cyc := cellB hb cyc (Nat.le_refl _)
              clear hb
              go_wp2
              go_roundw
              case rel => exact ⟨j + 1, by omega, by go_num, by rw [HS2.out]; exact OI.out, BI.out⟩
              case measure => simp [intOf]; omega
          · obtain rfl : j = p.z.length := by omega
            rw [List.take_length] at OI
            obtain ⟨ma, mc, rfl, _⟩ := Own.rd OI.out
            have IN4 := hid (OM.out.inner.snoc BI.out hBw ⟨ma, meetL p.z q2.z, mc⟩ OI.out)
            have OM4 := hid (OM.out.outer.past BI.out (Nat.le_refl _))
            have hBw4 := Nat.le_trans hBw BI.out.size
            go_wp2_with (at_builtin; refine law_push tRows _ rfl _ _ rfl w1.heap.size _ (ps.map Row.val) rfl OM4.out _ _ rfl ?c0 rfl ?c1 ?c2 ?_)
            case c0 => simp
            case c1 => exact hpl
            case c2 => exact hBw4
            intro v' w' h1 h2
            have OM5 := hid (rows_push (by decide) OM4.out IN4.out h1 h2)
            have LB5 := hid ((BL.out.trans (BI.out.mono hBw)).trans (grown_below h2 hBw4 (fun g hg => OM4.out.ge g hg)))
            clear h1 h2
            go_wp2
            go_roundw
            case rel => exact ⟨k + 1, _, by omega, by go_num, OM5.out, by rw [nums_push, HPS.out, HSU.out], LB5.out⟩
            case measure => simp [intOf]; omega
      · obtain rfl : k = qs.length := by omega
        have HFIN := hid (show nums ps = r by rw [HPS.out, ← nums_length qs, List.take_length]; exact HX2.out)
        go_wp2
        go_ret
        exact ⟨_, ps, rfl, HFIN.out, OM.out.base (by omega), B0.out⟩
  · have h1 := hid (show decide (FormP rs.length (nums qs)) = false by simpa using hf)
    have HX2 := hid (show [] = r by rw [← HX.out]; unfold meetsOr; rw [nums_length, if_neg hf])
    clear hf HX
    go_enter Try.func18, Try.ntmps18
    go_wp2_with fail
    rw [← HW.out]
    go_wp2_with fail
    refine (canCount_b a rs c b qs d _ _ h1.out hn1 RQ.out hm).mono ?_
    rintro e w5 ⟨rfl, hb⟩
    replace RA := hid (RA.out.below hb (Nat.le_refl _))
    replace RQ := hid (RQ.out.below hb (Nat.le_refl _))
    replace B0 := hid (bon B0.out hb)
    replace c0 := cellB hb c0 (Nat.le_refl _)
    replace c0a := cellB hb c0a (Nat.le_refl _)
    clear hb
    go_wp2
    go_ret
    exact ⟨_, [], rfl, HX2.out, ⟨Own.nil _ _ _, Inner.nil _ _ _⟩, B0.out⟩
end Go.Proofs.Ythdfkpinaidkkaa
