/- Plain facts: an orientation has one arrow of each edge, just where it has half as many arrows as there are ends. · The bags as sets: the program's. · UpOk: the program's. · UpOk: the reference's. · TransitiveIn: both. · TransitiveIn: the program's, and both whole. -/
import Derived.Test.YtdncmloajajiaaaDoorMiss
import Derived.Test.YtdncmloajajiaaaDoorCode2
import Derived.Test.YtdncmloajajiaaaDoorClique
import Derived.Deep.RegionWith
import Derived.Test.YtdncmloajajiaaaDoorSetOk
import Derived.Test.YtdncmloajajiaaaDoorQuiet
namespace Go.Proofs.YtdncmloajajiaaaDoor
open Go.RowKit
section
theorem sumN_mono {n : Nat} {f g : Nat → Nat} (h : ∀ i, i < n → f i ≤ g i) : sumN n f ≤ sumN n g := by
  induction n with
  | zero => exact Nat.le_refl _
  | succ n ih => have := ih (fun i hi => h i (by omega)); have := h n (by omega); simp only [sumN]; omega
theorem sumN_eq {n : Nat} {f g : Nat → Nat} (h : ∀ i, i < n → f i ≤ g i) (e : sumN n f = sumN n g) : ∀ i, i < n → f i = g i := by
  induction n with
  | zero => intro i hi; omega
  | succ n ih =>
    have h1 := sumN_mono (n := n) (fun i hi => h i (by omega)); have h2 := h n (by omega)
    simp only [sumN] at e
    intro i hi
    rcases Nat.lt_succ_iff_lt_or_eq.1 hi with h3 | rfl
    · exact ih (fun i hi => h i (by omega)) (by omega) i h3
    · omega
theorem sumN_zero' (n : Nat) : sumN n (fun _ => 0) = 0 := by induction n with | zero => rfl | succ n ih => simp [sumN, ih]
theorem sumN_swap (n m : Nat) (F : Nat → Nat → Nat) : sumN n (fun i => sumN m (fun j => F i j)) = sumN m (fun j => sumN n (fun i => F i j)) := by
  induction n with
  | zero => simp only [sumN]; rw [sumN_zero']
  | succ n ih => simp only [sumN]; rw [ih, ← sumN_add]
theorem cnt_len {n : Nat} {l : List Int} (h : Inc n l) : l.length = cntR n (fun u => decide ((u : Int) ∈ l)) := by
  have hd : l.Nodup := List.Pairwise.imp (fun h => by omega) h.2
  have hd2 : (((List.range n).filter fun u : Nat => decide ((u : Int) ∈ l)).map fun i : Nat => (i : Int)).Nodup := by
    rw [List.Nodup, List.pairwise_map]
    refine List.Pairwise.imp ?_ (List.nodup_range.filter _)
    intro a b hab e; exact hab (by omega)
  have h1 := hd2.length_le_of_subset (l₂ := l) (fun x hx => by
    obtain ⟨i, hi, rfl⟩ := List.mem_map.1 hx
    rw [List.mem_filter] at hi
    simpa using hi.2)
  have h2 := hd.length_le_of_subset (l₂ := ((List.range n).filter fun u : Nat => decide ((u : Int) ∈ l)).map fun i : Nat => (i : Int)) (fun x hx => by
    have h3 := h.1 x hx
    refine List.mem_map.2 ⟨x.toNat, ?_, by omega⟩
    rw [List.mem_filter, List.mem_range, Int.toNat_of_nonneg h3.1]
    exact ⟨by omega, by simpa using hx⟩)
  rw [List.length_map] at h1 h2
  unfold cntR; omega
/-- One row of an orientation, as the reference looks at it: its first k. -/
def UpRow (g up : List (List Int)) (v k : Nat) : Prop := ∀ i, i < k → (row up (v : Int)).getD i 0 ∈ row g (v : Int) ∧ (v : Int) ∉ row up ((row up (v : Int)).getD i 0) ∧ (0 < i → (row up (v : Int)).getD (i - 1) 0 < (row up (v : Int)).getD i 0)
theorem UpRow.inc {g up : List (List Int)} (hg : GOk g) {v : Nat} (hv : v < g.length) (h : UpRow g up v (row up (v : Int)).length) : Inc g.length (row up (v : Int)) := by
  have key : ∀ k, k ≤ (row up (v : Int)).length → Inc g.length ((row up (v : Int)).take k) := by
    intro k
    induction k with
    | zero => intro _; simpa using inc_nil _
    | succ k ih =>
      intro hk
      have hk' : k < (row up (v : Int)).length := by omega
      obtain ⟨h1, _, h3⟩ := h k hk'
      rw [getD_eq _ k hk'] at h1 h3
      refine inc_take_succ _ _ k hk' (ih (by omega)) ?_ ?_
      · exact gok_range hg (u := (v : Int)) (by omega) (by omega) h1
      · intro h0
        have := h3 h0
        rwa [getD_eq _ (k - 1) (by omega)] at this
  have := key _ (Nat.le_refl _)
  rwa [List.take_length] at this
structure SpecUp (g up : List (List Int)) : Prop where
  ok : GOk g
  len : up.length = g.length
  rows : ∀ v : Nat, v < g.length → UpRow g up v (row up (v : Int)).length
  half : 2 * sumN g.length (fun v => (row up (v : Int)).length) = sumN g.length (fun v => (row g (v : Int)).length)
noncomputable instance (g up : List (List Int)) : Decidable (SpecUp g up) := Classical.propDecidable _
/-- One vertex, as the program looks at it. -/
def UpAt (g up : List (List Int)) (u : Nat) : Prop := (∀ v ∈ row up (u : Int), v ∈ row g (u : Int)) ∧ ∀ v ∈ row g (u : Int), ¬ (v ∈ row up (u : Int) ↔ (u : Int) ∈ row up v)
structure ImplUp (g up : List (List Int)) : Prop where
  ok : GOk g
  len : up.length = g.length
  inc : ∀ b ∈ up, Inc g.length b
  at' : ∀ u : Nat, u < g.length → UpAt g up u
theorem row_mem_of {up : List (List Int)} {v : Nat} (hv : v < up.length) : row up (v : Int) ∈ up := by rw [row_nat _ _ hv]; exact List.getElem_mem hv
theorem up_iff {g up : List (List Int)} : SpecUp g up ↔ ImplUp g up := by
  have cnt : ∀ (hg : GOk g) (hl : up.length = g.length) (hi : ∀ v : Nat, v < g.length → Inc g.length (row up (v : Int))),
      2 * sumN g.length (fun v => (row up (v : Int)).length) = sumN g.length (fun v => sumN g.length fun u => bit01 (decide ((u : Int) ∈ row up (v : Int))) + bit01 (decide ((v : Int) ∈ row up (u : Int)))) ∧
      sumN g.length (fun v => (row g (v : Int)).length) = sumN g.length (fun v => sumN g.length fun u => bit01 (decide ((u : Int) ∈ row g (v : Int)))) := by
    intro hg hl hi
    constructor
    · have e1 : sumN g.length (fun v => (row up (v : Int)).length) = sumN g.length (fun v => sumN g.length fun u => bit01 (decide ((u : Int) ∈ row up (v : Int)))) :=
        sumN_congr fun v hv => by rw [cnt_len (hi v hv), cntR_sum]
      have e2 : sumN g.length (fun v => sumN g.length fun u => bit01 (decide ((u : Int) ∈ row up (v : Int))) + bit01 (decide ((v : Int) ∈ row up (u : Int)))) = sumN g.length (fun v => sumN g.length fun u => bit01 (decide ((u : Int) ∈ row up (v : Int)))) + sumN g.length (fun v => sumN g.length fun u => bit01 (decide ((v : Int) ∈ row up (u : Int)))) := by
        rw [← sumN_add]; apply sumN_congr; intro v _; rw [sumN_add]
      rw [e2, e1, sumN_swap g.length g.length (fun v u => bit01 (decide ((v : Int) ∈ row up (u : Int))))]
      omega
    · apply sumN_congr; intro v hv
      have hinc : Inc g.length (row g (v : Int)) := hg.inc v hv
      rw [cnt_len hinc, cntR_sum]
  have ptw : ∀ (hg : GOk g) (hsub : ∀ v : Nat, v < g.length → ∀ u ∈ row up (v : Int), u ∈ row g (v : Int)) (hanti : ∀ v u : Nat, v < g.length → u < g.length → (u : Int) ∈ row up (v : Int) → (v : Int) ∉ row up (u : Int)) (v u : Nat), v < g.length → u < g.length →
      bit01 (decide ((u : Int) ∈ row up (v : Int))) + bit01 (decide ((v : Int) ∈ row up (u : Int))) ≤ bit01 (decide ((u : Int) ∈ row g (v : Int))) ∧ (bit01 (decide ((u : Int) ∈ row up (v : Int))) + bit01 (decide ((v : Int) ∈ row up (u : Int))) = bit01 (decide ((u : Int) ∈ row g (v : Int))) ↔ ((u : Int) ∈ row g (v : Int) → ¬ ((u : Int) ∈ row up (v : Int) ↔ (v : Int) ∈ row up (u : Int)))) := by
    intro hg hsub hanti v u hv hu
    have hs := gok_sym hg (u := (v : Int)) (v := (u : Int)) (by omega) (by omega) (by omega) (by omega)
    by_cases h1 : (u : Int) ∈ row up (v : Int)
    · have h2 := hanti v u hv hu h1
      have h3 := hsub v hv _ h1
      simp [h1, h2, h3, bit01]
    · by_cases h2 : (v : Int) ∈ row up (u : Int)
      · have h3 := hs.2 (hsub u hu _ h2)
        simp [h1, h2, h3, bit01]
      · by_cases h3 : (u : Int) ∈ row g (v : Int)
        · simp [h1, h2, h3, bit01]
        · simp [h1, h2, h3, bit01]
  constructor
  · intro h
    have hg := h.ok
    have hinc : ∀ v : Nat, v < g.length → Inc g.length (row up (v : Int)) := fun v hv => UpRow.inc hg hv (h.rows v hv)
    have hsub : ∀ v : Nat, v < g.length → ∀ u ∈ row up (v : Int), u ∈ row g (v : Int) := fun v hv u hu => by
      obtain ⟨i, hi, rfl⟩ := List.mem_iff_getElem.1 hu
      have := (h.rows v hv i hi).1
      rwa [getD_eq _ i hi] at this
    have hanti : ∀ v u : Nat, v < g.length → u < g.length → (u : Int) ∈ row up (v : Int) → (v : Int) ∉ row up (u : Int) := fun v u hv _ hu => by
      obtain ⟨i, hi, e⟩ := List.mem_iff_getElem.1 hu
      have := (h.rows v hv i hi).2.1
      rwa [getD_eq _ i hi, e] at this
    obtain ⟨c1, c2⟩ := cnt hg h.len hinc
    have hh := h.half
    rw [c1, c2] at hh
    have p := ptw hg hsub hanti
    have heq := sumN_eq (fun v hv => sumN_mono fun u hu => (p v u hv hu).1) hh
    refine ⟨hg, h.len, ?_, fun u hu => ⟨hsub u hu, fun v hv => ?_⟩⟩
    · intro b hb
      obtain ⟨i, hi, rfl⟩ := List.mem_iff_getElem.1 hb
      have := hinc i (by have := h.len; omega)
      rwa [row_nat _ _ hi] at this
    · have hvr := gok_range hg (u := (u : Int)) (by omega) (by omega) hv
      obtain ⟨n, rfl⟩ := Int.eq_ofNat_of_zero_le hvr.1
      have hn : n < g.length := by omega
      have h5 := sumN_eq (fun w hw => (p u w hu hw).1) (heq u hu) n hn
      exact ((p u n hu hn).2.1 h5) hv
  · intro h
    have hg := h.ok
    have hinc : ∀ v : Nat, v < g.length → Inc g.length (row up (v : Int)) := fun v hv => h.inc _ (row_mem_of (by have := h.len; omega))
    have hsub : ∀ v : Nat, v < g.length → ∀ u ∈ row up (v : Int), u ∈ row g (v : Int) := fun v hv => (h.at' v hv).1
    have hanti : ∀ v u : Nat, v < g.length → u < g.length → (u : Int) ∈ row up (v : Int) → (v : Int) ∉ row up (u : Int) := fun v u hv _ hu hvu => (h.at' v hv).2 _ (hsub v hv _ hu) ⟨fun _ => hvu, fun _ => hu⟩
    obtain ⟨c1, c2⟩ := cnt hg h.len hinc
    have p := ptw hg hsub hanti
    refine ⟨hg, h.len, fun v hv i hi => ?_, ?_⟩
    · have hm : (row up (v : Int)).getD i 0 ∈ row up (v : Int) := by rw [getD_eq _ i hi]; exact List.getElem_mem hi
      have hr := (hinc v hv).1 _ hm
      refine ⟨hsub v hv _ hm, ?_, fun h0 => ?_⟩
      · generalize (row up (v : Int)).getD i 0 = x at *
        obtain ⟨n, rfl⟩ := Int.eq_ofNat_of_zero_le hr.1
        exact hanti v n hv (by omega) hm
      · rw [getD_eq _ i hi, getD_eq _ (i - 1) (by omega)]
        exact inc_lt (hinc v hv) (i - 1) i hi (by omega)
    · rw [c1, c2]
      apply sumN_congr; intro v hv
      apply sumN_congr; intro u hu
      exact (p v u hv hu).2.2 fun he => (h.at' v hv).2 _ he
end
section
theorem tVsets : SliceT Tryd.prog 66 69 (.int .u32 0) := ⟨Tryd.underlying66, 4, by decide, by kernel_rfl, rfl⟩
set_option maxHeartbeats 4000000 in
theorem bagMasks_m (a : Option Addr) (rs : List Row) (c : Nat) (w : World) (hl : rs.length ≤ 1048576) (hv : ∀ r ∈ rs, ∀ v ∈ r.z, 0 ≤ v ∧ v < 16) (hr : RdM w a rs) (hn : Small rs) :
    Calls Tryd.prog 39 #[.slice a rs.length c] w fun e w' => ∃ v, e = .returned v ∧ Own 69 w' w.heap.size v (netsV (nums rs)) ∧ Below w.heap.size w w' := by
  have HR := hid hr; have HV := hid hv; clear hr hv
  have B0 := hid (alloc_below w (.cells #[] 69))
  have HO := hid (show Own 69 (w.alloc (.cells #[] 69)) w.heap.size (.slice (some ⟨w.heap.size, 0, none⟩) 0 0) [] by
    simpa using (own_new 69 w [] (by decide)))
  go_enter Tryd.func39, Tryd.ntmps39
  go_wp2
  go_loopw [3, 5, 9] (fun o _ i wr => ∃ k, k ≤ rs.length ∧ i = .int .i64 (k : Nat) ∧ Own 69 wr w.heap.size o (netsV ((nums rs).take k)) ∧ Below w.heap.size w wr) (fun _ _ i _ => rs.length - (intOf i).toNat)
  case atStart => exact ⟨0, Nat.zero_le _, rfl, HO.out, B0.out⟩
  case round =>
    obtain ⟨k, hk, rfl, ho, hb⟩ := hrel
    have HOM := hid ho; have HB := hid hb; clear ho hb
    by_cases hlt : k < rs.length
    · obtain ⟨b', o, rfl, hc, hok⟩ := (HR.out.below HB.out (Nat.le_refl _)).at k hlt
      have HK := hid hok.1; clear hok
      have hz := hn.2 _ (List.getElem_mem hlt)
      have hnl : k < (nums rs).length := by rw [nums_length]; exact hlt
      have hzk : (nums rs)[k] = rs[k].z := by simp [nums]
      have HVK := hid (HV.out _ (List.getElem_mem hlt))
      have hs := netsV_snoc (nums rs) k hnl
      rw [hzk] at hs
      have HS := hid hs; clear hs hzk
      generalize rs[k] = r at *
      have hpl : (netsV ((nums rs).take k)).length ≤ 1048576 := by simp [netsV, nums_length]; omega
      have hBs := HB.out.size
      have HOA := hid HOM.out
      go_wp2_with (first | (go_at_call 79; refine (maskOf_any _ _ _ _ HK.out hz HVK.out).mono ?_; rintro e w' ⟨rfl, rfl⟩) | (at_builtin; refine law_push tVsets _ rfl _ _ rfl w.heap.size _ (netsV ((nums rs).take k)) rfl HOA.out _ _ rfl ?c0 rfl ?c1 ?c2 ?_))
      case c0 => simp
      case c1 => omega
      case c2 => omega
      intro v' w' h1 h2
      have HN := hid h1
      have HBB := hid (HB.out.trans (grown_below h2 hBs (fun g hg => HOA.out.ge g hg)))
      clear h1 h2 HOA HOM HB
      go_wp2
      go_roundw
      case rel => exact ⟨k + 1, by omega, by go_num, by rw [HS.out]; exact HN.out, HBB.out⟩
      case measure => simp [intOf]; omega
    · obtain rfl : k = rs.length := by omega
      have HE := hid (show (nums rs).take rs.length = nums rs from List.take_of_length_le (by rw [nums_length]; exact Nat.le_refl _))
      rw [HE.out] at HOM
      go_wp2
      go_ret
      exact ⟨_, rfl, HOM.out, HB.out⟩
theorem bagMasks_any (a : Option Addr) (rs : List Row) (c : Nat) (w : World) (hl : rs.length ≤ 16) (hv : ∀ r ∈ rs, ∀ v ∈ r.z, 0 ≤ v ∧ v < 16) (hr : RdM w a rs) (hn : Small rs) :
    Calls Tryd.prog 39 #[.slice a rs.length c] w fun e w' => ∃ v, e = .returned v ∧ Own 69 w' w.heap.size v (netsV (nums rs)) ∧ Below w.heap.size w w' := bagMasks_m a rs c w (by omega) hv hr hn
end
section
noncomputable instance (g up : List (List Int)) : Decidable (ImplUp g up) := Classical.propDecidable _
theorem row_get1 {g : List (List Int)} (v : Nat) (hv : v < g.length) : row g (v : Int) = g[v] := row_nat _ _ _
set_option maxHeartbeats 8000000 in
theorem implUpOk_b (a : Option Addr) (rs : List Row) (c : Nat) (a' : Option Addr) (qs : List Row) (c' : Nat) (w : World) (b : Bool) (hb : decide (SpecUp (nums rs) (nums qs)) = b) (hr : RdM w a rs) (hn : Small rs) (hq : RdM w a' qs) (hm : Small qs) (hT : TabOk w) :
    Calls Tryd.prog 75 #[.agg #[.slice a rs.length c], .slice a' qs.length c'] w fun e w' => e = .returned (.bool b) ∧ Below w.heap.size w w' := by
  have RA := hid hr; have RQ := hid hq; have RT := hid hT
  have HB := hid (show decide (ImplUp (nums rs) (nums qs)) = b by rw [← hb, decide_eq_decide, up_iff])
  clear hr hq hb hT
  have hn1 := hn.1; have hm1 := hm.1
  obtain ⟨w0, hw0⟩ : ∃ w0, w0 = (w.alloc (.cells #[.slice a rs.length c] 29)) := ⟨_, rfl⟩
  have B0 := hid (show Below w.heap.size w w0 by rw [hw0]; exact ((Below.refl _ _).alloc (Nat.le_refl _) _))
  have c0 : w0.cell? ⟨w.heap.size, 0, none⟩ = some (.slice a rs.length c) := by rw [hw0]; simp [go_sem]
  replace RA := hid (RA.out.below B0.out (Nat.le_refl _))
  replace RQ := hid (RQ.out.below B0.out (Nat.le_refl _))
  replace RT := hid (RT.out.below B0.out (Nat.le_refl _))
  have HW := hid hw0; clear hw0
  by_cases hg : GOk (nums rs)
  · have h1 := hid (show decide (GOk (nums rs)) = true by simpa using hg)
    have HG := hid hg
    have h16 : rs.length ≤ 16 := by have := hg.le; rwa [nums_length] at this
    clear hg
    by_cases hf : qs.length = rs.length
    · have hd : ((qs.length : Int) != (rs.length : Int)) = false := by rw [hf]; simp
      have hdn : (qs.length != rs.length) = false := by rw [hf]; simp
      have HLEN := hid (show (nums qs).length = (nums rs).length by rw [nums_length, nums_length, hf])
      have HF := hid hf
      have hq16 : qs.length ≤ 16 := by omega
      clear hf
      go_enter Tryd.func75, Tryd.ntmps75
      go_wp2_with fail
      rw [← HW.out]
      go_wp2_with fail
      refine (implGraphOk_b a rs c _ true h1.out RA.out hn).mono ?_
      rintro e w1 ⟨rfl, hb⟩
      replace RA := hid (RA.out.below hb (Nat.le_refl _))
      replace RQ := hid (RQ.out.below hb (Nat.le_refl _))
      replace RT := hid (RT.out.below hb (Nat.le_refl _))
      replace B0 := hid (bon B0.out hb)
      replace c0 := cellB hb c0 (Nat.le_refl _)
      clear hb
      go_wp2
      go_loop [6, 25] (fun _ i => ∃ k : Nat, k ≤ qs.length ∧ i = .int .i64 k ∧ (∀ j, (hj : j < qs.length) → j < k → Inc rs.length qs[j].z)) (fun _ i => qs.length - (intOf i).toNat)
      case atStart => exact ⟨0, Nat.zero_le _, rfl, fun j _ h => absurd h (Nat.not_lt_zero j)⟩
      case round =>
        obtain ⟨k, hk, rfl, hrows⟩ := hrel
        have HROWS := hid hrows; clear hrows
        by_cases hlt : k < qs.length
        · obtain ⟨b', o, rfl, cc, hok⟩ := RQ.out.at k hlt
          have RK := hid hok.1; clear hok
          have hz := Nat.le_trans (hm.2 _ (List.getElem_mem hlt)) (show 1048576 ≤ 16777216 by decide)
          have HOK := hid (fun (h2 : Inc rs.length qs[k].z) => (show ∀ j, (hj : j < qs.length) → j < k + 1 → Inc rs.length qs[j].z from fun j hj hjk => by
            rcases Nat.lt_succ_iff_lt_or_eq.1 hjk with h3 | rfl
            · exact HROWS.out j hj h3
            · exact h2))
          have HNO := hid (fun (h : ¬ Inc rs.length qs[k].z) => (show ¬ ImplUp (nums rs) (nums qs) from fun hh => h (by have := hh.inc _ (List.mem_map.2 ⟨qs[k], List.getElem_mem hlt, rfl⟩); rwa [nums_length] at this)))
          generalize qs[k] = q at *
          have hi0 : (k : Int) < (qs.length : Int) := by omega
          obtain ⟨bi, hbi⟩ : ∃ bi, decide (Inc (rs.length : Int) q.z) = bi := ⟨_, rfl⟩
          have HI := hid hbi
          cases bi
          · have HFIN := hid (HNO.out fun h => by simp [h] at hbi)
            clear hbi
            go_wp2_with (first | (go_at_call 84; refine (increasing_b _ _ _ _ _ _ HI.out RK.out hz (by omega) (by omega)).mono ?_; rintro e w' ⟨rfl, rfl⟩))
            go_ret
            exact ⟨ret_bool (dec_f HB.out HFIN.out), B0.out⟩
          · have HFIN := hid (HOK.out (by simpa using hbi))
            clear hbi
            go_wp2_with (first | (go_at_call 84; refine (increasing_b _ _ _ _ _ _ HI.out RK.out hz (by omega) (by omega)).mono ?_; rintro e w' ⟨rfl, rfl⟩))
            go_round
            case rel => exact ⟨k + 1, by omega, by go_num, HFIN.out⟩
            case measure => simp [intOf]; omega
        · obtain rfl : k = qs.length := by omega
          have HALLR := hid (show ∀ b ∈ nums qs, Inc (nums rs).length b from fun b hb => by
            obtain ⟨q, hq, rfl⟩ := List.mem_map.1 hb
            obtain ⟨j, hj, rfl⟩ := List.mem_iff_getElem.1 hq
            rw [nums_length]; exact HROWS.out j hj hj)
          have HQV := hid (show ∀ r ∈ qs, ∀ v ∈ r.z, 0 ≤ v ∧ v < 16 from fun r hr v hv => by
            have := (HALLR.out r.z (List.mem_map_of_mem hr)).1 v hv; have := HG.out.le; omega)
          have HQ0 := hid (show ∀ u : Nat, u < (nums rs).length → maskL (row (nums qs) (u : Int)) < 65536 ∧ ∀ i : Nat, (maskL (row (nums qs) (u : Int))).testBit i = decide ((i : Int) ∈ row (nums qs) (u : Int)) from fun u hu => by
            have hi := HALLR.out _ (row_mem_of (up := nums qs) (v := u) (by have := HLEN.out; omega))
            have h16' := HG.out.le
            exact ⟨maskL_lt _ 16 (fun v hv => by have := hi.1 v hv; omega), fun i => testBit_maskL _ i (fun v hv => (hi.1 v hv).1)⟩)
          go_wp2_with fail
          refine (bagMasks_any a' qs c' _ hq16 HQV.out RQ.out hm).mono ?_
          rintro e w2 ⟨v, rfl, hown, hb⟩
          replace RA := hid (RA.out.below hb (Nat.le_refl _))
          replace RQ := hid (RQ.out.below hb (Nat.le_refl _))
          replace RT := hid (RT.out.below hb (Nat.le_refl _))
          replace B0 := hid (bon B0.out hb)
          replace c0 := cellB hb c0 (Nat.le_refl _)
          clear hb
          obtain ⟨sa, sc, rfl, hsr, _, _, _, _⟩ := Own.rd (f := netF) hown
          have RS := hid hsr; clear hown hsr
          rw [nums_length]
          go_wp2_with fail
          go_wp2_with fail
          refine (netsOf_any a rs c _ HG.out RA.out hn).mono ?_
          rintro e w3 ⟨v, rfl, hown, hb⟩
          replace RA := hid (RA.out.below hb (Nat.le_refl _))
          replace RQ := hid (RQ.out.below hb (Nat.le_refl _))
          replace RS := hid (RS.out.below hb (Nat.le_refl _))
          replace RT := hid (RT.out.below hb (Nat.le_refl _))
          replace B0 := hid (bon B0.out hb)
          replace c0 := cellB hb c0 (Nat.le_refl _)
          clear hb
          obtain ⟨na, nc, rfl, hsr, _, _, _, _⟩ := Own.rd (f := netF) hown
          have RN := hid hsr; clear hown hsr
          rw [nums_length]
          obtain ⟨wn, rfl⟩ : ∃ wn, wn = w3 := ⟨_, rfl⟩
          go_wp2
          go_loopw [8, 9, 11, 41] (fun _ _ _ x wr => ∃ u : Nat, u ≤ rs.length ∧ x = .int .i64 u ∧ (∀ y : Nat, y < u → UpAt (nums rs) (nums qs) y) ∧ Below wn.heap.size wn wr) (fun _ _ _ x _ => rs.length - (intOf x).toNat)
          case atStart => exact ⟨0, Nat.zero_le _, rfl, fun y h => absurd h (Nat.not_lt_zero y), Below.refl _ _⟩
          case round =>
            obtain ⟨u, hu, rfl, hall, hd⟩ := hrel
            have HALL := hid hall; have BL := hid hd; clear hall
            replace RS := hid (RS.out.below hd (Nat.le_refl _))
            replace RN := hid (RN.out.below hd (Nat.le_refl _))
            replace RT := hid (RT.out.below hd (Nat.le_refl _))
            replace B0 := hid (bon B0.out hd)
            clear hd
            by_cases hlu : u < rs.length
            · have hui : (u : Int) < (rs.length : Int) := by omega
              have hui2 : (u : Int) < (qs.length : Int) := by have := HF.out; omega
              have hug : u < (nums rs).length := by rw [nums_length]; exact hlu
              have huq : u < (nums qs).length := by rw [nums_length]; have := HF.out; omega
              obtain ⟨nb, no, rfl, cn⟩ := RN.out u hug
              obtain ⟨sb, so, hsa, cs⟩ := RS.out u huq
              have hats := at_slice tVsets hsa qs.length sc u (by have := HF.out; omega)
              unfold netF at cn cs
              rw [← row_get1 u hug] at cn
              rw [← row_get1 u huq] at cs
              have hHl := (HQ0.out u hug).1
              have hHb := hid (HQ0.out u hug).2
              have hNl := row_mask_lt HG.out u hug
              have hNb := hid (fun i => row_mask_bit HG.out u i hug)
              have HME := hid (mems_maskL (HG.out.inc u hug) (by have := HG.out.le; omega))
              have HRNG := hid (fun v (hv : v ∈ row (nums rs) (u : Int)) => gok_range HG.out (u := (u : Int)) (by omega) (by omega) hv)
              have HBAD := hid (fun (h : ¬ UpAt (nums rs) (nums qs) u) => (show ¬ ImplUp (nums rs) (nums qs) from fun hh => h (hh.at' u hug)))
              have HSUB := hid (show dif (maskL (row (nums qs) (u : Int))) (maskL (row (nums rs) (u : Int))) = 0 ↔ ∀ v ∈ row (nums qs) (u : Int), v ∈ row (nums rs) (u : Int) by
                rw [dif_zero]
                constructor
                · intro h v hv
                  have h0 := (HALLR.out _ (row_mem_of (up := nums qs) (v := u) huq)).1 v hv
                  obtain ⟨n, rfl⟩ := Int.eq_ofNat_of_zero_le h0.1
                  have := h n (by rw [hHb.out]; simpa using hv)
                  rw [hNb.out] at this; simpa using this
                · intro h i hi
                  rw [hHb.out, decide_eq_true_iff] at hi
                  rw [hNb.out, decide_eq_true_iff]
                  exact h _ hi)
              generalize hH : maskL (row (nums qs) (u : Int)) = H at *
              generalize hN : maskL (row (nums rs) (u : Int)) = N at *
              clear hH hN
              generalize hrow : row (nums rs) (u : Int) = l at *
              have HROW := hid hrow; clear hrow
              have hdf := u32_dif H N (by omega) (by omega)
              by_cases h0 : dif H N = 0
              · have d0 : (((dif H N : Nat) : Int) != 0) = false := by rw [h0]; rfl
                have HS1 := hid (HSUB.out.1 h0)
                clear h0
                have HSA := hid hsa; clear hsa
                have csk := cs; clear cs
                go_wp2_with fail
                go_wp2_with fail
                refine (list_any N _ RT.out hNl).mono ?_
                rintro e w4 ⟨v, rfl, ho, hb⟩
                replace RS := hid (RS.out.below hb (Nat.le_refl _))
                replace RN := hid (RN.out.below hb (Nat.le_refl _))
                replace RT := hid (RT.out.below hb (Nat.le_refl _))
                replace B0 := hid (bon B0.out hb)
                replace BL := hid (bon BL.out hb)
                replace csk := cellB hb csk (Nat.le_refl _)
                clear hb
                rw [HME.out] at ho
                obtain ⟨la, lc, rfl, hlr, _⟩ := ho.rd
                have RL := hid hlr; clear hlr ho
                have hll : l.length ≤ 32 := by have := mems_len N; rwa [HME.out] at this
                go_wp2
                obtain ⟨wi, rfl⟩ : ∃ wi, wi = w4 := ⟨_, rfl⟩
                go_loopw [11, 56] (fun _ y wq => ∃ k : Nat, k ≤ l.length ∧ y = .int .i64 k ∧ (∀ i, (h : i < l.length) → i < k → ¬ (l[i] ∈ row (nums qs) (u : Int) ↔ (u : Int) ∈ row (nums qs) l[i])) ∧ Below wi.heap.size wi wq) (fun _ y _ => l.length - (intOf y).toNat)
                case atStart => exact ⟨0, Nat.zero_le _, rfl, fun _ _ h => absurd h (Nat.not_lt_zero _), Below.refl _ _⟩
                case round =>
                  obtain ⟨k, hk, rfl, hno, hd⟩ := hrel
                  have HNO := hid hno; have BK := hid hd; clear hno
                  replace RS := hid (RS.out.below hd (Nat.le_refl _))
                  replace RN := hid (RN.out.below hd (Nat.le_refl _))
                  replace RT := hid (RT.out.below hd (Nat.le_refl _))
                  replace RL := hid (RL.out.below hd (Nat.le_refl _))
                  replace B0 := hid (bon B0.out hd)
                  replace BL := hid (bon BL.out hd)
                  replace csk := cellB hd csk (Nat.le_refl _)
                  clear hd
                  by_cases hlk : k < l.length
                  · obtain ⟨lb, lo, rfl, cl⟩ := RL.out k hlk
                    have hv0 := HRNG.out _ (List.getElem_mem hlk)
                    have hki : (k : Int) < (l.length : Int) := by omega
                    have HSTEP := hid (fun (h1 : ¬ (l[k] ∈ row (nums qs) (u : Int) ↔ (u : Int) ∈ row (nums qs) l[k])) => (show ∀ i, (h : i < l.length) → i < k + 1 → ¬ (l[i] ∈ row (nums qs) (u : Int) ↔ (u : Int) ∈ row (nums qs) l[i]) from fun i hi hik => by
                      rcases Nat.lt_succ_iff_lt_or_eq.1 hik with h3 | rfl
                      · exact HNO.out i hi h3
                      · exact h1))
                    have HYES := hid (fun (h1 : l[k] ∈ row (nums qs) (u : Int) ↔ (u : Int) ∈ row (nums qs) l[k]) => (show ¬ ImplUp (nums rs) (nums qs) from HBAD.out fun hh => hh.2 l[k] (by rw [HROW.out]; exact List.getElem_mem hlk) h1))
                    generalize l[k] = v at *
                    obtain ⟨n, rfl⟩ := Int.eq_ofNat_of_zero_le hv0.1
                    have hng : n < (nums rs).length := by omega
                    have hnq : n < (nums qs).length := by have := HLEN.out; omega
                    rw [nums_length] at hv0
                    have hni : (n : Int) < (qs.length : Int) := by have := HF.out; omega
                    obtain ⟨sb2, so2, hsa2, cs2⟩ := RS.out n hnq
                    have hats2 := at_slice tVsets hsa2 qs.length sc n (by have := HF.out; omega)
                    unfold netF at cs2
                    rw [← row_get1 n hnq] at cs2
                    have HSA2 := hid hsa2; clear hsa2
                    have hKl := (HQ0.out n hng).1
                    have hKb := (HQ0.out n hng).2 u
                    have hHn := hHb.out n
                    generalize maskL (row (nums qs) (n : Int)) = K at *
                    obtain ⟨b1, hb1⟩ : ∃ b1, H.testBit n = b1 := ⟨_, rfl⟩
                    obtain ⟨b2, hb2⟩ : ∃ b2, K.testBit u = b2 := ⟨_, rfl⟩
                    rw [hb1] at hHn; rw [hb2] at hKb
                    have H1 := hid hb1; have H2 := hid hb2; clear hb1 hb2
                    have HEQ := hid (show ((n : Int) ∈ row (nums qs) (u : Int) ↔ (u : Int) ∈ row (nums qs) (n : Int)) ↔ b1 = b2 by
                      rw [hHn, hKb, decide_eq_decide])
                    clear hHn hKb hv0
                    have ccl := cl; have ccs2 := cs2; clear cl cs2
                    by_cases hbb : b1 = b2
                    · have dbe : (b1 == b2) = true := by simpa using hbb
                      have dbd : decide (b1 = b2) = true := by simpa using hbb
                      have HFIN := hid (HYES.out (HEQ.out.2 hbb))
                      clear hbb
                      go_wp2
                      have qcsk := fun (p : Bel _) => cellB p.h csk (Nat.le_refl _)
                      have qccl := fun (p : Bel _) => cellB p.h ccl (Nat.le_refl _)
                      have qccs2 := fun (p : Bel _) => cellB p.h ccs2 (Nat.le_refl _)
                      refine wp_quiet_b (by kernel_rfl) (by kernel_rfl) ?_
                      repeat (go_big_quiet_step (first | (go_at_call_of 94 n; exact qbs (has_b _ _ _ _ H1.out (by omega) (by omega))) | (go_at_call_of 94 u; exact qbs (has_b _ _ _ _ H2.out (by omega) (by omega)))))
                      refine wpQuiet_nil ?_
                      intro _ hw'
                      obtain ⟨⟨w5, hb⟩, rfl⟩ := hw'
                      clear qcsk qccl qccs2
                      replace RS := hid (RS.out.below hb (Nat.le_refl _))
                      replace RN := hid (RN.out.below hb (Nat.le_refl _))
                      replace RT := hid (RT.out.below hb (Nat.le_refl _))
                      replace RL := hid (RL.out.below hb (Nat.le_refl _))
                      replace B0 := hid (bon B0.out hb)
                      replace BL := hid (bon BL.out hb)
                      replace BK := hid (bon BK.out hb)
                      replace csk := cellB hb csk (Nat.le_refl _)
                      replace ccl := cellB hb ccl (Nat.le_refl _)
                      replace ccs2 := cellB hb ccs2 (Nat.le_refl _)
                      clear hb
                      go_wp2
                      go_ret
                      exact ⟨ret_bool (dec_f HB.out HFIN.out), B0.out⟩
                    · have dbe : (b1 == b2) = false := by simpa using hbb
                      have dbd : decide (b1 = b2) = false := by simpa using hbb
                      have HFIN := hid (HSTEP.out fun h => hbb (HEQ.out.1 h))
                      clear hbb
                      go_wp2
                      have qcsk := fun (p : Bel _) => cellB p.h csk (Nat.le_refl _)
                      have qccl := fun (p : Bel _) => cellB p.h ccl (Nat.le_refl _)
                      have qccs2 := fun (p : Bel _) => cellB p.h ccs2 (Nat.le_refl _)
                      refine wp_quiet_b (by kernel_rfl) (by kernel_rfl) ?_
                      repeat (go_big_quiet_step (first | (go_at_call_of 94 n; exact qbs (has_b _ _ _ _ H1.out (by omega) (by omega))) | (go_at_call_of 94 u; exact qbs (has_b _ _ _ _ H2.out (by omega) (by omega)))))
                      refine wpQuiet_nil ?_
                      intro _ hw'
                      obtain ⟨⟨w6, hb⟩, rfl⟩ := hw'
                      clear qcsk qccl qccs2
                      replace RS := hid (RS.out.below hb (Nat.le_refl _))
                      replace RN := hid (RN.out.below hb (Nat.le_refl _))
                      replace RT := hid (RT.out.below hb (Nat.le_refl _))
                      replace RL := hid (RL.out.below hb (Nat.le_refl _))
                      replace B0 := hid (bon B0.out hb)
                      replace BL := hid (bon BL.out hb)
                      replace BK := hid (bon BK.out hb)
                      replace csk := cellB hb csk (Nat.le_refl _)
                      replace ccl := cellB hb ccl (Nat.le_refl _)
                      replace ccs2 := cellB hb ccs2 (Nat.le_refl _)
                      clear hb
                      go_wp2
                      go_roundw
                      case rel => exact ⟨k + 1, by omega, by go_num, HFIN.out, BK.out⟩
                      case measure => simp [intOf]; omega
                  · obtain rfl : k = l.length := by omega
                    have HFIN := hid (show ∀ y : Nat, y < u + 1 → UpAt (nums rs) (nums qs) y from fun y hy => by
                      rcases Nat.lt_succ_iff_lt_or_eq.1 hy with h4 | rfl
                      · exact HALL.out y h4
                      · refine ⟨by rw [HROW.out]; exact HS1.out, fun v hv => ?_⟩
                        rw [HROW.out] at hv
                        obtain ⟨i, hi, rfl⟩ := List.mem_iff_getElem.1 hv
                        exact HNO.out i hi hi)
                    go_wp2
                    go_roundw
                    case rel => exact ⟨u + 1, by omega, by go_num, HFIN.out, BL.out⟩
                    case measure => simp [intOf]; omega
              · have d0 : (((dif H N : Nat) : Int) != 0) = true := by simp; omega
                have HFIN := hid (HBAD.out fun hh => h0 (HSUB.out.2 (by rw [← HROW.out]; exact hh.1)))
                clear h0
                have HSA := hid hsa; clear hsa
                go_wp2
                go_ret
                exact ⟨ret_bool (dec_f HB.out HFIN.out), B0.out⟩
            · obtain rfl : u = rs.length := by omega
              have HFIN := hid (show ImplUp (nums rs) (nums qs) from ⟨HG.out, HLEN.out, HALLR.out, fun u hu => HALL.out u (by rwa [nums_length] at hu)⟩)
              go_wp2
              go_ret
              exact ⟨ret_bool (dec_t HB.out HFIN.out), B0.out⟩
    · have hd : ((qs.length : Int) != (rs.length : Int)) = true := by simp; omega
      have hdn : (qs.length != rs.length) = true := by simpa using hf
      have HFIN := hid (show ¬ ImplUp (nums rs) (nums qs) from fun h => hf (by have := h.len; rwa [nums_length, nums_length] at this))
      clear hf
      go_enter Tryd.func75, Tryd.ntmps75
      go_wp2_with fail
      rw [← HW.out]
      go_wp2_with fail
      refine (implGraphOk_b a rs c _ true h1.out RA.out hn).mono ?_
      rintro e w7 ⟨rfl, hb⟩
      replace RA := hid (RA.out.below hb (Nat.le_refl _))
      replace RQ := hid (RQ.out.below hb (Nat.le_refl _))
      replace RT := hid (RT.out.below hb (Nat.le_refl _))
      replace B0 := hid (bon B0.out hb)
      replace c0 := cellB hb c0 (Nat.le_refl _)
      clear hb
      go_wp2
      go_ret
      exact ⟨ret_bool (dec_f HB.out HFIN.out), B0.out⟩
  · have h1 := hid (show decide (GOk (nums rs)) = false by simpa using hg)
    have HFIN := hid (show ¬ ImplUp (nums rs) (nums qs) from fun h => hg h.ok)
    clear hg
    go_enter Tryd.func75, Tryd.ntmps75
    go_wp2_with fail
    rw [← HW.out]
    go_wp2_with fail
    refine (implGraphOk_b a rs c _ false h1.out RA.out hn).mono ?_
    rintro e w8 ⟨rfl, hb⟩
    replace RA := hid (RA.out.below hb (Nat.le_refl _))
    replace RQ := hid (RQ.out.below hb (Nat.le_refl _))
    replace RT := hid (RT.out.below hb (Nat.le_refl _))
    replace B0 := hid (bon B0.out hb)
    replace c0 := cellB hb c0 (Nat.le_refl _)
    clear hb
    go_wp2
    go_ret
    exact ⟨ret_bool (dec_f HB.out HFIN.out), B0.out⟩
end
section
end
section
/-- What comes behind comes behind all. -/
def OverP (up : List (List Int)) : Prop := ∀ v : Nat, v < up.length → ∀ b ∈ row up (v : Int), ∀ c ∈ row up b, c ∈ row up (v : Int)
noncomputable instance (up : List (List Int)) : Decidable (OverP up) := Classical.propDecidable _
end
section
set_option maxHeartbeats 8000000 in
theorem isTransitive_b (a : Option Addr) (up : List (List Int)) (c : Nat) (w : World) (b : Bool) (hb : decide (OverP up) = b) (hT : TabOk w) (hr : Rd netF w a up) (hn : up.length ≤ 16) (hin : ∀ l ∈ up, Inc up.length l) :
    Calls Tryd.prog 76 #[.slice a up.length c] w fun e w' => e = .returned (.bool b) ∧ Below w.heap.size w w' := by
  have RA := hid hr; have HB := hid hb; have RT := hid hT; clear hr hb hT
  have B0 := hid (Below.refl w.heap.size w)
  have HQ := hid (show ∀ u : Nat, u < up.length → Inc up.length (row up (u : Int)) from fun u hu => hin _ (row_mem_of hu))
  have HM := hid (show ∀ u : Nat, u < up.length → maskL (row up (u : Int)) < 65536 ∧ ∀ i : Nat, (maskL (row up (u : Int))).testBit i = decide ((i : Int) ∈ row up (u : Int)) from fun u hu => by
    have hi := HQ.out u hu
    exact ⟨maskL_lt _ 16 (fun v hv => by have := hi.1 v hv; omega), fun i => testBit_maskL _ i (fun v hv => (hi.1 v hv).1)⟩)
  clear hin
  go_enter Tryd.func76, Tryd.ntmps76
  go_wp2
  go_loopw [4, 6, 9] (fun _ _ x wr => ∃ v : Nat, v ≤ up.length ∧ x = .int .i64 v ∧ (∀ y : Nat, y < v → ∀ b ∈ row up (y : Int), ∀ c ∈ row up b, c ∈ row up (y : Int)) ∧ Below w.heap.size w wr) (fun _ _ x _ => up.length - (intOf x).toNat)
  case atStart => exact ⟨0, Nat.zero_le _, rfl, fun y h => absurd h (Nat.not_lt_zero y), B0.out⟩
  case round =>
    obtain ⟨v, hv, rfl, hall, hd⟩ := hrel
    have HALL := hid hall; clear hall
    replace RA := hid (RA.out.below hd (Nat.le_refl _))
    replace RT := hid (RT.out.below hd (Nat.le_refl _))
    replace B0 := hid (bon B0.out hd)
    clear hd
    by_cases hlt : v < up.length
    · have hvi : (v : Int) < (up.length : Int) := by omega
      obtain ⟨ab, ao, haa, cv⟩ := RA.out v hlt
      have hatv := at_slice tVsets haa up.length c v hlt
      unfold netF at cv
      rw [← row_get1 v hlt] at cv
      have hinc := HQ.out v hlt
      have hSl := (HM.out v hlt).1
      have HSb := hid (HM.out v hlt).2
      have HME := hid (mems_maskL hinc (by omega))
      have HIN := hid hinc.1; clear hinc
      have HAA := hid haa; clear haa
      have HBAD := hid (fun (h1 : ¬ ∀ b ∈ row up (v : Int), ∀ c ∈ row up b, c ∈ row up (v : Int)) => (show ¬ OverP up from fun hh => h1 (hh v hlt)))
      generalize hS : maskL (row up (v : Int)) = S at *
      clear hS
      generalize hrow : row up (v : Int) = l at *
      have HROW := hid hrow; clear hrow
      go_wp2_with fail
      go_wp2_with fail
      refine (list_any S _ RT.out hSl).mono ?_
      rintro e w1 ⟨v', rfl, ho, hb⟩
      replace RA := hid (RA.out.below hb (Nat.le_refl _))
      replace RT := hid (RT.out.below hb (Nat.le_refl _))
      replace B0 := hid (bon B0.out hb)
      replace cv := cellB hb cv (Nat.le_refl _)
      clear hb
      rw [HME.out] at ho
      obtain ⟨la, lc, rfl, hlr, _⟩ := ho.rd
      have RL := hid hlr; clear hlr ho
      have hll : l.length ≤ 32 := by have := mems_len S; rwa [HME.out] at this
      go_wp2
      obtain ⟨wi, rfl⟩ : ∃ wi, wi = w1 := ⟨_, rfl⟩
      go_loop [6, 16] (fun _ x => ∃ i : Nat, i ≤ l.length ∧ x = .int .i64 i ∧ (∀ j, (h : j < l.length) → j < i → ∀ c ∈ row up l[j], c ∈ l)) (fun _ x => l.length - (intOf x).toNat)
      case atStart => exact ⟨0, Nat.zero_le _, rfl, fun _ _ h => absurd h (Nat.not_lt_zero _)⟩
      case round =>
        obtain ⟨i, hi, rfl, hin2⟩ := hrel
        have HIN2 := hid hin2; clear hin2
        by_cases hli : i < l.length
        · have hii : (i : Int) < (l.length : Int) := by omega
          obtain ⟨lb, lo, rfl, ci⟩ := RL.out i hli
          have hbr := HIN.out _ (List.getElem_mem hli)
          have HSTI := hid (fun (h1 : ∀ c ∈ row up l[i], c ∈ l) => (show ∀ j, (h : j < l.length) → j < i + 1 → ∀ c ∈ row up l[j], c ∈ l from fun j hj hji => by
            rcases Nat.lt_succ_iff_lt_or_eq.1 hji with h3 | rfl
            · exact HIN2.out j hj h3
            · exact h1))
          have HB2 := hid (fun (h1 : ¬ ∀ c ∈ row up l[i], c ∈ l) => HBAD.out fun hh => h1 (hh _ (List.getElem_mem hli)))
          generalize l[i] = bb at *
          obtain ⟨n, rfl⟩ := Int.eq_ofNat_of_zero_le hbr.1
          have hnq : n < up.length := by omega
          have hni : (n : Int) < (up.length : Int) := by omega
          obtain ⟨ab2, ao2, haa2, cn⟩ := RA.out n hnq
          have hatn := at_slice tVsets haa2 up.length c n hnq
          have HAA2 := hid haa2; clear haa2
          unfold netF at cn
          rw [← row_get1 n hnq] at cn
          have hKl := (HM.out n hnq).1
          have HKb := hid (HM.out n hnq).2
          have hKi := HQ.out n hnq
          have HSUB := hid (show dif (maskL (row up (n : Int))) S = 0 ↔ ∀ c ∈ row up (n : Int), c ∈ l by
            rw [dif_zero]
            constructor
            · intro h x hx
              have h0 := hKi.1 x hx
              obtain ⟨m, rfl⟩ := Int.eq_ofNat_of_zero_le h0.1
              have := h m (by rw [HKb.out]; simpa using hx)
              rw [HSb.out] at this; simpa using this
            · intro h m hm
              rw [HKb.out, decide_eq_true_iff] at hm
              rw [HSb.out, decide_eq_true_iff]
              exact h _ hm)
          clear hKi
          generalize maskL (row up (n : Int)) = K at *
          have hdf := u32_dif K S (by omega) (by omega)
          by_cases h0 : dif K S = 0
          · have d0 : (((dif K S : Nat) : Int) != 0) = false := by rw [h0]; rfl
            have HFIN := hid (HSTI.out (HSUB.out.1 h0))
            clear h0
            go_wp2
            go_round
            case rel => exact ⟨i + 1, by omega, by go_num, HFIN.out⟩
            case measure => simp [intOf]; omega
          · have d0 : (((dif K S : Nat) : Int) != 0) = true := by simp; omega
            have HFIN := hid (HB2.out fun h => h0 (HSUB.out.2 h))
            clear h0
            go_wp2
            go_ret
            exact ⟨ret_bool (dec_f HB.out HFIN.out), B0.out⟩
        · obtain rfl : i = l.length := by omega
          have HFIN := hid (show ∀ y : Nat, y < v + 1 → ∀ b ∈ row up (y : Int), ∀ c ∈ row up b, c ∈ row up (y : Int) from fun y hy => by
            rcases Nat.lt_succ_iff_lt_or_eq.1 hy with h4 | rfl
            · exact HALL.out y h4
            · rw [HROW.out]
              intro b hb
              obtain ⟨j, hj, rfl⟩ := List.mem_iff_getElem.1 hb
              exact HIN2.out j hj hj)
          go_wp2
          go_roundw
          case rel => exact ⟨v + 1, by omega, by go_num, HFIN.out, B0.out⟩
          case measure => simp [intOf]; omega
    · obtain rfl : v = up.length := by omega
      have HFIN := hid (show OverP up from fun v hv => HALL.out v hv)
      go_wp2
      go_ret
      exact ⟨ret_bool (dec_t HB.out HFIN.out), B0.out⟩
def TransP (g up : List (List Int)) : Prop := SpecUp g up ∧ OverP up
noncomputable instance (g up : List (List Int)) : Decidable (TransP g up) := Classical.propDecidable _
set_option maxHeartbeats 4000000 in
theorem implTransitiveIn_b (a : Option Addr) (rs : List Row) (c : Nat) (a' : Option Addr) (qs : List Row) (c' : Nat) (w : World) (b : Bool) (hb : decide (TransP (nums rs) (nums qs)) = b) (hr : RdM w a rs) (hn : Small rs) (hq : RdM w a' qs) (hm : Small qs) (hT : TabOk w) :
    Calls Tryd.prog 35 #[.agg #[.slice a rs.length c], .slice a' qs.length c'] w fun e w' => e = .returned (.bool b) ∧ Below w.heap.size w w' := by
  have RA := hid hr; have RQ := hid hq; have HB := hid hb; have RT := hid hT; clear hr hq hb hT
  obtain ⟨w0, hw0⟩ : ∃ w0, w0 = (w.alloc (.cells #[.slice a rs.length c] 29)) := ⟨_, rfl⟩
  have B0 := hid (show Below w.heap.size w w0 by rw [hw0]; exact ((Below.refl _ _).alloc (Nat.le_refl _) _))
  have c0 : w0.cell? ⟨w.heap.size, 0, none⟩ = some (.slice a rs.length c) := by rw [hw0]; simp [go_sem]
  replace RA := hid (RA.out.below B0.out (Nat.le_refl _))
  replace RQ := hid (RQ.out.below B0.out (Nat.le_refl _))
  replace RT := hid (RT.out.below B0.out (Nat.le_refl _))
  have HW := hid hw0; clear hw0
  by_cases hu : SpecUp (nums rs) (nums qs)
  · have h1 := hid (show decide (SpecUp (nums rs) (nums qs)) = true by simpa using hu)
    have h2 := hid (show decide (OverP (nums qs)) = b by rw [← HB.out]; unfold TransP; simp [hu])
    have hi := up_iff.1 hu
    have hl16 : (nums qs).length ≤ 16 := by rw [hi.len]; exact hi.ok.le
    have hq16 : qs.length ≤ 16 := by rwa [nums_length] at hl16
    have HI := hid (show ∀ l ∈ nums qs, Inc (nums qs).length l from fun l hl => by
      have := hi.inc l hl
      rwa [← hi.len] at this)
    have HQV := hid (show ∀ r ∈ qs, ∀ v ∈ r.z, 0 ≤ v ∧ v < 16 from fun r hr v hv => by
      have := (HI.out r.z (List.mem_map_of_mem hr)).1 v hv; omega)
    clear hu hi
    go_enter Tryd.func35, Tryd.ntmps35
    go_wp2_with fail
    rw [← HW.out]
    go_wp2_with fail
    refine (implUpOk_b a rs c a' qs c' _ _ h1.out RA.out hn RQ.out hm RT.out).mono ?_
    rintro e w1 ⟨rfl, hb⟩
    replace RA := hid (RA.out.below hb (Nat.le_refl _))
    replace RQ := hid (RQ.out.below hb (Nat.le_refl _))
    replace RT := hid (RT.out.below hb (Nat.le_refl _))
    replace B0 := hid (bon B0.out hb)
    replace c0 := cellB hb c0 (Nat.le_refl _)
    clear hb
    go_wp2_with fail
    refine (bagMasks_any a' qs c' _ hq16 HQV.out RQ.out hm).mono ?_
    rintro e w2 ⟨v, rfl, hown, hb⟩
    replace RA := hid (RA.out.below hb (Nat.le_refl _))
    replace RQ := hid (RQ.out.below hb (Nat.le_refl _))
    replace RT := hid (RT.out.below hb (Nat.le_refl _))
    replace B0 := hid (bon B0.out hb)
    replace c0 := cellB hb c0 (Nat.le_refl _)
    clear hb
    obtain ⟨sa, sc, rfl, hsr, _, _, _, _⟩ := Own.rd (f := netF) hown
    have RS := hid hsr; clear hown hsr
    go_wp2_with fail
    refine (isTransitive_b sa (nums qs) sc _ _ h2.out RT.out RS.out hl16 HI.out).mono ?_
    rintro e w3 ⟨rfl, hb⟩
    replace RA := hid (RA.out.below hb (Nat.le_refl _))
    replace RQ := hid (RQ.out.below hb (Nat.le_refl _))
    replace RT := hid (RT.out.below hb (Nat.le_refl _))
    replace RS := hid (RS.out.below hb (Nat.le_refl _))
    replace B0 := hid (bon B0.out hb)
    replace c0 := cellB hb c0 (Nat.le_refl _)
    clear hb
    go_wp2
    go_ret
    exact ⟨rfl, B0.out⟩
  · have h1 := hid (show decide (SpecUp (nums rs) (nums qs)) = false by simpa using hu)
    have HFIN := hid (show ¬ TransP (nums rs) (nums qs) from fun h => hu h.1)
    clear hu
    go_enter Tryd.func35, Tryd.ntmps35
    go_wp2_with fail
    rw [← HW.out]
    go_wp2_with fail
    refine (implUpOk_b a rs c a' qs c' _ _ h1.out RA.out hn RQ.out hm RT.out).mono ?_
    rintro e w4 ⟨rfl, hb⟩
    replace RA := hid (RA.out.below hb (Nat.le_refl _))
    replace RQ := hid (RQ.out.below hb (Nat.le_refl _))
    replace RT := hid (RT.out.below hb (Nat.le_refl _))
    replace B0 := hid (bon B0.out hb)
    replace c0 := cellB hb c0 (Nat.le_refl _)
    clear hb
    go_wp2
    go_ret
    exact ⟨ret_bool (dec_f HB.out HFIN.out), B0.out⟩
end
end Go.Proofs.YtdncmloajajiaaaDoor
