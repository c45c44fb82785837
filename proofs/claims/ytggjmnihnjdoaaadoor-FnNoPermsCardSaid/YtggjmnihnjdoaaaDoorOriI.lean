/- Orientations: the program's. -/
import Derived.Test.YtggjmnihnjdoaaaDoorFbI
import Derived.Test.YtggjmnihnjdoaaaDoorForM
import Derived.Deep.Cut
import Derived.Deep.OwnRows
import Derived.Deep.RegionHeld3
namespace Go.Proofs.YtggjmnihnjdoaaaDoor
open Go.RowKit
section
theorem eql_nilN (a : Option Addr) (l c : Nat) (w : World) : (binOp .eql 74 (.slice a l c) (.slice none 0 0)).run Tryd.prog w = .ok (.bool a.isNone) w := by
  simp only [binOp]
  simp [run_equal_slice_nil w 74 89 a l c Tryd.underlying74]
set_option maxHeartbeats 2000000 in
theorem clone_any (b o c : Nat) (A : List Nat) (w : World) (h0 : 0 < A.length) (h16 : A.length ≤ 16) (hr : Rd maskF w (some ⟨b, o, none⟩) A) :
    Calls Tryd.prog 130 #[.slice (some ⟨b, o, none⟩) A.length c] w fun e w' => ∃ g cap, e = .returned (.slice (some ⟨g, 0, none⟩) A.length cap) ∧ Own 89 w' w.heap.size (.slice (some ⟨g, 0, none⟩) A.length cap) (A.map maskF) ∧ Below w.heap.size w w' := by
  have hen := eql_nilN (some ⟨b, o, none⟩) A.length c w
  have B0 := hid (alloc_below w (.cells #[] 89))
  have HO := hid (show Own 89 (w.alloc (.cells #[] 89)) w.heap.size (.slice (some ⟨w.heap.size, 0, none⟩) 0 0) [] from own_new 89 w [] (by decide))
  have RA1 := hid (hr.below B0.out (Nat.le_refl _))
  go_enter Tryd.func130, Tryd.ntmps130
  go_wp2_with (at_builtin; refine law_append tNets _ rfl _ _ rfl maskF w.heap.size _ [] rfl HO.out (some ⟨b, o, none⟩) c A rfl RA1.out (fun h => by cases h) ?c0 ?c1 ?c2 ?_)
  case c0 => intro y _; rfl
  case c1 => simp; omega
  case c2 => simp
  intro gv wa h1 h2
  have B1 := hid (B0.out.trans (grown_below h2 B0.out.size (fun g hg => HO.out.ge g hg)))
  obtain ⟨gb, cap, hgv⟩ : ∃ gb cap, gv = .slice (some ⟨gb, 0, none⟩) A.length cap := by
    rcases h1.form with ⟨_, h2⟩ | ⟨g, cap, spare, h2, _⟩
    · have h3 := congrArg List.length h2
      simp at h3
      rw [h3] at h0
      exact absurd h0 (by decide)
    · exact ⟨g, cap, by rw [h2]; simp⟩
  subst hgv
  have O1 := hid (show Own 89 wa w.heap.size (.slice (some ⟨gb, 0, none⟩) A.length cap) (A.map maskF) by simpa using h1)
  clear h1 h2 hen
  go_wp2
  go_ret
  exact ⟨gb, cap, rfl, O1.out, B1.out⟩
theorem clone_n (b o c n : Nat) (A : List Nat) (w : World) (hl : A.length = n) (h0 : 0 < n) (h16 : n ≤ 16) (hr : Rd maskF w (some ⟨b, o, none⟩) A) :
    Calls Tryd.prog 130 #[.slice (some ⟨b, o, none⟩) n c] w fun e w' => ∃ g cap, e = .returned (.slice (some ⟨g, 0, none⟩) n cap) ∧ Own 89 w' w.heap.size (.slice (some ⟨g, 0, none⟩) n cap) (A.map maskF) ∧ Below w.heap.size w w' := by
  subst hl
  exact clone_any b o c A w h0 h16 hr
set_option maxRecDepth 100000 in
set_option maxHeartbeats 4000000 in
theorem part_any (B gb n cap : Nat) (A : List Nat) (u v : Nat) (w : World) (hl : A.length = n) (hn : n ≤ 16) (hlt : ∀ x, A.getD x 0 < 65536) (hu : u < n) (hv : v < n) (ho : Own 89 w B (.slice (some ⟨gb, 0, none⟩) n cap) (A.map maskF)) :
    Calls Tryd.prog 131 #[.slice (some ⟨gb, 0, none⟩) n cap, .int .i64 u, .int .i64 v] w fun e w' => e = .returned (.tuple #[]) ∧ Own 89 w' B (.slice (some ⟨gb, 0, none⟩) n cap) ((partA A u v).map maskF) ∧ Kept (fun g => g = gb) w w' := by
  have OA := hid ho
  have HL := hid hl
  have hvl : v < A.length := by omega
  have hul : u < A.length := by omega
  have c0 := ho.cell u (by rw [List.length_map]; exact hul)
  rw [List.getElem_map, ← getD_in hul] at c0
  have hfr := ho.free u
  have HLT := hid hlt
  have hxu := hlt u
  have hpv : 2 ^ v < 65536 := Nat.pow_lt_pow_right (by decide) (show v < 16 by omega)
  have hpu : 2 ^ u < 65536 := Nat.pow_lt_pow_right (by decide) (show u < 16 by omega)
  have hdf := u32_dif (A.getD u 0) (2 ^ v) (by omega) (by omega)
  have HPA := hid (show partA A u v = (A.set u (dif (A.getD u 0) (2 ^ v))).set v (dif ((A.set u (dif (A.getD u 0) (2 ^ v))).getD v 0) (2 ^ u)) from rfl)
  have HX2 := hid (show (A.set u (dif (A.getD u 0) (2 ^ v))).getD v 0 < 65536 from by
    rw [setN_getD hul]
    split
    · exact Nat.lt_of_le_of_lt (dif_le _ _) hxu
    · exact hlt v)
  have hl2 : (A.set u (dif (A.getD u 0) (2 ^ v))).length = A.length := by rw [List.length_set]
  have HL2 := hid hl2
  clear hlt hl2 ho hl
  generalize hXe : A.getD u 0 = X at *
  generalize hPV : 2 ^ v = PV at *
  generalize hPU : 2 ^ u = PU at *
  generalize hDe : dif X PV = D at *
  have HDE := hid hDe
  have hui : (u : Int) < (n : Int) := by omega
  have hvi : (v : Int) < (n : Int) := by omega
  have B0 := hid (Below.refl w.heap.size w)
  unfold maskF at c0
  clear hXe hDe hvl
  have HUL := hid hul
  clear hul
  go_enter Tryd.func131, Tryd.ntmps131
  go_wp2
  have qc0 := fun (p : Bel _) => cellB p.h c0 (Nat.le_refl _)
  refine wp_quiet_tail_b 8 (by kernel_rfl) (by kernel_rfl) ?_
  simp only [List.take_succ_cons, List.take_zero, List.drop_succ_cons, List.drop_zero]
  repeat (go_big_quiet_step (first | (go_at_call 100; exact qbs (one_p v PV _ (by omega) hPV))))
  refine wpQuiet_nil ?_
  intro _ hw'
  obtain ⟨⟨w1, hb⟩, rfl⟩ := hw'
  clear qc0
  replace OA := hid (OA.out.past hb (Nat.le_refl _))
  replace B0 := hid (bon B0.out hb)
  replace c0 := cellB hb c0 (Nat.le_refl _)
  clear hb
  rename_i wt
  have hst := OA.out.store u (by rw [List.length_map]; exact HUL.out) (maskF D)
  rw [← List.map_set] at hst
  have hfr2 := OA.out.free u
  have hfr3 := OA.out.free v
  have K2 := hid (Kept.setCell (S := fun g => g = gb) (Kept.of_below _ B0.out) (p := ⟨gb, u, none⟩) rfl (maskF D))
  have OA2 := hid (show Own 89 (wt.setCell ⟨gb, u, none⟩ (.int .u32 (D : Nat))) B (.slice (some ⟨gb, 0, none⟩) n cap) ((A.set u D).map maskF) from hst)
  unfold maskF at K2
  clear hst OA B0 hfr
  go_wp2
  clear hfr2 c0
  have c1 := OA2.out.cell v (by rw [List.length_map, List.length_set]; have := HL.out; omega)
  rw [List.getElem_map, ← getD_in (by rw [List.length_set]; have := HL.out; omega)] at c1
  have hfr4 := OA2.out.free v
  have hx2 := HX2.out
  have hdf2 := u32_dif ((A.set u D).getD v 0) PU (by omega) (by omega)
  have HP2 := hid (show partA A u v = (A.set u D).set v (dif ((A.set u D).getD v 0) PU) from HPA.out)
  generalize hX2 : (A.set u D).getD v 0 = X2 at *
  generalize hD2 : dif X2 PU = D2 at *
  unfold maskF at c1
  generalize wt.setCell ⟨gb, u, none⟩ (.int .u32 (D : Nat)) = wu at *
  have B1 := hid (Below.refl wu.heap.size wu)
  clear hX2 hD2 HX2 hdf
  have qc1 := fun (p : Bel _) => cellB p.h c1 (Nat.le_refl _)
  refine wp_quiet_tail_b 8 (by kernel_rfl) (by kernel_rfl) ?_
  simp only [List.take_succ_cons, List.take_zero, List.drop_succ_cons, List.drop_zero]
  repeat (go_big_quiet_step (first | (go_at_call 100; exact qbs (one_p u PU _ (by omega) hPU))))
  refine wpQuiet_nil ?_
  intro _ hw'
  obtain ⟨⟨w2, hb⟩, rfl⟩ := hw'
  clear qc1
  replace OA2 := hid (OA2.out.past hb (Nat.le_refl _))
  replace B1 := hid (bon B1.out hb)
  replace c1 := cellB hb c1 (Nat.le_refl _)
  clear hb
  rename_i wz
  have hst := OA2.out.store v (by rw [List.length_map, List.length_set]; have := HL.out; omega) (maskF D2)
  rw [← List.map_set] at hst
  have hfr5 := OA2.out.free v
  have K3 := hid (Kept.setCell (S := fun g => g = gb) (K2.out.trans (Kept.of_below _ B1.out)) (p := ⟨gb, v, none⟩) rfl (maskF D2))
  have OA3 := hid hst
  unfold maskF at K3
  clear hst OA2 B1 hfr4
  go_wp2
  refine bodyPost_end (results_none rfl _ _ _) rfl ?_
  exact ⟨rfl, by rw [HP2.out]; exact OA3.out, K3.out⟩
theorem kept_grown {w w' : World} {g : Nat} (h : Kept (fun k => k = g) w w') : w.grownBy w' (some g) := ⟨h.os, h.tape, h.output, h.size, fun k hk hne => h.block k hk (fun e => hne (by rw [e]))⟩
def OriPost (n : Nat) (A0 : List Nat) (w : World) (e : Ending) (w' : World) : Prop :=
  Below w.heap.size w w' ∧ ((∃ H g cap, oriN n A0 = some H ∧ e = .returned (.slice (some ⟨g, 0, none⟩) n cap) ∧ Own 89 w' w.heap.size (.slice (some ⟨g, 0, none⟩) n cap) (H.map maskF)) ∨ (oriN n A0 = none ∧ e = .returned (.slice none 0 0)))
def OriStart (n : Nat) (A0 : List Nat) (w : World) (l h : Value) (wc : World) : Prop :=
  ∃ lg lc hg, l = .slice (some ⟨lg, 0, none⟩) n lc ∧ h = .slice (some ⟨hg, 0, none⟩) n n ∧ lg ≠ hg ∧ Own 89 wc w.heap.size (.slice (some ⟨lg, 0, none⟩) n lc) (A0.map maskF) ∧ Own 89 wc w.heap.size (.slice (some ⟨hg, 0, none⟩) n n) ((List.replicate n 0).map maskF) ∧ Below w.heap.size w wc
theorem own_repO (e : TypeId) (W : World) (B g n : Nat) (hg : B ≤ g) (h : W.heap[g]? = some (.cells (madeCells #[.int .u32 0] n) e (0, 0))) (hn : n ≤ 16) : Own e W B (.slice (some ⟨g, 0, none⟩) n n) ((List.replicate n 0).map maskF) := by
  have h1 := Own.of_block (e := e) (w := W) (B := B) (g := g) (cap := n) (xs := (List.replicate n 0).map maskF) (spare := []) hg (by rw [h]; congr 1; congr 1; apply Array.ext'; rw [toList_madeCells_one]; simp [maskF]) (by simp) (by unfold maxLen; omega)
  simpa using h1
theorem os1 {n gf cap : Nat} {A0 : List Nat} {w W w5 : World} (hW : Below w.heap.size w W) (h1 : Own 89 w5 W.heap.size (.slice (some ⟨gf, 0, none⟩) n cap) (A0.map maskF)) (h2 : Below W.heap.size W w5) (hn : n ≤ 16) :
    OriStart n A0 w (.slice (some ⟨gf, 0, none⟩) n cap) (.slice (some ⟨w5.heap.size, 0, none⟩) n n) (w5.alloc (.cells (madeCells #[.int .u32 0] n) 89)) := by
  have hb : Below w.heap.size w w5 := hW.trans (h2.mono hW.size)
  exact ⟨gf, cap, w5.heap.size, rfl, rfl, by have := h1.lt gf rfl; omega, (h1.base hW.size).past (alloc_below _ _) (Nat.le_refl _), own_repO _ _ _ _ _ hb.size (by show (w5.heap.push _)[w5.heap.size]? = _; simp) hn, hb.alloc hb.size _⟩
theorem os2 {n gf cap : Nat} {A0 : List Nat} {w W w5 : World} (hW : Below w.heap.size w W) (h1 : Own 89 w5 W.heap.size (.slice (some ⟨gf, 0, none⟩) n cap) (A0.map maskF)) (h2 : Below W.heap.size W w5) (hl : W.heap[w.heap.size]? = some (.cells (madeCells #[.int .u32 0] n) 89 (0, 0))) (hn : n ≤ 16) :
    OriStart n A0 w (.slice (some ⟨gf, 0, none⟩) n cap) (.slice (some ⟨w.heap.size, 0, none⟩) n n) w5 := by
  have hb : Below w.heap.size w w5 := hW.trans (h2.mono hW.size)
  have hlt : w.heap.size < W.heap.size := (Array.getElem?_eq_some_iff.1 hl).1
  exact ⟨gf, cap, w.heap.size, rfl, rfl, by have := h1.ge gf rfl; omega, h1.base hW.size, own_repO _ _ _ _ _ (Nat.le_refl _) ((h2.block _ hlt).trans hl) hn, hb⟩
/-- What the loops hold. -/
structure OriR (n : Nat) (w wr : World) (lg lc hg : Nat) (A H : List Nat) : Prop where
  ga : GA n A
  hl : H.length = n
  h16 : ∀ x, H.getD x 0 < 65536
  hin : ∀ a b, bt H a b = true → a < n ∧ b < n
  left : Own 89 wr w.heap.size (.slice (some ⟨lg, 0, none⟩) n lc) (A.map maskF)
  heads : Own 89 wr w.heap.size (.slice (some ⟨hg, 0, none⟩) n n) (H.map maskF)
  below : Below w.heap.size w wr
theorem OriR.past {n : Nat} {w wr w' : World} {lg lc hg : Nat} {A H : List Nat} (h : OriR n w wr lg lc hg A H) (hb : Below wr.heap.size wr w') : OriR n w w' lg lc hg A H :=
  ⟨h.ga, h.hl, h.h16, h.hin, h.left.past hb (Nat.le_refl _), h.heads.past hb (Nat.le_refl _), bon h.below hb⟩
def cellN (w : World) (g u : Nat) : Nat := match w.cell? ⟨g, u, none⟩ with
  | some (.int _ x) => x.toNat
  | _ => 0
theorem own_rdN {e : TypeId} {w : World} {B n c : Nat} {a : Option Addr} {A : List Nat} (h : Own e w B (.slice a n c) (A.map maskF)) : Rd maskF w a A := by
  obtain ⟨a', c', h1, h2, _⟩ := h.rd
  obtain ⟨rfl, _, rfl⟩ := slice_inj h1
  exact h2
theorem below_grown {w w' : World} (hb : Below w.heap.size w w') : w.grownBy w' none :=
  have h : Kept (fun _ => False) w w' := Kept.of_below _ hb
  ⟨h.os, h.tape, h.output, h.size, fun k hk _ => h.block k hk (fun e => e)⟩
theorem below_of_none {w w' : World} (h : w.grownBy w' none) : Below w.heap.size w w' := grown_below h (Nat.le_refl _) (fun k hk => by cases hk)
theorem law_mapOkB {ops : Array Oper} {rest : List Oper} {o : Oper} {a : Act} {K : Exit → Act → World → Prop} (w : World) (hg : o.guard = none) (m x : Operand) (hop : o.op = Op.lookup 82 m x true) (b : Nat) (Q : List (Nat × Nat)) (hm : a.eval m = .map (some b)) (h : MapA w b Q) (p : Nat) (hp : p < 256) (u1 u2 : Value) (hx : a.eval x = .agg #[u1, u2]) (h1 : u1 = .int .i64 (p / 16 : Nat)) (h2 : u2 = .int .i64 (p % 16 : Nat)) (bb : Bool) (hb : Hid (decide (p ∈ Q.map Prod.fst) = bb))
    (hK : ∀ c : Int, wpList Tryd.prog ops K rest (a.put o.dst (.tuple #[.int .i64 c, .bool bb])) w) : wpList Tryd.prog ops K (o :: rest) a w := by
  refine law_mapOk w hg m x hop b Q hm h p hp u1 u2 hx h1 h2 fun c _ => ?_
  rw [hb.out]
  exact hK c
theorem opp_div {p : Nat} (h : p < 256) : opp p / 16 = p % 16 := by unfold opp; exact cod_div (by omega)
theorem opp_mod {p : Nat} (h : p < 256) : opp p % 16 = p / 16 := by unfold opp; exact cod_mod (by omega)
theorem badK_false {Q : List (Nat × Nat)} (hQ : QOk Q) (L : List Nat) (h : ∀ p ∈ Q.map Prod.fst, p ∈ L) (h2 : ∀ p ∈ L, opp p ∉ Q.map Prod.fst) : badK (keyL Q) = false := by
  unfold badK
  rw [List.any_eq_false]
  intro p hp hd
  exact h2 p (h p ((keyL_mem hQ p).1 hp)) ((keyL_mem hQ _).1 (of_decide_eq_true hd))
theorem badK_true {Q : List (Nat × Nat)} (hQ : QOk Q) {p : Nat} (h : p ∈ Q.map Prod.fst) (h2 : opp p ∈ Q.map Prod.fst) : badK (keyL Q) = true := by
  unfold badK
  rw [List.any_eq_true]
  exact ⟨p, (keyL_mem hQ p).2 h, decide_eq_true ((keyL_mem hQ _).2 h2)⟩
theorem ori_bad {n u : Nat} {A0 A H : List Nat} (hu : u < n) (hin : oriIn n A H u = oriTo n A0 (u + 1)) (h : oriIn n A H u = none) : oriN n A0 = none := oriN_none (u := u + 1) hu (by rw [← hin]; exact h)
attribute [local irreducible] frL bq addAll bqE keyL
set_option maxRecDepth 100000 in
set_option maxHeartbeats 8000000 in
theorem oriented_any (ab ao c n : Nat) (A0 : List Nat) (w : World) (hA : GA n A0) (hr : Rd maskF w (some ⟨ab, ao, none⟩) A0) (hT : TabOk w) :
    Calls Tryd.prog 84 #[.slice (some ⟨ab, ao, none⟩) n c] w (OriPost n A0 w) := by
  have RA := hid hr; have RT := hid hT; have HGA := hid hA
  have h16 := hA.le
  have hpos := hA.pos
  have hlen := hA.len
  clear hr hT hA
  have hmk := run_make_row' (P := Tryd.prog) 74 89 (.int .u32 0) 4 Tryd.underlying74 (by kernel_rfl) rfl .i64 .i64 n (by omega) (by omega)
  have HLN := hid hlen
  clear hlen
  go_enter Tryd.func84, Tryd.ntmps84
  go_upto_region 1 with fail
  go_cut [3, 4] from 11 (fun l h wc => OriStart n A0 w l h wc)
  case first =>
    go_region_held3 (fun _ => True) (first | exact trivial) ((first | (go_at_call 130; refine (clone_n ab ao c n A0 _ HLN.out hpos h16 (RA.out.below (B := w.heap.size) (by repeat (first | exact Below.refl _ _ | refine below_dr ?_ | refine Below.alloc ?_ (Nat.le_refl _) _)) (Nat.le_refl _))).mono ?_; rintro e w5 ⟨gf, cap, rfl, h1, h2⟩)))
    all_goals (go_wp2_with fail; go_meet)
    all_goals (first
      | exact os1 (by repeat (first | exact Below.refl _ _ | refine below_dr ?_ | refine Below.alloc ?_ (Nat.le_refl _) _)) h1 h2 h16
      | exact os2 (by repeat (first | exact Below.refl _ _ | refine below_dr ?_ | refine Below.alloc ?_ (Nat.le_refl _) _)) h1 h2 (by show (w.heap.push _)[w.heap.size]? = _; simp) h16)
  case rest =>
    obtain ⟨lg, lc, hg, rfl, rfl, hne, hol, hoh, hb⟩ := hcut
    have START := hid (show OriR n w wc lg lc hg A0 (List.replicate n 0) from ⟨HGA.out, by simp, (fun x => by rw [List.getD_eq_getElem?_getD, List.getElem?_replicate]; split <;> decide), (fun a b h => by
      unfold bt at h
      rw [List.getD_eq_getElem?_getD, List.getElem?_replicate] at h
      split at h <;> simp at h), hol, hoh, hb⟩)
    have hnlg : w.heap.size ≤ lg := hol.ge lg rfl
    have hnhg : w.heap.size ≤ hg := hoh.ge hg rfl
    have RT0 := hid RT.out
    clear hol hoh hb hmk RA RT
    go_wp2
    go_loopw [18] (fun x wr => ∃ (u : Nat) (A H : List Nat), x = .int .i64 u ∧ u ≤ n ∧ oriTo n A0 u = some (A, H) ∧ OriR n w wr lg lc hg A H) (fun x _ => n - (intOf x).toNat)
    case atStart => exact ⟨0, _, _, rfl, Nat.zero_le _, rfl, START.out⟩
    case round =>
      clear START
      obtain ⟨u, A, H, rfl, hu, hto, hor⟩ := hrel
      have OR := hid hor; have TO := hid hto
      clear hor hto
      by_cases hlt : u < n
      · have hui : (u : Int) < (n : Int) := by omega
        have HSU := hid (show oriIn n A H u = oriTo n A0 (u + 1) from by
          show _ = (oriTo n A0 u).bind _
          rw [TO.out]; rfl)
        clear TO
        go_wp2
        go_loopw [6] (fun _ wr => ∃ (A H : List Nat), oriIn n A H u = oriTo n A0 (u + 1) ∧ OriR n w wr lg lc hg A H) (fun _ wr => cellN wr lg u)
        case atStart => exact ⟨A, H, HSU.out, OR.out⟩
        case round =>
          clear OR HSU
          obtain ⟨A, H, hin, hor⟩ := hrel
          have OR := hid hor; have HIN := hid hin
          have HA := hid hor.ga
          have c0 := hor.left.cell u (by rw [List.length_map, hor.ga.len]; exact hlt)
          rw [List.getElem_map, ← getD_in (by rw [hor.ga.len]; exact hlt)] at c0
          have hx16 := hor.ga.in2 u
          have hp16 : 2 ^ n ≤ 65536 := Nat.pow_le_pow_right (n := 2) (i := n) (j := 16) (by decide) h16
          have HLOW := hid (fun h0 => low16 hor.ga (u := u) h0)
          have HCN := hid (show cellN _ lg u = A.getD u 0 from by unfold cellN; rw [c0]; rfl)
          have RTT := hid (RT0.out.below hor.below (Nat.le_refl _))
          have HZ := hid (fun h0 : A.getD u 0 = 0 => oriIn_zero (n := n) (H := H) h0)
          have HBAD := hid (fun (h0 : A.getD u 0 ≠ 0) hb => oriIn_bad (n := n) (H := H) h0 hb)
          have HSTEP := hid (fun (h0 : A.getD u 0 ≠ 0) hb => oriIn_step (H := H) hor.ga h0 hb)
          have HFR := hid (show cod u (low (A.getD u 0)) = frst A u from rfl)
          have HCUT := hid (fun (h0 : A.getD u 0 ≠ 0) => cut_less hor.ga h0)
          unfold maskF at c0
          clear hor hin
          generalize hX : A.getD u 0 = X at *
          by_cases h0 : X = 0
          · have hz := HZ.out h0
            have HE := hid (show oriTo n A0 (u + 1) = some (A, H) by rw [← HIN.out]; exact hz)
            subst h0
            clear hz HLOW HBAD HSTEP HCUT
            go_wp2
            go_roundw
            case rel => exact ⟨u + 1, A, H, by go_num, hlt, HE.out, OR.out⟩
            case measure => simp [intOf]; omega
          · have hne0 : ((X : Int) != 0) = true := by rw [bne_iff_ne]; omega
            obtain ⟨_, hlo, _⟩ := HLOW.out h0
            have hXA : A.getD u 0 ≠ 0 := by rw [hX]; exact h0
            have HCX := hid (show (cutK n A (clsK A u)).getD u 0 < X from HCUT.out h0)
            have HB := hid (HBAD.out h0); have HS := hid (HSTEP.out h0)
            have HQ := hid (show QOk (bqE A (frst A u)) from by unfold bqE; exact bq_ok (frst_lt HA.out hXA) 256)
            have hfd : frst A u / 16 = u := by rw [← HFR.out]; exact cod_div (by omega)
            have hfm : frst A u % 16 = low X := by rw [← HFR.out]; exact cod_mod (by omega)
            have HQI := hid (show QIn n (bqE A (frst A u)) from by unfold bqE; exact bq_in HA.out (by rw [hfd]; exact hlt) (by rw [hfm]; exact hlo) 256)
            have HCLS := hid (show clsK A u = keyL (bqE A (frst A u)) from rfl)
            have RL := hid (own_rdN OR.out.left)
            have X32 : X < 4294967296 := by omega
            clear hX hXA HLOW HBAD HSTEP HCUT HZ hfd hfm
            generalize clsK A u = CK at *
            go_wp2_with (first | (go_at_call 129; refine (least_any X _ RTT.out h0 X32).mono ?_; rintro e wa ⟨rfl, hd⟩; have BA := hid (Drawn.below hd wr.heap.size); have RLa := hid (RL.out.below BA.out (Nat.le_refl _)); have RTa := hid (RTT.out.below BA.out (Nat.le_refl _)); have ORa := hid (OR.out.past BA.out); have HSa := hid BA.out.size; clear hd) | (go_at_call 77; refine (forcedFrom_any _ A n lc u (low X) (frst A u) _ HFR.out HA.out RLa.out hlt hlo RTa.out).mono ?_; rintro e wb ⟨bm, rfl, hbm, hmp, hb⟩; have ORb := hid (ORa.out.past hb); have MPb := hid hmp; have HBM := hid (Nat.le_trans HSa.out hbm); have HLW := hid (And.intro (OR.out.left.lt lg rfl) (And.intro (OR.out.heads.lt hg rfl) (show wr.heap.size ≤ wb.heap.size from Nat.le_trans HSa.out hb.size))); clear hb hmp hbm; generalize bqE A (frst A u) = Q at *) | (at_range; refine law_rangeA wb rfl _ rfl bm Q HQ.out rfl MPb.out ?_; intro w4 hrg hg4 hs4))
            go_frame
            have RG4 := hid hrg
            have hb4 : Below wb.heap.size wb w4 := grown_below hg4 (Nat.le_refl _) (fun k hk => by cases hk)
            have B4 := hid hb4
            clear hrg hg4 hs4 hb4
            go_loopw [7] (fun _ wq => ∃ L : List Nat, RngA wq bm wb.heap.size Q L ∧ (∀ p ∈ L, opp p ∉ Q.map Prod.fst) ∧ Below wb.heap.size wb wq) (fun _ wq => wq.rangeLeft bm wb.heap.size)
            case atStart => exact ⟨[], RG4.out, (fun p hp => by cases hp), B4.out⟩
            case round =>
              clear RG4 B4
              obtain ⟨L, hrg, hno, hb⟩ := hrel
              have RG := hid hrg; have NO := hid hno; have BL := hid hb
              clear hrg hno hb
              have hszq := BL.out.size
              go_wp2_with (at_next; refine law_nextH _ rfl _ rfl bm wb.heap.size Q HQ.out L rfl RG.out ?_ ?_)
              · intro HALL
                have HBF := hid (badK_false HQ.out L (fun p hp => by obtain ⟨pp, hpp, rfl⟩ := List.mem_map.1 hp; exact HALL.out pp.1 pp.2 hpp) NO.out)
                have HBK := hid (show badK CK = false from by rw [HCLS.out]; exact HBF.out)
                have HST := hid (HIN.out.symm.trans (HS.out HBK.out)).symm
                clear HBF HBK HB HS
                have ORq := hid (ORb.out.past BL.out)
                have MPq := hid RG.out.owns
                obtain ⟨wq, rfl⟩ : ∃ wq, wq = wr := ⟨_, rfl⟩
                have hlgq := ORq.out.left.lt lg rfl
                have hhgq := ORq.out.heads.lt hg rfl
                have HLB := hid (show lg ≠ bm ∧ hg ≠ bm ∧ lg ≠ wq.heap.size ∧ hg ≠ wq.heap.size from by
                  have h1 := HBM.out
                  have h2 := HLW.out
                  refine ⟨?_, ?_, ?_, ?_⟩ <;> omega)
                have HWQ := hid (show w.heap.size ≤ wq.heap.size from ORq.out.below.size)
                clear hlgq hhgq
                go_wp2_with (at_range; refine law_rangeA wq rfl _ rfl bm Q HQ.out rfl MPq.out ?_; intro w4 hrg hg4 hs4)
                go_frame
                have RG4 := hid hrg
                have OR4 := hid (ORq.out.past (below_of_none hg4))
                clear hrg hg4 hs4 RG NO BL MPq ORq MPb ORb ORa hszq
                go_loopw [10] (fun _ ws => ∃ L A' H' : List Nat, RngA ws bm wq.heap.size Q L ∧ OrB n A H L A' H' ∧ Own 89 ws w.heap.size (.slice (some ⟨lg, 0, none⟩) n lc) (A'.map maskF) ∧ Own 89 ws w.heap.size (.slice (some ⟨hg, 0, none⟩) n n) (H'.map maskF) ∧ Below w.heap.size w ws) (fun _ ws => ws.rangeLeft bm wq.heap.size)
                case atStart => exact ⟨[], A, H, RG4.out, OrB.start HA.out OR4.out.hl OR4.out.h16, OR4.out.left, OR4.out.heads, OR4.out.below⟩
                case round =>
                  have HIN2 := hid OR4.out.hin
                  clear RG4 OR4
                  obtain ⟨L, A', H', hrg, hor, hol, hoh, hb⟩ := hrel
                  have RG := hid hrg; have ORB := hid hor; have OL := hid hol; have OH := hid hoh; have BL := hid hb
                  clear hrg hor hol hoh hb
                  have hszs := BL.out.size
                  go_wp2_with (at_next; refine law_nextH _ rfl _ rfl bm wq.heap.size Q HQ.out L rfl RG.out ?_ ?_)
                  · intro HALL
                    obtain ⟨he1, he2⟩ := ORB.out.done HA.out HIN2.out HQ.out HQI.out RG.out.facts.2 (fun p hp => by obtain ⟨pp, hpp, rfl⟩ := List.mem_map.1 hp; exact HALL.out pp.1 pp.2 hpp)
                    have HE1 := hid (show A' = cutK n A CK by rw [HCLS.out]; exact he1)
                    have HE2 := hid (show H' = addK n H CK by rw [HCLS.out]; exact he2)
                    clear he1 he2
                    go_wp2
                    go_roundw
                    case rel => exact ⟨A', H', by rw [HE1.out, HE2.out]; exact HST.out, by rw [HE1.out]; exact HA.out.cutK _, ORB.out.lh, ORB.out.h16, by rw [HE2.out]; exact addK_in, OL.out, OH.out, BL.out⟩
                    case measure =>
                      rw [HCN.out]
                      have hla := ORB.out.la
                      have c9 := OL.out.cell u (by rw [List.length_map, hla]; exact hlt)
                      rw [List.getElem_map, ← getD_in (by rw [hla]; exact hlt)] at c9
                      have hc9 : cellN wr lg u = A'.getD u 0 := by unfold cellN; rw [c9]; rfl
                      rw [hc9, HE1.out]
                      exact HCX.out
                  · intro p1 pa pb cc w5 H8 hen5
                    have hp1 : ∃ d1, (p1, d1) ∈ Q := H8.out.2.2.1
                    have hpan : pa < n := by obtain ⟨d1, hd1⟩ := hp1; rw [H8.out.1]; exact (HQI.out _ hd1).1
                    have hpbn : pb < n := by obtain ⟨d1, hd1⟩ := hp1; rw [H8.out.2.1]; exact (HQI.out _ hd1).2
                    have HCP := hid (show cod pa pb = p1 from by rw [H8.out.1, H8.out.2.1]; exact cod_self p1)
                    have RG5 := hid H8.out.2.2.2.2.1
                    have HLT5 := hid H8.out.2.2.2.2.2.1
                    have hg5 := H8.out.2.2.2.2.2.2.1
                    have B5 := hid (BL.out.trans (grown_below hg5 BL.out.size (fun k hk => by cases hk; exact HWQ.out)))
                    have OL5 := hid (OL.out.kept hg5 (.inr (fun e => HLB.out.2.2.1 (Option.some.inj e))))
                    have OH5 := hid (OH.out.kept hg5 (.inr (fun e => HLB.out.2.2.2 (Option.some.inj e))))
                    have HNX := hid (ORB.out.step HA.out hpan hpbn)
                    clear hg5 H8 hp1
                    obtain ⟨wz, hwz⟩ : ∃ wz, wz = w5.alloc (.cells #[.int .i64 (pa : Int), .int .i64 (pb : Int)] 78) := ⟨_, rfl⟩
                    have hba : Below w5.heap.size w5 wz := hwz ▸ alloc_below _ _
                    have BZ := hid (bon B5.out hba)
                    have RZ := hid (RG5.out.kept (below_grown hba) (by simp) (by simp))
                    have HLK := hid (RG5.out.left_kept (below_grown hba) (by simp) (by simp))
                    have OLZ := hid (OL5.out.past hba (Nat.le_refl _)); have OHZ := hid (OH5.out.past hba (Nat.le_refl _))
                    have cb0 : wz.cell? ⟨w5.heap.size, 0, none⟩ = some (.int .i64 (pa : Int)) := by rw [hwz]; simp [go_sem]
                    have cb1 : wz.cell? ⟨w5.heap.size, 1, none⟩ = some (.int .i64 (pb : Int)) := by rw [hwz]; simp [go_sem]
                    have HWZ := hid hwz
                    have HCB := hid (And.intro cb0 cb1)
                    have HNE := hid hne; have HNL := hid hnlg; have HNH := hid hnhg; have HLA := hid ORB.out.la; have HA16 := hid ORB.out.a16
                    have hhgz : hg ≠ w5.heap.size := by have := OH5.out.lt hg rfl; omega
                    have HHGZ := hid hhgz
                    have hlh := ORB.out.lh
                    have HLH := hid hlh
                    have cu := OHZ.out.cell pa (by rw [List.length_map, hlh]; exact hpan)
                    rw [List.getElem_map, ← getD_in (by rw [hlh]; exact hpan)] at cu
                    have hEu := ORB.out.h16 pa
                    have hfr := OHZ.out.free pa
                    have HOR := hid (show orA H' pa pb = H'.set pa (H'.getD pa 0 ||| 2 ^ pb) from rfl)
                    clear hwz hba hhgz hlh
                    generalize H'.getD pa 0 = Y at *
                    have hpu : 2 ^ pb < 65536 := Nat.pow_lt_pow_right (by decide) (show pb < 16 by omega)
                    have hor := u32_or_nat Y (2 ^ pb) (by omega) (by omega)
                    generalize hPU : 2 ^ pb = PU at *
                    unfold maskF at cu
                    have hai : (pa : Int) < (n : Int) := by omega
                    have hbi : (pb : Int) < (n : Int) := by omega
                    have BS := hid (Below.refl wz.heap.size wz)
                    go_wp2
                    rw [← HWZ.out]
                    have qcb0 := fun (p : Bel _) => cellB p.h cb0 (Nat.le_refl _)
                    have qcb1 := fun (p : Bel _) => cellB p.h cb1 (Nat.le_refl _)
                    have qcu := fun (p : Bel _) => cellB p.h cu (Nat.le_refl _)
                    refine wp_quiet_tail_b 10 (by kernel_rfl) (by kernel_rfl) ?_
                    simp only [List.take_succ_cons, List.take_zero, List.drop_succ_cons, List.drop_zero]
                    repeat (go_big_quiet_step (first | (go_at_call 100; exact qbs (one_p pb PU _ (by omega) hPU))))
                    refine wpQuiet_nil ?_
                    intro _ hw'
                    obtain ⟨⟨w1, hb⟩, rfl⟩ := hw'
                    clear qcb0 qcb1 qcu
                    replace OHZ := hid (OHZ.out.past hb (Nat.le_refl _))
                    replace BS := hid (bon BS.out hb)
                    replace cb0 := cellB hb cb0 (Nat.le_refl _)
                    replace cb1 := cellB hb cb1 (Nat.le_refl _)
                    replace cu := cellB hb cu (Nat.le_refl _)
                    clear hb
                    rename_i wt
                    have hst := OHZ.out.store pa (by rw [List.length_map, HLH.out]; exact hpan) (maskF (Y ||| PU))
                    rw [← List.map_set, ← HOR.out] at hst
                    have hfr2 := OHZ.out.free pa
                    have KP := Kept.setCell (S := fun g => g = hg) (Kept.of_below _ BS.out) (p := ⟨hg, pa, none⟩) rfl (maskF (Y ||| PU))
                    have OL6 := hid ((OLZ.out.past BS.out (Nat.le_refl _)).keptS (Kept.setCell (S := fun g => g = hg) (Kept.refl _ _) (p := ⟨hg, pa, none⟩) rfl (maskF (Y ||| PU))) (fun g e h => by
                      cases e; exact HNE.out h))
                    have cd0 := cellK KP HCB.out.1 (fun h => HHGZ.out h.symm)
                    have cd1 := cellK KP HCB.out.2 (fun h => HHGZ.out h.symm)
                    have RZ6 := hid (RZ.out.kept (kept_grown KP) (fun e => HLB.out.2.1 (Option.some.inj e).symm) (fun e => HLB.out.2.2.2 (Option.some.inj e).symm))
                    have HL6 := hid (RZ.out.left_kept (kept_grown KP) (fun e => HLB.out.2.1 (Option.some.inj e).symm) (fun e => HLB.out.2.2.2 (Option.some.inj e).symm))
                    have B6 := hid (BZ.out.trans (grown_below (kept_grown KP) BZ.out.size (fun k hk => by cases hk; exact HNH.out)))
                    have OH6 := hid hst
                    clear KP
                    unfold maskF at RZ6 HL6 OL6 cd0 cd1 B6 OH6
                    clear hst OHZ hfr
                    obtain ⟨w6, hw6⟩ : ∃ w6, w6 = wt.setCell ⟨hg, pa, none⟩ (.int .u32 ((Y ||| PU : Nat) : Int)) := ⟨_, rfl⟩
                    rw [← hw6] at RZ6 HL6 OL6 B6 OH6
                    have HW6 := hid hw6
                    clear hw6
                    go_wp2_with (go_at_call 131; rw [← HW6.out]; refine (part_any w.heap.size lg n lc A' pa pb w6 HLA.out h16 HA16.out hpan hpbn OL6.out).mono ?_; rintro e w7 ⟨rfl, h1, h2⟩; have OL7 := hid h1; have KG7 := hid (kept_grown h2); have OH7 := hid (OH6.out.keptS h2 (fun g e h => by cases e; exact HNE.out h.symm)); clear h1 h2)
                    go_roundw
                    case rel => exact ⟨L ++ [p1], _, _, RZ6.out.kept KG7.out (fun e => HLB.out.1 (Option.some.inj e).symm) (fun e => HLB.out.2.2.1 (Option.some.inj e).symm), by rw [← HCP.out]; exact HNX.out, OL7.out, OH7.out, B6.out.trans (grown_below KG7.out B6.out.size (fun k hk => by cases hk; exact HNL.out))⟩
                    case measure => rw [RZ6.out.left_kept KG7.out (fun e => HLB.out.1 (Option.some.inj e).symm) (fun e => HLB.out.2.2.1 (Option.some.inj e).symm), HL6.out, HLK.out]; exact HLT5.out
              · intro p1 pa pb cc w5 H8 hen5
                have hp1 : p1 ∈ Q.map Prod.fst := by obtain ⟨d1, hd1⟩ := H8.out.2.2.1; exact List.mem_map.2 ⟨(p1, d1), hd1, rfl⟩
                have hp256 : p1 < 256 := by
                  obtain ⟨d1, hd1⟩ := H8.out.2.2.1
                  exact HQ.out.2 (p1, d1) hd1
                have HPV := hid (show Value.int .i64 (pb : Int) = .int .i64 (opp p1 / 16 : Nat) by rw [opp_div hp256, H8.out.2.1])
                have HPW := hid (show Value.int .i64 (pa : Int) = .int .i64 (opp p1 % 16 : Nat) by rw [opp_mod hp256, H8.out.1])
                have hop256 := opp_lt hp256
                have RG5 := hid H8.out.2.2.2.2.1
                have HLT5 := hid H8.out.2.2.2.2.2.1
                have hg5 := H8.out.2.2.2.2.2.2.1
                have HP1 := hid hp1
                have B5 := hid (BL.out.trans (grown_below hg5 BL.out.size (fun k hk => by cases hk; exact Nat.le_refl _)))
                clear hg5 H8 hp1
                obtain ⟨wz, hwz⟩ : ∃ wz, wz = w5.alloc (.cells #[.int .i64 (pa : Int), .int .i64 (pb : Int)] 78) := ⟨_, rfl⟩
                have hba : Below w5.heap.size w5 wz := hwz ▸ alloc_below _ _
                have BZ := hid (bon B5.out hba)
                have RZ := hid (RG5.out.kept (below_grown hba) (by simp) (by simp))
                have HLK := hid (RG5.out.left_kept (below_grown hba) (by simp) (by simp))
                have HWZ := hid hwz
                clear hwz hba
                by_cases hbad : opp p1 ∈ Q.map Prod.fst
                · have HDB := hid (show decide (opp p1 ∈ Q.map Prod.fst) = true by rw [decide_eq_true_iff]; exact hbad)
                  have HNONE := hid (ori_bad hlt HIN.out (HB.out (by rw [HCLS.out]; exact badK_true HQ.out HP1.out hbad)))
                  clear hbad
                  have HOQ := hid ORb.out.below
                  go_wp2_with (first | (go_at_call 75; rw [← HWZ.out]; refine (opposite_any _ _ wz).mono ?_; rintro e w6 ⟨rfl, hb6⟩; have B6 := hid (bon BZ.out hb6); have M6 := hid (RZ.out.owns.past hb6 RZ.out.owns.lt); clear hb6) | (at_lookup; refine law_mapOkB _ rfl _ _ rfl bm Q rfl M6.out (opp p1) hop256 _ _ rfl HPV.out HPW.out true HDB ?_; intro cd))
                  go_ret
                  exact ⟨bon HOQ.out B6.out, .inr ⟨HNONE.out, rfl⟩⟩
                · have HDB := hid (show decide (opp p1 ∈ Q.map Prod.fst) = false by rw [decide_eq_false_iff_not]; exact hbad)
                  have HNO := hid (show ∀ p ∈ L ++ [p1], opp p ∉ Q.map Prod.fst from fun p hp => by
                    rcases List.mem_append.1 hp with h | h
                    · exact NO.out p h
                    · have : p = p1 := by simpa using h
                      rw [this]; exact hbad)
                  clear hbad
                  go_wp2_with (first | (go_at_call 75; rw [← HWZ.out]; refine (opposite_any _ _ wz).mono ?_; rintro e w6 ⟨rfl, hb6⟩; have B6 := hid (bon BZ.out hb6); have M6 := hid (RZ.out.owns.past hb6 RZ.out.owns.lt); have R6 := hid (RZ.out.kept (below_grown hb6) (by simp) (by simp)); have HL6 := hid (RZ.out.left_kept (below_grown hb6) (by simp) (by simp)); clear hb6) | (at_lookup; refine law_mapOkB _ rfl _ _ rfl bm Q rfl M6.out (opp p1) hop256 _ _ rfl HPV.out HPW.out false HDB ?_; intro cd))
                  go_roundw
                  case rel => exact ⟨L ++ [p1], R6.out, HNO.out, B6.out⟩
                  case measure => rw [HL6.out, HLK.out]; exact HLT5.out
      · obtain rfl : u = n := by omega
        have HE := hid (show oriN u A0 = some H by unfold oriN; rw [TO.out]; rfl)
        go_wp2
        go_ret
        exact ⟨OR.out.below, .inl ⟨H, hg, u, HE.out, rfl, OR.out.heads⟩⟩
end
end Go.Proofs.YtggjmnihnjdoaaaDoor
