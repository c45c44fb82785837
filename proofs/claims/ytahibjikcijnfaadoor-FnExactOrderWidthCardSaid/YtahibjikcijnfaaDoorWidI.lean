/- The width of an order: the program's. -/
import Derived.Test.YtahibjikcijnfaaDoorWidM
import Derived.Test.YtahibjikcijnfaaDoorOrderI
import Derived.Test.YtahibjikcijnfaaDoorOrdS
import Derived.Test.YtahibjikcijnfaaDoorBag
import Derived.Deep.RegionLaw
import Derived.Deep.AppendLies
import Derived.Deep.OwnRows
namespace Go.Proofs.YtahibjikcijnfaaDoor
open Go.RowKit
section
theorem drew_heap (w : World) : w.drew.heap = w.heap := rfl
theorem below_drew {B : Nat} {a W : World} (h : Below B a W) : Below B a W.drew := h.trans (Drawn.below (a := W) (b := W.drew) ⟨1, rfl⟩ B)
theorem blk_new (w : World) (o : Obj) (g : Nat) (h : g = w.heap.size) : (w.alloc o).heap[g]? = some o := by subst h; show (w.heap.push o)[w.heap.size]? = some o; simp
theorem blk_old (w : World) (o o2 : Obj) (g : Nat) (h : w.heap[g]? = some o) : (w.alloc o2).heap[g]? = some o := by
  have hlt : g < w.heap.size := (Array.getElem?_eq_some_iff.1 h).1
  rw [Below.heap_alloc w _ g hlt]; exact h
theorem step_copy {P : Program} {ops : Array Oper} {o : Oper} {a : Act} {K : Act → World → Prop} {Q : Exit → Act → World → Prop} {E : Prop} {t e : TypeId} {z : Value} (hT : SliceT P t e z) (W : World) (hg : o.guard = none) (s x : Operand) (hop : o.op = .call { callee := .builtin .append, args := #[s, x], argTypes := #[t, t] })
    {α : Type} (f : α → Value) (g : Nat) (hs : a.eval s = .slice (some ⟨g, 0, none⟩) 0 0) (hgb : W.heap[g]? = some (.cells #[] e (0, 0))) (ax : Option Addr) (n c : Nat) (zs : List α) (hx : a.eval x = .slice ax n c) (hzn : zs.length = n) (hr : Rd f W ax zs)
    (hf : ∀ y ∈ zs, (f y).oneCell' = true) (h0 : 0 < n) (hn : n ≤ 1099511627776)
    (hK : ∀ gf cap w', Own e w' g (.slice (some ⟨gf, 0, none⟩) n cap) (zs.map f) → W.grownBy w' (some g) → (gf = g ∨ gf = W.heap.size) → gf < w'.heap.size → K (a.put o.dst (.slice (some ⟨gf, 0, none⟩) n cap)) w') :
    if Region.wanted o (yielded ops a.tmps) = true then Oper.wp P o a W K Q else E := by
  subst hzn
  obtain ⟨ht, bytes, hby, hi0, hz⟩ := hT
  obtain ⟨i, hi, hz0, hz1, hz2⟩ := info_parts hi0
  obtain ⟨b, off, rfl, _⟩ := hr 0 h0
  have hown : Own e W g (.slice (some ⟨g, 0, none⟩) ([] : List Value).length 0) [] := Own.of_block (spare := []) (Nat.le_refl _) (by simpa using hgb) rfl (Nat.zero_le _)
  have hlt : g < W.heap.size := (Array.getElem?_eq_some_iff.1 hgb).1
  refine step_append_lies W hg s x t hop g e i z 1 bytes ht hi hz0 hz1 hz2 (by rw [hz]; rfl) (by decide) _ 0 [] hs hown ⟨b, off, none⟩ zs.length c (zs.map f) hx (by simp) (fun j u hj => ?_) (fun u hu => ?_) h0 (by unfold maxLen; omega) ?_ (by omega) _ rfl fun gf cap w' h1 h2 h3 h4 => ?_
  · have hj' : j < zs.length := by
      rcases Nat.lt_or_ge j zs.length with h | h
      · exact h
      · simp [List.getElem?_eq_none h] at hj
    obtain ⟨b', off', hbo, hc⟩ := hr j hj'
    cases hbo
    have : u = f zs[j] := by simpa [List.getElem?_eq_getElem hj'] using hj.symm
    rw [this, ← hc]
    by_cases hj0 : j = 0
    · subst hj0; simp [Addr.add]
    · simp [Addr.add, hj0]
  · obtain ⟨y, hy, rfl⟩ := List.mem_map.1 hu
    exact hf y hy
  · exact Nat.le_trans (Nat.mul_le_mul_left _ hby) (by omega)
  · have h5 := hK gf cap w' (by simpa [Own] using h1) h2 (h3.imp (fun h => by simpa [Value.ownBlock] using h.symm) id) h4
    simpa using h5
set_option maxRecDepth 100000 in
set_option maxHeartbeats 2000000 in
theorem narrow_any (b : Option Addr) (zs : List Int) (d : Nat) (w : World) (hz : Rd (Value.int .i64) w b zs) (hn : zs.length ≤ 1048576) :
    Calls Tryd.prog 73 #[.slice b zs.length d] w (RetOwn 3 (zs.map (.int .i64)) w) := by
  have RZ := hid hz; clear hz
  go_enter Tryd.func73, Tryd.ntmps73
  go_wp2_with (at_make; refine law_make0 tIntsL _ rfl _ _ rfl zs.length _ _ rfl rfl (by omega) ?_; intro w1 hown hb hsz)
  have RZ1 := hid (RZ.out.below hb (Nat.le_refl _)); have BL1 := hid hb; have OO := hid hown
  clear hb hown hsz
  go_wp2
  go_loopw [3, 5, 11] (fun o _ x wr => ∃ k : Nat, k ≤ zs.length ∧ x = .int .i64 k ∧ Own 3 wr w.heap.size o ((zs.take k).map (.int .i64)) ∧ Below w.heap.size w wr) (fun _ _ x _ => zs.length - (intOf x).toNat)
  case atStart => exact ⟨0, Nat.zero_le _, rfl, OO.out, BL1.out⟩
  case round =>
    clear OO BL1 RZ1
    obtain ⟨k, hk, rfl, ho, hd⟩ := hrel
    have OO := hid ho; have BL := hid hd
    have RZ2 := hid (RZ.out.below hd (Nat.le_refl _))
    have hsz := hd.size
    clear ho hd
    obtain ⟨oa, oc, hov, _⟩ := Own.rd OO.out
    rw [List.length_take, Nat.min_eq_left hk] at hov
    subst hov
    by_cases hlt : k < zs.length
    · obtain ⟨lb, lo, rfl, cl⟩ := RZ2.out k hlt
      have hi0 : (k : Int) < (zs.length : Int) := by omega
      have HSU := hid (show (zs.map (Value.int .i64)).take k ++ [Value.int .i64 zs[k]] = (zs.take (k + 1)).map (Value.int .i64) by rw [List.take_succ_eq_append_getElem hlt, List.map_append, List.map_take]; rfl)
      have HKL := hid (show ∀ g, (Value.slice oa k oc).ownBlock = some g → w.heap.size ≤ g from fun g hg => OO.out.ge g hg)
      have hlk : ((zs.take k).map (Value.int .i64)).length < 1099511627776 := by simp; omega
      generalize zs[k] = x at *
      go_wp2_with (at_builtin; refine law_push tIntsL _ rfl _ _ rfl w.heap.size _ ((zs.take k).map (Value.int .i64)) rfl OO.out _ _ rfl ?c0 rfl hlk hsz ?_)
      case c0 => simp
      intro v' w6 h1 h2
      have OO6 := hid (show Own 3 w6 w.heap.size v' ((zs.take (k + 1)).map (Value.int .i64)) by rw [← HSU.out]; exact h1)
      have BL6 := hid (BL.out.trans (grown_below h2 hsz HKL.out))
      clear h1 h2
      go_wp2
      go_roundw
      case rel => exact ⟨k + 1, by omega, by go_num, OO6.out, BL6.out⟩
      case measure => simp [intOf]; omega
    · obtain rfl : k = zs.length := by omega
      have OF := hid (show Own 3 wr w.heap.size (.slice oa zs.length oc) (zs.map (.int .i64)) by have h := OO.out; rwa [List.take_length] at h)
      go_wp2
      go_ret
      exact ⟨_, rfl, OF.out, BL.out⟩
end
section
/-- What elimination has at hand when it begins. -/
def ElimStart (n : Nat) (A0 : List Nat) (F : Nat) (w : World) (f l s : Value) (wc : World) : Prop :=
  ∃ gf capf gl, f = .slice (some ⟨gf, 0, none⟩) n capf ∧ l = .slice (some ⟨gl, 0, none⟩) n n ∧ s = .int .u32 F ∧ gf ≠ gl ∧ Own 70 wc w.heap.size (.slice (some ⟨gf, 0, none⟩) n capf) (A0.map maskF) ∧ Own 70 wc w.heap.size (.slice (some ⟨gl, 0, none⟩) n n) ((List.replicate n 0).map maskF) ∧ Below w.heap.size w wc
theorem own_rep (e : TypeId) (W : World) (B g n : Nat) (hg : B ≤ g) (h : W.heap[g]? = some (.cells (madeCells #[.int .u32 0] n) e (0, 0))) (hn : n ≤ 16) : Own e W B (.slice (some ⟨g, 0, none⟩) n n) ((List.replicate n 0).map maskF) := by
  have h1 := Own.of_block (e := e) (w := W) (B := B) (g := g) (cap := n) (xs := (List.replicate n 0).map maskF) (spare := []) hg (by rw [h]; congr 1; congr 1; apply Array.ext'; rw [toList_madeCells_one]; simp [maskF]) (by simp) (by unfold maxLen; omega)
  simpa using h1
theorem es1 {n F gf cap g : Nat} {A0 : List Nat} {w W w5 : World} (hW : Below w.heap.size w W) (h1 : Own 70 w5 g (.slice (some ⟨gf, 0, none⟩) n cap) (A0.map maskF)) (h2 : W.grownBy w5 (some g)) (h4 : gf < w5.heap.size) (hg : w.heap.size ≤ g) (hn : n ≤ 16) :
    ElimStart n A0 F w (.slice (some ⟨gf, 0, none⟩) n cap) (.slice (some ⟨w5.heap.size, 0, none⟩) n n) (.int .u32 F) (w5.alloc (.cells (madeCells #[.int .u32 0] n) 70)) := by
  have hb : Below w.heap.size w w5 := hW.trans (grown_below h2 hW.size (fun k hk => by cases hk; exact hg))
  exact ⟨gf, cap, w5.heap.size, rfl, rfl, rfl, by omega, (h1.base hg).past (alloc_below _ _) (Nat.le_refl _), own_rep _ _ _ _ _ hb.size (blk_new _ _ _ rfl) hn, hb.alloc hb.size _⟩
theorem es2 {n F gf cap g gl : Nat} {A0 : List Nat} {w W w5 : World} (hW : Below w.heap.size w W) (h1 : Own 70 w5 g (.slice (some ⟨gf, 0, none⟩) n cap) (A0.map maskF)) (h2 : W.grownBy w5 (some g)) (h3 : gf = g ∨ gf = W.heap.size) (hl : W.heap[gl]? = some (.cells (madeCells #[.int .u32 0] n) 70 (0, 0))) (hg : w.heap.size ≤ g) (hgl : w.heap.size ≤ gl) (hne : gl ≠ g) (hn : n ≤ 16) :
    ElimStart n A0 F w (.slice (some ⟨gf, 0, none⟩) n cap) (.slice (some ⟨gl, 0, none⟩) n n) (.int .u32 F) w5 := by
  have hb : Below w.heap.size w w5 := hW.trans (grown_below h2 hW.size (fun k hk => by cases hk; exact hg))
  have hlt : gl < W.heap.size := (Array.getElem?_eq_some_iff.1 hl).1
  exact ⟨gf, cap, gl, rfl, rfl, rfl, by omega, h1.base hg, own_rep _ _ _ _ _ hgl ((h2.block gl hlt (by simpa using hne)).trans hl) hn, hb⟩
set_option maxRecDepth 100000 in
set_option maxHeartbeats 4000000 in
theorem elimination_any (a : Option Addr) (A0 : List Nat) (n c : Nat) (b : Option Addr) (l : List Int) (d : Nat) (w : World) (F : Nat) (hF : 2 ^ n - 1 = F) (hA : GA n A0) (hr : Rd maskF w a A0) (hl : Rd (Value.int .i64) w b l) (hlv : ∀ x ∈ l, 0 ≤ x ∧ x < (n : Int)) (hll : l.length ≤ 16) (hT : TabOk w) :
    Calls Tryd.prog 130 #[.slice a n c, .slice b l.length d] w fun e w' => ∃ v1 v2, e = .returned (.tuple #[v1, v2]) ∧ Own 70 w' w.heap.size v2 ((latTo F A0 l l.length).map maskF) ∧ Below w.heap.size w w' := by
  have RA := hid hr; have RT := hid hT; have HGA0 := hid hA; have RZ := hid hl; have HLV := hid hlv
  have h16 := hA.le
  have hpos1 := hA.pos
  have hlen := hA.len
  have hp : 2 ^ n ≤ 65536 := Nat.pow_le_pow_right (n := 2) (i := n) (j := 16) (by decide) h16
  have HF0 := hid (show F < 2 ^ n by have := Nat.two_pow_pos n; omega)
  clear hr hT hA hl hlv
  have hmk := run_make_row' (P := Tryd.prog) 67 70 (.int .u32 0) 4 Tryd.underlying67 (by kernel_rfl) rfl .i64 .i64 n (by omega) (by omega)
  have hle0 := fun (W : World) (h : Below w.heap.size w W) => h.size
  go_enter Tryd.func130, Tryd.ntmps130
  go_upto_region 1 with fail
  go_cut [6, 7, 8] from 9 (fun f l s wc => ElimStart n A0 F w f l s wc)
  case first =>
    go_region_law ((first | (refine step_copy tNets _ rfl _ _ rfl maskF _ rfl (by first | exact blk_new _ _ _ rfl | exact blk_old _ _ _ _ (blk_new _ _ _ rfl) | exact blk_new _ _ _ (by show _ = (w.alloc _).heap.size; simp)) a n c A0 rfl hlen (RA.out.below (B := w.heap.size) (by repeat (first | exact Below.refl _ _ | refine below_drew ?_ | refine Below.alloc ?_ (hle0 _ (by repeat (first | exact Below.refl _ _ | refine below_drew ?_ | exact Below.alloc (Below.refl _ _) (Nat.le_refl _) _))) _)) (Nat.le_refl _)) (fun y _ => rfl) hpos1 (by omega) ?_; intro gf cap w5 h1 h2 h3 h4) | (go_simp; go_at_call 112; refine (all_p _ _ _ F _ h16 hF).mono ?_; rintro e w' ⟨rfl, rfl⟩)))
    all_goals (go_wp2_with fail; go_meet)
    all_goals (first | exact es1 (by repeat (first | exact Below.refl _ _ | refine below_drew ?_ | refine Below.alloc ?_ (hle0 _ (by repeat (first | exact Below.refl _ _ | refine below_drew ?_ | exact Below.alloc (Below.refl _ _) (Nat.le_refl _) _))) _)) h1 h2 h4 (Nat.le_refl _) h16 | exact es1 (by repeat (first | exact Below.refl _ _ | refine below_drew ?_ | refine Below.alloc ?_ (hle0 _ (by repeat (first | exact Below.refl _ _ | refine below_drew ?_ | exact Below.alloc (Below.refl _ _) (Nat.le_refl _) _))) _)) h1 h2 h4 (Nat.le_succ _) h16 | exact es2 (by repeat (first | exact Below.refl _ _ | refine below_drew ?_ | refine Below.alloc ?_ (hle0 _ (by repeat (first | exact Below.refl _ _ | refine below_drew ?_ | exact Below.alloc (Below.refl _ _) (Nat.le_refl _) _))) _)) h1 h2 h3 (by first | exact blk_new _ _ _ rfl | exact blk_old _ _ _ _ (blk_new _ _ _ rfl) | exact blk_new _ _ _ (by show _ = (w.alloc _).heap.size; simp)) (Nat.le_refl _) (Nat.le_succ _) (by omega) h16 | exact es2 (by repeat (first | exact Below.refl _ _ | refine below_drew ?_ | refine Below.alloc ?_ (hle0 _ (by repeat (first | exact Below.refl _ _ | refine below_drew ?_ | exact Below.alloc (Below.refl _ _) (Nat.le_refl _) _))) _)) h1 h2 h3 (by first | exact blk_new _ _ _ rfl | exact blk_old _ _ _ _ (blk_new _ _ _ rfl) | exact blk_new _ _ _ (by show _ = (w.alloc _).heap.size; simp)) (Nat.le_succ _) (Nat.le_refl _) (by omega) h16)
  case rest =>
    obtain ⟨gf, capf, gl, rfl, rfl, rfl, hne, ho, hol, hb⟩ := hcut
    have OF := hid ho; have OL := hid hol; have BL := hid hb
    have hgf := ho.ge gf rfl
    have hgl := hol.ge gl rfl
    rw [show List.replicate n 0 = latTo F A0 l 0 by rw [← hlen]; rfl] at OL
    clear ho hol hb hmk hle0
    go_wp2
    go_loopw [8, 10, 12, 23] (fun sv _ _ x wr => ∃ k : Nat, k ≤ l.length ∧ x = .int .i64 k ∧ sv = .int .u32 (sTo F l k : Nat) ∧ Own 70 wr w.heap.size (.slice (some ⟨gf, 0, none⟩) n capf) ((fTo F A0 l k).map maskF) ∧ Own 70 wr w.heap.size (.slice (some ⟨gl, 0, none⟩) n n) ((latTo F A0 l k).map maskF) ∧ Below w.heap.size w wr) (fun _ _ _ x _ => l.length - (intOf x).toNat)
    case atStart => exact ⟨0, Nat.zero_le _, rfl, rfl, OF.out, OL.out, BL.out⟩
    case round =>
      clear OF OL BL
      obtain ⟨k, hk, rfl, rfl, ho, hol, hb⟩ := hrel
      have OF := hid ho; have OL := hid hol; have BL := hid hb
      have RZ2 := hid (RZ.out.below hb (Nat.le_refl _))
      have hszr := hb.size
      clear ho hol hb
      by_cases hlt : k < l.length
      · obtain ⟨lb, lo, rfl, cl⟩ := RZ2.out k hlt
        have hi0 : (k : Int) < (l.length : Int) := by omega
        have hv := HLV.out l[k] (List.getElem_mem hlt)
        obtain ⟨m, hm⟩ := Int.eq_ofNat_of_zero_le hv.1
        rw [hm] at cl
        have hat : atN l k = m := by unfold atN; rw [getD_eq _ k hlt, hm]; rfl
        have hmn : m < n := by omega
        have hmi : (m : Int) < (n : Int) := by omega
        have HSS := hid (show sTo F l (k + 1) = dif (sTo F l k) (2 ^ m) by show dif _ (2 ^ atN l k) = _; rw [hat])
        have HFF := hid (show fTo F A0 l (k + 1) = elimA (fTo F A0 l k) (nearV (fTo F A0 l k) (sTo F l k) m) by show elimA _ (nearV _ _ (atN l k)) = _; rw [hat])
        have HLL := hid (show latTo F A0 l (k + 1) = (latTo F A0 l k).set m (nearV (fTo F A0 l k) (sTo F l k) m) by show (latTo F A0 l k).set (atN l k) (nearV _ _ (atN l k)) = _; rw [hat])
        have HGA := hid (fTo_ga (F := F) HGA0.out l k)
        have hS := sTo_lt HF0.out l k
        have HTL := hid (show (latTo F A0 l k).length = n by rw [latTo_len, hlen])
        clear hv hm hat
        generalize fTo F A0 l k = A at *
        generalize sTo F l k = S at *
        generalize latTo F A0 l k = T at *
        have HLEN := hid HGA.out.len
        have hml' : m < A.length := by rw [HLEN.out]; exact hmn
        have hmt : m < T.length := by rw [HTL.out]; exact hmn
        have cu := OF.out.cell m (by rw [List.length_map]; exact hml')
        rw [List.getElem_map, ← getD_in hml'] at cu
        have ct := OL.out.cell m (by rw [List.length_map]; exact hmt)
        have hfr := OL.out.free m
        have hx := HGA.out.in2 m
        have HN := hid (nearV_lt HGA.out S m)
        have HNE := hid (near_dif A S m)
        have hstL := OL.out.store m (by rw [List.length_map]; exact hmt) (maskF (nearV A S m))
        rw [← List.map_set] at hstL
        have OLs := hid hstL
        have OFs := hid (OF.out.setCell_other ⟨gl, m, none⟩ (maskF (nearV A S m)) (.inr (by simp [Value.ownBlock]; exact fun h => hne h)))
        have BLs := hid (BL.out.setCell (p := ⟨gl, m, none⟩) (by simp only; exact hgl) (maskF (nearV A S m)))
        have RTs := hid (RT.out.below BLs.out (Nat.le_refl _))
        have cN := hstL.cell m (by rw [List.length_map, List.length_set]; exact hmt)
        rw [List.getElem_map, List.getElem_set_self] at cN
        clear hstL hml'
        generalize A.getD m 0 = X at *
        generalize nearV A S m = N at *
        have hn2 := HN.out
        have hpw : 2 ^ m < 65536 := Nat.pow_lt_pow_right (by decide) (show m < 16 by omega)
        have hdf := u32_dif S (2 ^ m) (by omega) (by omega)
        have hdl := dif_le S (2 ^ m)
        have hand := u32_and_nat X (dif S (2 ^ m)) (by omega) (by omega)
        rw [HNE.out] at hand
        generalize dif S (2 ^ m) = S2 at *
        generalize hPP : 2 ^ m = P at *
        have hml := mems_len N
        have HMB := hid (fun k (hk : k < (memsN N).length) => (memsN_mem (show N < 4294967296 by omega)).1 (List.getElem_mem hk))
        have HLN := hid (mems_lenN N)
        have HEL := hid (fun k (a : Nat) => elimL_lt (L := (memsN N).take k) HGA.out HN.out (fun u hu => by
          have h1 := (memsN_mem (show N < 4294967296 by omega)).1 (List.mem_of_mem_take hu)
          rw [HLEN.out]; exact bit_under HN.out h1) a)
        have hN16 : N < 65536 := by omega
        unfold maskF at cu cN
        unfold maskF at ct
        clear hx HNE
        have HOL := hid (show Own 70 (wr.setCell ⟨gl, m, none⟩ (.int .u32 N)) w.heap.size (.slice (some ⟨gl, 0, none⟩) n n) ((T.set m N).map maskF) from OLs.out)
        have HOF := hid (show Own 70 (wr.setCell ⟨gl, m, none⟩ (.int .u32 N)) w.heap.size (.slice (some ⟨gf, 0, none⟩) n capf) (A.map maskF) from OFs.out)
        have HBL := hid (show Below w.heap.size w (wr.setCell ⟨gl, m, none⟩ (.int .u32 N)) from BLs.out)
        have HRT := hid (show TabOk (wr.setCell ⟨gl, m, none⟩ (.int .u32 N)) from RTs.out)
        clear OLs OFs BLs RTs OF OL BL
        go_wp2_with (first | (go_at_call 68; refine (one_p m P _ (by omega) hPP).mono ?_; rintro e w' ⟨rfl, rfl⟩))
        go_wp2_with fail
        clear cu ct hfr cl
        generalize wr.setCell ⟨gl, m, none⟩ (.int .u32 N) = ws at *
        have OL := HOL; have OA := HOF; have B0 := HBL; have RT2 := HRT
        clear HOL HOF HBL HRT
        have HGFW := hid (show gf < ws.heap.size from OA.out.lt gf rfl)
        refine (list_any N _ RT2.out hN16).mono ?_
        rintro e w1 ⟨lv, rfl, hown, hb⟩
        obtain ⟨la, lc, rfl, hlr, _, _, _, hlb⟩ := hown.rd
        have RL := hid hlr; have HLB := hid hlb
        have cM := cellB hb cN (Nat.le_refl _)
        replace RT2 := hid (RT2.out.below hb (Nat.le_refl _))
        replace OL := hid (OL.out.past hb (Nat.le_refl _))
        replace OA := hid (OA.out.past hb (Nat.le_refl _))
        replace B0 := hid (bon B0.out hb)
        clear hb
        clear hlr hown hlb cN
        have hszb := B0.out.size
        have hsgl : gl < w1.heap.size := OL.out.lt gl rfl
        have hsgf : gf < w1.heap.size := OA.out.lt gf rfl
        have hlbs : ∀ lb' lo', la = some ⟨lb', lo', none⟩ → lb' ≠ gf := by
          intro lb' lo' h
          have h1 := (HLB.out lb' lo' h).1
          have h2 := HGFW.out
          omega
        have HLBS := hid hlbs
        clear hlbs
        go_wp2
        go_loopw [12, 46] (fun _ x wq => ∃ j : Nat, j ≤ (mems N).length ∧ x = .int .i64 j ∧ Own 70 wq w.heap.size (.slice (some ⟨gf, 0, none⟩) n capf) ((elimL A N ((memsN N).take j)).map maskF) ∧ Kept (fun g => g = gf) w1 wq) (fun _ x _ => (mems N).length - (intOf x).toNat)
        case atStart => exact ⟨0, Nat.zero_le _, rfl, OA.out, Kept.refl _ _⟩
        case round =>
          clear OA
          obtain ⟨j, hj, rfl, ho, hkp⟩ := hrel
          have OE := hid ho; have KP := hid hkp
          clear ho hkp
          have cM2 := cellK KP.out cM (by simp only; exact fun h => hne h.symm)
          by_cases hltj : j < (mems N).length
          · obtain ⟨lb', lo', hla, cl⟩ := RL.out j hltj
            have hlb := HLBS.out lb' lo' hla
            have cl2 := cellK KP.out cl (by simp only; exact hlb)
            have hatl := at_slice tIntsL hla (mems N).length lc j hltj
            have hki : (j : Int) < ((mems N).length : Int) := by omega
            have hltN : j < (memsN N).length := by rw [← HLN.out]; exact hltj
            have hub := HMB.out j hltN
            have hul : (memsN N)[j] < n := bit_under HN.out hub
            have HT := hid (elimL_take A N (memsN N) j hltN)
            have hEl : (elimL A N ((memsN N).take j)).length = n := by rw [elimL_len, HLEN.out]
            have hE := HEL.out j
            rw [memsN_get hltj] at cl2
            clear cl hub
            generalize (memsN N)[j] = u at *
            generalize elimL A N ((memsN N).take j) = E at *
            have cu := OE.out.cell u (by rw [List.length_map, hEl]; exact hul)
            rw [List.getElem_map, ← getD_in (by rw [hEl]; exact hul)] at cu
            have hEu := hE u
            have hfr := OE.out.free u
            generalize E.getD u 0 = Y at *
            have hpu : 2 ^ u < 65536 := Nat.pow_lt_pow_right (by decide) (show u < 16 by omega)
            have hdu := u32_dif N (2 ^ u) (by omega) (by omega)
            have hdl' := dif_le N (2 ^ u)
            have hor := u32_or_nat Y (dif N (2 ^ u)) (by omega) (by omega)
            generalize hPU : 2 ^ u = PU at *
            generalize dif N PU = DU at *
            unfold maskF at cu
            have hui : (u : Int) < (n : Int) := by omega
            clear hla
            have BS := hid (Below.refl wr.heap.size wr)
            have HEL2 := hid hEl
            clear hEl hE
            go_wp2
            have qcl2 := fun (p : Bel _) => cellB p.h cl2 (Nat.le_refl _)
            have qcu := fun (p : Bel _) => cellB p.h cu (Nat.le_refl _)
            have qcM2 := fun (p : Bel _) => cellB p.h cM2 (Nat.le_refl _)
            refine wp_quiet_tail_b 13 (by kernel_rfl) (by kernel_rfl) ?_
            simp only [List.take_succ_cons, List.take_zero, List.drop_succ_cons, List.drop_zero]
            repeat (go_big_quiet_step (first | (go_at_call 68; exact qbs (one_p u PU _ (by omega) hPU))))
            refine wpQuiet_nil ?_
            intro _ hw'
            obtain ⟨⟨w1, hb⟩, rfl⟩ := hw'
            clear qcl2 qcu qcM2
            replace OE := hid (OE.out.past hb (Nat.le_refl _))
            replace BS := hid (bon BS.out hb)
            replace cl2 := cellB hb cl2 (Nat.le_refl _)
            replace cu := cellB hb cu (Nat.le_refl _)
            replace cM2 := cellB hb cM2 (Nat.le_refl _)
            clear hb
            rename_i wt
            have hst := OE.out.store u (by rw [List.length_map, HEL2.out]; exact hul) (maskF (Y ||| DU))
            rw [← List.map_set] at hst
            have OE2 := hid hst
            have hfr2 := OE.out.free u
            have K2 := hid (Kept.setCell (S := fun g => g = gf) (KP.out.trans (Kept.of_below _ BS.out)) (p := ⟨gf, u, none⟩) rfl (maskF (Y ||| DU)))
            unfold maskF at K2
            clear hst OE KP hfr
            go_wp2
            go_roundw
            case rel => exact ⟨j + 1, by omega, by go_num, by rw [HT.out]; exact OE2.out, K2.out⟩
            case measure => simp [intOf]; omega
          · obtain rfl : j = (mems N).length := by omega
            have OE2 := hid (show Own 70 wr w.heap.size (.slice (some ⟨gf, 0, none⟩) n capf) ((elimA A N).map maskF) by have h := OE.out; rw [HLN.out, List.take_length] at h; exact h)
            have OL2 := hid (OL.out.keptS KP.out (fun g hg hs => by simp [Value.ownBlock] at hg; omega))
            have BL2 := hid (B0.out.trans (Kept.below1 KP.out hgf B0.out.size))
            clear OE KP
            go_wp2
            go_roundw
            case rel => exact ⟨k + 1, by omega, by go_num, by rw [HSS.out], by rw [HFF.out]; exact OE2.out, by rw [HLL.out]; exact OL2.out, BL2.out⟩
            case measure => simp [intOf]; omega
      · obtain rfl : k = l.length := by omega
        go_wp2
        go_ret2
        exact ⟨_, _, rfl, OL.out, BL.out⟩
end
section
set_option maxRecDepth 100000 in
set_option maxHeartbeats 4000000 in
theorem widthOf_any (a : Option Addr) (A0 : List Nat) (n c : Nat) (b : Option Addr) (l : List Int) (d : Nat) (w : World) (F : Nat) (hF : 2 ^ n - 1 = F) (hA : GA n A0) (hr : Rd maskF w a A0) (hl : Rd (Value.int .i64) w b l) (hlv : ∀ x ∈ l, 0 ≤ x ∧ x < (n : Int)) (hll : l.length ≤ 16) (hT : TabOk w) :
    Calls Tryd.prog 72 #[.slice a n c, .slice b l.length d] w fun e w' => e = .returned (.int .i64 (wmax (latTo F A0 l l.length) n : Nat)) ∧ Below w.heap.size w w' := by
  have RA := hid hr; have RT := hid hT; have RZ := hid hl; have HLV := hid hlv; have HGA := hid hA
  have h16 := hA.le
  have HTL := hid (show (latTo F A0 l l.length).length = n by rw [latTo_len, hA.len])
  have HLT := hid (latTo_lt (F := F) hA l l.length)
  have hp : 2 ^ n ≤ 65536 := Nat.pow_le_pow_right (n := 2) (i := n) (j := 16) (by decide) h16
  clear hr hT hl hlv hA
  have B0 := hid (Below.refl w.heap.size w)
  go_enter Tryd.func72, Tryd.ntmps72
  go_wp2_with fail
  refine (elimination_any a A0 n c b l d w F hF HGA.out RA.out RZ.out HLV.out hll RT.out).mono ?_
  rintro e w1 ⟨v1, v2, rfl, hown, hb⟩
  obtain ⟨T, hT0⟩ : ∃ T, latTo F A0 l l.length = T := ⟨_, rfl⟩
  rw [hT0] at hown HTL HLT
  have HR := hid hT0
  clear hT0
  replace RT := hid (RT.out.below hb (Nat.le_refl _))
  replace B0 := hid (bon B0.out hb)
  clear hb
  obtain ⟨va, vc, hv2, hrd, _⟩ := Own.rd (f := maskF) hown
  rw [HTL.out] at hv2
  subst hv2
  have RL := hid hrd
  clear hown hrd
  go_wp2
  have RT0 := hid RT.out; have RL0 := hid RL.out; have B00 := hid B0.out
  go_loopw [7, 9, 18] (fun m _ x wr => ∃ k : Nat, k ≤ n ∧ x = .int .i64 k ∧ m = .int .i64 (wmax T k : Nat) ∧ Below w1.heap.size w1 wr) (fun _ _ x _ => n - (intOf x).toNat)
  case atStart => exact ⟨0, Nat.zero_le _, rfl, rfl, Below.refl _ _⟩
  case round =>
    clear RT RL B0
    obtain ⟨k, hk, rfl, rfl, hd⟩ := hrel
    have RT := hid (RT0.out.below hd (Nat.le_refl _)); have RL := hid (RL0.out.below hd (Nat.le_refl _)); have B0 := hid (bon B00.out hd); have BL := hid hd
    clear hd
    have hw16 := wmax_le T k
    by_cases hlt : k < n
    · have hltT : k < T.length := by rw [HTL.out]; exact hlt
      obtain ⟨lb, lo, rfl, cl⟩ := RL.out k hltT
      have hki : (k : Int) < (n : Int) := by omega
      have hx := HLT.out T[k] (List.getElem_mem hltT)
      have HSU := hid (show wmax T (k + 1) = max (wmax T k) (pcN 16 T[k]) by show max _ (pcN 16 (T.getD k 0)) = _; rw [getD_in hltT])
      have hpc := pcN_le 16 T[k]
      unfold maskF at cl
      generalize T[k] = x at *
      have HS := hid (fun (w : World) => size_any x w (show x < 65536 by omega))
      generalize pcN 16 x = q at *
      generalize wmax T k = m at *
      go_wp2_with fail
      refine (HS.out _).mono ?_
      rintro e w2 ⟨rfl, hd⟩
      have hb := Drawn.bel hd
      clear hd
      replace RT := hid (RT.out.below hb (Nat.le_refl _))
      replace RL := hid (RL.out.below hb (Nat.le_refl _))
      replace B0 := hid (bon B0.out hb)
      replace BL := hid (bon BL.out hb)
      clear hb
      clear cl
      go_wp2
      go_roundw
      case rel => exact ⟨k + 1, by omega, by go_num, by rw [HSU.out]; (apply congrArg; omega), BL.out⟩
      case measure => simp [intOf]; omega
    · obtain rfl : k = n := by omega
      go_wp2
      go_ret
      exact ⟨ret_int (by rw [HR.out]), B0.out⟩
set_option maxRecDepth 100000 in
set_option maxHeartbeats 4000000 in
theorem implOrderWidth_b (a : Option Addr) (rs : List Row) (c : Nat) (a' : Option Addr) (zs : List Int) (c' : Nat) (w : World) (r : Int) (hx : widL (nums rs) zs = r) (hr : RdM w a rs) (hn : Small rs) (hz : Rd (Value.int .i64) w a' zs) (hm : zs.length ≤ 1048576) (hc' : zs.length ≤ c') (hT : TabOk w) :
    Calls Tryd.prog 23 #[.agg #[.slice a rs.length c], .slice a' zs.length c'] w fun e w' => e = .returned (.int .i64 r) ∧ Below w.heap.size w w' := by
  have RA := hid hr; have RZ := hid hz; have HX := hid hx; have RT := hid hT; clear hr hz hx hT
  obtain ⟨w0, hw0⟩ : ∃ w0, w0 = (w.alloc (.cells #[.slice a rs.length c] 28)) := ⟨_, rfl⟩
  have B0 := hid (show Below w.heap.size w w0 by rw [hw0]; exact ((Below.refl _ _).alloc (Nat.le_refl _) _))
  have c0 : w0.cell? ⟨w.heap.size, 0, none⟩ = some (.slice a rs.length c) := by rw [hw0]; simp [go_sem]
  replace RA := hid (RA.out.below B0.out (Nat.le_refl _))
  replace RZ := hid (RZ.out.below B0.out (Nat.le_refl _))
  replace RT := hid (RT.out.below B0.out (Nat.le_refl _))
  have HW := hid hw0; clear hw0
  by_cases ho : OrdP (nums rs) zs
  · have h2 := hid (show decide (OrdP (nums rs) zs) = true by simpa using ho)
    have HG := hid ho.1
    have hga := GA.of ho.1
    have HFIN := hid (show ((wmax (latTo (2 ^ (nums rs).length - 1) ((nums rs).map maskL) zs zs.length) (nums rs).length : Nat) : Int) = r by rw [← HX.out]; unfold widL; rw [if_pos ho])
    rw [nums_length] at hga HFIN
    have HGA := hid hga
    have h16 := hga.le
    have hz16 : zs.length ≤ 16 := by have := ho.2.1; rw [nums_length] at this; omega
    have HRG := hid (show ∀ x ∈ zs, 0 ≤ x ∧ x < (rs.length : Int) by have := ho.2.2.1; rwa [nums_length] at this)
    clear ho HX hga
    go_enter Tryd.func23, Tryd.ntmps23
    go_wp2_with fail
    rw [← HW.out]
    refine (implOrderOk_b a rs c a' zs c' _ true h2.out RA.out hn RZ.out hm hc').mono ?_
    rintro e w1 ⟨rfl, hb⟩
    replace RA := hid (RA.out.below hb (Nat.le_refl _))
    replace RZ := hid (RZ.out.below hb (Nat.le_refl _))
    replace RT := hid (RT.out.below hb (Nat.le_refl _))
    replace B0 := hid (bon B0.out hb)
    replace c0 := cellB hb c0 (Nat.le_refl _)
    clear hb
    go_wp2_with fail
    refine (netsOf_any a rs c _ HG.out RA.out hn).mono ?_
    rintro e w1 ⟨v, rfl, hown, hb⟩
    replace RA := hid (RA.out.below hb (Nat.le_refl _))
    replace RZ := hid (RZ.out.below hb (Nat.le_refl _))
    replace RT := hid (RT.out.below hb (Nat.le_refl _))
    replace B0 := hid (bon B0.out hb)
    replace c0 := cellB hb c0 (Nat.le_refl _)
    clear hb
    obtain ⟨na, nc, rfl, hsr, _, _, _, _⟩ := Own.rd (f := netF) hown
    have RN := hid hsr.masks; clear hown hsr RA c0 HG h2 HW
    rw [nums_length]
    generalize (nums rs).map maskL = A at *
    go_wp2_with fail
    refine (narrow_any a' zs c' _ RZ.out hm).mono ?_
    rintro e w2 ⟨v, rfl, hown, hb⟩
    replace RZ := hid (RZ.out.below hb (Nat.le_refl _))
    replace RT := hid (RT.out.below hb (Nat.le_refl _))
    replace RN := hid (RN.out.below hb (Nat.le_refl _))
    replace B0 := hid (bon B0.out hb)
    clear hb
    obtain ⟨oa, oc, rfl, hsr, _⟩ := Own.rd (f := Value.int .i64) hown
    have RO := hid hsr; clear hown hsr
    generalize hF : 2 ^ rs.length - 1 = F at *
    go_wp2_with fail
    refine (widthOf_any na A rs.length nc oa zs oc _ F hF HGA.out RN.out RO.out HRG.out hz16 RT.out).mono ?_
    rintro e w3 ⟨rfl, hb⟩
    replace RT := hid (RT.out.below hb (Nat.le_refl _))
    replace RN := hid (RN.out.below hb (Nat.le_refl _))
    replace RO := hid (RO.out.below hb (Nat.le_refl _))
    replace B0 := hid (bon B0.out hb)
    clear hb
    go_wp2
    go_ret
    exact ⟨ret_int HFIN.out, B0.out⟩
  · have h2 := hid (show decide (OrdP (nums rs) zs) = false by simpa using ho)
    have HFIN := hid (show (-1 : Int) = r by rw [← HX.out]; unfold widL; rw [if_neg ho])
    clear ho HX
    go_enter Tryd.func23, Tryd.ntmps23
    go_wp2_with fail
    rw [← HW.out]
    refine (implOrderOk_b a rs c a' zs c' _ false h2.out RA.out hn RZ.out hm hc').mono ?_
    rintro e w1 ⟨rfl, hb⟩
    replace RA := hid (RA.out.below hb (Nat.le_refl _))
    replace RZ := hid (RZ.out.below hb (Nat.le_refl _))
    replace RT := hid (RT.out.below hb (Nat.le_refl _))
    replace B0 := hid (bon B0.out hb)
    replace c0 := cellB hb c0 (Nat.le_refl _)
    clear hb
    go_wp2
    go_ret
    exact ⟨ret_int HFIN.out, B0.out⟩
end
end Go.Proofs.YtahibjikcijnfaaDoor
