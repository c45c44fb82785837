/- The law package's own helpers on decompositions; the width of one. -/
import Derived.Test.YthdfkpinaidkkaaGr
import Derived.Test.YthdfkpinaidkkaaBag
import Derived.Test.YthdfkpinaidkkaaMem3
namespace Go.Proofs.Ythdfkpinaidkkaa
open Go.RowKit

/-- sz of both lists. -/
def szD (rs qs : List Row) (x : Int) : Int := if sz2 rs x < 0 then -1 else sz2 qs (sz2 rs x)
set_option maxHeartbeats 1000000 in
theorem szD_any (a : Option Addr) (rs : List Row) (c : Nat) (b : Option Addr) (qs : List Row) (d : Nat) (x : Int) (w : World) (hn : rs.length ≤ maxLen) (hm : qs.length ≤ maxLen) (hr : RdM w a rs) (hq : RdM w b qs) (h0 : 0 ≤ x) (h1 : x ≤ 1048576) :
    Calls Try.prog 15 #[.agg #[.slice a rs.length c, .slice b qs.length d], .int .i64 x] w fun e w' => e = .returned (.int .i64 (szD rs qs x)) ∧ Below w.heap.size w w' := by
  have HR := hid hr; have HQ := hid hq; clear hr hq
  by_cases h : sz2 rs x < 0
  · have HE := hid (show szD rs qs x = -1 from if_pos h)
    go_enter Try.func15, Try.ntmps15
    go_wp2_with fail
    refine (sz2_any _ _ _ _ _ hn (HR.out.below (alloc_below _ _) (Nat.le_refl _)) h0 h1).mono ?_
    rintro e w' ⟨rfl, rfl⟩
    go_wp2
    go_ret
    exact ⟨ret_int HE.out.symm, alloc_below _ _⟩
  · have HE := hid (show szD rs qs x = sz2 qs (sz2 rs x) from if_neg h)
    have h2 := sz2_le rs x h0 h1
    by_cases h' : sz2 qs (sz2 rs x) < 0
    · have HN := hid (show sz2 qs (sz2 rs x) = -1 by have := sz2_sign qs (sz2 rs x) (by omega); omega)
      go_enter Try.func15, Try.ntmps15
      go_wp2_with fail
      refine (sz2_any _ _ _ _ _ hn (HR.out.below (alloc_below _ _) (Nat.le_refl _)) h0 h1).mono ?_
      rintro e w' ⟨rfl, rfl⟩
      go_wp2_with fail
      refine (sz2_any _ _ _ _ _ hm (HQ.out.below (alloc_below _ _) (Nat.le_refl _)) (by omega) h2).mono ?_
      rintro e w' ⟨rfl, rfl⟩
      go_wp2
      go_ret
      exact ⟨ret_int (by rw [HE.out, HN.out]), alloc_below _ _⟩
    · go_enter Try.func15, Try.ntmps15
      go_wp2_with fail
      refine (sz2_any _ _ _ _ _ hn (HR.out.below (alloc_below _ _) (Nat.le_refl _)) h0 h1).mono ?_
      rintro e w' ⟨rfl, rfl⟩
      go_wp2_with fail
      refine (sz2_any _ _ _ _ _ hm (HQ.out.below (alloc_below _ _) (Nat.le_refl _)) (by omega) h2).mono ?_
      rintro e w' ⟨rfl, rfl⟩
      go_wp2
      go_ret
      exact ⟨ret_int (by rw [HE.out]), alloc_below _ _⟩
theorem szD_small (rs qs : List Row) (x : Int) (h : 0 ≤ x) (h1 : x ≤ 1048576) (hs : ¬ szD rs qs x < 0) : (Small rs ∧ total rs ≤ 1048576) ∧ Small qs ∧ total qs ≤ 1048576 := by
  unfold szD at hs
  split at hs
  · omega
  · rename_i hn
    have h2 := sz2_small rs x h h1 (by omega)
    have h3 := sz2_small qs (sz2 rs x) (by omega) (by omega) (by omega)
    exact ⟨⟨h2.1, h2.2.1⟩, h3.1, h3.2.1⟩
/-- A decomposition was copied. -/
structure CpD (w w' : World) (rs qs rs' qs' : List Row) (a' b' : Option Addr) (c' d' : Nat) : Prop where
  nums : nums rs' = nums rs
  nums2 : Go.Proofs.Ythdfkpinaidkkaa.nums qs' = Go.Proofs.Ythdfkpinaidkkaa.nums qs
  own : OwnM 42 2 w' w.heap.size (.slice a' rs'.length c') rs'
  own2 : OwnM 42 2 w' w.heap.size (.slice b' qs'.length d') qs'
  rd : RdM w' a' rs'
  rd2 : RdM w' b' qs'
  small : Small rs'
  small2 : Small qs'
  below : Below w.heap.size w w'
  mid : ∃ m, (w.heap.size ≤ m ∧ m ≤ w'.heap.size) ∧ blocksIn (.slice a' rs'.length c') rs' (fun g => w.heap.size ≤ g ∧ g < m) ∧ blocksIn (.slice b' qs'.length d') qs' (fun g => m ≤ g ∧ g < w'.heap.size)
set_option maxHeartbeats 2000000 in
theorem toD_cp (a : Option Addr) (rs : List Row) (c : Nat) (b : Option Addr) (qs : List Row) (d : Nat) (w : World) (hr : RdM w a rs) (hn : Small rs) (hq : RdM w b qs) (hm : Small qs) :
    Calls Try.prog 17 #[.agg #[.slice a rs.length c, .slice b qs.length d]] w fun e w' => ∃ a' rs' c' b' qs' d', e = .returned (.agg #[.slice a' rs'.length c', .slice b' qs'.length d']) ∧ CpD w w' rs qs rs' qs' a' b' c' d' := by
  have HR := hid hr; have HQ := hid hq; clear hr hq
  go_enter Try.func17, Try.ntmps17
  go_wp2_with fail
  have B0 := hid (((alloc_below w (.cells #[.slice a rs.length c, .slice b qs.length d] 32)).alloc (by simp) (.cells #[.slice none 0 0, .slice none 0 0] 35)).alloc (by simp <;> omega) (.cells #[.slice none 0 0, .slice none 0 0] 35))
  refine (to2_cp _ _ _ _ (HR.out.below B0.out (Nat.le_refl _)) hn).mono ?_
  rintro e w1 ⟨a1, rs1, c1, rfl, C1⟩
  have hb := C1.below
  have hp : w1.cell? ⟨w.heap.size, 1, none⟩ = some (.slice b qs.length d) := (hb.cell (by simp <;> omega)).trans (by simp [go_sem])
  have hc1 : w1.cell? ⟨w.heap.size + 1, 0, none⟩ = some (.slice none 0 0) := (hb.cell (by simp)).trans (by simp [go_sem])
  have hc1' : w1.cell? ⟨w.heap.size + 1, 1, none⟩ = some (.slice none 0 0) := (hb.cell (by simp)).trans (by simp [go_sem])
  have hc2 : w1.cell? ⟨w.heap.size + 1 + 1, 0, none⟩ = some (.slice none 0 0) := (hb.cell (by simp)).trans (by simp [go_sem])
  have hc2' : w1.cell? ⟨w.heap.size + 1 + 1, 1, none⟩ = some (.slice none 0 0) := (hb.cell (by simp)).trans (by simp [go_sem])
  have hf1 : w1.frozen? ⟨w.heap.size + 1, 0, none⟩ = false := (hb.frozen (by simp)).trans (by simp [go_sem])
  have hf1' : w1.frozen? ⟨w.heap.size + 1, 1, none⟩ = false := (hb.frozen (by simp)).trans (by simp [go_sem])
  have hf2 : w1.frozen? ⟨w.heap.size + 1 + 1, 0, none⟩ = false := (hb.frozen (by simp)).trans (by simp [go_sem])
  have hf2' : w1.frozen? ⟨w.heap.size + 1 + 1, 1, none⟩ = false := (hb.frozen (by simp)).trans (by simp [go_sem])
  have hz : w.heap.size + 2 < w1.heap.size := by have := hb.size; simp at this; omega
  have K1 := hid C1; clear C1 hb
  go_wp2_with fail
  have S : Hid (∃ W2, W2 = w1.setCell ⟨w.heap.size + 1 + 1, 0, none⟩ (.slice a1 rs1.length c1) ∧ W2.cell? ⟨w.heap.size + 1, 0, none⟩ = some (.slice none 0 0) ∧ W2.cell? ⟨w.heap.size + 1, 1, none⟩ = some (.slice none 0 0) ∧
      W2.cell? ⟨w.heap.size + 1 + 1, 0, none⟩ = some (.slice a1 rs1.length c1) ∧ W2.cell? ⟨w.heap.size + 1 + 1, 1, none⟩ = some (.slice none 0 0) ∧ W2.frozen? ⟨w.heap.size + 1, 0, none⟩ = false ∧ W2.frozen? ⟨w.heap.size + 1, 1, none⟩ = false ∧
      W2.frozen? ⟨w.heap.size + 1 + 1, 0, none⟩ = false ∧ W2.frozen? ⟨w.heap.size + 1 + 1, 1, none⟩ = false ∧ w.heap.size + 2 < W2.heap.size ∧ Below w.heap.size w W2 ∧
      OwnM 42 2 W2 (w.heap.size + 3) (.slice a1 rs1.length c1) rs1) := by
    refine ⟨_, rfl, by simp [go_sem, hc1], by simp [go_sem, hc1'], by simp [go_sem, hc2], by simp [go_sem, hc2'], by simpa [go_sem] using hf1, by simpa [go_sem] using hf1', by simpa [go_sem] using hf2, by simpa [go_sem] using hf2', by simpa [World.setCell] using hz, ?_, ?_⟩
    · exact (B0.out.trans (K1.out.below.mono (by simp <;> omega))).setCell (by simp <;> omega) _
    · exact (K1.out.own.base (by simp)).setCell_below (by simp) _
  clear hc1 hc1' hc2 hc2' hf1 hf1' hf2 hf2' hz
  obtain ⟨W2, hW2, hc1, hc1', hc2, hc2', hf1, hf1', hf2, hf2', hz, hbW, hoW⟩ := S.out
  rw [← hW2]
  have HOW := hid hoW; have HBW := hid hbW; clear hW2 hoW hbW S hp
  have HN1 := hid K1.out.nums; have HS1 := hid K1.out.small; clear K1
  refine (to2_cp b qs d W2 (HQ.out.below HBW.out (Nat.le_refl _)) hm).mono ?_
  rintro e w2 ⟨a2, qs2, c2, rfl, C2⟩
  have hb := C2.below
  have K2 := hid C2; clear C2
  have gc1 : w2.cell? ⟨w.heap.size + 1, 0, none⟩ = some (.slice none 0 0) := (hb.cell (by simp <;> omega)).trans hc1
  have gc1' : w2.cell? ⟨w.heap.size + 1, 1, none⟩ = some (.slice none 0 0) := (hb.cell (by simp <;> omega)).trans hc1'
  have gc2 : w2.cell? ⟨w.heap.size + 1 + 1, 0, none⟩ = some (.slice a1 rs1.length c1) := (hb.cell (by simp <;> omega)).trans hc2
  have gc2' : w2.cell? ⟨w.heap.size + 1 + 1, 1, none⟩ = some (.slice none 0 0) := (hb.cell (by simp <;> omega)).trans hc2'
  have gf1 : w2.frozen? ⟨w.heap.size + 1, 0, none⟩ = false := (hb.frozen (by simp <;> omega)).trans hf1
  have gf1' : w2.frozen? ⟨w.heap.size + 1, 1, none⟩ = false := (hb.frozen (by simp <;> omega)).trans hf1'
  have gf2' : w2.frozen? ⟨w.heap.size + 1 + 1, 1, none⟩ = false := (hb.frozen (by simp <;> omega)).trans hf2'
  have gz : w.heap.size + 2 < w2.heap.size := by have := hb.size; omega
  clear hc1 hc1' hc2 hc2' hf1 hf1' hf2 hf2' hb
  go_wp2
  refine bodyPost_ret (v := .agg #[.slice a1 rs1.length c1, .slice a2 qs2.length c2]) (by simp [results, Try.results17, go_sem, gc1, gc1']) rfl ⟨_, rs1, c1, _, qs2, c2, rfl, ?_⟩
  have o1 := ((((HOW.out.past K2.out.below (Nat.le_refl _)).setCell_below (p := ⟨w.heap.size + 1 + 1, 1, none⟩) (by simp) (.slice a2 qs2.length c2)).setCell_below (p := ⟨w.heap.size + 1, 0, none⟩) (by simp) (.slice a1 rs1.length c1)).setCell_below (p := ⟨w.heap.size + 1, 1, none⟩) (by simp) (.slice a2 qs2.length c2)).base (B' := w.heap.size) (by omega)
  have o2 := (((K2.out.own.setCell_below (p := ⟨w.heap.size + 1 + 1, 1, none⟩) (by simp <;> omega) (.slice a2 qs2.length c2)).setCell_below (p := ⟨w.heap.size + 1, 0, none⟩) (by simp <;> omega) (.slice a1 rs1.length c1)).setCell_below (p := ⟨w.heap.size + 1, 1, none⟩) (by simp <;> omega) (.slice a2 qs2.length c2)).base (B' := w.heap.size) (by omega)
  exact ⟨HN1.out, K2.out.nums, o1, o2, o1.rdm, o2.rdm, HS1.out, K2.out.small, (((HBW.out.trans (K2.out.below.mono (by omega))).setCell (by simp <;> omega) _).setCell (by simp <;> omega) _).setCell (by simp <;> omega) _,
    W2.heap.size, ⟨by have := HBW.out.size; omega, by simpa [World.setCell] using K2.out.below.size⟩, HOW.out.blocks.mono (fun g hg => ⟨by omega, hg.2⟩), K2.out.own.blocks.mono (fun g hg => ⟨hg.1, by simpa [World.setCell] using hg.2⟩)⟩

set_option maxHeartbeats 1000000 in
/-- Equal decompositions compare equal. -/
theorem eqD_t (a a' b b' : Option Addr) (rs rs' qs qs' : List Row) (c c' d d' : Nat) (w : World) (h1 : nums rs = nums rs') (h2 : nums qs = nums qs') (hr : RdM w a rs) (hr' : RdM w a' rs') (hq : RdM w b qs) (hq' : RdM w b' qs') (hn : Small rs) (hn' : Small rs') (hm : Small qs) (hm' : Small qs') :
    Calls Try.prog 20 #[.agg #[.slice a rs.length c, .slice b qs.length d], .agg #[.slice a' rs'.length c', .slice b' qs'.length d']] w fun e w' => e = .returned (.bool true) ∧ Below w.heap.size w w' := by
  have HR := hid hr; have HR' := hid hr'; have HQ := hid hq; have HQ' := hid hq'; clear hr hr' hq hq'
  have H1 := hid h1; have H2 := hid h2; clear h1 h2
  have hB : ∀ o1 o2, Below w.heap.size w ((w.alloc o1).alloc o2) := fun o1 o2 => (alloc_below w o1).alloc (by simp) o2
  have HBB := hid hB; clear hB
  go_enter Try.func20, Try.ntmps20
  go_wp2_with fail
  refine (eq2_b _ _ _ _ _ _ _ true (by rw [H1.out]; simp) (HR.out.below (HBB.out _ _) (Nat.le_refl _)) (HR'.out.below (HBB.out _ _) (Nat.le_refl _)) hn hn').mono ?_
  rintro e w1 ⟨rfl, m, rfl⟩
  go_wp2_with fail
  refine (eq2_b _ _ _ _ _ _ _ true (by rw [H2.out]; simp) ((HQ.out.below (HBB.out _ _) (Nat.le_refl _)).drewN m) ((HQ'.out.below (HBB.out _ _) (Nat.le_refl _)).drewN m) hm hm').mono ?_
  rintro e w1 ⟨rfl, hd⟩
  have HD := hid ((below_drewN (HBB.out _ _) m).trans (hd.below _)); clear hd
  go_wp2
  go_ret
  exact ⟨rfl, HD.out⟩
set_option maxHeartbeats 2000000 in
theorem markD_any (a : Option Addr) (rs : List Row) (c : Nat) (b : Option Addr) (qs : List Row) (d B B' lo m hi : Nat) (k : Int) (w : World) (ho : OwnM 42 2 w B (.slice a rs.length c) rs) (hS : blocksIn (.slice a rs.length c) rs (fun g => lo ≤ g ∧ g < m))
    (hq : OwnM 42 2 w B' (.slice b qs.length d) qs) (hT : blocksIn (.slice b qs.length d) qs (fun g => m ≤ g ∧ g < hi)) (hn : Small rs) (hm : Small qs) (h0 : 0 ≤ k) (h1 : k ≤ 1024) (hlm : lo ≤ m) (hmh : m ≤ hi) (hhw : hi ≤ w.heap.size) :
    Calls Try.prog 21 #[.agg #[.slice a rs.length c, .slice b qs.length d], .int .i64 k] w fun e w' => e = .returned (.int .i64 (k + total rs + total qs)) ∧ Kept (fun g => lo ≤ g ∧ g < hi) w w' := by
  have HO := hid ho; have HS := hid hS; have HQ := hid hq; have HT := hid hT; clear ho hS hq hT
  have t1 := small_total hn; have t2 := small_total hm
  have hb0 := alloc_below w (.cells #[.slice a rs.length c, .slice b qs.length d] 35)
  have HO1 := hid (HO.out.past hb0 (Nat.le_refl _)); have HQ1 := hid (HQ.out.past hb0 (Nat.le_refl _))
  have HK0 := hid (Kept.of_below (fun g => lo ≤ g ∧ g < hi) hb0)
  have hc0 : (w.alloc (.cells #[.slice a rs.length c, .slice b qs.length d] 35)).cell? ⟨w.heap.size, 1, none⟩ = some (.slice b qs.length d) := by simp [go_sem]
  have hsz : (w.alloc (.cells #[.slice a rs.length c, .slice b qs.length d] 35)).heap.size = w.heap.size + 1 := by simp
  clear hb0 HO HQ
  go_enter Try.func21, Try.ntmps21
  go_wp2_with fail
  generalize w.alloc (.cells #[.slice a rs.length c, .slice b qs.length d] 35) = w0 at *
  refine (mark2_any a rs c B k _ (fun g => lo ≤ g ∧ g < m) HO1.out HS.out (small_len hn) t1 h0 (by omega)).mono ?_
  rintro e w1 ⟨rfl, _, hk1⟩
  have HQ2 := hid (HQ1.out.keptS hk1 (HT.out.mono (fun g hg hh => by omega)))
  have hc1 := cellK hk1 hc0 (by intro hh; simp only at hh; omega)
  have HK1 := hid (HK0.out.trans (hk1.mono fun g hg => ⟨hg.1, by omega⟩))
  clear hk1 hc0
  go_wp2_with fail
  refine (mark2_any b qs d B' (k + total rs) _ (fun g => m ≤ g ∧ g < hi) HQ2.out HT.out (small_len hm) t2 (by omega) (by omega)).mono ?_
  rintro e w2 ⟨rfl, _, hk2⟩
  have HK2 := hid (HK1.out.trans (hk2.mono fun g hg => ⟨by omega, hg.2⟩))
  clear hk2
  go_wp2
  go_ret
  exact ⟨rfl, HK2.out⟩
end Go.Proofs.Ythdfkpinaidkkaa
