/- The law package's own helpers: a result is overwritten by numbers that go up, and held against them. -/
import Derived.Test.YtggjmnihnjdoaaaDoorBase
namespace Go.Proofs.YtggjmnihnjdoaaaDoor
open Go.RowKit

set_option maxHeartbeats 1000000 in
theorem mark1_any (a : Option Addr) (zs : List Int) (c B : Nat) (k : Int) (w : World) (S : Nat → Prop) (ho : Own 2 w B (.slice a zs.length c) (zs.map (.int .i64))) (hS : ∀ g, (Value.slice a zs.length c).ownBlock = some g → S g)
    (hn : zs.length ≤ 1099511627776) (h0 : 0 ≤ k) (h1 : k ≤ 4398046511104) :
    Calls Tryd.prog 36 #[.slice a zs.length c, .int .i64 k] w fun e w' => e = .returned (.int .i64 (k + zs.length)) ∧ Own 2 w' B (.slice a zs.length c) ((upFrom k zs.length).map (.int .i64)) ∧ Kept S w w' := by
  have HO := hid ho; have HSS := hid hS; clear ho hS
  go_enter Tryd.func36, Tryd.ntmps36
  go_wp2
  go_loopw [1, 5] (fun x i wr => ∃ j : Nat, j ≤ zs.length ∧ i = .int .i64 j ∧ x = .int .i64 (k + j) ∧ Own 2 wr B (.slice a zs.length c) ((upFrom k j ++ zs.drop j).map (.int .i64)) ∧ Kept S w wr) (fun _ i _ => zs.length - (intOf i).toNat)
  case atStart => exact ⟨0, Nat.zero_le _, rfl, by simp, by simpa [upFrom] using HO.out, Kept.refl _ _⟩
  case round =>
    obtain ⟨j, hj, rfl, rfl, hown, hk⟩ := hrel
    have HOWN := hid hown; have HK := hid hk; clear hown hk
    by_cases hlt : j < zs.length
    · obtain ⟨g, rfl⟩ : ∃ g, a = some ⟨g, 0, none⟩ := by
        rcases HOWN.out.form with ⟨h, _⟩ | ⟨g, cap, spare, hv, _⟩
        · injection h with _ h2 _; omega
        · exact ⟨g, (slice_inj hv).1⟩
      obtain ⟨u, hc⟩ := HOWN.out.cellE j hlt
      have hf := HOWN.out.free j
      have F : Hid (Own 2 (wr.setCell ⟨g, j, none⟩ (.int .i64 (k + j))) B (.slice (some ⟨g, 0, none⟩) zs.length c) ((upFrom k (j + 1) ++ zs.drop (j + 1)).map (.int .i64)) ∧ Kept S w (wr.setCell ⟨g, j, none⟩ (.int .i64 (k + j)))) := by
        refine ⟨?_, HK.out.setCell (HSS.out g rfl) _⟩
        have := HOWN.out.store j (by rw [HOWN.out.len]; exact hlt) (.int .i64 (k + j))
        rw [← marked_set zs k j hlt, List.map_set]
        exact this
      clear HOWN HK
      go_wp2
      go_roundw
      case rel => exact ⟨j + 1, by omega, by go_num, by go_num, F.out⟩
      case measure => simp [intOf]; omega
    · obtain rfl : j = zs.length := by omega
      go_wp2
      go_ret
      refine ⟨rfl, ?_, HK.out⟩
      simpa using HOWN.out

set_option maxHeartbeats 1000000 in
theorem mark2_any (a : Option Addr) (rs : List Row) (c B : Nat) (k : Int) (w : World) (S : Nat → Prop) (ho : OwnM 41 2 w B (.slice a rs.length c) rs) (hS : blocksIn (.slice a rs.length c) rs S)
    (hn : rs.length ≤ 1099511627776) (hn2 : total rs ≤ 1099511627776) (h0 : 0 ≤ k) (h1 : k ≤ 2199023255552) :
    Calls Tryd.prog 25 #[.slice a rs.length c, .int .i64 k] w fun e w' => e = .returned (.int .i64 (k + total rs)) ∧ OwnM 41 2 w' B (.slice a rs.length c) (markRows k rs) ∧ Kept S w w' := by
  have HO := hid ho; have HSS := hid hS; clear ho hS
  go_enter Tryd.func25, Tryd.ntmps25
  go_wp2
  go_loopw [1, 5] (fun x i wr => ∃ j : Nat, j ≤ rs.length ∧ i = .int .i64 j ∧ x = .int .i64 (k + total (rs.take j)) ∧ OwnM 41 2 wr B (.slice a rs.length c) (markRows k (rs.take j) ++ rs.drop j) ∧ Kept S w wr) (fun _ i _ => rs.length - (intOf i).toNat)
  case atStart => exact ⟨0, Nat.zero_le _, rfl, by simp [total], by simpa [markRows] using HO.out, Kept.refl _ _⟩
  case round =>
    obtain ⟨j, hj, rfl, rfl, hown, hk⟩ := hrel
    have HOWN := hid hown; have HK := hid hk; clear hown hk
    by_cases hlt : j < rs.length
    · have hd : markRows k (rs.take j) ++ rs.drop j = markRows k (rs.take j) ++ rs[j] :: rs.drop (j + 1) := by rw [List.drop_eq_getElem_cons hlt]
      obtain ⟨b, o, rfl, hc⟩ : ∃ b o, a = some ⟨b, o, none⟩ ∧ wr.cell? ⟨b, o + j, none⟩ = some (.slice rs[j].a rs[j].z.length rs[j].c) := by
        obtain ⟨a', c', hv, hrd, hlc, hcm, _⟩ := HOWN.out.rd
        have hll : (markRows k (rs.take j) ++ rs.drop j).length = rs.length := by simp [markRows_length]; omega
        rw [hll] at hv
        obtain ⟨rfl, _, rfl⟩ := slice_inj hv
        obtain ⟨b, o, ha, hc, _⟩ := hrd.at j (by rw [hll]; exact hlt)
        have hget : (markRows k (rs.take j) ++ rs.drop j)[j]'(by rw [hll]; exact hlt) = rs[j] := by
          rw [List.getElem_append_right (by simp [markRows_length]; omega)]; simp [markRows_length, Nat.min_eq_left hj]
        rw [hget] at hc
        exact ⟨b, o, ha, hc⟩
      have HM := hid (show OwnM 41 2 wr B (.slice (some ⟨b, o, none⟩) rs.length c) (markRows k (rs.take j) ++ rs[j] :: rs.drop (j + 1)) by rw [← hd]; exact HOWN.out)
      have ht := total_le_of rs j hlt
      have ht2 := total_take_succ rs j hlt
      have HT2 := hid ht2; clear ht2 hd HOWN
      have HMS := hid (markRows_take_succ k rs j hlt)
      have HR := hid (HM.out.inner.own rs[j] (List.mem_append_right _ (List.mem_cons_self ..)))
      have hrS := HSS.out.2 rs[j] (List.getElem_mem hlt)
      have HRS := hid hrS; clear hrS
      generalize rs[j] = r at *
      have hz : r.z.length ≤ 1099511627776 := by omega
      have hk0 : 0 ≤ k + (total (rs.take j) : Int) := by omega
      have hk1 : k + (total (rs.take j) : Int) ≤ 3298534883328 := by omega
      go_wp2_with fail
      refine (mark1_any r.a r.z r.c B _ wr (fun g => r.val.ownBlock = some g) HR.out (fun g h => h) hz hk0 (by omega)).mono ?_
      rintro e w2 ⟨rfl, ho2, hk2⟩
      have HM2 := hid (HM.out.setRow (by decide) (r' := { r with z := upFrom (k + total (rs.take j)) r.z.length }) (by simp [Row.val, upFrom_length]) ho2 hk2)
      have HK2 := hid (HK.out.trans (hk2.mono (HRS.out)))
      clear ho2 hk2 HM HK
      go_wp2
      go_roundw
      case rel => exact ⟨j + 1, by omega, by go_num, by rw [HT2.out]; go_num, by rw [HMS.out]; simpa using HM2.out, HK2.out⟩
      case measure => simp [intOf]; omega
    · obtain rfl : j = rs.length := by omega
      go_wp2
      go_ret
      refine ⟨by simp, ?_, HK.out⟩
      simpa using HOWN.out

set_option maxHeartbeats 1000000 in
theorem held1_any (a : Option Addr) (zs : List Int) (n c : Nat) (k : Int) (w : World) (hz : zs = upFrom k n) (hr : Rd (Value.int .i64) w a zs) (hn : n ≤ 1099511627776) (h0 : 0 ≤ k) (h1 : k ≤ 4398046511104) :
    Calls Tryd.prog 37 #[.slice a zs.length c, .int .i64 k] w fun e w' => e = .returned (.int .i64 (k + n)) ∧ w = w' := by
  subst hz
  rw [upFrom_length]
  have HR := hid hr; clear hr
  go_enter Tryd.func37, Tryd.ntmps37
  go_wp2
  go_loop [1, 5] (fun x i => ∃ j : Nat, j ≤ n ∧ i = .int .i64 j ∧ x = .int .i64 (k + j)) (fun _ i => n - (intOf i).toNat)
  case atStart => exact ⟨0, Nat.zero_le _, rfl, by simp⟩
  case round =>
    obtain ⟨j, hj, rfl, rfl⟩ := hrel
    by_cases hlt : j < n
    · obtain ⟨b, o, rfl, hc⟩ := HR.out j (by rw [upFrom_length]; exact hlt)
      rw [upFrom_get] at hc
      have hb : ((k + (j : Int)) != (k + (j : Int))) = false := by simp
      go_wp2
      go_round
      case rel => exact ⟨j + 1, by omega, by go_num, by go_num⟩
      case measure => simp [intOf]; omega
    · obtain rfl : j = n := by omega
      go_wp2
      go_ret
      exact ⟨rfl, rfl⟩
theorem markRows_at (k : Int) (A : List Row) (j : Nat) (h : j < A.length) : (markRows k A)[j]'(by rw [markRows_length]; exact h) = { A[j] with z := upFrom (k + total (A.take j)) A[j].z.length } := by
  have e : (markRows k A)[j]? = some { A[j] with z := upFrom (k + total (A.take j)) A[j].z.length } := by
    have h1 : A = A.take j ++ A[j] :: A.drop (j + 1) := by rw [← List.drop_eq_getElem_cons h, List.take_append_drop]
    have h2 : markRows k A = markRows k (A.take j) ++ markRows (k + total (A.take j)) (A[j] :: A.drop (j + 1)) := by
      rw [← markRows_append, ← h1]
    rw [h2, List.getElem?_append_right (by simp [markRows_length]; omega)]
    simp [markRows_length, Nat.min_eq_left (Nat.le_of_lt h), markRows]
  exact Option.some.inj ((List.getElem?_eq_getElem _).symm.trans e)
set_option maxHeartbeats 1000000 in
theorem held2_any (a : Option Addr) (rs : List Row) (c : Nat) (k : Int) (w : World) (hr : RdM w a (markRows k rs)) (hn : rs.length ≤ 1099511627776) (hn2 : total rs ≤ 1099511627776) (h0 : 0 ≤ k) (h1 : k ≤ 2199023255552) :
    Calls Tryd.prog 26 #[.slice a rs.length c, .int .i64 k] w fun e w' => e = .returned (.int .i64 (k + total rs)) ∧ w = w' := by
  have HR := hid hr; clear hr
  go_enter Tryd.func26, Tryd.ntmps26
  go_wp2
  go_loop [1, 5] (fun x i => ∃ j : Nat, j ≤ rs.length ∧ i = .int .i64 j ∧ x = .int .i64 (k + total (rs.take j))) (fun _ i => rs.length - (intOf i).toNat)
  case atStart => exact ⟨0, Nat.zero_le _, rfl, by simp [total]⟩
  case round =>
    obtain ⟨j, hj, rfl, rfl⟩ := hrel
    by_cases hlt : j < rs.length
    · obtain ⟨b, o, rfl, hc, hok⟩ := HR.out.at j (by rw [markRows_length]; exact hlt)
      rw [markRows_at k rs j hlt] at hc hok
      have ht := total_le_of rs j hlt
      have HT2 := hid (total_take_succ rs j hlt)
      have HK := hid hok.1; clear hok
      generalize rs[j] = r at *
      simp only [upFrom_length] at hc
      have hk0 : 0 ≤ k + (total (rs.take j) : Int) := by omega
      have hneg : ¬ k + (total (rs.take j) : Int) + (r.z.length : Int) < 0 := by omega
      have hcall := fun W => held1_any r.a (upFrom (k + total (rs.take j)) r.z.length) r.z.length r.c (k + total (rs.take j)) W rfl
      simp only [upFrom_length] at hcall
      have HC := hid hcall; clear hcall
      go_wp2_with fail
      refine (HC.out _ HK.out (by omega) hk0 (by omega)).mono ?_
      rintro e w' ⟨rfl, rfl⟩
      go_wp2
      go_round
      case rel => exact ⟨j + 1, by omega, by go_num, by rw [HT2.out]; go_num⟩
      case measure => simp [intOf]; omega
    · obtain rfl : j = rs.length := by omega
      go_wp2
      go_ret
      exact ⟨by simp, rfl⟩
end Go.Proofs.YtggjmnihnjdoaaaDoor
