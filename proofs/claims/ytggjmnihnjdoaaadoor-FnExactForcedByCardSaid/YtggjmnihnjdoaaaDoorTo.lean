/- The law package's own helpers on lists and rows: size, copy, comparison. -/
import Derived.Test.YtggjmnihnjdoaaaDoorBase
namespace Go.Proofs.YtggjmnihnjdoaaaDoor
open Go.RowKit

def sz1 (n : Nat) (left : Int) : Int := if left - n < 0 then -1 else left - n
set_option maxHeartbeats 400000 in
theorem sz1_any (a : Option Addr) (n c : Nat) (left : Int) (w : World) (hn : n ≤ maxLen) (h0 : 0 ≤ left) (h1 : left ≤ 1048576) :
    Calls Tryd.prog 63 #[.slice a n c, .int .i64 left] w fun e w' => e = .returned (.int .i64 (sz1 n left)) ∧ w = w' := by
  unfold maxLen at hn
  by_cases h : left - n < 0
  · have e : sz1 n left = -1 := if_pos h
    have E := hid e; clear e
    go_enter Tryd.func63, Tryd.ntmps63
    go_wp2
    go_ret
    exact ⟨ret_int E.out.symm, rfl⟩
  · have e : sz1 n left = left - n := if_neg h
    have E := hid e; clear e
    go_enter Tryd.func63, Tryd.ntmps63
    go_wp2
    go_ret
    exact ⟨ret_int E.out.symm, rfl⟩
def szs : List Row → Int → Int
  | [], left => left
  | r :: rs, left => if sz1 r.z.length left < 0 then -1 else szs rs (sz1 r.z.length left)
def sz2 (rs : List Row) (left : Int) : Int := if left - rs.length < 0 then -1 else szs rs (left - rs.length)
theorem sz1_le (n : Nat) (left : Int) (h : 0 ≤ left) : sz1 n left ≤ left ∧ (sz1 n left = -1 ∨ 0 ≤ sz1 n left) := by unfold sz1; split <;> omega
set_option maxHeartbeats 400000 in
theorem sz2_any (a : Option Addr) (rs : List Row) (c : Nat) (left : Int) (w : World) (hn : rs.length ≤ maxLen) (hr : RdM w a rs) (h0 : 0 ≤ left) (h1 : left ≤ 1048576) :
    Calls Tryd.prog 15 #[.slice a rs.length c, .int .i64 left] w fun e w' => e = .returned (.int .i64 (sz2 rs left)) ∧ w = w' := by
  unfold maxLen at hn
  have HR := hid hr; clear hr
  by_cases h : left - rs.length < 0
  · have e : sz2 rs left = -1 := if_pos h
    have E := hid e; clear e
    go_enter Tryd.func15, Tryd.ntmps15
    go_wp2
    go_ret
    exact ⟨ret_int E.out.symm, rfl⟩
  · have e : sz2 rs left = szs rs (left - rs.length) := if_neg h
    have E := hid e; clear e
    go_enter Tryd.func15, Tryd.ntmps15
    go_wp2
    go_loop [1, 5] (fun l i => ∃ (k : Nat) (x : Int), k ≤ rs.length ∧ i = .int .i64 k ∧ l = .int .i64 x ∧ 0 ≤ x ∧ x ≤ 1048576 ∧ szs (rs.drop k) x = sz2 rs left) (fun _ i => rs.length - (intOf i).toNat)
    case atStart => exact ⟨0, _, Nat.zero_le _, rfl, rfl, by omega, by omega, by rw [E.out]; rfl⟩
    case round =>
      obtain ⟨k, x, hk, rfl, rfl, hx0, hx1, hx⟩ := hrel
      have HX := hid hx; clear hx
      by_cases hlt : k < rs.length
      · obtain ⟨b, o, rfl, hc, hok⟩ := HR.out.at k hlt
        have HD := hid (List.drop_eq_getElem_cons hlt)
        have hl := hok.2.1; have hl2 := hok.2.2.1
        clear hok
        generalize rs[k] = r at *
        have hs := sz1_le r.z.length x hx0
        unfold maxLen at hl2
        by_cases hneg : sz1 r.z.length x < 0
        · go_wp2_with (go_at_call 63; refine (sz1_any _ _ _ _ _ (by unfold maxLen; omega) (by omega) (by omega)).mono ?_; rintro e w' ⟨rfl, rfl⟩)
          go_ret
          exact ⟨ret_int (by rw [← HX.out, HD.out, szs, if_pos hneg]), rfl⟩
        · go_wp2_with (go_at_call 63; refine (sz1_any _ _ _ _ _ (by unfold maxLen; omega) (by omega) (by omega)).mono ?_; rintro e w' ⟨rfl, rfl⟩)
          go_round
          case rel => exact ⟨k+1, _, by omega, by go_num, rfl, by omega, by omega, by rw [← HX.out, HD.out, szs, if_neg (by omega)]⟩
          case measure => simp [intOf]; omega
      · go_wp2
        go_ret
        exact ⟨ret_int (by rw [← HX.out, List.drop_eq_nil_of_le (by omega)]; rfl), rfl⟩

set_option maxHeartbeats 400000 in
theorem to1_any (a : Option Addr) (zs : List Int) (c : Nat) (w : World) (hr : Rd (Value.int .i64) w a zs) (hn : zs.length ≤ 1048576) :
    Calls Tryd.prog 69 #[.slice a zs.length c] w (RetOwn 2 (zs.map (.int .i64)) w) := by
  have HR := hid hr; clear hr
  go_enter Tryd.func69, Tryd.ntmps69
  go_wp2_with (at_make; refine law_make tI64 _ rfl _ _ rfl zs.length _ _ rfl rfl (by omega) ?_; intro w1 hown hb hsz)
  have HO : Hid _ := hid hown; clear hown
  have HB := hid hb; clear hb
  go_loopw [4] (fun i wr => ∃ k : Nat, k ≤ zs.length ∧ i = .int .i64 k ∧ Own 2 wr w.heap.size (.slice (some ⟨w.heap.size, 0, none⟩) zs.length zs.length) (fill (zs.map (.int .i64)) (.int .i64 0) k) ∧ Below w.heap.size w wr) (fun i _ => zs.length - (intOf i).toNat)
  case atStart => exact ⟨0, Nat.zero_le _, rfl, by rw [fill_zero, List.length_map]; exact HO.out, HB.out⟩
  case round =>
    obtain ⟨k, hk, rfl, hown, hb⟩ := hrel
    by_cases hlt : k < zs.length
    · obtain ⟨b, o, rfl, hc⟩ := HR.out.below hb (Nat.le_refl _) k hlt
      have hl : k < (fill (zs.map (.int .i64)) (.int .i64 0) k).length := by rw [fill_length _ _ _ (by simpa using hk)]; simpa using hlt
      obtain ⟨u, hc1⟩ := hown.cellE k hlt
      have hf1 := hown.free k
      have hs := hown.store k hl (.int .i64 zs[k])
      have hbs := hb.setCell (p := ⟨w.heap.size, k, none⟩) (Nat.le_refl _) (.int .i64 zs[k])
      have HS := hid hs; have HBS := hid hbs; clear hs hbs hown hb hl
      go_wp2
      go_roundw
      case rel => exact ⟨k + 1, by omega, by go_num, by rw [← fill_map _ _ _ _ hlt]; exact HS.out, HBS.out⟩
      case measure => simp [intOf]; omega
    · have HO2 := hid hown; clear hown
      have HB2 := hid hb; clear hb
      go_wp2
      go_ret
      obtain rfl : k = zs.length := by omega
      exact ⟨_, rfl, by have := HO2.out; rwa [show fill (zs.map (.int .i64)) (.int .i64 0) zs.length = zs.map (.int .i64) from by simpa using fill_full (zs.map (.int .i64)) (.int .i64 0)] at this, HB2.out⟩

theorem nums_snoc (rs' rs : List Row) (k : Nat) (hk : k < rs.length) (r : Row) (hz : r.z = rs[k].z) (h : nums rs' = nums (rs.take k)) : nums (rs' ++ [r]) = nums (rs.take (k + 1)) := by
  rw [List.take_succ_eq_append_getElem hk]
  simp only [nums, List.map_append, List.map_cons, List.map_nil] at h ⊢
  rw [h, hz]
set_option maxHeartbeats 1000000 in
theorem to2_any (a : Option Addr) (rs : List Row) (c : Nat) (w : World) (hr : RdM w a rs) (hn : Small rs) :
    Calls Tryd.prog 18 #[.slice a rs.length c] w (RetOwnM 41 2 (nums rs) w) := by
  have HR := hid hr; clear hr
  have hn1 := hn.1
  have HN := hid hn; clear hn
  go_enter Tryd.func18, Tryd.ntmps18
  go_wp2_with (at_make; refine law_make tRows _ rfl _ _ rfl rs.length _ _ rfl rfl (by omega) ?_; intro w1 hown hb hsz)
  have HO := hid hown; clear hown
  have HB := hid hb; clear hb
  go_loopw [4] (fun i wr => ∃ k rs', k ≤ rs.length ∧ i = .int .i64 k ∧ Own 41 wr w.heap.size (.slice (some ⟨w.heap.size, 0, none⟩) rs.length rs.length) (rs'.map Row.val ++ List.replicate (rs.length - k) (.slice none 0 0)) ∧
      Inner 2 wr w.heap.size rs' ∧ nums rs' = nums (rs.take k) ∧ Below w.heap.size w wr) (fun i _ => rs.length - (intOf i).toNat)
  case atStart => exact ⟨0, [], Nat.zero_le _, rfl, by simpa using HO.out, Inner.nil _ _ _, rfl, HB.out⟩
  case round =>
    obtain ⟨k, rs', hk, rfl, hown, hin, hnu, hb⟩ := hrel
    have HOWN := hid hown; have HIN := hid hin; have HNU := hid hnu; have HBR := hid hb
    clear hown hin hnu hb
    by_cases hlt : k < rs.length
    · obtain ⟨b, o, rfl, hc, hok⟩ := (HR.out.below HBR.out (Nat.le_refl _)).at k hlt
      have hlen := HN.out.2 _ (List.getElem_mem hlt)
      have HK := hid hok; clear hok
      go_wp2_with fail
      refine (to1_any _ _ _ _ HK.out.1 hlen).mono ?_
      rintro e w2 ⟨v, rfl, hv, hb2⟩
      obtain ⟨a', c', rfl, _⟩ := hv.rd
      have ho2 := HOWN.out.past hb2 (Nat.le_refl _)
      obtain ⟨u, hc2⟩ := ho2.cellE k hlt
      have hf2 := ho2.free k
      have hk' : rs'.length = k := by have := congrArg List.length HNU.out; simp [nums] at this; omega
      have F := hid (rows_step (r := ⟨a', rs[k].z, c'⟩) (by decide) HOWN.out HIN.out HBR.out hb2 hv hlt hk' (Nat.le_refl _))
      have N := hid (nums_snoc _ _ _ hlt ⟨a', rs[k].z, c'⟩ rfl HNU.out)
      clear hk'
      clear HOWN HIN HNU HBR hv ho2 hb2
      go_wp2
      go_roundw
      case rel => exact ⟨k + 1, _, by omega, by go_num, F.out.1, F.out.2.1, N.out, F.out.2.2⟩
      case measure => simp [intOf]; omega
    · go_wp2
      go_ret
      obtain rfl : k = rs.length := by omega
      refine ⟨_, rs', rfl, by have := HNU.out; rwa [List.take_length] at this, ⟨?_, HIN.out⟩, HBR.out⟩
      have := HOWN.out
      simpa using this
end Go.Proofs.YtggjmnihnjdoaaaDoor
