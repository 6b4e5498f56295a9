import Derived.Test.YtcjlbmggkjnbhaaGetNums
namespace Go.Proofs.Ytcjlbmggkjnbhaa
open Go.RowKit
set_option linter.unusedVariables false

def RReadRel (n : Nat) (b : List Int) (q : Nat) (w : World) (at_ v i : Value) (wr : World) : Prop :=
  ∃ (k p : Nat) (l : List Int), k ≤ q ∧ i = .int .i64 k ∧ at_ = .int .i64 p ∧ p ≤ n ∧ l.length ≤ p ∧ Hid (Left b (q - k) p l) ∧ wr.ownsRow w.heap.size 3 1 v l.length (l.map (Value.int .i64)) ∧ Below w.heap.size w wr

set_option maxHeartbeats 1600000 in
theorem rgetNums_any (A : Option Addr) (n c : Nat) (b : List Int) (w : World) (e1 : b.length = n) (m1 : n ≤ 1000000) (hc : n ≤ c) (hby : Bytes b) (h1 : Sees w w.heap.size A (b.map (.int .u8))) :
    Calls Try.prog 23 #[.slice A n c] w (IsNums (numsR b) w) := by
  obtain ⟨i0, hi, hz0, hz1, hz2⟩ := info_parts Try.info3
  have E1 := Lib.hid e1
  have HB := Lib.hid hby
  have H1 := Lib.hid h1
  have M1 : Hid (n ≤ maxLen) := Lib.hid (by unfold maxLen; omega)
  clear e1 hby h1
  cases hg : get b with
  | none =>
    have HN : Hid (numsR b = ([], 0, 3)) := Lib.hid (by unfold numsR getNums; rw [hg])
    have HR := Lib.hid (getR_of_none hg)
    clear hg
    go_enter Try.func23, Try.ntmps23
    go_wp2_with fail
    refine (rget_any A n c b _ E1.out M1.out hc HB.out H1.out).mono ?_
    rw [HR.out]
    rintro e w2 ⟨rfl, hb3⟩
    unfold Ret3
    go_wp2
    go_ret3
    exact isNums_no HN.out hb3
  | some r =>
    obtain ⟨z, m⟩ := r
    have hlen := get_len HB.out hg
    rw [E1.out] at hlen
    have hin := (get_some HB.out hg).1
    unfold In64 at hin
    obtain ⟨hl1, hl2, hl3⟩ := hlen
    obtain ⟨hi1, hi2⟩ := hin
    have HR := Lib.hid (getR_of_some hg)
    by_cases hz : z < 0
    · have HN : Hid (numsR b = ([], 0, 3)) := Lib.hid (by unfold numsR getNums; rw [hg]; simp only; rw [if_neg (by omega)])
      clear hg
      go_enter Try.func23, Try.ntmps23
      go_wp2_with fail
      refine (rget_any A n c b _ E1.out M1.out hc HB.out H1.out).mono ?_
      rw [HR.out]
      rintro e w2 ⟨rfl, hb3⟩
      unfold Ret3
      go_wp2
      go_ret3
      exact isNums_no HN.out hb3
    · have hL := Lib.hid (left_start hg (by omega))
      clear hg
      obtain ⟨q, rfl⟩ := Int.eq_ofNat_of_zero_le (show 0 ≤ z by omega)
      rw [Int.toNat_natCast] at hL
      go_enter Try.func23, Try.ntmps23
      go_wp2_with fail
      refine (rget_any A n c b _ E1.out M1.out hc HB.out H1.out).mono ?_
      rw [HR.out]
      rintro e w2 ⟨rfl, hb3⟩
      unfold Ret3
      go_wp2
      go_loopw [6, 8, 9] (RReadRel n b q w) (fun _ _ i _ => q - (intOf i).toNat)
      case atStart => exact ⟨0, m, [], by omega, rfl, rfl, by omega, by simp, hL, World.ownsRow_nil _ _ _ _, hb3⟩
      case round =>
        clear hb3 hL
        obtain ⟨k, p, l, hk, rfl, rfl, hpn, hlp, hL, hown, hb⟩ := hrel
        by_cases hlt : k < q
        · have hq : q - k = (q - (k + 1)) + 1 := by omega
          have hsl := fun W => slice_lo Try.slice24 Try.size24 A n c p (p : Int) rfl hpn W
          have M2 : Hid (n - p ≤ maxLen) := Lib.hid (by have := M1.out; omega)
          have HL : Hid ((b.drop p).length = n - p) := Lib.hid (by rw [List.length_drop, E1.out])
          have HS : Hid (Sees wr wr.heap.size (cutA A p c) ((b.drop p).map (Value.int .u8))) := Lib.hid (by
            rw [List.map_drop]; exact ((H1.out.below hb).more hb.size).cutA p (by rw [List.length_map, E1.out]; exact hc))
          have HB2 := Lib.hid (HB.out.drop p)
          have hc2 : n - p ≤ c - p := by omega
          cases hg : get (b.drop p) with
          | none =>
            have HN := Lib.hid (left_no (by rw [← hq]; exact hL.out) hg)
            have HR2 := Lib.hid (getR_of_none hg)
            clear hq hg
            go_wp2_with fail
            refine (rget_any (cutA A p c) (n - p) (c - p) (b.drop p) _ HL.out M2.out hc2 HB2.out HS.out).mono ?_
            rw [HR2.out]
            rintro e w4 ⟨rfl, hb4⟩
            unfold Ret3
            have hb5 := hb.trans (hb4.mono hb.size)
            clear hb4
            go_wp2
            go_ret3
            exact isNums_no HN.out hb5
          | some r =>
            obtain ⟨x, m'⟩ := r
            have hL2 := Lib.hid (left_yes (by rw [← hq]; exact hL.out) hg)
            have HR2 := Lib.hid (getR_of_some hg)
            have hlen := get_len HB2.out hg
            rw [HL.out] at hlen
            obtain ⟨hm1, hm2, hm3⟩ := hlen
            clear hq hg
            go_wp2_with fail
            refine (rget_any (cutA A p c) (n - p) (c - p) (b.drop p) _ HL.out M2.out hc2 HB2.out HS.out).mono ?_
            rw [HR2.out]
            rintro e w4 ⟨rfl, hb4⟩
            unfold Ret3
            have hb5 := hb.trans (hb4.mono hb.size)
            have hown4 := own_below hown hb4
            clear hb4 hb hown HS hsl hc2
            go_wp2_with (at_builtin; refine wpList_push rfl (.tmp 40) (.tmp 42) 32 rfl w.heap.size 3 i0 (.int .i64 0) 1 8 Try.underlying32 hi hz0 hz1 hz2 rfl (by decide) hown4 rfl rfl rfl rfl (by unfold maxLen; omega) (by omega) hb5.size ?_)
            intro v' w5 hown5 hb6
            have hb7 := hb5.trans hb6
            clear hown4 hb5 hb6
            go_wp2
            go_roundw
            case rel => exact ⟨k + 1, p + m', l ++ [x], by omega, by go_num, by go_num, by omega, by simp; omega, hL2, own_snoc hown5 rfl, hb7⟩
            case measure => simp [intOf]; omega
        · obtain rfl : k = q := by omega
          have HN := Lib.hid (left_end (by rw [← Nat.sub_self k]; exact hL.out))
          go_wp2
          go_ret3
          exact isNums_yes HN.out hown hb
end Go.Proofs.Ytcjlbmggkjnbhaa
