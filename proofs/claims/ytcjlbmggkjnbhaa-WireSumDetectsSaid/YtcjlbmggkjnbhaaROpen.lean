import Derived.Test.YtcjlbmggkjnbhaaOpen
namespace Go.Proofs.Ytcjlbmggkjnbhaa
open Go.RowKit
set_option linter.unusedVariables false

theorem getText_1 {b : List Int} (h : get b = none) : getText b = none := by unfold getText; rw [h]
theorem getText_2 {b : List Int} {z : Int} {m : Nat} (h : get b = some (z, m)) (hz : ¬ (0 ≤ z ∧ z ≤ (b.length : Int) - m)) : getText b = none := by unfold getText; rw [h]; simp only; rw [if_neg hz]
theorem getText_3 {b : List Int} {k m : Nat} (h : get b = some ((k : Int), m)) (hz : (k : Int) ≤ (b.length : Int) - m) : getText b = some ((b.drop m).take k, m + k) := by
  unfold getText; rw [h]; simp only; rw [if_pos ⟨by omega, hz⟩, Int.toNat_natCast]

set_option maxHeartbeats 1600000 in
theorem ropen_any (A : Option Addr) (n c : Nat) (b : List Int) (w : World) (e1 : b.length = n) (m1 : n ≤ 1000000) (hc : n ≤ c) (hby : Bytes b) (h1 : Sees w w.heap.size A (b.map (.int .u8))) :
    Calls Try.prog 30 #[.slice A n c] w (IsOpen (openR b) w) := by
  have E1 := Lib.hid e1
  have HB := Lib.hid hby
  have H1 := Lib.hid h1
  have M1 : Hid (n ≤ maxLen) := Lib.hid (by unfold maxLen; omega)
  clear e1 hby h1
  cases hg : get b with
  | none =>
    have HR := Lib.hid (getR_of_none hg)
    have HN := Lib.hid (openR_1 (getText_1 hg))
    clear hg
    go_enter Try.func30, Try.ntmps30
    go_wp2_with fail
    refine (rget_any A n c b w E1.out M1.out hc HB.out H1.out).mono ?_
    rw [HR.out]
    rintro e w1 ⟨rfl, hb⟩
    unfold Ret3
    go_wp2
    go_ret3
    exact isOpen_no HN.out hb
  | some r =>
    obtain ⟨z, m⟩ := r
    have HR := Lib.hid (getR_of_some hg)
    have hlen := get_len HB.out hg
    have hin := (get_some HB.out hg).1
    unfold In64 at hin
    rw [E1.out] at hlen
    obtain ⟨hl1, hl2, hl3⟩ := hlen
    obtain ⟨hi1, hi2⟩ := hin
    by_cases hok : 0 ≤ z ∧ z ≤ (n : Int) - m
    · obtain ⟨hz0, hz1⟩ := hok
      obtain ⟨k, rfl⟩ := Int.eq_ofNat_of_zero_le hz0
      have hT := getText_3 hg (by rw [E1.out]; exact hz1)
      have hmk : m + k ≤ n := by omega
      have hsl := fun W => slice_lo Try.slice24 Try.size24 A n c (m + k) ((m : Int) + (k : Int)) (by omega) hmk W
      have hsl2 := fun W => slice_lh Try.slice24 Try.size24 A n c m (m + k) (m : Int) ((m : Int) + (k : Int)) rfl (by omega) (by omega) (by omega) W
      rw [show m + k - m = k by omega] at hsl2
      have M2 : Hid (n - (m + k) ≤ maxLen) := Lib.hid (by have := M1.out; omega)
      have M3 : Hid (k ≤ maxLen) := Lib.hid (by have := M1.out; omega)
      have HL : Hid ((b.drop (m + k)).length = n - (m + k)) := Lib.hid (by rw [List.length_drop, E1.out])
      have HL2 : Hid (((b.drop m).take k).length = k) := Lib.hid (by rw [List.length_take, List.length_drop, E1.out]; omega)
      have HS : ∀ W, Below w.heap.size w W → Sees W W.heap.size (cutA A (m + k) c) ((b.drop (m + k)).map (Value.int .u8)) := fun W hW => by
        rw [List.map_drop]; exact ((H1.out.below hW).more hW.size).cutA (m + k) (by rw [List.length_map, E1.out]; exact hc)
      have HS2 : ∀ W, Below w.heap.size w W → Sees W W.heap.size (cutA A m c) (((b.drop m).take k).map (Value.int .u8)) := fun W hW => by
        rw [List.map_take, List.map_drop]; exact (((H1.out.below hW).more hW.size).cutA m (by rw [List.length_map, E1.out]; exact hc)).take k
      have HHS := Lib.hid HS
      have HHS2 := Lib.hid HS2
      have HB2 := Lib.hid (HB.out.drop (m + k))
      have HB3 := Lib.hid ((HB.out.drop m).take k)
      have hc2 : n - (m + k) ≤ c - (m + k) := by omega
      clear hg HS HS2
      cases hg2 : get (b.drop (m + k)) with
      | none =>
        have HR2 := Lib.hid (getR_of_none hg2)
        have HN := Lib.hid (openR_2 hT hg2)
        clear hg2 hT
        go_enter Try.func30, Try.ntmps30
        go_wp2_with fail
        refine (rget_any A n c b w E1.out M1.out hc HB.out H1.out).mono ?_
        rw [HR.out]
        rintro e w1 ⟨rfl, hb⟩
        unfold Ret3
        go_wp2_with fail
        refine (rget_any (cutA A (m + k) c) (n - (m + k)) (c - (m + k)) (b.drop (m + k)) _ HL.out M2.out hc2 HB2.out (HHS.out _ hb)).mono ?_
        rw [HR2.out]
        rintro e w2 ⟨rfl, hb2⟩
        unfold Ret3
        go_wp2
        go_ret3
        exact isOpen_no HN.out (hb.trans (hb2.mono hb.size))
      | some r =>
        obtain ⟨z, j⟩ := r
        have HR2 := Lib.hid (getR_of_some hg2)
        have hlen := get_len HB2.out hg2
        rw [HL.out] at hlen
        obtain ⟨hm1, hm2, hm3⟩ := hlen
        by_cases hz : z = sumL ((b.drop m).take k)
        · have HN := Lib.hid (openR_4 hT (by rw [← hz]; exact hg2))
          have hzb : (z != sumL ((b.drop m).take k)) = false := by simpa using hz
          clear hg2 hz hT
          go_enter Try.func30, Try.ntmps30
          go_wp2_with fail
          refine (rget_any A n c b w E1.out M1.out hc HB.out H1.out).mono ?_
          rw [HR.out]
          rintro e w1 ⟨rfl, hb⟩
          unfold Ret3
          go_wp2_with fail
          refine (rget_any (cutA A (m + k) c) (n - (m + k)) (c - (m + k)) (b.drop (m + k)) _ HL.out M2.out hc2 HB2.out (HHS.out _ hb)).mono ?_
          rw [HR2.out]
          rintro e w2 ⟨rfl, hb2⟩
          have hb3 := hb.trans (hb2.mono hb.size)
          unfold Ret3
          go_wp2_with fail
          refine (rsum_any (cutA A m c) k (c - m) ((b.drop m).take k) _ HL2.out M3.out HB3.out (HHS2.out _ hb3)).mono ?_
          rintro e w3 ⟨rfl, rfl⟩
          go_wp2
          go_ret3
          exact isOpen_yes (by rw [HN.out, Int.natCast_add, Int.natCast_add]) HL2.out (by omega) (HHS2.out _ hb3) hb3
        · have HN := Lib.hid (openR_3 hT hg2 hz)
          have hzb : (z != sumL ((b.drop m).take k)) = true := by simpa using hz
          clear hg2 hz hT
          go_enter Try.func30, Try.ntmps30
          go_wp2_with fail
          refine (rget_any A n c b w E1.out M1.out hc HB.out H1.out).mono ?_
          rw [HR.out]
          rintro e w1 ⟨rfl, hb⟩
          unfold Ret3
          go_wp2_with fail
          refine (rget_any (cutA A (m + k) c) (n - (m + k)) (c - (m + k)) (b.drop (m + k)) _ HL.out M2.out hc2 HB2.out (HHS.out _ hb)).mono ?_
          rw [HR2.out]
          rintro e w2 ⟨rfl, hb2⟩
          have hb3 := hb.trans (hb2.mono hb.size)
          unfold Ret3
          go_wp2_with fail
          refine (rsum_any (cutA A m c) k (c - m) ((b.drop m).take k) _ HL2.out M3.out HB3.out (HHS2.out _ hb3)).mono ?_
          rintro e w3 ⟨rfl, rfl⟩
          go_wp2
          go_ret3
          exact isOpen_no HN.out hb3
    · have HN := Lib.hid (openR_1 (getText_2 hg (by rw [E1.out]; exact hok)))
      clear hg
      by_cases hz : z < 0
      · clear hok
        go_enter Try.func30, Try.ntmps30
        go_wp2_with fail
        refine (rget_any A n c b w E1.out M1.out hc HB.out H1.out).mono ?_
        rw [HR.out]
        rintro e w1 ⟨rfl, hb⟩
        unfold Ret3
        go_wp2
        go_ret3
        exact isOpen_no HN.out hb
      · have hz' : (n : Int) - m < z := by omega
        clear hok
        go_enter Try.func30, Try.ntmps30
        go_wp2_with fail
        refine (rget_any A n c b w E1.out M1.out hc HB.out H1.out).mono ?_
        rw [HR.out]
        rintro e w1 ⟨rfl, hb⟩
        unfold Ret3
        go_wp2
        go_ret3
        exact isOpen_no HN.out hb
end Go.Proofs.Ytcjlbmggkjnbhaa
