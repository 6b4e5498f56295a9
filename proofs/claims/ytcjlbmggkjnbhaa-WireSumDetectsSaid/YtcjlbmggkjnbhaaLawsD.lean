import Derived.Test.YtcjlbmggkjnbhaaLawsC
namespace Go.Proofs.Ytcjlbmggkjnbhaa
open Go.RowKit
set_option linter.unusedVariables false

theorem nums_bytes (s : ByteArray) : Bytes (numsOf s) := by
  intro x hx
  unfold numsOf at hx
  obtain ⟨u, _, rfl⟩ := List.mem_map.1 hx
  have := u.toNat_lt
  omega
theorem textL_bytes {l : List Int} (h : Bytes l) (hl : l.length ≤ 1000000) : Bytes (textL l) := (put_bytes (len_in (by omega))).app h
theorem textL_len (l : List Int) : 1 ≤ (textL l).length ∧ (textL l).length ≤ l.length + 10 := by
  unfold textL
  have := put_pos l.length
  have := put_le l.length
  rw [List.length_append]
  omega

set_option maxHeartbeats 1000000 in
theorem textRT_core (s : ByteArray) (hs : s.size ≤ 1000) (A : Option Addr) (n c : Nat) (b : List Int) (w : World) (e1 : b.length = n) (m1 : n ≤ 1000) (hby : Bytes b) (h1 : Sees w w.heap.size A (b.map (.int .u8))) :
    Calls Try.prog 7 #[.string s, .slice A n c] w (Sane w) := by
  obtain ⟨i0, hi, hz0, hz1, hz2⟩ := info_parts Try.info5
  have H1 := Lib.hid h1
  have E1 := Lib.hid e1
  have hns := numsOf_length s
  have htl := textL_len (numsOf s)
  have HTB := textL_bytes (nums_bytes s) (by omega)
  have hget := getText_text (s := numsOf s) (by omega) b
  have hget0 := getText_text (s := numsOf s) (by omega) []
  rw [List.append_nil] at hget0
  have HR : Hid (textR (textL (numsOf s) ++ b) = (s, ((textL (numsOf s)).length : Int), 0)) := Lib.hid (by rw [textR_some hget, str_nums])
  have HS : Hid (textR ((textL (numsOf s)).take ((textL (numsOf s)).length - 1)) = (ByteArray.empty, 0, 3)) := Lib.hid (textR_none (getText_short HTB hget0 (by omega)))
  have C1 := Lib.hid (fun W => text_any s (by omega) W)
  have C2 := Lib.hid (fun W => rtext_any s (by omega) W)
  rw [hns] at htl
  generalize textL (numsOf s) = P at *
  obtain ⟨hp1, hp2⟩ := htl
  have HPB := Lib.hid HTB
  have HB : Hid (Bytes (P ++ b)) := Lib.hid (HTB.app hby)
  have HL : Hid ((P ++ b).length = P.length + n) := Lib.hid (by rw [List.length_append, e1])
  have HM : Hid (P.length + n ≤ maxLen) := Lib.hid (by unfold maxLen; omega)
  have HPM : Hid (P.length ≤ maxLen) := Lib.hid (by unfold maxLen; omega)
  have HEL : Hid ((b.map (Value.int .u8)).length = n * 1) := Lib.hid (by rw [List.length_map, e1, Nat.mul_one])
  have HTL : Hid ((P.take (P.length - 1)).length = P.length - 1) := Lib.hid (by rw [List.length_take]; omega)
  have HTM : Hid (P.length - 1 ≤ maxLen) := Lib.hid (by unfold maxLen; omega)
  clear e1 hby h1 hget hget0 HTB hns
  go_enter Try.func7, Try.ntmps7
  go_wp2_with fail
  refine (C1.out _).mono ?_
  rintro e w1 ⟨v1, rfl, ho1, hb1⟩
  obtain ⟨A1, c1, rfl, hc1, hs1⟩ := own_form ho1
  clear ho1
  have hsl := fun W => slice_hm Try.slice24 Try.size24 A1 P.length c1 P.length P.length (P.length : Int) (P.length : Int) rfl rfl (Nat.le_refl _) hc1 W
  have hs2 := H1.out.below hb1
  have HS1 := Lib.hid hs1
  go_wp2_with (at_builtin; refine wpList_app_clip rfl (.tmp 29) (.tmp 30) 24 rfl 5 i0 (.int .u8 0) 1 1 Try.underlying24 hi hz0 hz1 hz2 rfl (by decide) hs1 (by simp) hp1 (Nat.le_refl _) hs2 HEL.out rfl rfl (by unfold maxLen; omega) (by omega) ?_)
  intro A2 c2 w2 hc2 hs3 hb2
  have hb02 := hb1.trans (hb2.mono hb1.size)
  have HS2 := Lib.hid ((HS1.out.below hb2).more hb2.size)
  rw [← List.map_append] at hs3
  clear hb1 hb2 hs1 hs2 hsl
  go_wp2_with fail
  refine (getText_any A2 (P.length + n) c2 (P ++ b) _ HL.out HM.out hc2 HB.out hs3).mono ?_
  rw [HR.out]
  rintro e w3 ⟨rfl, rfl⟩
  unfold RetS
  clear hs3
  go_wp2_with fail
  all_goals
    refine (getText_any A1 _ c1 (P.take (P.length - 1)) w2 (HTL.out.trans (by omega)) (by unfold maxLen; omega) (by omega) (HPB.out.take _) (by rw [List.map_take]; exact HS2.out.take _)).mono ?_
    rw [HS.out]
    rintro e w3 ⟨rfl, rfl⟩
    unfold RetS
    go_wp2_with fail
    refine (sanity_any _).mono ?_
    rintro e w4 ⟨rfl, hb4⟩
    have HS4 := Lib.hid ((HS2.out.below hb4).more hb4.size)
    have hb04 := hb02.trans (hb4.mono hb02.size)
    clear hb4
    go_wp2_with fail
    refine (C2.out _).mono ?_
    rintro e w5 ⟨v5, rfl, ho5, hb5⟩
    obtain ⟨A5, c5, rfl, hc5, hs5⟩ := own_form ho5
    have hs45 := HS4.out.below hb5
    have hb05 := hb04.trans (hb5.mono hb04.size)
    clear ho5 hb5
    go_wp2_with fail
    refine (same_any A1 A5 P.length P.length c1 c5 P P _ rfl rfl HPM.out HPM.out hs45 hs5).mono ?_
    rw [decide_eq_true rfl]
    rintro e w6 ⟨rfl, d, rfl⟩
    go_wp2
    go_ret
    exact ⟨rfl, below_drewN hb05 _⟩
theorem textRT_walk (s : ByteArray) (A : Option Addr) (n c : Nat) (zs : List Int) (w : World) (w0 : Row .u8 w A n c zs) : Calls Try.prog 7 #[.string s, .slice A n c] w (Sane w) := by
  obtain ⟨l1, l2, l3, _⟩ := w0.len
  by_cases hs : s.size ≤ 1000
  · by_cases hn : n ≤ 1000
    · exact textRT_core s hs A n c (zs.take n) w l1 hn w0.bytes w0.sees
    · have hl : (1000 : Int) < (n : Int) := by omega
      have hl2 : (s.size : Int) ≤ 1000 := by omega
      clear hn w0 l1 l2 l3 hs
      go_enter Try.func7, Try.ntmps7
      go_wp2_with fail
      refine (sanity_any _).mono ?_
      rintro e w3 ⟨rfl, hb3⟩
      go_wp2
      go_ret
      exact ⟨rfl, hb3⟩
  · have hl : (1000 : Int) < (s.size : Int) := by omega
    clear w0 l1 l2 l3 hs
    go_enter Try.func7, Try.ntmps7
    go_wp2_with fail
    refine (sanity_any _).mono ?_
    rintro e w3 ⟨rfl, hb3⟩
    go_wp2
    go_ret
    exact ⟨rfl, hb3⟩
end Go.Proofs.Ytcjlbmggkjnbhaa
