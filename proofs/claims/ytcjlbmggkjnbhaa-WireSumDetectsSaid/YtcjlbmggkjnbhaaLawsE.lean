import Derived.Test.YtcjlbmggkjnbhaaLawsD
namespace Go.Proofs.Ytcjlbmggkjnbhaa
open Go.RowKit
set_option linter.unusedVariables false

theorem numsL_bytes {l : List Int} (h : AllIn l) (hl : l.length ≤ 1000000) : Bytes (numsL l) := (put_bytes (len_in (by omega))).app (catL_bytes h)
theorem numsL_len (l : List Int) : 1 ≤ (numsL l).length ∧ (numsL l).length ≤ 10 * l.length + 10 := by
  unfold numsL
  have := put_pos l.length
  have := put_le l.length
  have := catL_le l
  rw [List.length_append]
  omega
theorem numsR_some {b l : List Int} {m : Nat} (h : getNums b = some (l, m)) : numsR b = (l, (m : Int), 0) := by unfold numsR; rw [h]
theorem numsR_none {b : List Int} (h : getNums b = none) : numsR b = ([], 0, 3) := by unfold numsR; rw [h]

set_option maxHeartbeats 1000000 in
theorem numsRT_core (A0 : Option Addr) (n0 c0 : Nat) (l : List Int) (A : Option Addr) (n c : Nat) (b : List Int) (w : World) (e0 : l.length = n0) (m0 : n0 ≤ 300) (hl : AllIn l) (h0 : Sees w w.heap.size A0 (l.map (.int .i64)))
    (e1 : b.length = n) (m1 : n ≤ 1000) (hby : Bytes b) (h1 : Sees w w.heap.size A (b.map (.int .u8))) :
    Calls Try.prog 8 #[.slice A0 n0 c0, .slice A n c] w (Sane w) := by
  obtain ⟨i0, hi, hz0, hz1, hz2⟩ := info_parts Try.info5
  have H0 := Lib.hid h0
  have H1 := Lib.hid h1
  have E0 := Lib.hid e0
  have E1 := Lib.hid e1
  have htl := numsL_len l
  have HTB := numsL_bytes hl (by omega)
  have hget := getNums_nums hl (by omega) b
  have hget0 := getNums_nums hl (by omega) []
  rw [List.append_nil] at hget0
  have HR : Hid (numsR (numsL l ++ b) = (l, ((numsL l).length : Int), 0)) := Lib.hid (numsR_some hget)
  have HS : Hid (numsR ((numsL l).take ((numsL l).length - 1)) = ([], 0, 3)) := Lib.hid (numsR_none (getNums_short HTB hget0 (by omega)))
  have C1 := Lib.hid (fun W (hW : Below w.heap.size w W) => nums_any A0 n0 c0 l W e0 (by omega) hl ((h0.below hW).more hW.size))
  have C2 := Lib.hid (fun W (hW : Below w.heap.size w W) => rnums_any A0 n0 c0 l W e0 (by omega) hl ((h0.below hW).more hW.size))
  rw [e0] at htl
  generalize numsL l = P at *
  obtain ⟨hp1, hp2⟩ := htl
  have HPB := Lib.hid HTB
  have HB : Hid (Bytes (P ++ b)) := Lib.hid (HTB.app hby)
  have HL : Hid ((P ++ b).length = P.length + n) := Lib.hid (by rw [List.length_append, e1])
  have HM : Hid (P.length + n ≤ 1000000) := Lib.hid (by omega)
  have HPM : Hid (P.length ≤ maxLen) := Lib.hid (by unfold maxLen; omega)
  have HLM : Hid (n0 ≤ maxLen) := Lib.hid (by unfold maxLen; omega)
  have HEL : Hid ((b.map (Value.int .u8)).length = n * 1) := Lib.hid (by rw [List.length_map, e1, Nat.mul_one])
  have HTL : Hid ((P.take (P.length - 1)).length = P.length - 1) := Lib.hid (by rw [List.length_take]; omega)
  clear e1 hby h1 hget hget0 HTB e0 h0 hl
  go_enter Try.func8, Try.ntmps8
  go_wp2_with fail
  refine (C1.out _ (Below.refl _ _)).mono ?_
  rintro e w1 ⟨v1, rfl, ho1, hb1⟩
  obtain ⟨A1, c1, rfl, hc1, hs1⟩ := own_form ho1
  clear ho1
  have hsl := fun W => slice_hm Try.slice24 Try.size24 A1 P.length c1 P.length P.length (P.length : Int) (P.length : Int) rfl rfl (Nat.le_refl _) hc1 W
  have hs2 := H1.out.below hb1
  have HS1 := Lib.hid hs1
  go_wp2_with (at_builtin; refine wpList_app_clip rfl (.tmp 29) (.tmp 30) 24 rfl 5 i0 (.int .u8 0) 1 1 Try.underlying24 hi hz0 hz1 hz2 rfl (by decide) hs1 (by simp) hp1 (Nat.le_refl _) hs2 HEL.out rfl rfl (by unfold maxLen; omega) (by omega) ?_)
  intro A2 c2 w2 hc2 hs3 hb2
  have hb02 := hb1.trans (hb2.mono hb1.size)
  have HS2 := Lib.hid ((HS1.out.below hb2).more hb2.size)
  rw [← List.map_append] at hs3
  clear hb1 hb2 hs1 hs2 hsl
  go_wp2_with fail
  refine (getNums_any A2 (P.length + n) c2 (P ++ b) _ HL.out HM.out hc2 HB.out hs3).mono ?_
  rw [HR.out]
  rintro e w3 ⟨v3, rfl, ho3, hb3⟩
  obtain ⟨A3, c3, rfl, hc3, hs33⟩ := own_form ho3
  have HR3 := Lib.hid hs33
  have HS3 := Lib.hid ((HS2.out.below hb3).more hb3.size)
  have hb03 := hb02.trans (hb3.mono hb02.size)
  clear hs3 ho3 hb3 hb02 HS2 hs33
  go_wp2_with fail
  all_goals
    refine (getNums_any A1 _ c1 (P.take (P.length - 1)) w3 (HTL.out.trans (by omega)) (by omega) (by omega) (HPB.out.take _) (by rw [List.map_take]; exact HS3.out.take _)).mono ?_
    rw [HS.out]
    rintro e w4 ⟨v4, rfl, ho4, hb4⟩
    obtain ⟨A4, c4, rfl, hc4, _⟩ := own_form ho4
    have hb04 := hb03.trans (hb4.mono hb03.size)
    have HS4 := Lib.hid ((HS3.out.below hb4).more hb4.size)
    have HR4 := Lib.hid ((HR3.out.below hb4).more hb4.size)
    clear ho4 hb4
    go_wp2_with fail
    refine (sanity_any _).mono ?_
    rintro e w5 ⟨rfl, hb5⟩
    have hb05 := hb04.trans (hb5.mono hb04.size)
    have HS5 := Lib.hid ((HS4.out.below hb5).more hb5.size)
    have HR5 := Lib.hid ((HR4.out.below hb5).more hb5.size)
    clear hb5
    go_wp2_with fail
    refine (C2.out _ hb05).mono ?_
    rintro e w6 ⟨v6, rfl, ho6, hb6⟩
    obtain ⟨A6, c6, rfl, hc6, hs6⟩ := own_form ho6
    have hb06 := hb05.trans (hb6.mono hb05.size)
    have hs56 := HS5.out.below hb6
    have HR6 := Lib.hid (HR5.out.below hb6)
    clear ho6 hb6
    go_wp2_with fail
    refine (same_any A1 A6 P.length P.length c1 c6 P P _ rfl rfl HPM.out HPM.out hs56 hs6).mono ?_
    rw [decide_eq_true rfl]
    rintro e w7 ⟨rfl, d, rfl⟩
    go_wp2_with fail
    refine (ints_any A3 A0 l.length n0 c3 c0 l l _ rfl E0.out (by rw [E0.out]; exact HLM.out) HLM.out (HR6.out.drewN d) ((H0.out.below hb06).drewN d)).mono ?_
    rw [decide_eq_true rfl]
    rintro e w8 ⟨rfl, d2, rfl⟩
    go_wp2
    go_ret
    exact ⟨rfl, below_drewN hb06 _⟩
theorem numsRT_walk (A0 : Option Addr) (n0 c0 : Nat) (ys : List Int) (A : Option Addr) (n c : Nat) (zs : List Int) (w : World) (w0 : Row .i64 w A0 n0 c0 ys) (w1 : Row .u8 w A n c zs) : Calls Try.prog 8 #[.slice A0 n0 c0, .slice A n c] w (Sane w) := by
  obtain ⟨k1, k2, k3, _⟩ := w0.len
  obtain ⟨l1, l2, l3, _⟩ := w1.len
  by_cases hs : n0 ≤ 300
  · by_cases hn : n ≤ 1000
    · exact numsRT_core A0 n0 c0 (ys.take n0) A n c (zs.take n) w k1 hs w0.ints w0.sees l1 hn w1.bytes w1.sees
    · have hl : (1000 : Int) < (n : Int) := by omega
      have hl2 : (n0 : Int) ≤ 300 := by omega
      clear hn w0 w1 l1 l2 l3 k1 k2 k3 hs
      go_enter Try.func8, Try.ntmps8
      go_wp2_with fail
      refine (sanity_any _).mono ?_
      rintro e w3 ⟨rfl, hb3⟩
      go_wp2
      go_ret
      exact ⟨rfl, hb3⟩
  · have hl : (300 : Int) < (n0 : Int) := by omega
    clear w0 w1 l1 l2 l3 k1 k2 k3 hs
    go_enter Try.func8, Try.ntmps8
    go_wp2_with fail
    refine (sanity_any _).mono ?_
    rintro e w3 ⟨rfl, hb3⟩
    go_wp2
    go_ret
    exact ⟨rfl, hb3⟩

set_option maxHeartbeats 1000000 in
theorem concat_core (A0 : Option Addr) (n0 c0 : Nat) (l : List Int) (A : Option Addr) (n c : Nat) (m : List Int) (w : World) (e0 : l.length = n0) (hl : AllIn l) (h0 : Sees w w.heap.size A0 (l.map (.int .i64)))
    (e1 : m.length = n) (m1 : n0 + n ≤ 300) (hm : AllIn m) (h1 : Sees w w.heap.size A (m.map (.int .i64))) :
    Calls Try.prog 10 #[.slice A0 n0 c0, .slice A n c] w (Sane w) := by
  obtain ⟨i0, hi, hz0, hz1, hz2⟩ := info_parts Try.info5
  have H0 := Lib.hid h0
  have H1 := Lib.hid h1
  have E0 := Lib.hid e0
  have E1 := Lib.hid e1
  have htl := numsL_len l
  have htm := numsL_len m
  have HTB := numsL_bytes hl (by omega)
  have HTC := numsL_bytes hm (by omega)
  have hget := getNums_nums hl (by omega) (numsL m)
  have hget0 := getNums_nums hm (by omega) []
  rw [List.append_nil] at hget0
  have HR : Hid (numsR (numsL l ++ numsL m) = (l, ((numsL l).length : Int), 0)) := Lib.hid (numsR_some hget)
  have HS : Hid (numsR ((numsL l ++ numsL m).drop (numsL l).length) = (m, ((numsL m).length : Int), 0)) := Lib.hid (by
    rw [List.drop_append_of_le_length (by simp), List.drop_length, List.nil_append]; exact numsR_some hget0)
  have C1 := Lib.hid (fun W (hW : Below w.heap.size w W) => nums_any A0 n0 c0 l W e0 (by omega) hl ((h0.below hW).more hW.size))
  have C2 := Lib.hid (fun W (hW : Below w.heap.size w W) => nums_any A n c m W e1 (by omega) hm ((h1.below hW).more hW.size))
  rw [e0] at htl
  rw [e1] at htm
  generalize numsL l = P at *
  generalize numsL m = Q at *
  obtain ⟨hp1, hp2⟩ := htl
  obtain ⟨hq1, hq2⟩ := htm
  have HB : Hid (Bytes (P ++ Q)) := Lib.hid (HTB.app HTC)
  have HL : Hid ((P ++ Q).length = P.length + Q.length) := Lib.hid (by rw [List.length_append])
  have HM : Hid (P.length + Q.length ≤ 1000000) := Lib.hid (by omega)
  have HLM : Hid (n0 ≤ maxLen) := Lib.hid (by unfold maxLen; omega)
  have HMM : Hid (n ≤ maxLen) := Lib.hid (by unfold maxLen; omega)
  have HTL : Hid (((P ++ Q).drop P.length).length = Q.length) := Lib.hid (by rw [List.length_drop, List.length_append]; omega)
  clear e1 h1 hget hget0 HTB HTC e0 h0 hl hm
  go_enter Try.func10, Try.ntmps10
  go_wp2_with fail
  refine (C1.out _ (Below.refl _ _)).mono ?_
  rintro e w1 ⟨v1, rfl, ho1, hb1⟩
  go_wp2_with fail
  refine (C2.out _ hb1).mono ?_
  rintro e w2 ⟨v2, rfl, ho2, hb2⟩
  obtain ⟨A2, c2, rfl, hc2, hs2⟩ := own_form ho2
  have ho12 := own_below ho1 hb2
  have hb02 := hb1.trans (hb2.mono hb1.size)
  clear ho1 ho2 hb1 hb2
  go_wp2_with (at_builtin; refine wpList_app rfl (.tmp 20) (.tmp 22) 24 rfl w.heap.size 5 i0 (.int .u8 0) 1 1 Try.underlying24 hi hz0 hz1 hz2 rfl (by decide) ho12 hs2 (by simp) ints_one rfl rfl (by unfold maxLen; omega) (by omega) hb02.size ?_)
  intro v3 w3 ho3 hb3
  have hb03 := hb02.trans hb3
  obtain ⟨A3, c3, rfl, hc3, hs3⟩ := own_form ho3
  rw [← List.map_append] at hs3
  have HS3 := Lib.hid hs3
  have hsl := fun W => slice_lo Try.slice24 Try.size24 A3 (P.length + Q.length) c3 P.length (P.length : Int) rfl (by omega) W
  rw [show P.length + Q.length - P.length = Q.length by omega] at hsl
  clear ho12 hs2 hb02 hb3 ho3 hs3
  go_wp2_with fail
  refine (getNums_any A3 (P.length + Q.length) c3 (P ++ Q) _ HL.out HM.out hc3 HB.out HS3.out).mono ?_
  rw [HR.out]
  rintro e w4 ⟨v4, rfl, ho4, hb4⟩
  obtain ⟨A4, c4, rfl, hc4, hs4⟩ := own_form ho4
  have HR4 := Lib.hid hs4
  have HS4 := Lib.hid ((HS3.out.below hb4).more hb4.size)
  have hb04 := hb03.trans (hb4.mono hb03.size)
  have hd : decide (P.length + Q.length < P.length) = false := by simp
  clear ho4 hb4 hb03 hs4
  go_wp2_with fail
  refine (getNums_any (cutA A3 P.length c3) Q.length (c3 - P.length) ((P ++ Q).drop P.length) _ HTL.out (by omega) (by omega) (HB.out.drop _) (by rw [List.map_drop]; exact HS4.out.cutA _ (by rw [List.length_map, HL.out]; exact hc3))).mono ?_
  rw [HS.out]
  rintro e w5 ⟨v5, rfl, ho5, hb5⟩
  obtain ⟨A5, c5, rfl, hc5, hs5⟩ := own_form ho5
  have HR5 := Lib.hid ((HR4.out.below hb5).more hb5.size)
  have HQ5 := Lib.hid hs5
  have hb05 := hb04.trans (hb5.mono hb04.size)
  clear ho5 hb5 hb04 hs5 hsl
  go_wp2_with fail
  refine (sanity_any _).mono ?_
  rintro e w6 ⟨rfl, hb6⟩
  have hb06 := hb05.trans (hb6.mono hb05.size)
  have HR6 := Lib.hid ((HR5.out.below hb6).more hb6.size)
  have HQ6 := Lib.hid ((HQ5.out.below hb6).more hb6.size)
  clear hb6 hb05
  go_wp2_with fail
  refine (ints_any A4 A0 l.length n0 c4 c0 l l _ rfl E0.out (by rw [E0.out]; exact HLM.out) HLM.out HR6.out (H0.out.below hb06)).mono ?_
  rw [decide_eq_true rfl]
  rintro e w7 ⟨rfl, d, rfl⟩
  go_wp2_with fail
  refine (ints_any A5 A m.length n c5 c m m _ rfl E1.out (by rw [E1.out]; exact HMM.out) HMM.out (HQ6.out.drewN d) ((H1.out.below hb06).drewN d)).mono ?_
  rw [decide_eq_true rfl]
  rintro e w8 ⟨rfl, d2, rfl⟩
  go_wp2
  go_ret
  exact ⟨rfl, below_drewN hb06 _⟩
theorem concat_walk (A0 : Option Addr) (n0 c0 : Nat) (ys : List Int) (A : Option Addr) (n c : Nat) (zs : List Int) (w : World) (w0 : Row .i64 w A0 n0 c0 ys) (w1 : Row .i64 w A n c zs) (s0 : n0 ≤ 140737488355328) (s1 : n ≤ 140737488355328) :
    Calls Try.prog 10 #[.slice A0 n0 c0, .slice A n c] w (Sane w) := by
  obtain ⟨k1, k2, k3, _⟩ := w0.len
  obtain ⟨l1, l2, l3, _⟩ := w1.len
  by_cases hs : n0 + n ≤ 300
  · exact concat_core A0 n0 c0 (ys.take n0) A n c (zs.take n) w k1 w0.ints w0.sees l1 hs w1.ints w1.sees
  · have hl : (300 : Int) < (n0 : Int) + (n : Int) := by omega
    clear w0 w1 l1 l2 l3 k1 k2 k3 hs
    go_enter Try.func10, Try.ntmps10
    go_wp2_with fail
    refine (sanity_any _).mono ?_
    rintro e w3 ⟨rfl, hb3⟩
    go_wp2
    go_ret
    exact ⟨rfl, hb3⟩
end Go.Proofs.Ytcjlbmggkjnbhaa
