import Derived.Test.YtcjlbmggkjnbhaaLawsA
namespace Go.Proofs.Ytcjlbmggkjnbhaa
open Go.RowKit
set_option linter.unusedVariables false

theorem inj_case0 (m n : Int) (hm : In64 m) (hn : In64 n) (hm0 : 0 ≤ m) (hn0 : 0 ≤ n) (hle : m ≤ n) (w : World) : Calls Try.prog 9 #[.int .i64 m, .int .i64 n] w (Sane w) := by
  have HM := Lib.hid hm
  have HN := Lib.hid hn
  have HP : Hid ((putL m).length ≤ maxLen) := Lib.hid (by have := put_le m; unfold maxLen; omega)
  have HQ : Hid ((putL n).length ≤ maxLen) := Lib.hid (by have := put_le n; unfold maxLen; omega)
  have HD : Hid (decide (putL m = putL n) = (m == n)) := Lib.hid (by rw [Bool.eq_iff_iff]; simp [inj_same hm hn])
  have hlen := inj_len (m := m) (n := n) (.inl ⟨hm0, hle⟩)
  have hlen' : decide ((putL n).length < (putL m).length) = false := by simp; omega
  have hlen2 : ((putL m).length : Int) ≤ ((putL n).length : Int) := by omega
  unfold In64 at hm hn
  go_enter Try.func9, Try.ntmps9
  go_wp2_with fail
  refine (put_any m HM.out _).mono ?_
  rintro e w1 ⟨v1, rfl, ho1, hb1⟩
  obtain ⟨A1, c1, rfl, _, hs1⟩ := own_form ho1
  clear ho1
  go_wp2_with fail
  refine (put_any n HN.out _).mono ?_
  rintro e w2 ⟨v2, rfl, ho2, hb2⟩
  obtain ⟨A2, c2, rfl, _, hs2⟩ := own_form ho2
  have hs12 := (hs1.below hb2).more hb2.size
  have hb02 := hb1.trans (hb2.mono hb1.size)
  clear ho2 hb1 hb2 hs1
  go_wp2_with fail
  refine (sanity_any _).mono ?_
  rintro e w3 ⟨rfl, hb3⟩
  have hs13 := (hs12.below hb3)
  have hs23 := (hs2.below hb3)
  have hb03 := hb02.trans (hb3.mono hb02.size)
  clear hb3 hb02 hs12 hs2
  go_wp2_with fail
  refine (same_any A1 A2 _ _ c1 c2 (putL m) (putL n) _ rfl rfl HP.out HQ.out hs13 hs23).mono ?_
  rw [HD.out]
  rintro e w4 ⟨rfl, d, rfl⟩
  go_wp2
  go_ret
  exact ⟨rfl, below_drewN hb03 _⟩
theorem inj_case1 (m n : Int) (hm : In64 m) (hn : In64 n) (hm0 : 0 ≤ m) (hn0 : 0 ≤ n) (hle : n < m) (w : World) : Calls Try.prog 9 #[.int .i64 m, .int .i64 n] w (Sane w) := by
  have HM := Lib.hid hm
  have HN := Lib.hid hn
  have HP : Hid ((putL m).length ≤ maxLen) := Lib.hid (by have := put_le m; unfold maxLen; omega)
  have HQ : Hid ((putL n).length ≤ maxLen) := Lib.hid (by have := put_le n; unfold maxLen; omega)
  have HD : Hid (decide (putL m = putL n) = (m == n)) := Lib.hid (by rw [Bool.eq_iff_iff]; simp [inj_same hm hn])
  unfold In64 at hm hn
  go_enter Try.func9, Try.ntmps9
  go_wp2_with fail
  refine (put_any m HM.out _).mono ?_
  rintro e w1 ⟨v1, rfl, ho1, hb1⟩
  obtain ⟨A1, c1, rfl, _, hs1⟩ := own_form ho1
  clear ho1
  go_wp2_with fail
  refine (put_any n HN.out _).mono ?_
  rintro e w2 ⟨v2, rfl, ho2, hb2⟩
  obtain ⟨A2, c2, rfl, _, hs2⟩ := own_form ho2
  have hs12 := (hs1.below hb2).more hb2.size
  have hb02 := hb1.trans (hb2.mono hb1.size)
  clear ho2 hb1 hb2 hs1
  go_wp2_with fail
  refine (sanity_any _).mono ?_
  rintro e w3 ⟨rfl, hb3⟩
  have hs13 := (hs12.below hb3)
  have hs23 := (hs2.below hb3)
  have hb03 := hb02.trans (hb3.mono hb02.size)
  clear hb3 hb02 hs12 hs2
  go_wp2_with fail
  refine (same_any A1 A2 _ _ c1 c2 (putL m) (putL n) _ rfl rfl HP.out HQ.out hs13 hs23).mono ?_
  rw [HD.out]
  rintro e w4 ⟨rfl, d, rfl⟩
  go_wp2
  go_ret
  exact ⟨rfl, below_drewN hb03 _⟩
theorem inj_case2 (m n : Int) (hm : In64 m) (hn : In64 n) (hm0 : 0 ≤ m) (hn0 : n < 0) (w : World) : Calls Try.prog 9 #[.int .i64 m, .int .i64 n] w (Sane w) := by
  have HM := Lib.hid hm
  have HN := Lib.hid hn
  have HP : Hid ((putL m).length ≤ maxLen) := Lib.hid (by have := put_le m; unfold maxLen; omega)
  have HQ : Hid ((putL n).length ≤ maxLen) := Lib.hid (by have := put_le n; unfold maxLen; omega)
  have HD : Hid (decide (putL m = putL n) = (m == n)) := Lib.hid (by rw [Bool.eq_iff_iff]; simp [inj_same hm hn])
  unfold In64 at hm hn
  go_enter Try.func9, Try.ntmps9
  go_wp2_with fail
  refine (put_any m HM.out _).mono ?_
  rintro e w1 ⟨v1, rfl, ho1, hb1⟩
  obtain ⟨A1, c1, rfl, _, hs1⟩ := own_form ho1
  clear ho1
  go_wp2_with fail
  refine (put_any n HN.out _).mono ?_
  rintro e w2 ⟨v2, rfl, ho2, hb2⟩
  obtain ⟨A2, c2, rfl, _, hs2⟩ := own_form ho2
  have hs12 := (hs1.below hb2).more hb2.size
  have hb02 := hb1.trans (hb2.mono hb1.size)
  clear ho2 hb1 hb2 hs1
  go_wp2_with fail
  refine (sanity_any _).mono ?_
  rintro e w3 ⟨rfl, hb3⟩
  have hs13 := (hs12.below hb3)
  have hs23 := (hs2.below hb3)
  have hb03 := hb02.trans (hb3.mono hb02.size)
  clear hb3 hb02 hs12 hs2
  go_wp2_with fail
  refine (same_any A1 A2 _ _ c1 c2 (putL m) (putL n) _ rfl rfl HP.out HQ.out hs13 hs23).mono ?_
  rw [HD.out]
  rintro e w4 ⟨rfl, d, rfl⟩
  go_wp2
  go_ret
  exact ⟨rfl, below_drewN hb03 _⟩
theorem inj_case3 (m n : Int) (hm : In64 m) (hn : In64 n) (hm0 : m < 0) (hn0 : 0 ≤ n) (w : World) : Calls Try.prog 9 #[.int .i64 m, .int .i64 n] w (Sane w) := by
  have HM := Lib.hid hm
  have HN := Lib.hid hn
  have HP : Hid ((putL m).length ≤ maxLen) := Lib.hid (by have := put_le m; unfold maxLen; omega)
  have HQ : Hid ((putL n).length ≤ maxLen) := Lib.hid (by have := put_le n; unfold maxLen; omega)
  have HD : Hid (decide (putL m = putL n) = (m == n)) := Lib.hid (by rw [Bool.eq_iff_iff]; simp [inj_same hm hn])
  unfold In64 at hm hn
  go_enter Try.func9, Try.ntmps9
  go_wp2_with fail
  refine (put_any m HM.out _).mono ?_
  rintro e w1 ⟨v1, rfl, ho1, hb1⟩
  obtain ⟨A1, c1, rfl, _, hs1⟩ := own_form ho1
  clear ho1
  go_wp2_with fail
  refine (put_any n HN.out _).mono ?_
  rintro e w2 ⟨v2, rfl, ho2, hb2⟩
  obtain ⟨A2, c2, rfl, _, hs2⟩ := own_form ho2
  have hs12 := (hs1.below hb2).more hb2.size
  have hb02 := hb1.trans (hb2.mono hb1.size)
  clear ho2 hb1 hb2 hs1
  go_wp2_with fail
  refine (sanity_any _).mono ?_
  rintro e w3 ⟨rfl, hb3⟩
  have hs13 := (hs12.below hb3)
  have hs23 := (hs2.below hb3)
  have hb03 := hb02.trans (hb3.mono hb02.size)
  clear hb3 hb02 hs12 hs2
  go_wp2_with fail
  refine (same_any A1 A2 _ _ c1 c2 (putL m) (putL n) _ rfl rfl HP.out HQ.out hs13 hs23).mono ?_
  rw [HD.out]
  rintro e w4 ⟨rfl, d, rfl⟩
  go_wp2
  go_ret
  exact ⟨rfl, below_drewN hb03 _⟩
theorem inj_case4 (m n : Int) (hm : In64 m) (hn : In64 n) (hm0 : m < 0) (hn0 : n < 0) (hle : n ≤ m) (w : World) : Calls Try.prog 9 #[.int .i64 m, .int .i64 n] w (Sane w) := by
  have HM := Lib.hid hm
  have HN := Lib.hid hn
  have HP : Hid ((putL m).length ≤ maxLen) := Lib.hid (by have := put_le m; unfold maxLen; omega)
  have HQ : Hid ((putL n).length ≤ maxLen) := Lib.hid (by have := put_le n; unfold maxLen; omega)
  have HD : Hid (decide (putL m = putL n) = (m == n)) := Lib.hid (by rw [Bool.eq_iff_iff]; simp [inj_same hm hn])
  have hlen := inj_len (m := m) (n := n) (.inr ⟨hm0, hle⟩)
  have hlen' : decide ((putL n).length < (putL m).length) = false := by simp; omega
  have hlen2 : ((putL m).length : Int) ≤ ((putL n).length : Int) := by omega
  unfold In64 at hm hn
  go_enter Try.func9, Try.ntmps9
  go_wp2_with fail
  refine (put_any m HM.out _).mono ?_
  rintro e w1 ⟨v1, rfl, ho1, hb1⟩
  obtain ⟨A1, c1, rfl, _, hs1⟩ := own_form ho1
  clear ho1
  go_wp2_with fail
  refine (put_any n HN.out _).mono ?_
  rintro e w2 ⟨v2, rfl, ho2, hb2⟩
  obtain ⟨A2, c2, rfl, _, hs2⟩ := own_form ho2
  have hs12 := (hs1.below hb2).more hb2.size
  have hb02 := hb1.trans (hb2.mono hb1.size)
  clear ho2 hb1 hb2 hs1
  go_wp2_with fail
  refine (sanity_any _).mono ?_
  rintro e w3 ⟨rfl, hb3⟩
  have hs13 := (hs12.below hb3)
  have hs23 := (hs2.below hb3)
  have hb03 := hb02.trans (hb3.mono hb02.size)
  clear hb3 hb02 hs12 hs2
  go_wp2_with fail
  refine (same_any A1 A2 _ _ c1 c2 (putL m) (putL n) _ rfl rfl HP.out HQ.out hs13 hs23).mono ?_
  rw [HD.out]
  rintro e w4 ⟨rfl, d, rfl⟩
  go_wp2
  go_ret
  exact ⟨rfl, below_drewN hb03 _⟩
theorem inj_case5 (m n : Int) (hm : In64 m) (hn : In64 n) (hm0 : m < 0) (hn0 : n < 0) (hle : m < n) (w : World) : Calls Try.prog 9 #[.int .i64 m, .int .i64 n] w (Sane w) := by
  have HM := Lib.hid hm
  have HN := Lib.hid hn
  have HP : Hid ((putL m).length ≤ maxLen) := Lib.hid (by have := put_le m; unfold maxLen; omega)
  have HQ : Hid ((putL n).length ≤ maxLen) := Lib.hid (by have := put_le n; unfold maxLen; omega)
  have HD : Hid (decide (putL m = putL n) = (m == n)) := Lib.hid (by rw [Bool.eq_iff_iff]; simp [inj_same hm hn])
  unfold In64 at hm hn
  go_enter Try.func9, Try.ntmps9
  go_wp2_with fail
  refine (put_any m HM.out _).mono ?_
  rintro e w1 ⟨v1, rfl, ho1, hb1⟩
  obtain ⟨A1, c1, rfl, _, hs1⟩ := own_form ho1
  clear ho1
  go_wp2_with fail
  refine (put_any n HN.out _).mono ?_
  rintro e w2 ⟨v2, rfl, ho2, hb2⟩
  obtain ⟨A2, c2, rfl, _, hs2⟩ := own_form ho2
  have hs12 := (hs1.below hb2).more hb2.size
  have hb02 := hb1.trans (hb2.mono hb1.size)
  clear ho2 hb1 hb2 hs1
  go_wp2_with fail
  refine (sanity_any _).mono ?_
  rintro e w3 ⟨rfl, hb3⟩
  have hs13 := (hs12.below hb3)
  have hs23 := (hs2.below hb3)
  have hb03 := hb02.trans (hb3.mono hb02.size)
  clear hb3 hb02 hs12 hs2
  go_wp2_with fail
  refine (same_any A1 A2 _ _ c1 c2 (putL m) (putL n) _ rfl rfl HP.out HQ.out hs13 hs23).mono ?_
  rw [HD.out]
  rintro e w4 ⟨rfl, d, rfl⟩
  go_wp2
  go_ret
  exact ⟨rfl, below_drewN hb03 _⟩
theorem inj_walk (m n : Int) (w0 : (Lit.int .i64 m).wf = true) (w1 : (Lit.int .i64 n).wf = true) (w : World) : Calls Try.prog 9 #[.int .i64 m, .int .i64 n] w (Sane w) := by
  have hm := in_wf w0
  have hn := in_wf w1
  rcases Int.lt_or_le m 0 with h1 | h1 <;> rcases Int.lt_or_le n 0 with h2 | h2
  · rcases Int.lt_or_le m n with h3 | h3
    · exact inj_case5 m n hm hn h1 h2 h3 w
    · exact inj_case4 m n hm hn h1 h2 h3 w
  · exact inj_case3 m n hm hn h1 h2 w
  · exact inj_case2 m n hm hn h1 h2 w
  · rcases Int.lt_or_le n m with h3 | h3
    · exact inj_case1 m n hm hn h1 h2 h3 w
    · exact inj_case0 m n hm hn h1 h2 h3 w
end Go.Proofs.Ytcjlbmggkjnbhaa
