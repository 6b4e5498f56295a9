import Derived.Test.YtcjlbmggkjnbhaaLawsB
namespace Go.Proofs.Ytcjlbmggkjnbhaa
open Go.RowKit
set_option linter.unusedVariables false

theorem getR_put {n : Int} (hn : In64 n) (r : List Int) : getR (putL n ++ r) = (n, ((putL n).length : Int), 0) := getR_of_some (get_put hn r)

theorem round_core (x : Int) (hx : In64 x) (A : Option Addr) (n c : Nat) (b : List Int) (w : World) (e1 : b.length = n) (m1 : n ≤ 1000) (hby : Bytes b) (h1 : Sees w w.heap.size A (b.map (.int .u8))) :
    Calls Try.prog 5 #[.int .i64 x, .slice A n c] w (Sane w) := by
  obtain ⟨i0, hi, hz0, hz1, hz2⟩ := info_parts Try.info5
  have HX := Lib.hid hx
  have H1 := Lib.hid h1
  have E1 := Lib.hid e1
  have hp1 := put_pos x
  have hp2 := put_le x
  have HR := Lib.hid (getR_put hx b)
  have HB : Hid (Bytes (putL x ++ b)) := Lib.hid ((put_bytes hx).app hby)
  have HL : Hid ((putL x ++ b).length = (putL x).length + n) := Lib.hid (by rw [List.length_append, e1])
  have HM : Hid ((putL x).length + n ≤ maxLen) := Lib.hid (by unfold maxLen; omega)
  have HEL : Hid ((b.map (Value.int .u8)).length = n * 1) := Lib.hid (by rw [List.length_map, e1, Nat.mul_one])
  clear e1 hby h1 hx
  go_enter Try.func5, Try.ntmps5
  go_wp2_with fail
  refine (put_any x HX.out _).mono ?_
  rintro e w1 ⟨v1, rfl, ho1, hb1⟩
  obtain ⟨A1, c1, rfl, hc1, hs1⟩ := own_form ho1
  clear ho1
  generalize hP : putL x = P at *
  have HP := Lib.hid hP
  clear hP
  have hsl := fun W => slice_hm Try.slice24 Try.size24 A1 P.length c1 P.length P.length (P.length : Int) (P.length : Int) rfl rfl (Nat.le_refl _) hc1 W
  have hs2 := H1.out.below hb1
  go_wp2_with (at_builtin; refine wpList_app_clip rfl (.tmp 21) (.tmp 22) 24 rfl 5 i0 (.int .u8 0) 1 1 Try.underlying24 hi hz0 hz1 hz2 rfl (by decide) hs1 (by simp) hp1 (Nat.le_refl _) hs2 HEL.out rfl rfl (by unfold maxLen; omega) (by omega) ?_)
  intro A2 c2 w2 hc2 hs3 hb2
  have hb02 := hb1.trans (hb2.mono hb1.size)
  rw [← List.map_append] at hs3
  clear hb1 hb2 hs1 hs2 hsl
  go_wp2_with fail
  refine (get_any A2 (P.length + n) c2 (P ++ b) _ HL.out HM.out HB.out hs3).mono ?_
  rw [HR.out]
  rintro e w3 ⟨rfl, rfl⟩
  unfold Ret3
  go_wp2_with fail
  refine (sanity_any _).mono ?_
  rintro e w4 ⟨rfl, hb4⟩
  have hb04 := hb02.trans (hb4.mono hb02.size)
  clear hb4 hb02
  go_wp2
  go_ret
  exact ⟨ret_bool (by simp; omega), hb04⟩
theorem round_walk (x : Int) (A : Option Addr) (n c : Nat) (zs : List Int) (w : World) (wx : (Lit.int .i64 x).wf = true) (w0 : Row .u8 w A n c zs) : Calls Try.prog 5 #[.int .i64 x, .slice A n c] w (Sane w) := by
  obtain ⟨l1, l2, l3, _⟩ := w0.len
  by_cases hn : n ≤ 1000
  · exact round_core x (in_wf wx) A n c (zs.take n) w l1 hn w0.bytes w0.sees
  · have hl : (1000 : Int) < (n : Int) := by omega
    clear hn w0 l1 l2 l3 wx
    go_enter Try.func5, Try.ntmps5
    go_wp2_with fail
    refine (sanity_any _).mono ?_
    rintro e w3 ⟨rfl, hb3⟩
    go_wp2
    go_ret
    exact ⟨rfl, hb3⟩

/-- The loop over the proper prefixes. -/
theorem canon_no (A : Option Addr) (n c : Nat) (b : List Int) (w : World) (e1 : b.length = n) (m1 : n ≤ 1000) (hby : Bytes b) (h1 : Sees w w.heap.size A (b.map (.int .u8))) (hg : get b = none) :
    Calls Try.prog 6 #[.slice A n c] w (Sane w) := by
  have H1 := Lib.hid h1
  have E1 := Lib.hid e1
  have HB := Lib.hid hby
  have HR := Lib.hid (getR_of_none hg)
  have HM : Hid (n ≤ maxLen) := Lib.hid (by unfold maxLen; omega)
  clear e1 hby h1 hg
  go_enter Try.func6, Try.ntmps6
  go_wp2_with fail
  refine (get_any A n c b _ E1.out HM.out HB.out H1.out).mono ?_
  rw [HR.out]
  rintro e w3 ⟨rfl, rfl⟩
  unfold Ret3
  go_wp2_with fail
  refine (sanity_any _).mono ?_
  rintro e w4 ⟨rfl, hb4⟩
  go_wp2
  go_ret
  exact ⟨rfl, hb4⟩
set_option maxHeartbeats 1000000 in
theorem canon_yes (A : Option Addr) (n c : Nat) (b : List Int) (w : World) (e1 : b.length = n) (m1 : n ≤ 1000) (hc : n ≤ c) (hby : Bytes b) (h1 : Sees w w.heap.size A (b.map (.int .u8))) (z : Int) (m : Nat) (hg : get b = some (z, m)) :
    Calls Try.prog 6 #[.slice A n c] w (Sane w) := by
  have H1 := Lib.hid h1
  have E1 := Lib.hid e1
  have HB := Lib.hid hby
  have HR := Lib.hid (getR_of_some hg)
  have HM : Hid (n ≤ maxLen) := Lib.hid (by unfold maxLen; omega)
  obtain ⟨g1, g2, g3⟩ := get_some hby hg
  have HZ := Lib.hid g1
  have hlen := get_len hby hg
  rw [e1] at hlen
  obtain ⟨hl1, hl2, hl3⟩ := hlen
  have HT : Hid (b.take m = putL z) := Lib.hid (by
    have := congrArg (List.take m) g3
    rw [List.take_append_of_le_length (by omega), g2, List.take_length] at this
    rw [g2]; exact this)
  have HTL : Hid ((b.take m).length = m) := Lib.hid (by rw [List.length_take]; omega)
  have HPL : Hid ((putL z).length = m) := Lib.hid g2.symm
  have HMM : Hid (m ≤ maxLen) := Lib.hid (by unfold maxLen; omega)
  have HP : Hid (∀ k, k < m → getR (b.take k) = (0, 0, 3)) := Lib.hid fun k hk => getR_of_none (get_prefix hby hg hk)
  have htk : Hid (∀ k W, Below w.heap.size w W → Sees W w.heap.size A ((b.take k).map (Value.int .u8))) := Lib.hid fun k W hW => by rw [List.map_take]; exact (h1.below hW).take k
  have hsl := fun W => slice_hi Try.slice24 Try.size24 A n c m (m : Int) rfl (by omega) W
  have hd1 : decide ((m : Int) < 1) = false := by simp; omega
  have hd2 : decide (n < m) = false := by simp; omega
  have hd3 : decide ((n : Int) < (m : Int)) = false := by simp; omega
  clear e1 hby h1 hg g1 g2 g3
  go_enter Try.func6, Try.ntmps6
  go_wp2_with fail
  refine (get_any A n c b _ E1.out HM.out HB.out H1.out).mono ?_
  rw [HR.out]
  rintro e w3 ⟨rfl, rfl⟩
  unfold Ret3
  go_wp2
  go_region_held3 (fun _ => True) (trivial) (first
    | (go_at_call 16; refine (put_any z HZ.out _).mono ?_; rintro e w1 ⟨v1, rfl, hown, hbw⟩; obtain ⟨A1, c1, rfl, _, hs1⟩ := own_form hown; rw [HPL.out]; have hs2 := htk.out m _ (below_of_drew hbw); clear hown)
    | (go_at_call 15; refine (same_any A1 A m m c1 c (putL z) (b.take m) _ HPL.out HTL.out HMM.out HMM.out hs1 hs2).mono ?_; rw [decide_eq_true HT.out.symm]; rintro e w2 ⟨rfl, d, rfl⟩))
  have hb0 : Below w.heap.size w (w1.drewN d) := below_drewN (below_of_drew hbw) d
  clear hbw hs1 hs2 hsl
  go_wp2
  go_loopw [49] (fun i wr => ∃ k : Nat, k ≤ m ∧ i = .int .i64 k ∧ Below w.heap.size w wr) (fun i _ => m - (intOf i).toNat)
  case atStart => exact ⟨0, by omega, rfl, hb0⟩
  case round =>
    clear hb0
    obtain ⟨k, hk, rfl, hb⟩ := hrel
    by_cases hlt : k < m
    · have hsl := fun W => slice_hi Try.slice24 Try.size24 A n c k (k : Int) rfl (by omega) W
      have hKL : Hid ((b.take k).length = k) := Lib.hid (by rw [List.length_take, E1.out]; omega)
      have hKM : Hid (k ≤ maxLen) := Lib.hid (by unfold maxLen; omega)
      have hkn : k ≤ c := by omega
      go_wp2_with fail
      refine (get_any A k c (b.take k) _ hKL.out hKM.out (HB.out.take k) (htk.out k _ hb)).mono ?_
      rw [HP.out k hlt]
      rintro e w3 ⟨rfl, rfl⟩
      unfold Ret3
      clear hsl
      go_wp2
      go_roundw
      case rel => exact ⟨k + 1, by omega, by go_num, hb⟩
      case measure => simp [intOf]; omega
    · obtain rfl : k = m := by omega
      go_wp2_with fail
      refine (sanity_any _).mono ?_
      rintro e w4 ⟨rfl, hb4⟩
      go_wp2
      go_ret
      exact ⟨rfl, hb.trans (hb4.mono hb.size)⟩
theorem canon_walk (A : Option Addr) (n c : Nat) (zs : List Int) (w : World) (w0 : Row .u8 w A n c zs) : Calls Try.prog 6 #[.slice A n c] w (Sane w) := by
  obtain ⟨l1, l2, l3, _⟩ := w0.len
  by_cases hn : n ≤ 1000
  · cases hg : get (zs.take n) with
    | none => exact canon_no A n c (zs.take n) w l1 hn w0.bytes w0.sees hg
    | some r => exact canon_yes A n c (zs.take n) w l1 hn l2 w0.bytes w0.sees r.1 r.2 hg
  · have hl : (1000 : Int) < (n : Int) := by omega
    clear hn w0 l1 l2 l3
    go_enter Try.func6, Try.ntmps6
    go_wp2_with fail
    refine (sanity_any _).mono ?_
    rintro e w3 ⟨rfl, hb3⟩
    go_wp2
    go_ret
    exact ⟨rfl, hb3⟩
end Go.Proofs.Ytcjlbmggkjnbhaa
