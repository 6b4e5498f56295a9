import Derived.Test.YtdcdloojojmihaaRows
import Derived.Test.YtdcdloojojmihaaMath
import Derived.WalkSpells
import Derived.Lib.Hide
import Derived.Handy
namespace Go.Proofs.Ytdcdloojojmihaa
open Go.RowKit
set_option linter.unusedVariables false

theorem ret_int {k : IntKind} {a b : Int} (h : a = b) : Ending.returned (.int k a) = .returned (.int k b) := by rw [h]
theorem ret_bool {a b : Bool} (h : a = b) : Ending.returned (.bool a) = .returned (.bool b) := by rw [h]

theorem free_any (n : Int) (w : World) : Calls Try.prog 11 #[.int .i64 n] w fun e w' => e = .returned (.int .i64 (wrap64 (2 * n))) ∧ w = w' := by
  go_enter Try.func11, Try.ntmps11
  go_wp2
  go_ret
  exact ⟨ret_int (by rw [Int.mul_comm]), rfl⟩
theorem rfree_any (n : Int) (w : World) : Calls Try.prog 12 #[.int .i64 n] w fun e w' => e = .returned (.int .i64 (wrap64 (2 * n))) ∧ w = w' := by
  go_enter Try.func12, Try.ntmps12
  go_wp2
  go_ret
  exact ⟨rfl, rfl⟩
theorem held_any (n : Int) (w : World) : Calls Try.prog 13 #[.int .i64 n] w fun e w' => e = .returned (.int .i64 (wrap64 (2 * n + 1))) ∧ w = w' := by
  go_enter Try.func13, Try.ntmps13
  go_wp2
  go_ret
  exact ⟨ret_int (by rw [Int.mul_comm, join1]), rfl⟩
theorem rheld_any (n : Int) (w : World) : Calls Try.prog 14 #[.int .i64 n] w fun e w' => e = .returned (.int .i64 (wrap64 (2 * n + 1))) ∧ w = w' := by
  go_enter Try.func14, Try.ntmps14
  go_wp2
  go_ret
  exact ⟨ret_int (by rw [wrap_add]), rfl⟩
theorem locked_any (n : Int) (w : World) : Calls Try.prog 15 #[.int .i64 n] w fun e w' => e = .returned (.bool (n % 2 == 1)) ∧ w = w' := by
  go_enter Try.func15, Try.ntmps15
  go_wp2
  go_ret
  exact ⟨ret_bool (by rw [mask1]), rfl⟩
theorem ver_any (n : Int) (w : World) : Calls Try.prog 17 #[.int .i64 n] w fun e w' => e = .returned (.int .i64 (n / 2)) ∧ w = w' := by
  go_enter Try.func17, Try.ntmps17
  go_wp2
  go_ret
  exact ⟨rfl, rfl⟩
theorem who_any (n : Int) (w : World) : Calls Try.prog 19 #[.int .i64 n] w fun e w' => e = .returned (.int .i64 (n / 2)) ∧ w = w' := by
  go_enter Try.func19, Try.ntmps19
  go_wp2
  go_ret
  exact ⟨rfl, rfl⟩
theorem status_any (t k : Int) (w : World) : Calls Try.prog 21 #[.int .i64 t, .int .i64 k] w fun e w' => e = .returned (.int .i64 (wrap64 (4 * t + k % 4))) ∧ w = w' := by
  go_enter Try.func21, Try.ntmps21
  go_wp2
  go_ret
  exact ⟨ret_int (by rw [Int.mul_comm, mask3, join3 _ _ (by omega) (by omega)]), rfl⟩
theorem try_any (n : Int) (w : World) : Calls Try.prog 23 #[.int .i64 n] w fun e w' => e = .returned (.int .i64 (n / 4)) ∧ w = w' := by
  go_enter Try.func23, Try.ntmps23
  go_wp2
  go_ret
  exact ⟨rfl, rfl⟩
theorem kind_any (n : Int) (w : World) : Calls Try.prog 25 #[.int .i64 n] w fun e w' => e = .returned (.int .i64 (n % 4)) ∧ w = w' := by
  go_enter Try.func25, Try.ntmps25
  go_wp2
  go_ret
  exact ⟨ret_int (by rw [mask3]), rfl⟩

theorem mod_any (m n : Int) (hm : In64 m) (hn : 0 < n ∧ n ≤ 9223372036854775807) (w : World) : Calls Try.prog 38 #[.int .i64 m, .int .i64 n] w fun e w' => e = .returned (.int .i64 (m % n)) ∧ w = w' := by
  obtain ⟨hn, hn'⟩ := hn
  unfold In64 at hm
  have e := Lib.hid (tmod_mod m n hn)
  have h1 := Int.emod_nonneg m (show n ≠ 0 by omega)
  have h2 := Int.emod_lt_of_pos m hn
  by_cases hneg : m.tmod n < 0
  · go_enter Try.func38, Try.ntmps38
    go_wp2
    go_ret
    have e2 := e.out
    rw [if_pos hneg] at e2
    exact ⟨ret_int (by rw [e2]; unfold wrap64; omega), rfl⟩
  · go_enter Try.func38, Try.ntmps38
    go_wp2
    go_ret
    have e2 := e.out
    rw [if_neg (by omega)] at e2
    exact ⟨ret_int e2, rfl⟩

theorem down_any (m n : Int) (hm : In64 m) (hn : 0 < n ∧ n ≤ 9223372036854775807) (hd : -9223372036854775808 ≤ m - m % n) (w : World) :
    Calls Try.prog 39 #[.int .i64 m, .int .i64 n] w fun e w' => e = .returned (.int .i64 (m / n)) ∧ w = w' := by
  have h1 := Int.emod_nonneg m (show n ≠ 0 by omega)
  have HM := Lib.hid hm
  have HN := Lib.hid hn
  obtain ⟨hn, hn'⟩ := hn
  unfold In64 at hm
  go_enter Try.func39, Try.ntmps39
  go_wp2_with (go_at_call 38; refine (mod_any m n HM.out HN.out _).mono ?_; rintro e w' ⟨rfl, rfl⟩)
  go_ret
  exact ⟨ret_int (down_eq m n hn), rfl⟩
theorem bit_any (t : Int) (w : World) : Calls Try.prog 27 #[.int .i64 t] w fun e w' => e = .returned (.int .i64 (bitOf t)) ∧ w = w' := by
  by_cases h : 0 ≤ t ∧ t < 62
  · rw [bit_in h]
    have hb := pw_le (k := t.toNat) (by omega)
    have hp := pw_pos t.toNat
    obtain ⟨h0, h1⟩ := h
    go_enter Try.func27, Try.ntmps27
    go_wp2
    go_ret
    exact ⟨ret_int (IntWalk.wrap64_in (pw t.toNat) ⟨by omega, by omega⟩), rfl⟩
  · rw [bit_out h]
    by_cases h0 : t < 0
    · go_enter Try.func27, Try.ntmps27
      go_wp2
      go_ret
      exact ⟨rfl, rfl⟩
    · have h1 : 62 ≤ t := by omega
      clear h
      go_enter Try.func27, Try.ntmps27
      go_wp2
      go_ret
      exact ⟨rfl, rfl⟩
theorem rbit_any (t : Int) (w : World) : Calls Try.prog 28 #[.int .i64 t] w fun e w' => e = .returned (.int .i64 (bitOf t)) ∧ w = w' := by
  by_cases h : 0 ≤ t ∧ t < 62
  · rw [bit_in h]
    obtain ⟨h0, h1⟩ := h
    obtain ⟨n, rfl⟩ := Int.eq_ofNat_of_zero_le h0
    go_enter Try.func28, Try.ntmps28
    go_wp2
    go_loop [3, 4] (fun p i => ∃ k : Nat, k ≤ n ∧ i = .int .i64 k ∧ p = .int .i64 (pw k)) (fun _ i => n - (intOf i).toNat)
    case atStart => exact ⟨0, by omega, rfl, rfl⟩
    case round =>
      obtain ⟨k, hk, rfl, rfl⟩ := hrel
      have hb := pw_le (k := k) (by omega)
      have hp := pw_pos k
      by_cases hlt : k < n
      · have h61 := pw_mono (show k ≤ 60 by omega)
        have e60 : pw 60 ≤ 1152921504606846976 := by decide
        go_wp2
        go_round
        case rel => exact ⟨k + 1, by omega, by go_num, by rw [pw_succ]⟩
        case measure => simp [intOf]; omega
      · obtain rfl : k = n := by omega
        go_wp2
        go_ret
        exact ⟨rfl, rfl⟩
  · rw [bit_out h]
    by_cases h0 : t < 0
    · go_enter Try.func28, Try.ntmps28
      go_wp2
      go_ret
      exact ⟨rfl, rfl⟩
    · have h1 : 62 ≤ t := by omega
      clear h
      go_enter Try.func28, Try.ntmps28
      go_wp2
      go_ret
      exact ⟨rfl, rfl⟩

theorem has_any (m t : Int) (w : World) : Calls Try.prog 40 #[.int .i64 m, .int .i64 t] w fun e w' => e = .returned (.bool (has m t)) ∧ w = w' := by
  go_enter Try.func40, Try.ntmps40
  go_wp2_with (go_at_call 27; refine (bit_any t _).mono ?_; rintro e w' ⟨rfl, rfl⟩)
  go_ret
  exact ⟨ret_bool (code_has m t), rfl⟩
theorem swith_any (m t : Int) (hm : In64 m) (w : World) : Calls Try.prog 41 #[.int .i64 m, .int .i64 t] w fun e w' => e = .returned (.int .i64 (withT m t)) ∧ w = w' := by
  have H := Lib.hid hm
  clear hm
  go_enter Try.func41, Try.ntmps41
  go_wp2_with (go_at_call 27; refine (bit_any t _).mono ?_; rintro e w' ⟨rfl, rfl⟩)
  go_ret
  exact ⟨ret_int (code_with H.out t), rfl⟩
theorem swithout_any (m t : Int) (hm : In64 m) (w : World) : Calls Try.prog 42 #[.int .i64 m, .int .i64 t] w fun e w' => e = .returned (.int .i64 (without m t)) ∧ w = w' := by
  have H := Lib.hid hm
  clear hm
  go_enter Try.func42, Try.ntmps42
  go_wp2_with (go_at_call 27; refine (bit_any t _).mono ?_; rintro e w' ⟨rfl, rfl⟩)
  go_ret
  exact ⟨ret_int (code_without H.out t), rfl⟩

theorem in_any (m t : Int) (w : World) : Calls Try.prog 29 #[.int .i64 m, .int .i64 t] w fun e w' => e = .returned (.bool (has m t)) ∧ w = w' := by
  go_enter Try.func29, Try.ntmps29
  go_wp2_with (go_at_call 40; refine (has_any m t _).mono ?_; rintro e w' ⟨rfl, rfl⟩)
  go_ret
  exact ⟨rfl, rfl⟩
theorem with_any (m t : Int) (hm : In64 m) (w : World) : Calls Try.prog 31 #[.int .i64 m, .int .i64 t] w fun e w' => e = .returned (.int .i64 (withT m t)) ∧ w = w' := by
  have H := Lib.hid hm
  clear hm
  go_enter Try.func31, Try.ntmps31
  go_wp2_with (go_at_call 41; refine (swith_any m t H.out _).mono ?_; rintro e w' ⟨rfl, rfl⟩)
  go_ret
  exact ⟨rfl, rfl⟩
theorem without_any (m t : Int) (hm : In64 m) (w : World) : Calls Try.prog 33 #[.int .i64 m, .int .i64 t] w fun e w' => e = .returned (.int .i64 (without m t)) ∧ w = w' := by
  have H := Lib.hid hm
  clear hm
  go_enter Try.func33, Try.ntmps33
  go_wp2_with (go_at_call 42; refine (swithout_any m t H.out _).mono ?_; rintro e w' ⟨rfl, rfl⟩)
  go_ret
  exact ⟨rfl, rfl⟩

theorem rlocked_any (n : Int) (hn : In64 n) (w : World) : Calls Try.prog 16 #[.int .i64 n] w fun e w' => e = .returned (.bool (n % 2 == 1)) ∧ w = w' := by
  have H := Lib.hid hn
  clear hn
  go_enter Try.func16, Try.ntmps16
  go_wp2_with (go_at_call 38; refine (mod_any n 2 H.out (by omega) _).mono ?_; rintro e w' ⟨rfl, rfl⟩)
  go_ret
  exact ⟨rfl, rfl⟩
theorem rver_any (n : Int) (hn : In64 n) (w : World) : Calls Try.prog 18 #[.int .i64 n] w fun e w' => e = .returned (.int .i64 (n / 2)) ∧ w = w' := by
  have H := Lib.hid hn
  have hd := Lib.hid (down_bound hn (t := 1) (by omega))
  clear hn
  go_enter Try.func18, Try.ntmps18
  go_wp2_with (go_at_call 39; refine (down_any n 2 H.out (by omega) hd.out _).mono ?_; rintro e w' ⟨rfl, rfl⟩)
  go_ret
  exact ⟨rfl, rfl⟩
theorem rwho_any (n : Int) (hn : In64 n) (w : World) : Calls Try.prog 20 #[.int .i64 n] w fun e w' => e = .returned (.int .i64 (n / 2)) ∧ w = w' := by
  have H := Lib.hid hn
  have hd := Lib.hid (down_bound hn (t := 1) (by omega))
  clear hn
  go_enter Try.func20, Try.ntmps20
  go_wp2_with (go_at_call 39; refine (down_any n 2 H.out (by omega) hd.out _).mono ?_; rintro e w' ⟨rfl, rfl⟩)
  go_ret
  exact ⟨rfl, rfl⟩
theorem rstatus_any (t k : Int) (hk : In64 k) (w : World) : Calls Try.prog 22 #[.int .i64 t, .int .i64 k] w fun e w' => e = .returned (.int .i64 (wrap64 (4 * t + k % 4))) ∧ w = w' := by
  have H := Lib.hid hk
  clear hk
  go_enter Try.func22, Try.ntmps22
  go_wp2_with (go_at_call 38; refine (mod_any k 4 H.out (by omega) _).mono ?_; rintro e w' ⟨rfl, rfl⟩)
  go_ret
  exact ⟨ret_int (wrap_add _ _), rfl⟩
theorem rtry_any (n : Int) (hn : In64 n) (w : World) : Calls Try.prog 24 #[.int .i64 n] w fun e w' => e = .returned (.int .i64 (n / 4)) ∧ w = w' := by
  have H := Lib.hid hn
  have hd := Lib.hid (down_bound hn (t := 2) (by omega))
  clear hn
  go_enter Try.func24, Try.ntmps24
  go_wp2_with (go_at_call 39; refine (down_any n 4 H.out (by omega) hd.out _).mono ?_; rintro e w' ⟨rfl, rfl⟩)
  go_ret
  exact ⟨rfl, rfl⟩
theorem rkind_any (n : Int) (hn : In64 n) (w : World) : Calls Try.prog 26 #[.int .i64 n] w fun e w' => e = .returned (.int .i64 (n % 4)) ∧ w = w' := by
  have H := Lib.hid hn
  clear hn
  go_enter Try.func26, Try.ntmps26
  go_wp2_with (go_at_call 38; refine (mod_any n 4 H.out (by omega) _).mono ?_; rintro e w' ⟨rfl, rfl⟩)
  go_ret
  exact ⟨rfl, rfl⟩

theorem div_in {m : Int} (hm : In64 m) (n : Int) (hn : 0 < n) : In64 (m / n) := by
  unfold In64 at *
  rcases Int.le_total 0 m with h | h
  · have := Int.ediv_le_self n h
    have := Int.ediv_nonneg h (show 0 ≤ n by omega)
    omega
  · have h1 : m ≤ m / n := Int.le_ediv_of_mul_le hn (by
      have := Int.mul_le_mul_of_nonpos_left (a := m) (b := n) (c := 1) h (by omega)
      omega)
    have h2 := Int.ediv_le_ediv hn h
    rw [Int.zero_ediv] at h2
    omega

theorem rin_any (m t : Int) (hm : In64 m) (w : World) : Calls Try.prog 30 #[.int .i64 m, .int .i64 t] w fun e w' => e = .returned (.bool (has m t)) ∧ w = w' := by
  have H := Lib.hid hm
  clear hm
  by_cases h : 0 ≤ t ∧ t < 62
  · have HR := Lib.hid (has_ref H.out h)
    have hp := pw_pos t.toNat
    have hq := pw_le (k := t.toNat) (by omega)
    have HB := Lib.hid (down_bound H.out (t := t.toNat) (by omega))
    have HI := Lib.hid (div_in H.out (pw t.toNat) hp)
    have hne : (pw t.toNat == 0) = false := by simp; omega
    have HT := Lib.hid (bit_in h)
    clear h
    go_enter Try.func30, Try.ntmps30
    go_wp2_with (first | (go_at_call 28; refine (rbit_any t _).mono ?_; rw [HT.out]; rintro e w' ⟨rfl, rfl⟩) | (go_at_call 39; refine (down_any m (pw t.toNat) H.out (by omega) HB.out _).mono ?_; rintro e w' ⟨rfl, rfl⟩) | (go_at_call 38; refine (mod_any _ 2 HI.out (by omega) _).mono ?_; rintro e w' ⟨rfl, rfl⟩))
    go_ret
    exact ⟨ret_bool HR.out, rfl⟩
  · have HR := Lib.hid (has_out (m := m) h)
    have HT := Lib.hid (bit_out h)
    clear h
    go_enter Try.func30, Try.ntmps30
    go_wp2_with (go_at_call 28; refine (rbit_any t _).mono ?_; rw [HT.out]; rintro e w' ⟨rfl, rfl⟩)
    go_ret
    exact ⟨ret_bool HR.out.symm, rfl⟩
theorem rwith_any (m t : Int) (hm : In64 m) (w : World) : Calls Try.prog 32 #[.int .i64 m, .int .i64 t] w fun e w' => e = .returned (.int .i64 (withT m t)) ∧ w = w' := by
  have H := Lib.hid hm
  clear hm
  cases hh : has m t
  · have HH := Lib.hid hh
    clear hh
    go_enter Try.func32, Try.ntmps32
    go_wp2_with (first | (go_at_call 28; refine (rbit_any t _).mono ?_; rintro e w' ⟨rfl, rfl⟩) | (go_at_call 30; refine (rin_any m t H.out _).mono ?_; rw [HH.out]; rintro e w' ⟨rfl, rfl⟩))
    go_ret
    refine ⟨ret_int (?_ : wrap64 (m + bitOf t) = withT m t), rfl⟩
    by_cases h : 0 ≤ t ∧ t < 62
    · rw [bit_in h]; exact ref_with t h HH.out
    · rw [bit_out h, withT, if_neg h, Int.add_zero]; exact IntWalk.wrap64_in m H.out
  · have HH := Lib.hid hh
    clear hh
    go_enter Try.func32, Try.ntmps32
    go_wp2_with (go_at_call 30; refine (rin_any m t H.out _).mono ?_; rw [HH.out]; rintro e w' ⟨rfl, rfl⟩)
    go_ret
    exact ⟨ret_int (has_with H.out t HH.out).symm, rfl⟩
theorem rwithout_any (m t : Int) (hm : In64 m) (w : World) : Calls Try.prog 34 #[.int .i64 m, .int .i64 t] w fun e w' => e = .returned (.int .i64 (without m t)) ∧ w = w' := by
  have H := Lib.hid hm
  clear hm
  cases hh : has m t
  · have HH := Lib.hid hh
    clear hh
    go_enter Try.func34, Try.ntmps34
    go_wp2_with (go_at_call 30; refine (rin_any m t H.out _).mono ?_; rw [HH.out]; rintro e w' ⟨rfl, rfl⟩)
    go_ret
    exact ⟨ret_int (without_not H.out t HH.out).symm, rfl⟩
  · have HH := Lib.hid hh
    clear hh
    go_enter Try.func34, Try.ntmps34
    go_wp2_with (first | (go_at_call 28; refine (rbit_any t _).mono ?_; rintro e w' ⟨rfl, rfl⟩) | (go_at_call 30; refine (rin_any m t H.out _).mono ?_; rw [HH.out]; rintro e w' ⟨rfl, rfl⟩))
    go_ret
    refine ⟨ret_int (?_ : wrap64 (m - bitOf t) = without m t), rfl⟩
    have h : 0 ≤ t ∧ t < 62 := by
      have := HH.out
      unfold has at this
      simp only [Bool.and_eq_true, decide_eq_true_eq] at this
      exact this.1
    rw [bit_in h]; exact ref_without t HH.out
end Go.Proofs.Ytdcdloojojmihaa
