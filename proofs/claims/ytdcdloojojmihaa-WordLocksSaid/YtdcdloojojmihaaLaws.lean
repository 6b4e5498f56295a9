import Derived.Test.YtdcdloojojmihaaSanity
import Derived.OpenShut
namespace Go.Proofs.Ytdcdloojojmihaa
open Go.RowKit
set_option linter.unusedVariables false

theorem in_wf {n : Int} (h : (Lit.int .i64 n).wf = true) : In64 n := by
  have := bounds_i64 h
  unfold In64; omega

theorem locks_walk (n : Int) (w0 : (Lit.int .i64 n).wf = true) (w : World) : Calls Try.prog 3 #[.int .i64 n] w (Sane w) := by
  have H := Lib.hid (in_wf w0)
  clear w0
  go_enter Try.func3, Try.ntmps3
  go_wp2_with fail
  refine (sanity_any _).mono ?_
  rintro e w1 ⟨rfl, hb⟩
  go_wp2_with (first
    | (go_at_call 11; refine (free_any n _).mono ?_; rintro e w' ⟨rfl, rfl⟩)
    | (go_at_call 12; refine (rfree_any n _).mono ?_; rintro e w' ⟨rfl, rfl⟩)
    | (go_at_call 13; refine (held_any n _).mono ?_; rintro e w' ⟨rfl, rfl⟩)
    | (go_at_call 14; refine (rheld_any n _).mono ?_; rintro e w' ⟨rfl, rfl⟩)
    | (go_at_call 15; refine (locked_any n _).mono ?_; rintro e w' ⟨rfl, rfl⟩)
    | (go_at_call 16; refine (rlocked_any n H.out _).mono ?_; rintro e w' ⟨rfl, rfl⟩)
    | (go_at_call 17; refine (ver_any n _).mono ?_; rintro e w' ⟨rfl, rfl⟩)
    | (go_at_call 18; refine (rver_any n H.out _).mono ?_; rintro e w' ⟨rfl, rfl⟩)
    | (go_at_call 19; refine (who_any n _).mono ?_; rintro e w' ⟨rfl, rfl⟩)
    | (go_at_call 20; refine (rwho_any n H.out _).mono ?_; rintro e w' ⟨rfl, rfl⟩))
  go_ret
  exact ⟨rfl, hb⟩

theorem status_walk (n k : Int) (w0 : (Lit.int .i64 n).wf = true) (w1 : (Lit.int .i64 k).wf = true) (w : World) : Calls Try.prog 4 #[.int .i64 n, .int .i64 k] w (Sane w) := by
  have H := Lib.hid (in_wf w0)
  have K := Lib.hid (in_wf w1)
  clear w0 w1
  go_enter Try.func4, Try.ntmps4
  go_wp2_with fail
  refine (sanity_any _).mono ?_
  rintro e w1 ⟨rfl, hb⟩
  go_wp2_with (first
    | (go_at_call 21; refine (status_any n k _).mono ?_; rintro e w' ⟨rfl, rfl⟩)
    | (go_at_call 22; refine (rstatus_any n k K.out _).mono ?_; rintro e w' ⟨rfl, rfl⟩)
    | (go_at_call 23; refine (try_any n _).mono ?_; rintro e w' ⟨rfl, rfl⟩)
    | (go_at_call 24; refine (rtry_any n H.out _).mono ?_; rintro e w' ⟨rfl, rfl⟩)
    | (go_at_call 25; refine (kind_any n _).mono ?_; rintro e w' ⟨rfl, rfl⟩)
    | (go_at_call 26; refine (rkind_any n H.out _).mono ?_; rintro e w' ⟨rfl, rfl⟩))
  go_ret
  exact ⟨rfl, hb⟩

theorem masks_walk (m t : Int) (w0 : (Lit.int .i64 m).wf = true) (w1 : (Lit.int .i64 t).wf = true) (w : World) : Calls Try.prog 5 #[.int .i64 m, .int .i64 t] w (Sane w) := by
  have H := Lib.hid (in_wf w0)
  clear w0 w1
  go_enter Try.func5, Try.ntmps5
  go_wp2_with fail
  refine (sanity_any _).mono ?_
  rintro e w1 ⟨rfl, hb⟩
  go_wp2_with (first
    | (go_at_call 27; refine (bit_any t _).mono ?_; rintro e w' ⟨rfl, rfl⟩)
    | (go_at_call 28; refine (rbit_any t _).mono ?_; rintro e w' ⟨rfl, rfl⟩)
    | (go_at_call 29; refine (in_any m t _).mono ?_; rintro e w' ⟨rfl, rfl⟩)
    | (go_at_call 30; refine (rin_any m t H.out _).mono ?_; rintro e w' ⟨rfl, rfl⟩)
    | (go_at_call 31; refine (with_any m t H.out _).mono ?_; rintro e w' ⟨rfl, rfl⟩)
    | (go_at_call 32; refine (rwith_any m t H.out _).mono ?_; rintro e w' ⟨rfl, rfl⟩)
    | (go_at_call 33; refine (without_any m t H.out _).mono ?_; rintro e w' ⟨rfl, rfl⟩)
    | (go_at_call 34; refine (rwithout_any m t H.out _).mono ?_; rintro e w' ⟨rfl, rfl⟩))
  refine (bits_any m _).mono ?_
  rintro e w2 ⟨v, rfl, hown, hb2⟩
  have hle := bl_le m 62
  have hl : (bl m 62).length ≤ maxLen := by unfold maxLen; omega
  obtain ⟨A, c, rfl, _, hs⟩ := own_form hown
  clear hown hle
  go_wp2_with fail
  refine (rbits_any m H.out _).mono ?_
  rintro e w3 ⟨v, rfl, hown3, hb3⟩
  obtain ⟨A3, c3, rfl, _, hs3⟩ := own_form hown3
  clear hown3
  go_wp2_with fail
  refine (ints_any A A3 _ _ c c3 (bl m 62) (bl m 62) _ rfl rfl hl hl (hs.below hb3) hs3).mono ?_
  rintro e w' ⟨rfl, n, rfl⟩
  rw [decide_eq_true rfl]
  go_wp2
  go_ret
  exact ⟨rfl, below_drewN ((hb.trans (hb2.mono hb.size)).trans (hb3.mono (by have := hb.size; have := hb2.size; omega))) _⟩

theorem free_small (n : Int) (h0 : 0 ≤ n) (h1 : n ≤ 4294967295) (w : World) : Calls Try.prog 11 #[.int .i64 n] w fun e w' => e = .returned (.int .i64 (2 * n)) ∧ w = w' :=
  (free_any n w).mono fun _ _ ⟨he, hw⟩ => ⟨by rw [he, IntWalk.wrap64_in (2 * n) ⟨by omega, by omega⟩], hw⟩
theorem held_small (n : Int) (h0 : 0 ≤ n) (h1 : n ≤ 4294967295) (w : World) : Calls Try.prog 13 #[.int .i64 n] w fun e w' => e = .returned (.int .i64 (2 * n + 1)) ∧ w = w' :=
  (held_any n w).mono fun _ _ ⟨he, hw⟩ => ⟨by rw [he, IntWalk.wrap64_in (2 * n + 1) ⟨by omega, by omega⟩], hw⟩
theorem status_small (n k : Int) (h0 : 0 ≤ n) (h1 : n ≤ 4294967295) (k0 : 0 ≤ k) (k1 : k < 4) (w : World) : Calls Try.prog 21 #[.int .i64 n, .int .i64 k] w fun e w' => e = .returned (.int .i64 (4 * n + k)) ∧ w = w' :=
  (status_any n k w).mono fun _ _ ⟨he, hw⟩ => ⟨by rw [he, Int.emod_eq_of_lt k0 k1, IntWalk.wrap64_in (4 * n + k) ⟨by omega, by omega⟩], hw⟩

theorem round_walk (v t k : Int) (w0 : (Lit.int .u32 v).wf = true) (w1 : (Lit.int .u32 t).wf = true) (w2 : (Lit.int .u8 k).wf = true) (w : World) :
    Calls Try.prog 6 #[.int .u32 v, .int .u32 t, .int .u8 k] w (Sane w) := by
  obtain ⟨v0, v1⟩ := bounds_u32 w0
  obtain ⟨t0, t1⟩ := bounds_u32 w1
  obtain ⟨k0, k1⟩ := bounds_u8 w2
  clear w0 w1 w2
  have q0 : 0 ≤ k % 4 := by omega
  have q1 : k % 4 < 4 := by omega
  have hne : (2 * v != 2 * t + 1) = true := by simp; omega
  go_enter Try.func6, Try.ntmps6
  go_wp2_with fail
  refine (sanity_any _).mono ?_
  rintro e w1 ⟨rfl, hb⟩
  go_wp2_with (first
    | (go_at_call 11; refine (free_small v v0 v1 _).mono ?_; rintro e w' ⟨rfl, rfl⟩)
    | (go_at_call 13; refine (held_small t t0 t1 _).mono ?_; rintro e w' ⟨rfl, rfl⟩)
    | (go_at_call 21; refine (status_small v (k % 4) v0 v1 q0 q1 _).mono ?_; rintro e w' ⟨rfl, rfl⟩))
  refine (locked_any (2 * v) _).mono ?_
  rw [show (2 * v % 2 == 1) = false by simp]
  rintro e w' ⟨rfl, rfl⟩
  go_wp2_with fail
  refine (ver_any (2 * v) _).mono ?_
  rw [show 2 * v / 2 = v by omega]
  rintro e w' ⟨rfl, rfl⟩
  go_wp2_with fail
  refine (locked_any (2 * t + 1) _).mono ?_
  rw [show ((2 * t + 1) % 2 == 1) = true by simp]
  rintro e w' ⟨rfl, rfl⟩
  go_wp2_with fail
  refine (who_any (2 * t + 1) _).mono ?_
  rw [show (2 * t + 1) / 2 = t by omega]
  rintro e w' ⟨rfl, rfl⟩
  go_wp2_with fail
  refine (try_any (4 * v + k % 4) _).mono ?_
  rw [show (4 * v + k % 4) / 4 = v by omega]
  rintro e w' ⟨rfl, rfl⟩
  go_wp2_with fail
  refine (kind_any (4 * v + k % 4) _).mono ?_
  rw [show (4 * v + k % 4) % 4 = k % 4 by omega]
  rintro e w' ⟨rfl, rfl⟩
  go_wp2
  go_ret
  exact ⟨rfl, hb⟩

theorem inj_walk (v u k o : Int) (w0 : (Lit.int .u32 v).wf = true) (w1 : (Lit.int .u32 u).wf = true) (w2 : (Lit.int .u8 k).wf = true) (w3 : (Lit.int .u8 o).wf = true) (w : World) :
    Calls Try.prog 7 #[.int .u32 v, .int .u32 u, .int .u8 k, .int .u8 o] w (Sane w) := by
  obtain ⟨v0, v1⟩ := bounds_u32 w0
  obtain ⟨t0, t1⟩ := bounds_u32 w1
  obtain ⟨k0, k1⟩ := bounds_u8 w2
  obtain ⟨o0, o1⟩ := bounds_u8 w3
  clear w0 w1 w2 w3
  have q0 : 0 ≤ k % 4 := by omega
  have q1 : k % 4 < 4 := by omega
  have r0 : 0 ≤ o % 4 := by omega
  have r1 : o % 4 < 4 := by omega
  by_cases hv : v = u
  · subst hv
    by_cases hk : k % 4 = o % 4
    · have e1 : (k % 4 == o % 4) = true := by simpa using hk
      have e2 : (4 * v + k % 4 == 4 * v + o % 4) = true := by simpa using hk
      clear hk
      go_enter Try.func7, Try.ntmps7
      go_wp2_with fail
      refine (sanity_any _).mono ?_
      rintro e w1 ⟨rfl, hb⟩
      go_wp2_with (first
        | (go_at_call 21; (first | (with_reducible refine (status_small v (k % 4) v0 v1 q0 q1 _).mono ?_) | (with_reducible refine (status_small v (o % 4) v0 v1 r0 r1 _).mono ?_)); rintro e w' ⟨rfl, rfl⟩)
        | (go_at_call 11; refine (free_small v v0 v1 _).mono ?_; rintro e w' ⟨rfl, rfl⟩)
        | (go_at_call 13; refine (held_small v v0 v1 _).mono ?_; rintro e w' ⟨rfl, rfl⟩))
      go_ret
      exact ⟨rfl, hb⟩
    · have e1 : (k % 4 == o % 4) = false := by simpa using hk
      have e2 : (4 * v + k % 4 == 4 * v + o % 4) = false := by simpa using hk
      clear hk
      go_enter Try.func7, Try.ntmps7
      go_wp2_with fail
      refine (sanity_any _).mono ?_
      rintro e w1 ⟨rfl, hb⟩
      go_wp2_with (first
        | (go_at_call 21; (first | (with_reducible refine (status_small v (k % 4) v0 v1 q0 q1 _).mono ?_) | (with_reducible refine (status_small v (o % 4) v0 v1 r0 r1 _).mono ?_)); rintro e w' ⟨rfl, rfl⟩)
        | (go_at_call 11; refine (free_small v v0 v1 _).mono ?_; rintro e w' ⟨rfl, rfl⟩)
        | (go_at_call 13; refine (held_small v v0 v1 _).mono ?_; rintro e w' ⟨rfl, rfl⟩))
      go_ret
      exact ⟨rfl, hb⟩
  · have e0 : (v == u) = false := by simpa using hv
    have e1 : (2 * v == 2 * u) = false := by simp; omega
    have e2 : (2 * v + 1 == 2 * u + 1) = false := by simp; omega
    have e3 : (4 * v + k % 4 == 4 * u + o % 4) = false := by simp; omega
    go_enter Try.func7, Try.ntmps7
    go_wp2_with fail
    refine (sanity_any _).mono ?_
    rintro e w1 ⟨rfl, hb⟩
    go_wp2_with (first
      | (go_at_call 21; (first | (with_reducible refine (status_small v (k % 4) v0 v1 q0 q1 _).mono ?_) | (with_reducible refine (status_small u (o % 4) t0 t1 r0 r1 _).mono ?_)); rintro e w' ⟨rfl, rfl⟩)
      | (go_at_call 11; (first | (with_reducible refine (free_small v v0 v1 _).mono ?_) | (with_reducible refine (free_small u t0 t1 _).mono ?_)); rintro e w' ⟨rfl, rfl⟩)
      | (go_at_call 13; (first | (with_reducible refine (held_small v v0 v1 _).mono ?_) | (with_reducible refine (held_small u t0 t1 _).mono ?_)); rintro e w' ⟨rfl, rfl⟩))
    go_ret
    exact ⟨rfl, hb⟩

/-- A contract whose one result is known to be another number. -/
theorem calls_int {f : FuncId} {args : Array Value} {w : World} {a b : Int} (h : Calls Try.prog f args w fun e w' => e = .returned (.int .i64 a) ∧ w = w') (e : a = b) : Calls Try.prog f args w fun e w' => e = .returned (.int .i64 b) ∧ w = w' := by
  subst e; exact h
theorem calls_bool {f : FuncId} {args : Array Value} {w : World} {a b : Bool} (h : Calls Try.prog f args w fun e w' => e = .returned (.bool a) ∧ w = w') (e : a = b) : Calls Try.prog f args w fun e w' => e = .returned (.bool b) ∧ w = w' := by
  subst e; exact h

theorem sets_walk (m a b : Int) (w0 : (Lit.int .i64 m).wf = true) (w1 : (Lit.int .u8 a).wf = true) (w2 : (Lit.int .u8 b).wf = true) (w : World) :
    Calls Try.prog 8 #[.int .i64 m, .int .u8 a, .int .u8 b] w (Sane w) := by
  have H := Lib.hid (in_wf w0)
  obtain ⟨a0, a1⟩ := bounds_u8 w1
  obtain ⟨b0, b1⟩ := bounds_u8 w2
  clear w0 w1 w2
  have hx : 0 ≤ a % 62 ∧ a % 62 < 62 := by omega
  have hy : 0 ≤ b % 62 ∧ b % 62 < 62 := by omega
  have X := Lib.hid hx
  have Y := Lib.hid hy
  have HW := Lib.hid (with_in H.out (a % 62))
  have HO := Lib.hid (without_in H.out (a % 62))
  have HV := Lib.hid (with_in H.out (b % 62))
  clear hx hy
  by_cases hxy : a % 62 = b % 62
  · have e0 : (a % 62 != b % 62) = false := by simpa using hxy
    have E := Lib.hid hxy
    clear hxy
    go_enter Try.func8, Try.ntmps8
    go_wp2_with fail
    refine (sanity_any _).mono ?_
    rintro e w1 ⟨rfl, hb⟩
    go_wp2_with fail
    refine (with_any m (a % 62) H.out _).mono ?_; rintro e w' ⟨rfl, rfl⟩
    go_wp2_with fail
    refine (without_any m (a % 62) H.out _).mono ?_; rintro e w' ⟨rfl, rfl⟩
    go_wp2_with fail
    refine (calls_bool (in_any _ _ _) (has_with_same m X.out)).mono ?_; rintro e w' ⟨rfl, rfl⟩
    go_wp2_with fail
    refine (calls_bool (in_any _ _ _) (has_without_same m X.out)).mono ?_; rintro e w' ⟨rfl, rfl⟩
    go_wp2_with fail
    refine (calls_int (with_any _ _ HW.out _) (with_with m X.out)).mono ?_; rintro e w' ⟨rfl, rfl⟩
    go_wp2_with fail
    refine (calls_int (without_any _ _ HO.out _) (without_without m X.out)).mono ?_; rintro e w' ⟨rfl, rfl⟩
    go_wp2_with fail
    refine (calls_int (with_any _ _ HW.out _) (with_comm m X.out Y.out)).mono ?_; rintro e w' ⟨rfl, rfl⟩
    go_wp2_with fail
    refine (with_any m (b % 62) H.out _).mono ?_; rintro e w' ⟨rfl, rfl⟩
    go_wp2_with fail
    refine (with_any _ (a % 62) HV.out _).mono ?_; rintro e w' ⟨rfl, rfl⟩
    go_wp2_with fail
    refine (calls_int (without_any _ _ HW.out _) (without_with m X.out)).mono ?_; rintro e w' ⟨rfl, rfl⟩
    go_wp2
    go_ret
    exact ⟨rfl, hb⟩
  · have e0 : (a % 62 != b % 62) = true := by simpa using hxy
    have E := Lib.hid hxy
    clear hxy
    go_enter Try.func8, Try.ntmps8
    go_wp2_with fail
    refine (sanity_any _).mono ?_
    rintro e w1 ⟨rfl, hb⟩
    go_wp2_with fail
    refine (with_any m (a % 62) H.out _).mono ?_; rintro e w' ⟨rfl, rfl⟩
    go_wp2_with fail
    refine (without_any m (a % 62) H.out _).mono ?_; rintro e w' ⟨rfl, rfl⟩
    go_wp2_with fail
    refine (calls_bool (in_any _ _ _) (has_with_same m X.out)).mono ?_; rintro e w' ⟨rfl, rfl⟩
    go_wp2_with fail
    refine (calls_bool (in_any _ _ _) (has_without_same m X.out)).mono ?_; rintro e w' ⟨rfl, rfl⟩
    go_wp2_with fail
    refine (calls_int (with_any _ _ HW.out _) (with_with m X.out)).mono ?_; rintro e w' ⟨rfl, rfl⟩
    go_wp2_with fail
    refine (calls_int (without_any _ _ HO.out _) (without_without m X.out)).mono ?_; rintro e w' ⟨rfl, rfl⟩
    go_wp2_with fail
    refine (calls_bool (in_any _ _ _) (has_with_other m X.out Y.out E.out)).mono ?_; rintro e w' ⟨rfl, rfl⟩
    go_wp2_with fail
    refine (in_any m (b % 62) _).mono ?_; rintro e w' ⟨rfl, rfl⟩
    go_wp2_with fail
    refine (calls_bool (in_any _ _ _) (has_without_other m X.out Y.out E.out)).mono ?_; rintro e w' ⟨rfl, rfl⟩
    go_wp2_with fail
    refine (in_any m (b % 62) _).mono ?_; rintro e w' ⟨rfl, rfl⟩
    go_wp2_with fail
    refine (calls_int (with_any _ _ HW.out _) (with_comm m X.out Y.out)).mono ?_; rintro e w' ⟨rfl, rfl⟩
    go_wp2_with fail
    refine (with_any m (b % 62) H.out _).mono ?_; rintro e w' ⟨rfl, rfl⟩
    go_wp2_with fail
    refine (with_any _ (a % 62) HV.out _).mono ?_; rintro e w' ⟨rfl, rfl⟩
    go_wp2_with fail
    refine (calls_int (without_any _ _ HW.out _) (without_with m X.out)).mono ?_; rintro e w' ⟨rfl, rfl⟩
    go_wp2
    go_ret
    exact ⟨rfl, hb⟩

end Go.Proofs.Ytdcdloojojmihaa
