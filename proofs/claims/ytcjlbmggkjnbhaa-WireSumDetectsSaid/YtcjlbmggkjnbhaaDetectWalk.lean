import Derived.Test.YtcjlbmggkjnbhaaDetectLaw
namespace Go.Proofs.Ytcjlbmggkjnbhaa
open Go.RowKit
set_option linter.unusedVariables false

theorem byte_wf {x : Int} (h : (Lit.int .u8 x).wf = true) : 0 ≤ x ∧ x ≤ 255 := bounds_u8 h
set_option maxHeartbeats 1000000 in
theorem detect_walk (A1 : Option Addr) (n1 c1 : Nat) (ys : List Int) (x y : Int) (A2 : Option Addr) (n2 c2 : Nat) (zs : List Int) (w : World) (w0 : Row .u8 w A1 n1 c1 ys) (wx : (Lit.int .u8 x).wf = true) (wy : (Lit.int .u8 y).wf = true) (w1 : Row .u8 w A2 n2 c2 zs)
    (s0 : n1 ≤ 140737488355328) (s1 : n2 ≤ 140737488355328) : Calls Try.prog 13 #[.slice A1 n1 c1, .int .u8 x, .int .u8 y, .slice A2 n2 c2] w (Sane w) := by
  obtain ⟨k1, k2, k3, _⟩ := w0.len
  obtain ⟨l1, l2, l3, _⟩ := w1.len
  by_cases hs : n1 + n2 ≤ 600
  · exact detect_core A1 n1 c1 (ys.take n1) x y A2 n2 c2 (zs.take n2) w k1 l1 hs w0.bytes w1.bytes (byte_wf wx) (byte_wf wy) w0.sees w1.sees
  · have hl : (600 : Int) < (n1 : Int) + (n2 : Int) := by omega
    clear w0 w1 l1 l2 l3 k1 k2 k3 hs wx wy
    go_enter Try.func13, Try.ntmps13
    go_wp2_with fail
    refine (sanity_any _).mono ?_
    rintro e w3 ⟨rfl, hb3⟩
    go_wp2
    go_ret
    exact ⟨rfl, ((below_two w _ _).trans (hb3.mono (by simp; omega)))⟩
end Go.Proofs.Ytcjlbmggkjnbhaa
