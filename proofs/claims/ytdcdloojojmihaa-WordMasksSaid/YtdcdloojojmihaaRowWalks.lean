import Derived.Test.YtdcdloojojmihaaWalks
import Derived.Test.YtdcdloojojmihaaMem
import Derived.Deep.QuietTactic
import Derived.BigQuiet
namespace Go.Proofs.Ytdcdloojojmihaa
open Go.RowKit
set_option linter.unusedVariables false

def Quiet (b : Bool) (w : World) (e : Ending) (w' : World) : Prop := e = .returned (.bool b) ∧ ∃ n, w.drewN n = w'

theorem take_eq_succ {xs ys : List Int} {k : Nat} (hx : k < xs.length) (hy : k < ys.length) (h : xs.take k = ys.take k) (e : xs.getD k 0 = ys.getD k 0) : xs.take (k + 1) = ys.take (k + 1) := by
  rw [List.take_add_one, List.take_add_one, h]
  simp only [List.getD_eq_getElem?_getD, List.getElem?_eq_getElem hx, List.getElem?_eq_getElem hy, Option.getD_some] at e
  simp [List.getElem?_eq_getElem hx, List.getElem?_eq_getElem hy, e]

theorem ints_any {B1 B2 : Nat} (A1 A2 : Option Addr) (n1 n2 c1 c2 : Nat) (xs ys : List Int) (w : World) (e1 : xs.length = n1) (e2 : ys.length = n2) (m1 : n1 ≤ maxLen) (m2 : n2 ≤ maxLen)
    (h1 : Sees w B1 A1 (xs.map (.int .i64))) (h2 : Sees w B2 A2 (ys.map (.int .i64))) :
    Calls Try.prog 35 #[.slice A1 n1 c1, .slice A2 n2 c2] w (Quiet (decide (xs = ys)) w) := by
  unfold maxLen at m1 m2
  by_cases hn : n1 = n2
  · subst hn
    have E1 := Lib.hid e1
    have E2 := Lib.hid e2
    clear e1 e2
    have hne : ((n1 : Int) != (n1 : Int)) = false := by simp
    go_enter Try.func35, Try.ntmps35
    go_wp2
    go_loopw [5] (fun i wr => ∃ k m : Nat, k ≤ n1 ∧ i = .int .i64 k ∧ xs.take k = ys.take k ∧ w.drewN m = wr) (fun i _ => n1 - (intOf i).toNat)
    case atStart => exact ⟨0, 0, by omega, rfl, rfl, rfl⟩
    case round =>
      obtain ⟨k, m, hk, rfl, ht, rfl⟩ := hrel
      have HT := Lib.hid ht
      clear ht
      by_cases hlt : k < n1
      · obtain ⟨b1, o1, rfl, _, g1⟩ := h1.at_ (k := k) (by rw [List.length_map, E1.out]; exact hlt)
        obtain ⟨b2, o2, rfl, _, g2⟩ := h2.at_ (k := k) (by rw [List.length_map, E2.out]; exact hlt)
        have f1 := g1 k _ (getElem?_ints (by rw [E1.out]; exact hlt))
        have f2 := g2 k _ (getElem?_ints (by rw [E2.out]; exact hlt))
        generalize hx : xs.getD k 0 = x at f1
        generalize hy : ys.getD k 0 = y at f2
        have HX := Lib.hid hx
        have HY := Lib.hid hy
        clear hx hy g1 g2
        by_cases hxy : x = y
        · subst hxy
          have hne2 : (x != x) = false := by simp
          have hl : (k : Int) < (n1 : Int) := by omega
          go_wp2
          go_quiet (fail)
          go_wp2
          go_roundw
          case rel => exact ⟨k + 1, _, by omega, by go_num, take_eq_succ (by rw [E1.out]; exact hlt) (by rw [E2.out]; exact hlt) HT.out (by rw [HX.out, HY.out]), rfl⟩
          case measure => simp [intOf]; omega
        · have hne2 : (x != y) = true := by simpa using hxy
          have hl : (k : Int) < (n1 : Int) := by omega
          have hf : decide (xs = ys) = false := by
            refine decide_eq_false fun e => hxy ?_
            rw [← HX.out, ← HY.out, e]
          have HF := Lib.hid hf
          clear hf hxy
          go_wp2
          go_quiet (fail)
          go_wp2
          go_ret
          exact ⟨ret_bool HF.out.symm, _, (World.drewN_drewN _ _ _).symm⟩
      · obtain rfl : k = n1 := by omega
        go_wp2
        go_ret
        refine ⟨ret_bool (decide_eq_true ?_).symm, _, rfl⟩
        have := HT.out
        rwa [List.take_of_length_le (by rw [E1.out]; exact Nat.le_refl _), List.take_of_length_le (by rw [E2.out]; exact Nat.le_refl _)] at this
  · have hne : ((n1 : Int) != (n2 : Int)) = true := by simp; omega
    have hf : decide (xs = ys) = false := by
      refine decide_eq_false fun e => hn ?_
      rw [← e1, ← e2, e]
    have HF := Lib.hid hf
    clear hf hn e1 e2
    go_enter Try.func35, Try.ntmps35
    go_wp2
    go_ret
    exact ⟨ret_bool HF.out.symm, 0, rfl⟩

theorem Try.info3 : (Try.prog.info? 3).map (fun i => (i.zero, i.size, i.bytes)) = some (some (.int .i64 0), 1, 8) := by kernel_rfl

def IsBits (m : Int) (w : World) (e : Ending) (w' : World) : Prop :=
  ∃ v, e = .returned v ∧ w'.ownsRow w.heap.size 3 1 v (bl m 62).length ((bl m 62).map (Value.int .i64)) ∧ Below w.heap.size w w'

theorem own_snoc {w : World} {B : Nat} {v : Value} {xs ys : List Int} {x : Int} (h : w.ownsRow B 3 1 v (xs.length + 1) (xs.map (Value.int .i64) ++ [.int .i64 x])) (e : ys = xs ++ [x]) :
    w.ownsRow B 3 1 v ys.length (ys.map (Value.int .i64)) := by subst e; simpa using h

theorem bits_any (m : Int) (w : World) : Calls Try.prog 36 #[.int .i64 m] w (IsBits m w) := by
  obtain ⟨i0, hi, hz0, hz1, hz2⟩ := info_parts Try.info3
  go_enter Try.func36, Try.ntmps36
  go_wp2
  go_loopw [3, 5] (fun v i wr => ∃ k : Nat, k ≤ 62 ∧ i = .int .i64 k ∧ wr.ownsRow w.heap.size 3 1 v (bl m k).length ((bl m k).map (Value.int .i64)) ∧ Below w.heap.size w wr) (fun _ i _ => 62 - (intOf i).toNat)
  case atStart => exact ⟨0, by omega, rfl, World.ownsRow_nil _ _ _ _, Below.refl _ _⟩
  case round =>
    obtain ⟨k, hk, rfl, hown, hb⟩ := hrel
    have hle := bl_le m k
    by_cases hlt : k < 62
    · cases hh : has m k
      · have HH := Lib.hid hh
        clear hh
        go_wp2_with (go_at_call 29; refine (in_any m k _).mono ?_; rw [HH.out]; rintro e w' ⟨rfl, rfl⟩)
        go_roundw
        case rel => exact ⟨k + 1, by omega, by go_num, by rw [bl_no HH.out]; exact hown, hb⟩
        case measure => simp [intOf]; omega
      · have HH := Lib.hid hh
        clear hh
        go_wp2_with (first | (go_at_call 29; refine (in_any m k _).mono ?_; rw [HH.out]; rintro e w' ⟨rfl, rfl⟩) | (at_builtin; refine wpList_push rfl (.tmp 11) (.tmp 13) 28 rfl w.heap.size 3 i0 (.int .i64 0) 1 8 Try.underlying28 hi hz0 hz1 hz2 rfl (by decide) hown rfl rfl rfl rfl (by unfold maxLen; omega) (by omega) hb.size ?_))
        · intro v' w1 hown1 hb1
          have hb2 := hb.trans hb1
          clear hown hb hb1
          go_wp2
          go_roundw
          case rel => exact ⟨k + 1, by omega, by go_num, own_snoc hown1 (bl_yes HH.out), hb2⟩
          case measure => simp [intOf]; omega
    · obtain rfl : k = 62 := by omega
      go_wp2
      go_ret
      exact ⟨_, rfl, hown, hb⟩

theorem rbits_any (m : Int) (hm : In64 m) (w : World) : Calls Try.prog 37 #[.int .i64 m] w (IsBits m w) := by
  obtain ⟨i0, hi, hz0, hz1, hz2⟩ := info_parts Try.info3
  have HM := Lib.hid hm
  clear hm
  go_enter Try.func37, Try.ntmps37
  go_wp2
  go_loopw [3, 4] (fun v i wr => ∃ k : Nat, k ≤ 62 ∧ i = .int .i64 k ∧ wr.ownsRow w.heap.size 3 1 v (bl m k).length ((bl m k).map (Value.int .i64)) ∧ Below w.heap.size w wr) (fun _ i _ => 62 - (intOf i).toNat)
  case atStart => exact ⟨0, by omega, rfl, World.ownsRow_nil _ _ _ _, Below.refl _ _⟩
  case round =>
    obtain ⟨k, hk, rfl, hown, hb⟩ := hrel
    have hle := bl_le m k
    by_cases hlt : k < 62
    · cases hh : has m k
      · have HH := Lib.hid hh
        clear hh
        go_wp2_with (go_at_call 30; refine (rin_any m k HM.out _).mono ?_; rw [HH.out]; rintro e w' ⟨rfl, rfl⟩)
        go_roundw
        case rel => exact ⟨k + 1, by omega, by go_num, by rw [bl_no HH.out]; exact hown, hb⟩
        case measure => simp [intOf]; omega
      · have HH := Lib.hid hh
        clear hh
        go_wp2_with (first | (go_at_call 30; refine (rin_any m k HM.out _).mono ?_; rw [HH.out]; rintro e w' ⟨rfl, rfl⟩) | (at_builtin; refine wpList_push rfl (.tmp 14) (.tmp 16) 28 rfl w.heap.size 3 i0 (.int .i64 0) 1 8 Try.underlying28 hi hz0 hz1 hz2 rfl (by decide) hown rfl rfl rfl rfl (by unfold maxLen; omega) (by omega) hb.size ?_))
        · intro v' w1 hown1 hb1
          have hb2 := hb.trans hb1
          clear hown hb hb1
          go_wp2
          go_roundw
          case rel => exact ⟨k + 1, by omega, by go_num, own_snoc hown1 (bl_yes HH.out), hb2⟩
          case measure => simp [intOf]; omega
    · obtain rfl : k = 62 := by omega
      go_wp2
      go_ret
      exact ⟨_, rfl, hown, hb⟩
end Go.Proofs.Ytdcdloojojmihaa
