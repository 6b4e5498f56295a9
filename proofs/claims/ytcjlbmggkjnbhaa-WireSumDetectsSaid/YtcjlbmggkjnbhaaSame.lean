import Derived.Test.YtcjlbmggkjnbhaaPut
namespace Go.Proofs.Ytcjlbmggkjnbhaa
open Go.RowKit
set_option linter.unusedVariables false

def Quiet (b : Bool) (w : World) (e : Ending) (w' : World) : Prop := e = .returned (.bool b) ∧ ∃ n, w.drewN n = w'

theorem take_eq_succ {xs ys : List Int} {k : Nat} (hx : k < xs.length) (hy : k < ys.length) (h : xs.take k = ys.take k) (e : xs.getD k 0 = ys.getD k 0) : xs.take (k + 1) = ys.take (k + 1) := by
  rw [List.take_add_one, List.take_add_one, h]
  simp only [List.getD_eq_getElem?_getD, List.getElem?_eq_getElem hx, List.getElem?_eq_getElem hy, Option.getD_some] at e
  simp [List.getElem?_eq_getElem hx, List.getElem?_eq_getElem hy, e]

theorem ints_any {B1 B2 : Nat} (A1 A2 : Option Addr) (n1 n2 c1 c2 : Nat) (xs ys : List Int) (w : World) (e1 : xs.length = n1) (e2 : ys.length = n2) (m1 : n1 ≤ maxLen) (m2 : n2 ≤ maxLen)
    (h1 : Sees w B1 A1 (xs.map (.int .i64))) (h2 : Sees w B2 A2 (ys.map (.int .i64))) :
    Calls Try.prog 24 #[.slice A1 n1 c1, .slice A2 n2 c2] w (Quiet (decide (xs = ys)) w) := by
  unfold maxLen at m1 m2
  by_cases hn : n1 = n2
  · subst hn
    have E1 := Lib.hid e1
    have E2 := Lib.hid e2
    clear e1 e2
    have hne : ((n1 : Int) != (n1 : Int)) = false := by simp
    go_enter Try.func24, Try.ntmps24
    go_wp2
    go_loopw [5] (fun i wr => ∃ k m : Nat, k ≤ n1 ∧ i = .int .i64 k ∧ xs.take k = ys.take k ∧ w.drewN m = wr) (fun i _ => n1 - (intOf i).toNat)
    case atStart => exact ⟨0, 0, by omega, rfl, rfl, rfl⟩
    case round =>
      obtain ⟨k, m, hk, rfl, ht, rfl⟩ := hrel
      have HT := Lib.hid ht
      clear ht
      by_cases hlt : k < n1
      · obtain ⟨b1, o1, rfl, _, g1⟩ := h1.at_ (k := k) (by rw [List.length_map, E1.out]; exact hlt)
        obtain ⟨b2, o2, rfl, _, g2⟩ := h2.at_ (k := k) (by rw [List.length_map, E2.out]; exact hlt)
        have f1 := g1 k _ (getElem?_ints (by rw [E1.out]; exact hlt))
        have f2 := g2 k _ (getElem?_ints (by rw [E2.out]; exact hlt))
        generalize hx : xs.getD k 0 = x at f1
        generalize hy : ys.getD k 0 = y at f2
        have HX := Lib.hid hx
        have HY := Lib.hid hy
        clear hx hy g1 g2
        by_cases hxy : x = y
        · subst hxy
          have hne2 : (x != x) = false := by simp
          have hl : (k : Int) < (n1 : Int) := by omega
          go_wp2
          go_quiet (fail)
          go_wp2
          go_roundw
          case rel => exact ⟨k + 1, _, by omega, by go_num, take_eq_succ (by rw [E1.out]; exact hlt) (by rw [E2.out]; exact hlt) HT.out (by rw [HX.out, HY.out]), rfl⟩
          case measure => simp [intOf]; omega
        · have hne2 : (x != y) = true := by simpa using hxy
          have hl : (k : Int) < (n1 : Int) := by omega
          have hf : decide (xs = ys) = false := by
            refine decide_eq_false fun e => hxy ?_
            rw [← HX.out, ← HY.out, e]
          have HF := Lib.hid hf
          clear hf hxy
          go_wp2
          go_quiet (fail)
          go_wp2
          go_ret
          exact ⟨ret_bool HF.out.symm, _, (World.drewN_drewN _ _ _).symm⟩
      · obtain rfl : k = n1 := by omega
        go_wp2
        go_ret
        refine ⟨ret_bool (decide_eq_true ?_).symm, _, rfl⟩
        have := HT.out
        rwa [List.take_of_length_le (by rw [E1.out]; exact Nat.le_refl _), List.take_of_length_le (by rw [E2.out]; exact Nat.le_refl _)] at this
  · have hne : ((n1 : Int) != (n2 : Int)) = true := by simp; omega
    have hf : decide (xs = ys) = false := by
      refine decide_eq_false fun e => hn ?_
      rw [← e1, ← e2, e]
    have HF := Lib.hid hf
    clear hf hn e1 e2
    go_enter Try.func24, Try.ntmps24
    go_wp2
    go_ret
    exact ⟨ret_bool HF.out.symm, 0, rfl⟩

theorem same_any {B1 B2 : Nat} (A1 A2 : Option Addr) (n1 n2 c1 c2 : Nat) (xs ys : List Int) (w : World) (e1 : xs.length = n1) (e2 : ys.length = n2) (m1 : n1 ≤ maxLen) (m2 : n2 ≤ maxLen)
    (h1 : Sees w B1 A1 (xs.map (.int .u8))) (h2 : Sees w B2 A2 (ys.map (.int .u8))) :
    Calls Try.prog 15 #[.slice A1 n1 c1, .slice A2 n2 c2] w (Quiet (decide (xs = ys)) w) := by
  unfold maxLen at m1 m2
  by_cases hn : n1 = n2
  · subst hn
    have E1 := Lib.hid e1
    have E2 := Lib.hid e2
    clear e1 e2
    have hne : ((n1 : Int) != (n1 : Int)) = false := by simp
    go_enter Try.func15, Try.ntmps15
    go_wp2
    go_loopw [5] (fun i wr => ∃ k m : Nat, k ≤ n1 ∧ i = .int .i64 k ∧ xs.take k = ys.take k ∧ w.drewN m = wr) (fun i _ => n1 - (intOf i).toNat)
    case atStart => exact ⟨0, 0, by omega, rfl, rfl, rfl⟩
    case round =>
      obtain ⟨k, m, hk, rfl, ht, rfl⟩ := hrel
      have HT := Lib.hid ht
      clear ht
      by_cases hlt : k < n1
      · obtain ⟨b1, o1, rfl, _, g1⟩ := h1.at_ (k := k) (by rw [List.length_map, E1.out]; exact hlt)
        obtain ⟨b2, o2, rfl, _, g2⟩ := h2.at_ (k := k) (by rw [List.length_map, E2.out]; exact hlt)
        have f1 := g1 k _ (getElem?_ints (by rw [E1.out]; exact hlt))
        have f2 := g2 k _ (getElem?_ints (by rw [E2.out]; exact hlt))
        generalize hx : xs.getD k 0 = x at f1
        generalize hy : ys.getD k 0 = y at f2
        have HX := Lib.hid hx
        have HY := Lib.hid hy
        clear hx hy g1 g2
        by_cases hxy : x = y
        · subst hxy
          have hne2 : (x != x) = false := by simp
          have hl : (k : Int) < (n1 : Int) := by omega
          go_wp2
          go_quiet (fail)
          go_wp2
          go_roundw
          case rel => exact ⟨k + 1, _, by omega, by go_num, take_eq_succ (by rw [E1.out]; exact hlt) (by rw [E2.out]; exact hlt) HT.out (by rw [HX.out, HY.out]), rfl⟩
          case measure => simp [intOf]; omega
        · have hne2 : (x != y) = true := by simpa using hxy
          have hl : (k : Int) < (n1 : Int) := by omega
          have hf : decide (xs = ys) = false := by
            refine decide_eq_false fun e => hxy ?_
            rw [← HX.out, ← HY.out, e]
          have HF := Lib.hid hf
          clear hf hxy
          go_wp2
          go_quiet (fail)
          go_wp2
          go_ret
          exact ⟨ret_bool HF.out.symm, _, (World.drewN_drewN _ _ _).symm⟩
      · obtain rfl : k = n1 := by omega
        go_wp2
        go_ret
        refine ⟨ret_bool (decide_eq_true ?_).symm, _, rfl⟩
        have := HT.out
        rwa [List.take_of_length_le (by rw [E1.out]; exact Nat.le_refl _), List.take_of_length_le (by rw [E2.out]; exact Nat.le_refl _)] at this
  · have hne : ((n1 : Int) != (n2 : Int)) = true := by simp; omega
    have hf : decide (xs = ys) = false := by
      refine decide_eq_false fun e => hn ?_
      rw [← e1, ← e2, e]
    have HF := Lib.hid hf
    clear hf hn e1 e2
    go_enter Try.func15, Try.ntmps15
    go_wp2
    go_ret
    exact ⟨ret_bool HF.out.symm, 0, rfl⟩

end Go.Proofs.Ytcjlbmggkjnbhaa
