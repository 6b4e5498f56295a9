import Derived.Test.YtiomfncbhbokpaaHas
import Derived.Laws.StructEq
namespace Go.Proofs.Ytiomfncbhbokpaa
open Go.RowKit
set_option linter.unusedVariables false

theorem neqS (x y z : Int) (w : World) : (binOp .neq 30 (.agg #[.int .i64 x, .int .i64 y, .int .i64 z]) (.agg #[.int .i64 x, .int .i64 y, .int .i64 z])).run Try.prog w = .ok (.bool false) w := by
  simp [go_sem]
theorem neqW (x y : Int) (w : World) : (binOp .neq 33 (.agg #[.int .i64 x, .int .i64 y]) (.agg #[.int .i64 x, .int .i64 y])).run Try.prog w = .ok (.bool false) w := by
  simp [go_sem]
def TrueDrewN (w : World) (e : Ending) (w' : World) : Prop := e = .returned (.bool true) ∧ ∃ d, w' = w.drewN d
set_option maxRecDepth 100000 in
theorem seensSame_any {B : Nat} (A : Option Addr) (n c : Nat) (A' : Option Addr) (c' : Nat) (rs : List Seen) (w : World) (e1 : rs.length = n) (m1 : n ≤ maxLen) (hs : Sees w B A (rs.flatMap seenC)) (hs' : Sees w B A' (rs.flatMap seenC)) :
    Calls Try.prog 30 #[.slice A n c, .slice A' n c'] w (TrueDrewN w) := by
  unfold maxLen at m1
  have E1 := Lib.hid e1
  have HS := Lib.hid hs
  have HS' := Lib.hid hs'
  clear e1 hs hs'
  go_enter Try.func30, Try.ntmps30
  go_wp2
  go_loopw [5] (fun i wr => ∃ k : Nat, k ≤ n ∧ i = .int .i64 k ∧ Hid (∃ d, wr = w.drewN d)) (fun i _ => n - (intOf i).toNat)
  case atStart => exact ⟨0, by omega, rfl, Lib.hid ⟨0, rfl⟩⟩
  case round =>
    obtain ⟨k, hk, rfl, HD⟩ := hrel
    by_cases hlt : k < n
    · have hx : rs[k]? = some (rs[k]'(by rw [E1.out]; exact hlt)) := List.getElem?_eq_getElem _
      generalize rs[k]'(by rw [E1.out]; exact hlt) = x at hx
      have hw1 : Sees wr B A (rs.flatMap seenC) := by
        obtain ⟨d, e⟩ := HD.out
        rw [e]; exact HS.out.drewN d
      have hw2 : Sees wr B A' (rs.flatMap seenC) := by
        obtain ⟨d, e⟩ := HD.out
        rw [e]; exact HS'.out.drewN d
      obtain ⟨b, off, rfl, -, c0, c1, c2⟩ := hw1.at3 hx
      obtain ⟨b', off', rfl, -, d0, d1, d2⟩ := hw2.at3 hx
      have HD2 : Hid (∃ d, wr.drew = w.drewN d) := Lib.hid (by
        obtain ⟨d, e⟩ := HD.out
        exact ⟨d + 1, by rw [e]; rfl⟩)
      clear hw1 hw2
      clear hx
      have q := neqS x.loc x.ver x.val
      go_wp2
      go_region_law (fail)
      all_goals
        go_wp2
        go_roundw
        case rel => exact ⟨k + 1, by omega, by go_num, HD2⟩
        case measure => simp [intOf]; omega
    · have hkn : k = n := by omega
      subst hkn
      go_wp2
      go_ret
      exact ⟨rfl, HD.out⟩
set_option maxRecDepth 100000 in
theorem writesSame_any {B : Nat} (A : Option Addr) (n c : Nat) (A' : Option Addr) (c' : Nat) (rs : List Wr) (w : World) (e1 : rs.length = n) (m1 : n ≤ maxLen) (hs : Sees w B A (rs.flatMap wrC)) (hs' : Sees w B A' (rs.flatMap wrC)) :
    Calls Try.prog 31 #[.slice A n c, .slice A' n c'] w (TrueDrewN w) := by
  unfold maxLen at m1
  have E1 := Lib.hid e1
  have HS := Lib.hid hs
  have HS' := Lib.hid hs'
  clear e1 hs hs'
  go_enter Try.func31, Try.ntmps31
  go_wp2
  go_loopw [5] (fun i wr => ∃ k : Nat, k ≤ n ∧ i = .int .i64 k ∧ Hid (∃ d, wr = w.drewN d)) (fun i _ => n - (intOf i).toNat)
  case atStart => exact ⟨0, by omega, rfl, Lib.hid ⟨0, rfl⟩⟩
  case round =>
    obtain ⟨k, hk, rfl, HD⟩ := hrel
    by_cases hlt : k < n
    · have hx : rs[k]? = some (rs[k]'(by rw [E1.out]; exact hlt)) := List.getElem?_eq_getElem _
      generalize rs[k]'(by rw [E1.out]; exact hlt) = x at hx
      have hw1 : Sees wr B A (rs.flatMap wrC) := by
        obtain ⟨d, e⟩ := HD.out
        rw [e]; exact HS.out.drewN d
      have hw2 : Sees wr B A' (rs.flatMap wrC) := by
        obtain ⟨d, e⟩ := HD.out
        rw [e]; exact HS'.out.drewN d
      obtain ⟨b, off, rfl, -, c0, c1⟩ := hw1.at2 hx
      obtain ⟨b', off', rfl, -, d0, d1⟩ := hw2.at2 hx
      have HD2 : Hid (∃ d, wr.drew = w.drewN d) := Lib.hid (by
        obtain ⟨d, e⟩ := HD.out
        exact ⟨d + 1, by rw [e]; rfl⟩)
      clear hw1 hw2
      clear hx
      have q := neqW x.loc x.val
      go_wp2
      go_region_law (fail)
      all_goals
        go_wp2
        go_roundw
        case rel => exact ⟨k + 1, by omega, by go_num, HD2⟩
        case measure => simp [intOf]; omega
    · have hkn : k = n := by omega
      subst hkn
      go_wp2
      go_ret
      exact ⟨rfl, HD.out⟩
end Go.Proofs.Ytiomfncbhbokpaa
