import Derived.Test.YtiomfncbhbokpaaFew
namespace Go.Proofs.Ytiomfncbhbokpaa
open Go.RowKit
set_option linter.unusedVariables false

def hasL (rs : List Seen) (l : Int) : Bool := rs.any fun s => s.loc == l
theorem has_hit {rs : List Seen} {k : Nat} {x : Seen} {l : Int} (hx : rs[k]? = some x) (h : (x.loc == l) = true) : hasL rs l = true := by
  unfold hasL
  rw [List.any_eq_true]
  exact ⟨x, List.mem_of_getElem? hx, h⟩
theorem has_none {rs : List Seen} {k : Nat} {l : Int} (hk : rs.length ≤ k) (h : ∀ j s, j < k → rs[j]? = some s → (s.loc == l) = false) : hasL rs l = false := by
  unfold hasL
  rw [List.any_eq_false]
  intro s hs
  obtain ⟨j, hj, e⟩ := List.mem_iff_getElem.1 hs
  have := h j s (by omega) (by rw [List.getElem?_eq_getElem hj, e])
  simp [this]
set_option maxRecDepth 100000 in
theorem has_any {B : Nat} (A : Option Addr) (n c : Nat) (rs : List Seen) (l : Int) (w : World) (e1 : rs.length = n) (m1 : n ≤ maxLen) (hs : Sees w B A (rs.flatMap seenC)) :
    Calls Try.prog 33 #[.slice A n c, .int .i64 l] w fun e w' => e = .returned (.bool (hasL rs l)) ∧ w = w' := by
  unfold maxLen at m1
  have E1 := Lib.hid e1
  have HS := Lib.hid hs
  clear e1 hs
  go_enter Try.func33, Try.ntmps33
  go_wp2
  go_loop [5] (fun i => ∃ k : Nat, k ≤ n ∧ i = .int .i64 k ∧ Hid (∀ j s, j < k → rs[j]? = some s → (s.loc == l) = false)) (fun i => n - (intOf i).toNat)
  case atStart => exact ⟨0, by omega, rfl, Lib.hid (fun j s hj => by omega)⟩
  case round =>
    obtain ⟨k, hk, rfl, HK⟩ := hrel
    by_cases hlt : k < n
    · have hx : rs[k]? = some (rs[k]'(by rw [E1.out]; exact hlt)) := List.getElem?_eq_getElem _
      generalize rs[k]'(by rw [E1.out]; exact hlt) = x at hx
      obtain ⟨b, off, rfl, -, c0, -, -⟩ := HS.out.at3 hx
      have HX := Lib.hid hx
      clear hx
      by_cases hp : (x.loc == l) = true
      · have HR := Lib.hid (has_hit HX.out hp)
        go_wp2
        go_ret
        exact ⟨ret_bool HR.out.symm, rfl⟩
      · have hp' : (x.loc == l) = false := by simpa using hp
        have HP := Lib.hid (idx_next (p := fun s : Seen => s.loc == l) HX.out HK.out hp')
        clear hp
        go_wp2
        go_round
        case rel => exact ⟨k + 1, by omega, by go_num, HP⟩
        case measure => simp [intOf]; omega
    · have HR := Lib.hid (has_none (k := k) (by rw [E1.out]; omega) HK.out)
      have hkn : k = n := by omega
      subst hkn
      go_wp2
      go_ret
      exact ⟨ret_bool HR.out.symm, rfl⟩
end Go.Proofs.Ytiomfncbhbokpaa
