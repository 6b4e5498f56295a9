import Derived.Test.YtdcdloojojmihaaRowWalks
namespace Go.Proofs.Ytdcdloojojmihaa
open Go.RowKit
set_option linter.unusedVariables false

def Sane (w : World) (e : Ending) (w' : World) : Prop := e = .returned (.bool true) ∧ Below w.heap.size w w'
theorem in_1 : In64 1 := by unfold In64; decide
theorem in_9 : In64 9 := by unfold In64; decide
theorem wrap_10 : wrap64 (2 * 5) = 10 := by decide +kernel
theorem wrap_5 : wrap64 (2 * 2 + 1) = 5 := by decide +kernel
theorem wrap_15 : wrap64 (4 * 3 + 3 % 4) = 15 := by decide +kernel
theorem with_9 : withT 1 3 = 9 := by decide +kernel
theorem without_8 : without 9 0 = 8 := by decide +kernel
theorem bit_62 : bitOf 62 = 0 := by decide
theorem bl_9 : bl 9 62 = [0, 3] := by decide +kernel

theorem sanity_any (w : World) : Calls Try.prog 10 #[] w (Sane w) := by
  go_enter Try.func10, Try.ntmps10
  go_wp2_with (first
    | (go_at_call 11; refine (free_any 5 _).mono ?_; rw [wrap_10]; rintro e w' ⟨rfl, rfl⟩)
    | (go_at_call 13; refine (held_any 2 _).mono ?_; rw [wrap_5]; rintro e w' ⟨rfl, rfl⟩)
    | (go_at_call 21; refine (status_any 3 3 _).mono ?_; rw [wrap_15]; rintro e w' ⟨rfl, rfl⟩)
    | (go_at_call 31; refine (with_any 1 3 in_1 _).mono ?_; rw [with_9]; rintro e w' ⟨rfl, rfl⟩)
    | (go_at_call 15; refine (locked_any _ _).mono ?_; rintro e w' ⟨rfl, rfl⟩)
    | (go_at_call 17; refine (ver_any 10 _).mono ?_; rintro e w' ⟨rfl, rfl⟩)
    | (go_at_call 19; refine (who_any 5 _).mono ?_; rintro e w' ⟨rfl, rfl⟩)
    | (go_at_call 23; refine (try_any 15 _).mono ?_; rintro e w' ⟨rfl, rfl⟩)
    | (go_at_call 25; refine (kind_any 15 _).mono ?_; rintro e w' ⟨rfl, rfl⟩)
    | (go_at_call 27; refine (bit_any 62 _).mono ?_; rw [bit_62]; rintro e w' ⟨rfl, rfl⟩)
    | (go_at_call 33; refine (without_any 9 0 in_9 _).mono ?_; rw [without_8]; rintro e w' ⟨rfl, rfl⟩))
  refine (bits_any 9 _).mono ?_
  rintro e w1 ⟨v, rfl, hown, hb⟩
  rw [bl_9] at hown
  obtain ⟨A, c, rfl, _, hs⟩ := own_form hown
  clear hown
  go_wp2_with fail
  refine (ints_any A _ 2 2 c 2 [0, 3] [0, 3] _ rfl rfl (by decide) (by decide) (hs.alloc (Nat.le_refl _) _) (Sees.new _ _ _)).mono ?_
  rintro e w' ⟨rfl, n, rfl⟩
  go_wp2
  go_ret
  exact ⟨rfl, below_drewN (hb.alloc hb.size _) _⟩
end Go.Proofs.Ytdcdloojojmihaa
