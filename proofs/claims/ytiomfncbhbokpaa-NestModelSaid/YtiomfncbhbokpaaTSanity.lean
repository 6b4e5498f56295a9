/- The law's own example, walked. -/
import Derived.Test.YtiomfncbhbokpaaTFind
namespace Go.Proofs.Ytiomfncbhbokpaa
open Go.RowKit
set_option linter.unusedVariables false

theorem find_is {v : Value} {ls : List Lv} {loc a b c : Int} {w : World} (h : IsLs w v ls) (hm : ls.length ≤ 1000) (hsv : ∀ x ∈ ls, SmallV 80000 x) (hv : findL ls loc = (a, b, c)) :
    Calls Try.prog 17 #[v, .int .i64 loc] w fun e w' => e = .returned (.tuple #[.int .i64 a, .int .i64 b, .int .i64 c]) ∧ Below w.heap.size w w' :=
  (find_any v ls loc w h hm hsv).mono fun e w' ⟨h1, h2⟩ => ⟨by rw [h1, hv], h2⟩
instance (k : Nat) (v : Lv) : Decidable (SmallV k v) := by unfold SmallV; infer_instance
def exL : List Lv := [⟨[], [⟨1, 5⟩], []⟩, ⟨[], [⟨1, 7⟩], []⟩]
set_option maxRecDepth 100000 in
set_option maxHeartbeats 1000000 in
theorem sanity_any (w : World) : Calls Try.prog 10 #[] w fun e w' => e = .returned (.bool true) ∧ Below w.heap.size w w' := by
  go_enter Try.func10, Try.ntmps10
  go_wp2_with fail
  refine (begin_any (.slice none 0 0) [] w (IsLs.nil w) (by simp)).mono ?_
  rintro e w1 ⟨v1, rfl, i1, b1⟩
  have I1 := Lib.hid i1
  have B1 := Lib.hid b1
  clear i1 b1
  go_wp2_with fail
  refine (nput_any v1 [] zeroLv ⟨1, 5⟩ w1 I1.out (by simp) (by simp [zeroLv])).mono ?_
  rintro e w2 ⟨v2, rfl, i2, b2⟩
  have I2 := Lib.hid i2
  have B2 := Lib.hid (B1.out.trans (b2.mono B1.out.size))
  clear i2 b2
  go_wp2_with fail
  refine (begin_any v2 _ w2 I2.out (by simp)).mono ?_
  rintro e w3 ⟨v3, rfl, i3, b3⟩
  have I3 := Lib.hid i3
  have B3 := Lib.hid (B2.out.trans (b3.mono B2.out.size))
  clear i3 b3
  go_wp2_with fail
  refine (nput_any v3 [addW ⟨1, 5⟩ zeroLv] zeroLv ⟨1, 7⟩ w3 I3.out (by simp) (by simp [zeroLv])).mono ?_
  rintro e w4 ⟨v4, rfl, i4, b4⟩
  have I4 : Hid (IsLs w4 v4 exL) := Lib.hid i4
  have B4 := Lib.hid (B3.out.trans (b4.mono B3.out.size))
  clear i4 b4
  go_wp2_with fail
  refine (find_is (a := 7) (b := 0) (c := 1) I4.out (by decide) (by decide) (by decide)).mono ?_
  rintro e w5 ⟨rfl, b5⟩
  have I5 := Lib.hid (I4.out.below b5)
  have B5 := Lib.hid (B4.out.trans (b5.mono B4.out.size))
  clear b5
  go_wp2_with fail
  refine (nread_any v4 [⟨[], [⟨1, 5⟩], []⟩] ⟨[], [⟨1, 7⟩], []⟩ ⟨2, 4, 9⟩ w5 I5.out (by decide) (by decide)).mono ?_
  rintro e w6 ⟨v6, rfl, i6, b6⟩
  have I6 := Lib.hid i6
  have J6 := Lib.hid (I5.out.below b6)
  have B6 := Lib.hid (B5.out.trans (b6.mono B5.out.size))
  clear i6 b6
  go_wp2_with fail
  refine (drop_many v6 [] ⟨[], [⟨1, 5⟩], []⟩ ⟨[⟨2, 4, 9⟩], [⟨1, 7⟩], []⟩ w6 I6.out (by decide) (by decide) (by decide)).mono ?_
  rintro e w7 ⟨v7, u7, rfl, i7, -, b7⟩
  have I7 : Hid (IsLs w7 v7 [⟨[⟨2, 4, 9⟩], [⟨1, 5⟩], []⟩]) := Lib.hid i7
  have J7 := Lib.hid (J6.out.below b7)
  have B7 := Lib.hid (B6.out.trans (b7.mono B6.out.size))
  clear i7 b7
  go_wp2_with fail
  refine (find_is (a := 5) (b := 0) (c := 1) I7.out (by decide) (by decide) (by decide)).mono ?_
  rintro e w8 ⟨rfl, b8⟩
  have I8 := Lib.hid (I7.out.below b8)
  have J8 := Lib.hid (J7.out.below b8)
  have B8 := Lib.hid (B7.out.trans (b8.mono B7.out.size))
  clear b8
  go_wp2_with fail
  refine (find_is (a := 9) (b := 4) (c := 2) I8.out (by decide) (by decide) (by decide)).mono ?_
  rintro e w9 ⟨rfl, b9⟩
  have I9 := Lib.hid (I8.out.below b9)
  have J9 := Lib.hid (J8.out.below b9)
  have B9 := Lib.hid (B8.out.trans (b9.mono B8.out.size))
  clear b9
  go_wp2_with fail
  refine (end_any v4 [] ⟨[], [⟨1, 5⟩], []⟩ ⟨[], [⟨1, 7⟩], []⟩ w9 J9.out (by decide) (by decide) (by decide)).mono ?_
  rintro e w10 ⟨v10, rfl, i10, b10⟩
  have I10 : Hid (IsLs w10 v10 [⟨[], [⟨1, 7⟩], []⟩]) := Lib.hid i10
  have B10 := Lib.hid (B9.out.trans (b10.mono B9.out.size))
  clear i10 b10
  go_wp2_with fail
  refine (find_is (a := 7) (b := 0) (c := 1) I10.out (by decide) (by decide) (by decide)).mono ?_
  rintro e w11 ⟨rfl, b11⟩
  have I11 := Lib.hid (I10.out.below b11)
  have B11 := Lib.hid (B10.out.trans (b11.mono B10.out.size))
  clear b11
  go_wp2_with fail
  refine (find_is (a := 0) (b := 0) (c := 0) I11.out (by decide) (by decide) (by decide)).mono ?_
  rintro e w12 ⟨rfl, b12⟩
  have B12 := Lib.hid (B11.out.trans (b12.mono B11.out.size))
  clear b12
  obtain ⟨A4, c4, -, rfl, -⟩ := J9.out
  obtain ⟨A7, c7, -, rfl, -⟩ := I9.out
  obtain ⟨A10, c10, -, rfl, -⟩ := I11.out
  have n4 : ((exL.length : Nat) : Int) = 2 := rfl
  have HEX : exL.length = 2 := rfl
  rw [HEX]
  simp only [List.length_cons, List.length_nil]
  go_wp2
  go_ret
  exact ⟨rfl, B12.out⟩
end Go.Proofs.Ytiomfncbhbokpaa
