import Derived.Test.YtiomfncbhbokpaaTLevX
namespace Go.Proofs.Ytiomfncbhbokpaa
open Go.RowKit
set_option linter.unusedVariables false

theorem MutPost.from {w w1 w2 : World} {g o : Nat} {v : Lv} {e : Ending} (h1 : Below w.heap.size w w1) (h2 : MutPost g o v w1 e w2) : MutPost g o v w e w2 := by
  obtain ⟨he, l2, hx, hb⟩ := h2
  exact ⟨he, l2, hx, (putLev_both h1 g o l2).trans (hb.mono h1.size)⟩
theorem sees_newX (w : World) (g : Nat) (hg : g < w.heap.size) (xs : List Value) (t : TypeId) (ht : Fine t := by decide) : SeesX (w.alloc (.cells xs.toArray t)) g (some ⟨w.heap.size, 0, none⟩) xs := by
  rcases Sees.new w xs t ht with h | ⟨b, off, hA, hb, hT, hc⟩
  · exact .inl h
  · cases hA
    exact .inr ⟨_, _, rfl, by simp, by omega, hT, hc⟩

set_option maxRecDepth 100000 in
theorem addRead_any (g o bx : Nat) (l : LC) (v : Lv) (s : Seen) (w : World) (hg : g < w.heap.size) (hbx : bx < w.heap.size) (b0 : w.cell? ⟨bx, 0, none⟩ = some (.int .i64 s.loc)) (b1 : w.cell? ⟨bx, 1, none⟩ = some (.int .i64 s.ver)) (b2 : w.cell? ⟨bx, 2, none⟩ = some (.int .i64 s.val))
    (ha : LevAt w g o l) (hx : LevX w g l v) (hm : v.reads.length ≤ 80000) : Calls Try.prog 37 #[.pointer (some ⟨g, o, none⟩), .pointer (some ⟨bx, 0, none⟩)] w (MutPost g o { v with reads := readL v.reads s } w) := by
  have HA := Lib.hid ha
  have HX := Lib.hid hx
  have hal : Below w.heap.size w (w.alloc (.cells #[.int .i64 s.loc, .int .i64 s.ver, .int .i64 s.val] 30)) := (Below.refl _ _).alloc (Nat.le_refl _) _
  have HAL := Lib.hid hal
  have HA1 := Lib.hid (ha.below hal hg)
  have HX1 := Lib.hid (hx.aside (Aside.of_below (g := g) hal))
  clear ha hx hal
  go_enter Try.func37, Try.ntmps37
  go_wp2_with fail
  refine (read_any g o l.A1 l.n1 l.c1 v.reads _ 1 1 [s] _ (by simp; omega) HA1.out.c1 HA1.out.f1 HX1.out.e1 rfl (by have := HX1.out.e1; omega) HX1.out.s1 (sees_newX w g hg (seenC s) 30)).mono ?_
  intro e w2 h
  obtain ⟨rfl, hm2⟩ := id (mut1 HA1.out HX1.out (by simp; omega) h rfl)
  have HM := Lib.hid (MutPost.from HAL.out (show MutPost g o _ _ _ _ from ⟨rfl, hm2⟩))
  clear h hm2
  go_wp2
  go_end0
  exact HM.out
set_option maxRecDepth 100000 in
theorem addWrite_any (g o bx : Nat) (l : LC) (v : Lv) (s : Wr) (w : World) (hg : g < w.heap.size) (hbx : bx < w.heap.size) (b0 : w.cell? ⟨bx, 0, none⟩ = some (.int .i64 s.loc)) (b1 : w.cell? ⟨bx, 1, none⟩ = some (.int .i64 s.val))
    (ha : LevAt w g o l) (hx : LevX w g l v) (hm : v.writes.length ≤ 80000) : Calls Try.prog 39 #[.pointer (some ⟨g, o, none⟩), .pointer (some ⟨bx, 0, none⟩)] w (MutPost g o { v with writes := putW v.writes s } w) := by
  have HA := Lib.hid ha
  have HX := Lib.hid hx
  have hal : Below w.heap.size w (w.alloc (.cells #[.int .i64 s.loc, .int .i64 s.val] 33)) := (Below.refl _ _).alloc (Nat.le_refl _) _
  have HAL := Lib.hid hal
  have HA1 := Lib.hid (ha.below hal hg)
  have HX1 := Lib.hid (hx.aside (Aside.of_below (g := g) hal))
  clear ha hx hal
  go_enter Try.func39, Try.ntmps39
  go_wp2_with fail
  refine (write_any g o l.A2 l.n2 l.c2 v.writes _ 1 1 [s] _ (by simp; omega) HA1.out.c2 HA1.out.f2 HX1.out.e2 rfl (by have := HX1.out.e2; omega) HX1.out.s2 (sees_newX w g hg (wrC s) 33)).mono ?_
  intro e w2 h
  obtain ⟨rfl, hm2⟩ := id (mut2 HA1.out HX1.out (by simp; omega) h rfl)
  have HM := Lib.hid (MutPost.from HAL.out (show MutPost g o _ _ _ _ from ⟨rfl, hm2⟩))
  clear h hm2
  go_wp2
  go_end0
  exact HM.out
set_option maxRecDepth 100000 in
theorem addUndo_any (g o bx : Nat) (l : LC) (v : Lv) (s : Und) (w : World) (hg : g < w.heap.size) (hbx : bx < w.heap.size) (b0 : w.cell? ⟨bx, 0, none⟩ = some (.int .i64 s.kind)) (b1 : w.cell? ⟨bx, 1, none⟩ = some (.int .i64 s.n)) (b2 : w.cell? ⟨bx, 2, none⟩ = some (.int .i64 s.m))
    (b3 : w.cell? ⟨bx, 3, none⟩ = some (.slice s.A s.len s.cap)) (b4 : w.cell? ⟨bx, 4, none⟩ = some (.int .i64 s.lock))
    (ha : LevAt w g o l) (hx : LevX w g l v) (hm : v.undo.length ≤ 80000) : Calls Try.prog 50 #[.pointer (some ⟨g, o, none⟩), .pointer (some ⟨bx, 0, none⟩)] w (MutPost g o { v with undo := v.undo ++ [s] } w) := by
  have HA := Lib.hid ha
  have HX := Lib.hid hx
  have hal : Below w.heap.size w (w.alloc (.cells #[.int .i64 s.kind, .int .i64 s.n, .int .i64 s.m, .slice s.A s.len s.cap, .int .i64 s.lock] 50)) := (Below.refl _ _).alloc (Nat.le_refl _) _
  have HAL := Lib.hid hal
  have HA1 := Lib.hid (ha.below hal hg)
  have HX1 := Lib.hid (hx.aside (Aside.of_below (g := g) hal))
  clear ha hx hal
  go_enter Try.func50, Try.ntmps50
  go_wp2_with fail
  refine (keep_any g o l.A3 l.n3 l.c3 v.undo _ 1 1 [s] _ (by simp; omega) HA1.out.c3 HA1.out.f3 HX1.out.e3 rfl (by have := HX1.out.e3; omega) HX1.out.s3 (sees_newX w g hg (undC s) 50)).mono ?_
  intro e w2 h
  obtain ⟨rfl, hm2⟩ := id (mut3 HA1.out HX1.out (by simp; omega) h (by simp [HX1.out.e3]))
  have HM := Lib.hid (MutPost.from HAL.out (show MutPost g o _ _ _ _ from ⟨rfl, hm2⟩))
  clear h hm2
  go_wp2
  go_end0
  exact HM.out
end Go.Proofs.Ytiomfncbhbokpaa
