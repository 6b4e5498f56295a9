import Derived.Test.YtiomfncbhbokpaaEq
namespace Go.Proofs.Ytiomfncbhbokpaa
open Go.RowKit
set_option linter.unusedVariables false

/-- At no level: what came in comes back. -/
def SameBelow (v : Value) (w : World) (e : Ending) (w' : World) : Prop := e = .returned v ∧ Below w.heap.size w w'
set_option maxRecDepth 100000 in
theorem last_none (v f : Value) (w : World) (h : IsLs w v []) : Calls Try.prog 36 #[v, f] w fun e w' => e = .returned v ∧ w = w' := by
  obtain ⟨A, c, lcs, rfl, -⟩ := h
  go_enter Try.func36, Try.ntmps36
  go_wp2
  go_ret
  exact ⟨rfl, rfl⟩
set_option maxRecDepth 100000 in
theorem nread_none (v : Value) (s : Seen) (w : World) (h : IsLs w v []) : Calls Try.prog 13 #[v, .agg #[.int .i64 s.loc, .int .i64 s.ver, .int .i64 s.val]] w (SameBelow v w) := by
  have hal : Below w.heap.size w (w.alloc (.cells #[.int .i64 s.loc, .int .i64 s.ver, .int .i64 s.val] 30)) := (Below.refl _ _).alloc (Nat.le_refl _) _
  have HC := Lib.hid (fun f => last_none v f _ (h.below hal))
  have HAL := Lib.hid hal
  clear h hal
  go_enter Try.func13, Try.ntmps13
  go_wp2_with fail
  refine (HC.out _).mono ?_
  rintro e w1 ⟨rfl, rfl⟩
  go_wp2
  go_ret
  exact ⟨rfl, HAL.out⟩
set_option maxRecDepth 100000 in
theorem nput_none (v : Value) (s : Wr) (w : World) (h : IsLs w v []) : Calls Try.prog 14 #[v, .agg #[.int .i64 s.loc, .int .i64 s.val]] w (SameBelow v w) := by
  have hal : Below w.heap.size w (w.alloc (.cells #[.int .i64 s.loc, .int .i64 s.val] 33)) := (Below.refl _ _).alloc (Nat.le_refl _) _
  have HC := Lib.hid (fun f => last_none v f _ (h.below hal))
  have HAL := Lib.hid hal
  clear h hal
  go_enter Try.func14, Try.ntmps14
  go_wp2_with fail
  refine (HC.out _).mono ?_
  rintro e w1 ⟨rfl, rfl⟩
  go_wp2
  go_ret
  exact ⟨rfl, HAL.out⟩
set_option maxRecDepth 100000 in
theorem nkeep_none (v : Value) (s : Und) (w : World) (h : IsLs w v []) : Calls Try.prog 23 #[v, .agg #[.int .i64 s.kind, .int .i64 s.n, .int .i64 s.m, .slice s.A s.len s.cap, .int .i64 s.lock]] w (SameBelow v w) := by
  have hal : Below w.heap.size w (w.alloc (.cells #[.int .i64 s.kind, .int .i64 s.n, .int .i64 s.m, .slice s.A s.len s.cap, .int .i64 s.lock] 50)) := (Below.refl _ _).alloc (Nat.le_refl _) _
  have HC := Lib.hid (fun f => last_none v f _ (h.below hal))
  have HAL := Lib.hid hal
  clear h hal
  go_enter Try.func23, Try.ntmps23
  go_wp2_with fail
  refine (HC.out _).mono ?_
  rintro e w1 ⟨rfl, rfl⟩
  go_wp2
  go_ret
  exact ⟨rfl, HAL.out⟩
end Go.Proofs.Ytiomfncbhbokpaa
