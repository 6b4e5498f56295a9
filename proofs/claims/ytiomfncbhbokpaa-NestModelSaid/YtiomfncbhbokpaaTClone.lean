import Derived.Test.YtiomfncbhbokpaaTLev
namespace Go.Proofs.Ytiomfncbhbokpaa
open Go.RowKit
set_option linter.unusedVariables false

set_option maxRecDepth 100000 in
theorem Try.info62 : (Try.prog.info? 62).map (fun i => (i.zero, i.size, i.bytes)) = some (some (.agg #[.slice none 0 0, .slice none 0 0, .slice none 0 0]), 3, 72) := by kernel_rfl
set_option maxRecDepth 100000 in
theorem cloneL_any (A : Option Addr) (n c : Nat) (xs : List Value) (w : World) (hl : xs.length = n * 3) (hm : n ≤ 1000000) (h1 : ∀ u ∈ xs, u.oneCell' = true) (hs : Sees w w.heap.size A xs) :
    Calls Try.prog 35 #[.slice A n c] w (IsRowOf 62 3 n xs w) := by
  have q := fun (w : World) (a : Option Addr) (n c n' c' : Nat) => (show (binOp .eql 22 (.slice a n c) (.slice none n' c')).run Try.prog w = .ok (.bool a.isNone) w from Lib.run_eql_slice_nil w _ _ a n c n' c' Try.underlying22)
  obtain ⟨i0, hi, hz0, hz1, hz2⟩ := info_parts Try.info62
  have HL := Lib.hid hl
  have HS := Lib.hid hs
  have HI := Lib.hid hi
  have HZ0 := Lib.hid hz0
  have HZ1 := Lib.hid hz1
  have HZ2 := Lib.hid hz2
  have H1 := Lib.hid h1
  clear hi hz0 hz1 hz2 h1
  rcases A with _ | ad
  · have hx : xs = [] := by
      rcases hs with h | ⟨b, off, h, _⟩
      · exact h
      · cases h
    have hn : n = 0 := by
      rw [hx] at hl
      simp at hl
      omega
    clear hl HL HS
    subst hx hn
    clear hs H1
    go_enter Try.func35, Try.ntmps35
    go_wp2
    go_ret
    exact ⟨_, rfl, ⟨rfl, .inl ⟨rfl, rfl⟩⟩, Below.refl _ _⟩
  · clear hl hs
    go_enter Try.func35, Try.ntmps35
    go_wp2_with (at_builtin; refine wpList_app rfl (.tmp 5) (.tmp 6) 22 rfl w.heap.size 62 i0 (.agg #[.slice none 0 0, .slice none 0 0, .slice none 0 0]) 3 72 Try.underlying22 HI.out HZ0.out HZ1.out HZ2.out rfl (by decide) (own_none w 62 3) (HS.out.alloc (Nat.le_refl _) _) HL.out H1.out rfl rfl (by unfold maxLen; omega) (by omega) (by simp) ?_)
    intro v1 w1 ho hb
    go_wp2
    go_ret
    exact ⟨_, rfl, ho, ((Below.refl _ _).alloc (Nat.le_refl _) _).trans hb⟩

set_option maxRecDepth 100000 in
theorem Try.info50 : (Try.prog.info? 50).map (fun i => (i.zero, i.size, i.bytes)) = some (some (.agg #[.int .i64 0, .int .i64 0, .int .i64 0, .slice none 0 0, .int .i64 0]), 5, 56) := by kernel_rfl
set_option maxRecDepth 100000 in
theorem cloneU_any (A : Option Addr) (n c : Nat) (xs : List Value) (w : World) (hl : xs.length = n * 5) (hm : n ≤ 1000000) (h1 : ∀ u ∈ xs, u.oneCell' = true) (hs : Sees w w.heap.size A xs) :
    Calls Try.prog 43 #[.slice A n c] w (IsRowOf 50 5 n xs w) := by
  have q := fun (w : World) (a : Option Addr) (n c n' c' : Nat) => (show (binOp .eql 34 (.slice a n c) (.slice none n' c')).run Try.prog w = .ok (.bool a.isNone) w from Lib.run_eql_slice_nil w _ _ a n c n' c' Try.underlying34)
  obtain ⟨i0, hi, hz0, hz1, hz2⟩ := info_parts Try.info50
  have HL := Lib.hid hl
  have HS := Lib.hid hs
  have HI := Lib.hid hi
  have HZ0 := Lib.hid hz0
  have HZ1 := Lib.hid hz1
  have HZ2 := Lib.hid hz2
  have H1 := Lib.hid h1
  clear hi hz0 hz1 hz2 h1
  rcases A with _ | ad
  · have hx : xs = [] := by
      rcases hs with h | ⟨b, off, h, _⟩
      · exact h
      · cases h
    have hn : n = 0 := by
      rw [hx] at hl
      simp at hl
      omega
    clear hl HL HS
    subst hx hn
    clear hs H1
    go_enter Try.func43, Try.ntmps43
    go_wp2
    go_ret
    exact ⟨_, rfl, ⟨rfl, .inl ⟨rfl, rfl⟩⟩, Below.refl _ _⟩
  · clear hl hs
    go_enter Try.func43, Try.ntmps43
    go_wp2_with (at_builtin; refine wpList_app rfl (.tmp 5) (.tmp 6) 34 rfl w.heap.size 50 i0 (.agg #[.int .i64 0, .int .i64 0, .int .i64 0, .slice none 0 0, .int .i64 0]) 5 56 Try.underlying34 HI.out HZ0.out HZ1.out HZ2.out rfl (by decide) (own_none w 50 5) (HS.out.alloc (Nat.le_refl _) _) HL.out H1.out rfl rfl (by unfold maxLen; omega) (by omega) (by simp) ?_)
    intro v1 w1 ho hb
    go_wp2
    go_ret
    exact ⟨_, rfl, ho, ((Below.refl _ _).alloc (Nat.le_refl _) _).trans hb⟩

set_option maxRecDepth 100000 in
theorem Try.info30 : (Try.prog.info? 30).map (fun i => (i.zero, i.size, i.bytes)) = some (some (.agg #[.int .i64 0, .int .i64 0, .int .i64 0]), 3, 24) := by kernel_rfl
set_option maxRecDepth 100000 in
theorem cloneS_any (A : Option Addr) (n c : Nat) (xs : List Value) (w : World) (hl : xs.length = n * 3) (hm : n ≤ 1000000) (h1 : ∀ u ∈ xs, u.oneCell' = true) (hs : Sees w w.heap.size A xs) :
    Calls Try.prog 45 #[.slice A n c] w (IsRowOf 30 3 n xs w) := by
  have q := fun (w : World) (a : Option Addr) (n c n' c' : Nat) => (show (binOp .eql 23 (.slice a n c) (.slice none n' c')).run Try.prog w = .ok (.bool a.isNone) w from Lib.run_eql_slice_nil w _ _ a n c n' c' Try.underlying23)
  obtain ⟨i0, hi, hz0, hz1, hz2⟩ := info_parts Try.info30
  have HL := Lib.hid hl
  have HS := Lib.hid hs
  have HI := Lib.hid hi
  have HZ0 := Lib.hid hz0
  have HZ1 := Lib.hid hz1
  have HZ2 := Lib.hid hz2
  have H1 := Lib.hid h1
  clear hi hz0 hz1 hz2 h1
  rcases A with _ | ad
  · have hx : xs = [] := by
      rcases hs with h | ⟨b, off, h, _⟩
      · exact h
      · cases h
    have hn : n = 0 := by
      rw [hx] at hl
      simp at hl
      omega
    clear hl HL HS
    subst hx hn
    clear hs H1
    go_enter Try.func45, Try.ntmps45
    go_wp2
    go_ret
    exact ⟨_, rfl, ⟨rfl, .inl ⟨rfl, rfl⟩⟩, Below.refl _ _⟩
  · clear hl hs
    go_enter Try.func45, Try.ntmps45
    go_wp2_with (at_builtin; refine wpList_app rfl (.tmp 5) (.tmp 6) 23 rfl w.heap.size 30 i0 (.agg #[.int .i64 0, .int .i64 0, .int .i64 0]) 3 24 Try.underlying23 HI.out HZ0.out HZ1.out HZ2.out rfl (by decide) (own_none w 30 3) (HS.out.alloc (Nat.le_refl _) _) HL.out H1.out rfl rfl (by unfold maxLen; omega) (by omega) (by simp) ?_)
    intro v1 w1 ho hb
    go_wp2
    go_ret
    exact ⟨_, rfl, ho, ((Below.refl _ _).alloc (Nat.le_refl _) _).trans hb⟩

set_option maxRecDepth 100000 in
theorem Try.info33 : (Try.prog.info? 33).map (fun i => (i.zero, i.size, i.bytes)) = some (some (.agg #[.int .i64 0, .int .i64 0]), 2, 16) := by kernel_rfl
set_option maxRecDepth 100000 in
theorem cloneW_any (A : Option Addr) (n c : Nat) (xs : List Value) (w : World) (hl : xs.length = n * 2) (hm : n ≤ 1000000) (h1 : ∀ u ∈ xs, u.oneCell' = true) (hs : Sees w w.heap.size A xs) :
    Calls Try.prog 56 #[.slice A n c] w (IsRowOf 33 2 n xs w) := by
  have q := fun (w : World) (a : Option Addr) (n c n' c' : Nat) => (show (binOp .eql 24 (.slice a n c) (.slice none n' c')).run Try.prog w = .ok (.bool a.isNone) w from Lib.run_eql_slice_nil w _ _ a n c n' c' Try.underlying24)
  obtain ⟨i0, hi, hz0, hz1, hz2⟩ := info_parts Try.info33
  have HL := Lib.hid hl
  have HS := Lib.hid hs
  have HI := Lib.hid hi
  have HZ0 := Lib.hid hz0
  have HZ1 := Lib.hid hz1
  have HZ2 := Lib.hid hz2
  have H1 := Lib.hid h1
  clear hi hz0 hz1 hz2 h1
  rcases A with _ | ad
  · have hx : xs = [] := by
      rcases hs with h | ⟨b, off, h, _⟩
      · exact h
      · cases h
    have hn : n = 0 := by
      rw [hx] at hl
      simp at hl
      omega
    clear hl HL HS
    subst hx hn
    clear hs H1
    go_enter Try.func56, Try.ntmps56
    go_wp2
    go_ret
    exact ⟨_, rfl, ⟨rfl, .inl ⟨rfl, rfl⟩⟩, Below.refl _ _⟩
  · clear hl hs
    go_enter Try.func56, Try.ntmps56
    go_wp2_with (at_builtin; refine wpList_app rfl (.tmp 5) (.tmp 6) 24 rfl w.heap.size 33 i0 (.agg #[.int .i64 0, .int .i64 0]) 2 16 Try.underlying24 HI.out HZ0.out HZ1.out HZ2.out rfl (by decide) (own_none w 33 2) (HS.out.alloc (Nat.le_refl _) _) HL.out H1.out rfl rfl (by unfold maxLen; omega) (by omega) (by simp) ?_)
    intro v1 w1 ho hb
    go_wp2
    go_ret
    exact ⟨_, rfl, ho, ((Below.refl _ _).alloc (Nat.le_refl _) _).trans hb⟩

end Go.Proofs.Ytiomfncbhbokpaa
