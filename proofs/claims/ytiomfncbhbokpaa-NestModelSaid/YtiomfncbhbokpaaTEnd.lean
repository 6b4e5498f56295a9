import Derived.Test.YtiomfncbhbokpaaTFold
import Derived.Laws.EntriesVeiled
namespace Go.Proofs.Ytiomfncbhbokpaa
open Go.RowKit
set_option linter.unusedVariables false

set_option maxRecDepth 100000 in
theorem whole_any (w : World) : Calls Try.prog 42 #[] w fun e w' => e = .returned (.agg #[.func (.func 38) #[] #[], .func (.func 40) #[] #[], .func (.func 51) #[] #[]]) ∧ Below w.heap.size w w' := by
  go_enter Try.func42, Try.ntmps42
  go_wp2
  exact bodyPost_ret (v := .agg #[.func (.func 38) #[] #[], .func (.func 40) #[] #[], .func (.func 51) #[] #[]]) (by simp [results, Try.results42, go_sem]) rfl ⟨rfl, (Below.refl _ _).alloc (Nat.le_refl _) _⟩
set_option maxRecDepth 100000 in
theorem end_any (v : Value) (init : List Lv) (v0 f : Lv) (w : World) (h : IsLs w v ((init ++ [v0]) ++ [f])) (hm : init.length ≤ 1000) (m1 : SmallV 40000 v0) (m2 : SmallV 40000 f) :
    Calls Try.prog 15 #[v] w (RetLs (init ++ [joinL v0 f]) w) := by
  have HC := Lib.hid (fun W (hb : Below w.heap.size w W) => fold_all v init v0 f W (h.below hb) hm m1 m2)
  obtain ⟨b, off, c, lcs0, lf, rfl, hc, -⟩ := h.form
  obtain ⟨n, hn⟩ : ∃ n, n = (init ++ [v0]).length := ⟨_, rfl⟩
  rw [← hn] at HC hc ⊢
  have hn2 : 1 ≤ n := by rw [hn]; simp
  have hn3 : ¬ ((n : Int) + 1 < 2) := by omega
  clear h hn m1 m2
  go_enter Try.func15, Try.ntmps15
  go_wp2_with fail
  refine (whole_any w).mono ?_
  rintro e w1 ⟨rfl, b1⟩
  have B1 := Lib.hid b1
  clear b1
  go_wp2_with fail
  refine (HC.out w1 B1.out).mono ?_
  intro e w2 h2
  obtain ⟨v2, rfl, h3, h4⟩ := retLs_from B1.out h2
  have H3 := Lib.hid h3
  have H4 := Lib.hid h4
  clear h2 h3 h4
  go_wp2
  go_ret
  exact ⟨_, rfl, H3.out, H4.out⟩
set_option maxRecDepth 100000 in
theorem end_short (v : Value) (ls : List Lv) (w : World) (h : IsLs w v ls) (hl : ls.length < 2) : Calls Try.prog 15 #[v] w fun e w' => e = .returned v ∧ w = w' := by
  obtain ⟨A, c, lcs, rfl, -⟩ := h
  obtain ⟨n, hn⟩ : ∃ n, n = ls.length := ⟨_, rfl⟩
  rw [← hn] at hl ⊢
  clear hn
  have hl2 : (n : Int) < 2 := by omega
  go_enter Try.func15, Try.ntmps15
  go_wp2
  go_ret
  exact ⟨rfl, rfl⟩
end Go.Proofs.Ytiomfncbhbokpaa
