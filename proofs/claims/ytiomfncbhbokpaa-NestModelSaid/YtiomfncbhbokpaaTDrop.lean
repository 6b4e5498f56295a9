import Derived.Test.YtiomfncbhbokpaaTRev
namespace Go.Proofs.Ytiomfncbhbokpaa
open Go.RowKit
set_option linter.unusedVariables false

def IsU (w : World) (v : Value) (us : List Und) : Prop := ∃ A c, v = .slice A us.length c ∧ us.length ≤ c ∧ Sees w w.heap.size A (us.flatMap undC)
theorem IsU.below {w w' : World} {v : Value} {us : List Und} (h : IsU w v us) (hb : Below w.heap.size w w') : IsU w' v us := by
  obtain ⟨A, c, rfl, hc, hs⟩ := h
  exact ⟨A, c, rfl, hc, (hs.below hb).more hb.size⟩
def RetDrop (ls : List Lv) (us : List Und) (w : World) (e : Ending) (w' : World) : Prop :=
  ∃ v u, e = .returned (.tuple #[v, u]) ∧ IsLs w' v ls ∧ IsU w' u us ∧ Below w.heap.size w w'

set_option maxRecDepth 100000 in
set_option maxHeartbeats 1000000 in
theorem drop_many (v : Value) (init : List Lv) (v0 f : Lv) (w : World) (h : IsLs w v ((init ++ [v0]) ++ [f])) (hm : init.length ≤ 1000) (m1 : SmallV 40000 v0) (m2 : SmallV 40000 f) :
    Calls Try.prog 16 #[v] w (RetDrop (init ++ [joinR v0 f]) f.undo.reverse w) := by
  have HC := Lib.hid (fun W (hb : Below w.heap.size w W) => fold_r v init v0 f W (h.below hb) hm m1 m2)
  obtain ⟨b, off, c, lcs0, lf, rfl, hc, hlen, hb, -, hcell, hl0, hlf⟩ := h.form
  obtain ⟨n, hn⟩ : ∃ n, n = (init ++ [v0]).length := ⟨_, rfl⟩
  rw [← hn] at HC hc hlen ⊢
  have hn1 : 1 ≤ n := by rw [hn]; simp
  have hn2 : n ≤ 1001 := by rw [hn]; simp; omega
  obtain ⟨r0, r1, r2⟩ := at_last hlen hcell
  have hal : Below w.heap.size w (w.alloc (.cells #[.slice lf.A1 lf.n1 lf.c1, .slice lf.A2 lf.n2 lf.c2, .slice lf.A3 lf.n3 lf.c3] 62)) := (Below.refl _ _).alloc (Nat.le_refl _) _
  have HAL := Lib.hid hal
  have HLF := Lib.hid hlf
  have HU : Hid (Sees (w.alloc (.cells #[.slice lf.A1 lf.n1 lf.c1, .slice lf.A2 lf.n2 lf.c2, .slice lf.A3 lf.n3 lf.c3] 62)) (w.alloc (.cells #[.slice lf.A1 lf.n1 lf.c1, .slice lf.A2 lf.n2 lf.c2, .slice lf.A3 lf.n3 lf.c3] 62)).heap.size lf.A3 (f.undo.flatMap undC)) := Lib.hid ((hlf.s3.below hal).more hal.size)
  have E3 := Lib.hid hlf.e3
  have hn3 : lf.n3 ≤ 40000 := by have := hlf.e3; have := m2.2.2; omega
  have hne : ¬ (n = 0) := by omega
  have hnz : ((n : Int) + 1 == 0) = false := by simp; omega
  have hn1' : ((n : Int) + 1 == 1) = false := by simp; omega
  clear h hal hcell hl0 hlf hlen m1 m2 hn
  go_enter Try.func16, Try.ntmps16
  go_wp2_with fail
  refine (cloneU_any lf.A3 lf.n3 lf.c3 (f.undo.flatMap undC) _ (by rw [flat_length und_len, E3.out]) (by omega) (flat_one und_one _) HU.out).mono ?_
  rintro e w1 ⟨v1, rfl, o1, b1⟩
  obtain ⟨A1, c1, rfl, -, -⟩ := own_form o1
  have HO := Lib.hid o1
  have HB := Lib.hid b1
  clear o1 b1
  go_wp2_with fail
  refine (reverse_any _ A1 lf.n3 c1 f.undo w1 E3.out (by omega) HB.out.size HO.out).mono ?_
  rintro e w2 ⟨rfl, o2, b2⟩
  have HB2 := Lib.hid (HB.out.trans b2)
  have HBW := Lib.hid (HAL.out.trans (HB2.out.mono HAL.out.size))
  have HU2 : Hid (IsU w2 (.slice A1 lf.n3 c1) f.undo.reverse) := Lib.hid (by
    obtain ⟨A, c', h4, hcc, hs⟩ := own_form o2
    cases h4
    exact ⟨A1, c1, by rw [List.length_reverse, E3.out], by rw [List.length_reverse, E3.out]; exact hcc, hs⟩)
  clear o2 b2
  go_wp2_with fail
  refine (HC.out w2 HBW.out).mono ?_
  rintro e w3 ⟨v3, rfl, h3, b3⟩
  have H3 := Lib.hid h3
  have HU3 := Lib.hid (HU2.out.below b3)
  have HB3 := Lib.hid (HBW.out.trans (b3.mono HBW.out.size))
  clear h3 b3
  go_wp2
  go_ret2
  exact ⟨_, _, rfl, H3.out, HU3.out, HB3.out⟩

set_option maxRecDepth 100000 in
set_option maxHeartbeats 1000000 in
theorem drop_one (v : Value) (f : Lv) (w : World) (h : IsLs w v [f]) (m2 : SmallV 40000 f) :
    Calls Try.prog 16 #[v] w (RetDrop [⟨f.reads, [], []⟩] f.undo.reverse w) := by
  obtain ⟨b, off, c, lcs0, lf, rfl, hc, hlen, hb, -, hcell, hl0, hlf⟩ := IsLs.form (init := []) h
  obtain ⟨r0, r1, r2⟩ := at_last hlen hcell
  have hal : Below w.heap.size w (w.alloc (.cells #[.slice lf.A1 lf.n1 lf.c1, .slice lf.A2 lf.n2 lf.c2, .slice lf.A3 lf.n3 lf.c3] 62)) := (Below.refl _ _).alloc (Nat.le_refl _) _
  have HAL := Lib.hid hal
  have HLF := Lib.hid hlf
  have HU : Hid (Sees (w.alloc (.cells #[.slice lf.A1 lf.n1 lf.c1, .slice lf.A2 lf.n2 lf.c2, .slice lf.A3 lf.n3 lf.c3] 62)) (w.alloc (.cells #[.slice lf.A1 lf.n1 lf.c1, .slice lf.A2 lf.n2 lf.c2, .slice lf.A3 lf.n3 lf.c3] 62)).heap.size lf.A3 (f.undo.flatMap undC)) := Lib.hid ((hlf.s3.below hal).more hal.size)
  have E3 := Lib.hid hlf.e3
  have E1 := Lib.hid hlf.e1
  have hn3 : lf.n3 ≤ 40000 := by have := hlf.e3; have := m2.2.2; omega
  have hn1 : lf.n1 ≤ 40000 := by have := hlf.e1; have := m2.1; omega
  have s0 : (w.alloc (.cells #[.slice lf.A1 lf.n1 lf.c1, .slice lf.A2 lf.n2 lf.c2, .slice lf.A3 lf.n3 lf.c3] 62)).cell? ⟨w.heap.size, 0, none⟩ = some (.slice lf.A1 lf.n1 lf.c1) := by rw [World.cell?_alloc_at _ _ _ _ rfl]; rfl
  have S0 := Lib.hid s0
  simp only [List.length_nil, Nat.zero_mul, Nat.add_zero, Nat.zero_add] at r0 r1 r2 hc ⊢
  clear h hal hcell hl0 hlf hlen m2 s0
  go_enter Try.func16, Try.ntmps16
  go_wp2_with fail
  refine (cloneU_any lf.A3 lf.n3 lf.c3 (f.undo.flatMap undC) _ (by rw [flat_length und_len, E3.out]) (by omega) (flat_one und_one _) HU.out).mono ?_
  rintro e w1 ⟨v1, rfl, o1, b1⟩
  obtain ⟨A1, c1, rfl, -, -⟩ := own_form o1
  have HO := Lib.hid o1
  have HB := Lib.hid b1
  clear o1 b1
  go_wp2_with fail
  refine (reverse_any _ A1 lf.n3 c1 f.undo w1 E3.out (by omega) HB.out.size HO.out).mono ?_
  rintro e w2 ⟨rfl, o2, b2⟩
  have HB2 := Lib.hid (HB.out.trans b2)
  have HBW := Lib.hid (HAL.out.trans (HB2.out.mono HAL.out.size))
  have HU2 : Hid (IsU w2 (.slice A1 lf.n3 c1) f.undo.reverse) := Lib.hid (by
    obtain ⟨A, c', h4, hcc, hs⟩ := own_form o2
    cases h4
    exact ⟨A1, c1, by rw [List.length_reverse, E3.out], by rw [List.length_reverse, E3.out]; exact hcc, hs⟩)
  have s2 := (HB2.out.cell (p := ⟨w.heap.size, 0, none⟩) (by simp)).trans S0.out
  have HS2 := Lib.hid ((HLF.out.s1.below HBW.out).more HBW.out.size)
  clear o2 b2
  go_wp2_with fail
  refine (cloneS_any lf.A1 lf.n1 lf.c1 (f.reads.flatMap seenC) w2 (by rw [flat_length seen_len, E1.out]) (by omega) (flat_one seen_one _) HS2.out).mono ?_
  rintro e w3 ⟨v3, rfl, o3, b3⟩
  obtain ⟨A3, c3, rfl, hc3, hs3⟩ := own_form o3
  have HU3 := Lib.hid (HU2.out.below b3)
  have HB3 := Lib.hid (HBW.out.trans (b3.mono HBW.out.size))
  have hal3 : Below w3.heap.size w3 (w3.alloc (.cells #[.slice A3 lf.n1 c3, .slice none 0 0, .slice none 0 0] 62)) := (Below.refl _ _).alloc (Nat.le_refl _) _
  have HR : Hid (IsLs (w3.alloc (.cells #[.slice A3 lf.n1 c3, .slice none 0 0, .slice none 0 0] 62)) (.slice (some ⟨w3.heap.size, 0, none⟩) 1 1) [⟨f.reads, [], []⟩]) := Lib.hid (by
    refine ⟨_, 1, [⟨A3, lf.n1, c3, none, 0, 0, none, 0, 0⟩], rfl, Nat.le_refl _, ?_, .cons ⟨E1.out, rfl, rfl, hc3, Nat.le_refl _, Nat.le_refl _, (hs3.below hal3).more hal3.size, .nil, .nil⟩ .nil⟩
    exact (Sees.new w3 [.slice A3 lf.n1 c3, .slice none 0 0, .slice none 0 0] 62).more (by simp))
  have HU4 := Lib.hid (HU3.out.below hal3)
  have HB4 := Lib.hid (HB3.out.trans (hal3.mono HB3.out.size))
  clear o3 b3 hc3 hs3 hal3
  go_wp2
  go_ret2
  exact ⟨_, _, rfl, HR.out, HU4.out, HB4.out⟩
set_option maxRecDepth 100000 in
theorem drop_none (v : Value) (w : World) (h : IsLs w v []) : Calls Try.prog 16 #[v] w fun e w' => e = .returned (.tuple #[v, .slice none 0 0]) ∧ w = w' := by
  obtain ⟨A, c, lcs, rfl, -⟩ := h
  go_enter Try.func16, Try.ntmps16
  go_wp2
  go_ret2
  exact ⟨rfl, rfl⟩
end Go.Proofs.Ytiomfncbhbokpaa
