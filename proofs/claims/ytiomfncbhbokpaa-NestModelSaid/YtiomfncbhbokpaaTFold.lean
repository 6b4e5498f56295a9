import Derived.Test.YtiomfncbhbokpaaTOps
import Derived.Deep.RegionWith
namespace Go.Proofs.Ytiomfncbhbokpaa
open Go.RowKit
set_option linter.unusedVariables false

theorem IsLs.form {w : World} {v : Value} {init : List Lv} {f : Lv} (h : IsLs w v (init ++ [f])) : ∃ b off c lcs0 lf, v = .slice (some ⟨b, off, none⟩) (init.length + 1) c ∧ init.length + 1 ≤ c ∧ lcs0.length = init.length ∧ b < w.heap.size ∧ HasTag w b ∧
    (∀ j u, ((lcs0 ++ [lf]).flatMap lvC)[j]? = some u → w.cell? ⟨b, off + j, none⟩ = some u) ∧ Levs w w.heap.size lcs0 init ∧ Lev w w.heap.size lf f := by
  obtain ⟨A, c, lcs, rfl, hc, hs, hl⟩ := h
  obtain ⟨lcs0, lf, rfl, h1, h2⟩ := hl.split
  rcases hs with h | ⟨b, off, rfl, hb, hT, hcell⟩
  · simp [lvC] at h
  · exact ⟨b, off, c, lcs0, lf, by simp, by simpa using hc, h1.length, hb, hT, hcell, h1, h2⟩
theorem IsLs.cut {w : World} {b off c : Nat} {lcs0 : List LC} {lf : LC} {init : List Lv} (hc : init.length ≤ c) (hb : b < w.heap.size) (hT : HasTag w b) (hcell : ∀ j u, ((lcs0 ++ [lf]).flatMap lvC)[j]? = some u → w.cell? ⟨b, off + j, none⟩ = some u) (hl : Levs w w.heap.size lcs0 init) : IsLs w (.slice (some ⟨b, off, none⟩) init.length c) init := by
  refine ⟨_, c, lcs0, rfl, hc, .inr ⟨b, off, rfl, hb, hT, fun j u hj => hcell j u ?_⟩, hl⟩
  have hlt := (List.getElem?_eq_some_iff.1 hj).1
  rw [List.flatMap_append, List.getElem?_append_left hlt]
  exact hj
theorem at_last {w : World} {b off : Nat} {lcs0 : List LC} {lf : LC} {m : Nat} (hm : lcs0.length = m) (hcell : ∀ j u, ((lcs0 ++ [lf]).flatMap lvC)[j]? = some u → w.cell? ⟨b, off + j, none⟩ = some u) :
    w.cell? ⟨b, off + m * 3, none⟩ = some (.slice lf.A1 lf.n1 lf.c1) ∧ w.cell? ⟨b, off + m * 3 + 1, none⟩ = some (.slice lf.A2 lf.n2 lf.c2) ∧ w.cell? ⟨b, off + m * 3 + 2, none⟩ = some (.slice lf.A3 lf.n3 lf.c3) := by
  have hx : (lcs0 ++ [lf])[m]? = some lf := by rw [List.getElem?_append_right (by omega), hm, Nat.sub_self]; rfl
  have h0 := flat_get (f := lvC) lv_len _ m 0 lf hx (by omega)
  have h1 := flat_get (f := lvC) lv_len _ m 1 lf hx (by omega)
  have h2 := flat_get (f := lvC) lv_len _ m 2 lf hx (by omega)
  refine ⟨hcell _ _ ((show _ = _ from h0).trans rfl), ?_, ?_⟩
  · have := hcell _ _ (h1.trans (show _ = some (Value.slice lf.A2 lf.n2 lf.c2) from rfl)); rw [← Nat.add_assoc] at this; exact this
  · have := hcell _ _ (h2.trans (show _ = some (Value.slice lf.A3 lf.n3 lf.c3) from rfl)); rw [← Nat.add_assoc] at this; exact this
theorem LevAt.drew {w : World} {g o : Nat} {l : LC} (h : LevAt w g o l) : LevAt w.drew g o l := ⟨h.c1, h.c2, h.c3, h.f1, h.f2, h.f3⟩
theorem LevX.drew {w : World} {g : Nat} {l : LC} {v : Lv} (h : LevX w g l v) : LevX w.drew g l v := h.aside (Aside.of_below (Below.refl _ _).drew)

set_option maxRecDepth 100000 in
set_option maxHeartbeats 1000000 in
theorem fold1_all (g o bm bl bn b off N c n : Nat) (l lf : LC) (v f : Lv) (w : World) (hg : g < w.heap.size) (a0 : w.cell? ⟨bm, 0, none⟩ = some (.func (.func 38) #[] #[])) (a1 : w.cell? ⟨bm, 1, none⟩ = some (.func (.func 40) #[] #[])) (a2 : w.cell? ⟨bm, 2, none⟩ = some (.func (.func 51) #[] #[]))
    (a3 : w.cell? ⟨bl, 0, none⟩ = some (.slice (some ⟨b, off, none⟩) N c)) (a4 : w.cell? ⟨bn, 0, none⟩ = some (.int .i64 n)) (hn : n < N)
    (r0 : w.cell? ⟨b, off + n * 3, none⟩ = some (.slice lf.A1 lf.n1 lf.c1)) (r1 : w.cell? ⟨b, off + n * 3 + 1, none⟩ = some (.slice lf.A2 lf.n2 lf.c2)) (r2 : w.cell? ⟨b, off + n * 3 + 2, none⟩ = some (.slice lf.A3 lf.n3 lf.c3))
    (ha : LevAt w g o l) (hx : LevX w g l v) (hf : LevX w g lf f) (m1 : SmallV 40000 v) (m2 : SmallV 40000 f) :
    Calls Try.prog 61 #[.pointer (some ⟨g, o, none⟩), .pointer (some ⟨bm, 0, none⟩), .pointer (some ⟨bl, 0, none⟩), .pointer (some ⟨bn, 0, none⟩)] w (MutPost g o (joinL v f) w) := by
  have HJ := Lib.hid (join_all g o l lf v f w.drew hg ha.drew hx.drew hf.drew m1 m2)
  clear ha hx hf m1 m2
  go_enter Try.func61, Try.ntmps61
  go_wp2
  go_region_with (
    go_at_call 53
    refine HJ.out.mono ?_
    intro e w2 h
    obtain ⟨rfl, hm⟩ := id h
    have HM := Lib.hid (MutPost.from (Below.refl w.heap.size w).drew (show MutPost g o _ _ _ _ from ⟨rfl, hm⟩))
    clear h hm)
  all_goals
    go_wp2
    go_end0
    exact HM.out
set_option maxRecDepth 100000 in
set_option maxHeartbeats 1000000 in
theorem fold_all (v : Value) (init : List Lv) (v0 f : Lv) (w : World) (h : IsLs w v ((init ++ [v0]) ++ [f])) (hm : init.length ≤ 1000) (m1 : SmallV 40000 v0) (m2 : SmallV 40000 f) :
    Calls Try.prog 41 #[v, .agg #[.func (.func 38) #[] #[], .func (.func 40) #[] #[], .func (.func 51) #[] #[]]] w (RetLs (init ++ [joinL v0 f]) w) := by
  obtain ⟨b, off, c, lcs0, lf, rfl, hc, hlen, hb, hT, hcell, hl0, hlf⟩ := h.form
  obtain ⟨n, hn⟩ : ∃ n, n = (init ++ [v0]).length := ⟨_, rfl⟩
  rw [← hn] at hc hlen ⊢
  have hn2 : n ≤ 1001 := by rw [hn]; simp; omega
  obtain ⟨r0, r1, r2⟩ := at_last hlen hcell
  have hal : Below w.heap.size w (((w.alloc (.cells #[.slice (some ⟨b, off, none⟩) (n + 1) c] 22)).alloc (.cells #[.func (.func 38) #[] #[], .func (.func 40) #[] #[], .func (.func 51) #[] #[]] 73)).alloc (.cells #[.int .i64 n] 3)) := (below_2 w _ _).alloc (by simp; omega) _
  have hcut : IsLs w (.slice (some ⟨b, off, none⟩) n c) (init ++ [v0]) := by
    have := IsLs.cut (c := c) (by omega) hb hT hcell hl0
    rwa [← hn] at this
  have HC := Lib.hid (last61_any (w.heap.size + 1) w.heap.size (w.heap.size + 2) _ init v0 (joinL v0 f) _ (hcut.below hal) hm (Lib.hid (fun W g o l0 hbw h1 h2 ha hx => by
    have hbW : Below w.heap.size w W := hal.trans (hbw.mono hal.size)
    have hsz : w.heap.size + 3 ≤ g := by simpa using h1
    refine fold1_all g o (w.heap.size + 1) w.heap.size (w.heap.size + 2) b off (n + 1) c n l0 lf v0 f W h2 ?_ ?_ ?_ ?_ ?_ (by omega) ((hbW.cell (p := ⟨b, _, none⟩) hb).trans r0) ((hbW.cell (p := ⟨b, _, none⟩) hb).trans r1) ((hbW.cell (p := ⟨b, _, none⟩) hb).trans r2) ha hx (.of (hlf.below hbW) hbW.size (by omega)) m1 m2
    · rw [hbw.cell (p := ⟨w.heap.size + 1, 0, none⟩) (by simp), World.cell?_alloc_past _ _ _ (by simp), World.cell?_alloc_at _ _ _ _ (by simp)]; rfl
    · rw [hbw.cell (p := ⟨w.heap.size + 1, 1, none⟩) (by simp), World.cell?_alloc_past _ _ _ (by simp), World.cell?_alloc_at _ _ _ _ (by simp)]; rfl
    · rw [hbw.cell (p := ⟨w.heap.size + 1, 2, none⟩) (by simp), World.cell?_alloc_past _ _ _ (by simp), World.cell?_alloc_at _ _ _ _ (by simp)]; rfl
    · rw [hbw.cell (p := ⟨w.heap.size, 0, none⟩) (by simp; omega), World.cell?_alloc_past _ _ _ (by simp; omega), World.cell?_alloc_past _ _ _ (by simp), World.cell?_alloc_at _ _ _ _ rfl]; rfl
    · rw [hbw.cell (p := ⟨w.heap.size + 2, 0, none⟩) (by simp), World.cell?_alloc_at _ _ _ _ (by simp)]; rfl)))
  have HAL := Lib.hid hal
  clear h hal hcut hcell hl0 hlf r0 r1 r2 hlen m1 m2 hn
  have hnc : n ≤ c := by omega
  go_enter Try.func41, Try.ntmps41
  go_wp2_with fail
  refine HC.out.mono ?_
  intro e w2 h2
  obtain ⟨v2, rfl, h3, h4⟩ := retLs_from HAL.out h2
  have H3 := Lib.hid h3
  have H4 := Lib.hid h4
  clear h2 h3 h4
  go_wp2
  go_ret
  exact ⟨_, rfl, H3.out, H4.out⟩
set_option maxRecDepth 100000 in
set_option maxHeartbeats 1000000 in
theorem fold1_r (g o bm bl bn b off N c n : Nat) (l lf : LC) (v f : Lv) (w : World) (hg : g < w.heap.size) (a0 : w.cell? ⟨bm, 0, none⟩ = some (.func (.func 38) #[] #[])) (a1 : w.cell? ⟨bm, 1, none⟩ = some (.nilFunc)) (a2 : w.cell? ⟨bm, 2, none⟩ = some (.nilFunc))
    (a3 : w.cell? ⟨bl, 0, none⟩ = some (.slice (some ⟨b, off, none⟩) N c)) (a4 : w.cell? ⟨bn, 0, none⟩ = some (.int .i64 n)) (hn : n < N)
    (r0 : w.cell? ⟨b, off + n * 3, none⟩ = some (.slice lf.A1 lf.n1 lf.c1)) (r1 : w.cell? ⟨b, off + n * 3 + 1, none⟩ = some (.slice lf.A2 lf.n2 lf.c2)) (r2 : w.cell? ⟨b, off + n * 3 + 2, none⟩ = some (.slice lf.A3 lf.n3 lf.c3))
    (ha : LevAt w g o l) (hx : LevX w g l v) (hf : LevX w g lf f) (m1 : SmallV 40000 v) (m2 : SmallV 40000 f) :
    Calls Try.prog 61 #[.pointer (some ⟨g, o, none⟩), .pointer (some ⟨bm, 0, none⟩), .pointer (some ⟨bl, 0, none⟩), .pointer (some ⟨bn, 0, none⟩)] w (MutPost g o (joinR v f) w) := by
  have HJ := Lib.hid (join_r g o l lf v f w.drew hg ha.drew hx.drew hf.drew m1 m2)
  clear ha hx hf m1 m2
  go_enter Try.func61, Try.ntmps61
  go_wp2
  go_region_with (
    go_at_call 53
    refine HJ.out.mono ?_
    intro e w2 h
    obtain ⟨rfl, hm⟩ := id h
    have HM := Lib.hid (MutPost.from (Below.refl w.heap.size w).drew (show MutPost g o _ _ _ _ from ⟨rfl, hm⟩))
    clear h hm)
  all_goals
    go_wp2
    go_end0
    exact HM.out
set_option maxRecDepth 100000 in
set_option maxHeartbeats 1000000 in
theorem fold_r (v : Value) (init : List Lv) (v0 f : Lv) (w : World) (h : IsLs w v ((init ++ [v0]) ++ [f])) (hm : init.length ≤ 1000) (m1 : SmallV 40000 v0) (m2 : SmallV 40000 f) :
    Calls Try.prog 41 #[v, .agg #[.func (.func 38) #[] #[], .nilFunc, .nilFunc]] w (RetLs (init ++ [joinR v0 f]) w) := by
  obtain ⟨b, off, c, lcs0, lf, rfl, hc, hlen, hb, hT, hcell, hl0, hlf⟩ := h.form
  obtain ⟨n, hn⟩ : ∃ n, n = (init ++ [v0]).length := ⟨_, rfl⟩
  rw [← hn] at hc hlen ⊢
  have hn2 : n ≤ 1001 := by rw [hn]; simp; omega
  obtain ⟨r0, r1, r2⟩ := at_last hlen hcell
  have hal : Below w.heap.size w (((w.alloc (.cells #[.slice (some ⟨b, off, none⟩) (n + 1) c] 22)).alloc (.cells #[.func (.func 38) #[] #[], .nilFunc, .nilFunc] 73)).alloc (.cells #[.int .i64 n] 3)) := (below_2 w _ _).alloc (by simp; omega) _
  have hcut : IsLs w (.slice (some ⟨b, off, none⟩) n c) (init ++ [v0]) := by
    have := IsLs.cut (c := c) (by omega) hb hT hcell hl0
    rwa [← hn] at this
  have HC := Lib.hid (last61_any (w.heap.size + 1) w.heap.size (w.heap.size + 2) _ init v0 (joinR v0 f) _ (hcut.below hal) hm (Lib.hid (fun W g o l0 hbw h1 h2 ha hx => by
    have hbW : Below w.heap.size w W := hal.trans (hbw.mono hal.size)
    have hsz : w.heap.size + 3 ≤ g := by simpa using h1
    refine fold1_r g o (w.heap.size + 1) w.heap.size (w.heap.size + 2) b off (n + 1) c n l0 lf v0 f W h2 ?_ ?_ ?_ ?_ ?_ (by omega) ((hbW.cell (p := ⟨b, _, none⟩) hb).trans r0) ((hbW.cell (p := ⟨b, _, none⟩) hb).trans r1) ((hbW.cell (p := ⟨b, _, none⟩) hb).trans r2) ha hx (.of (hlf.below hbW) hbW.size (by omega)) m1 m2
    · rw [hbw.cell (p := ⟨w.heap.size + 1, 0, none⟩) (by simp), World.cell?_alloc_past _ _ _ (by simp), World.cell?_alloc_at _ _ _ _ (by simp)]; rfl
    · rw [hbw.cell (p := ⟨w.heap.size + 1, 1, none⟩) (by simp), World.cell?_alloc_past _ _ _ (by simp), World.cell?_alloc_at _ _ _ _ (by simp)]; rfl
    · rw [hbw.cell (p := ⟨w.heap.size + 1, 2, none⟩) (by simp), World.cell?_alloc_past _ _ _ (by simp), World.cell?_alloc_at _ _ _ _ (by simp)]; rfl
    · rw [hbw.cell (p := ⟨w.heap.size, 0, none⟩) (by simp; omega), World.cell?_alloc_past _ _ _ (by simp; omega), World.cell?_alloc_past _ _ _ (by simp), World.cell?_alloc_at _ _ _ _ rfl]; rfl
    · rw [hbw.cell (p := ⟨w.heap.size + 2, 0, none⟩) (by simp), World.cell?_alloc_at _ _ _ _ (by simp)]; rfl)))
  have HAL := Lib.hid hal
  clear h hal hcut hcell hl0 hlf r0 r1 r2 hlen m1 m2 hn
  have hnc : n ≤ c := by omega
  go_enter Try.func41, Try.ntmps41
  go_wp2_with fail
  refine HC.out.mono ?_
  intro e w2 h2
  obtain ⟨v2, rfl, h3, h4⟩ := retLs_from HAL.out h2
  have H3 := Lib.hid h3
  have H4 := Lib.hid h4
  clear h2 h3 h4
  go_wp2
  go_ret
  exact ⟨_, rfl, H3.out, H4.out⟩
end Go.Proofs.Ytiomfncbhbokpaa
