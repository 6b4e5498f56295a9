/- The reference's with: the levels with the innermost one replaced. -/
import Derived.Test.YtiomfncbhbokpaaShape
namespace Go.Proofs.Ytiomfncbhbokpaa
open Go.RowKit
set_option linter.unusedVariables false

theorem own_none1 (w : World) (o : Obj) (E size : Nat) : ((w.alloc o).alloc (.cells #[] E)).ownsRow (w.heap.size + 1) E size (.slice (some ⟨w.heap.size + 1, 0, none⟩) 0 0) 0 [] :=
  ⟨by simp, .inr ⟨w.heap.size + 1, 0, #[], rfl, Nat.le_refl _, by have := heap_alloc_new (w.alloc o) (.cells #[] E); rwa [World.size_alloc] at this, Nat.le_refl _, Nat.zero_le _, by simp, by simp⟩⟩
theorem own_lower {w : World} {b b' E size n : Nat} {v : Value} {xs : List Value} (h : w.ownsRow b E size v n xs) (hb : b' ≤ b) : w.ownsRow b' E size v n xs := by
  obtain ⟨h1, h2 | ⟨g, cap, cur, h3, h4, h5⟩⟩ := h
  · exact ⟨h1, .inl h2⟩
  · exact ⟨h1, .inr ⟨g, cap, cur, h3, by omega, h5⟩⟩
theorem putLev_below {B : Nat} {w w1 : World} {g o : Nat} (h : Below B w w1) (hg : B ≤ g) (l : LC) : Below B w (putLev w1 g o l) :=
  ((h.setCell (p := ⟨g, o, none⟩) hg _).setCell (p := ⟨g, o + 1, none⟩) hg _).setCell (p := ⟨g, o + 2, none⟩) hg _
set_option maxRecDepth 100000 in
set_option maxHeartbeats 1000000 in
theorem with_any (v : Value) (init : List Lv) (v0 v1 : Lv) (x : LC) (w : World) (h : IsLs w v (init ++ [v0])) (hm : init.length ≤ 1000) (hx : Lev w w.heap.size x v1) :
    Calls Try.prog 47 #[v, .agg #[.slice x.A1 x.n1 x.c1, .slice x.A2 x.n2 x.c2, .slice x.A3 x.n3 x.c3]] w (RetLs (init ++ [v1]) w) := by
  obtain ⟨i0, hi, hz0, hz1, hz2⟩ := info_parts Try.info62
  have HI := Lib.hid hi
  have HZ0 := Lib.hid hz0
  have HZ1 := Lib.hid hz1
  have HZ2 := Lib.hid hz2
  obtain ⟨A, c, lcs, rfl, hc, hs, hl⟩ := h
  obtain ⟨lcs0, l0, rfl, hl0, hlv⟩ := hl.split
  obtain ⟨m, hmm⟩ : ∃ m, m = init.length := ⟨_, rfl⟩
  have hL : (init ++ [v0]).length = m + 1 := by simp [hmm]
  rw [hL] at hc ⊢
  have hlen : lcs0.length = m := by rw [hl0.length, hmm]
  have hal : Below w.heap.size w (w.alloc (.cells #[.slice x.A1 x.n1 x.c1, .slice x.A2 x.n2 x.c2, .slice x.A3 x.n3 x.c3] 62)) := (Below.refl _ _).alloc (Nat.le_refl _) _
  have HXL : Hid (((lcs0 ++ [l0]).flatMap lvC).length = (m + 1) * 3) := Lib.hid (by rw [flat_length lv_len, List.length_append, hlen]; rfl)
  have HS := Lib.hid hs
  have HAL := Lib.hid hal
  have HL0 := Lib.hid hl0
  have HX := Lib.hid hx
  have HM := Lib.hid hmm
  have HLN := Lib.hid hlen
  have hm2 : m ≤ 1000 := by omega
  clear hs hl hl0 hlv hmm hL hlen hm hx hal hi hz0 hz1 hz2
  go_enter Try.func47, Try.ntmps47
  go_wp2_with (at_builtin; refine wpList_app rfl (.tmp 6) (.tmp 7) 22 rfl (w.heap.size + 1) 62 i0 (.agg #[.slice none 0 0, .slice none 0 0, .slice none 0 0]) 3 72 Try.underlying22 HI.out HZ0.out HZ1.out HZ2.out rfl (by decide) (own_none1 w _ 62 3) ((HS.out.alloc (Nat.le_refl _) _).alloc (by simp) _) HXL.out (flat_one lv_one _) rfl rfl (by unfold maxLen; omega) (by omega) (by simp) ?_)
  intro v2 w1 o1 b1
  have o2 : w1.ownsRow (w.heap.size + 1) 62 3 v2 (m + 1) ((lcs0 ++ [l0]).flatMap lvC) := own_cast o1 (by omega) (by simp)
  obtain ⟨g, c1, rfl, hg, hg2⟩ := World.ownsRow.form o2 (by omega)
  have hal2 : Below (w.heap.size + 1) (w.alloc (.cells #[.slice x.A1 x.n1 x.c1, .slice x.A2 x.n2 x.c2, .slice x.A3 x.n3 x.c3] 62)) w1 := ((Below.refl _ _).alloc (by simp) _).trans b1
  have k0 : w1.cell? ⟨w.heap.size, 0, none⟩ = some (.slice x.A1 x.n1 x.c1) := (hal2.cell (p := ⟨w.heap.size, 0, none⟩) (by simp)).trans (by rw [World.cell?_alloc_at _ _ _ _ rfl]; rfl)
  have k1 : w1.cell? ⟨w.heap.size, 1, none⟩ = some (.slice x.A2 x.n2 x.c2) := (hal2.cell (p := ⟨w.heap.size, 1, none⟩) (by simp)).trans (by rw [World.cell?_alloc_at _ _ _ _ rfl]; rfl)
  have k2 : w1.cell? ⟨w.heap.size, 2, none⟩ = some (.slice x.A3 x.n3 x.c3) := (hal2.cell (p := ⟨w.heap.size, 2, none⟩) (by simp)).trans (by rw [World.cell?_alloc_at _ _ _ _ rfl]; rfl)
  have B1 := Lib.hid (HAL.out.trans (hal2.mono (Nat.le_succ _)))
  have HO := Lib.hid (own_lower o2 (Nat.le_succ _))
  have f0 := o2.frozenAt (m * 3)
  have f1 := o2.frozenAt (m * 3 + 1)
  have f2 := o2.frozenAt (m * 3 + 2)
  have hx0 : (lcs0 ++ [l0])[m]? = some l0 := by rw [List.getElem?_append_right (by rw [HLN.out]; omega), HLN.out, Nat.sub_self]; rfl
  have c0 : w1.cell? ⟨g, m * 3, none⟩ = some (.slice l0.A1 l0.n1 l0.c1) := (o2.cellAt (m * 3) (by omega)).trans (flat_get lv_len _ m 0 l0 hx0 (by omega))
  have c1' : w1.cell? ⟨g, m * 3 + 1, none⟩ = some (.slice l0.A2 l0.n2 l0.c2) := (o2.cellAt (m * 3 + 1) (by omega)).trans (flat_get lv_len _ m 1 l0 hx0 (by omega))
  have c2 : w1.cell? ⟨g, m * 3 + 2, none⟩ = some (.slice l0.A3 l0.n3 l0.c3) := (o2.cellAt (m * 3 + 2) (by omega)).trans (flat_get lv_len _ m 2 l0 hx0 (by omega))
  have hT := ls_turned (v1 := v1) HLN.out HM.out.symm HL0.out B1.out (by omega) hg2 HO.out (.aside (.of (HX.out.below B1.out) B1.out.size (by omega)) (aside_put (l := x) (o := m * 3) (Below.refl _ _))) (Below.refl _ _)
  have HT := Lib.hid hT
  have hg2' := hg2
  clear o1 o2 b1 hal2 hx0 hT
  have hpos : ¬ ((m : Int) + 1 < 1) := by omega
  go_wp2
  go_ret
  exact ⟨_, rfl, HT.out.1, HT.out.2⟩
end Go.Proofs.Ytiomfncbhbokpaa
