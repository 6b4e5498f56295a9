import Derived.Test.YtiomfncbhbokpaaTMerge
namespace Go.Proofs.Ytiomfncbhbokpaa
open Go.RowKit
set_option linter.unusedVariables false

theorem flat_set3 (ls : List LC) (k : Nat) (x : LC) : (((ls.flatMap lvC).set (k * 3) (.slice x.A1 x.n1 x.c1)).set (k * 3 + 1) (.slice x.A2 x.n2 x.c2)).set (k * 3 + 2) (.slice x.A3 x.n3 x.c3) = (ls.set k x).flatMap lvC := by
  induction ls generalizing k with
  | nil => simp
  | cons y r ih =>
    cases k with
    | zero => simp [lvC]
    | succ k =>
      rw [List.set_cons_succ, List.flatMap_cons, List.flatMap_cons, ← ih, show (k + 1) * 3 = k * 3 + 3 by omega]
      simp [lvC]
theorem Levs.split {w : World} {B : Nat} {ls : List LC} {vs : List Lv} {v : Lv} (h : Levs w B ls (vs ++ [v])) : ∃ ls0 l0, ls = ls0 ++ [l0] ∧ Levs w B ls0 vs ∧ Lev w B l0 v := by
  induction vs generalizing ls with
  | nil =>
    cases h with
    | cons h1 h2 =>
      cases h2
      exact ⟨[], _, rfl, .nil, h1⟩
  | cons u vs ih =>
    cases h with
    | cons h1 h2 =>
      obtain ⟨ls0, l0, rfl, h3, h4⟩ := ih h2
      exact ⟨_ :: ls0, l0, rfl, .cons h1 h3, h4⟩
def RetLs (ls : List Lv) (w : World) (e : Ending) (w' : World) : Prop := ∃ v, e = .returned v ∧ IsLs w' v ls ∧ Below w.heap.size w w'
/-- What stands behind a turn of the last level of a row of the call's own. -/
theorem ls_turned {w w1 w2 : World} {g c m : Nat} {lcs0 : List LC} {l0 l' : LC} {init : List Lv} {v1 : Lv} (hm : lcs0.length = m) (hi : init.length = m) (hl : Levs w w.heap.size lcs0 init) (hb1 : Below w.heap.size w w1) (hg : w.heap.size ≤ g) (hg2 : g < w1.heap.size)
    (o1 : w1.ownsRow w.heap.size 62 3 (.slice (some ⟨g, 0, none⟩) (m + 1) c) (m + 1) ((lcs0 ++ [l0]).flatMap lvC)) (hx : LevX w2 g l' v1) (hb : Below w1.heap.size (putLev w1 g (m * 3) l') w2) :
    IsLs w2 (.slice (some ⟨g, 0, none⟩) (m + 1) c) (init ++ [v1]) ∧ Below w.heap.size w w2 := by
  have ha := aside_put hb
  have hb2 : Below w.heap.size w w2 := hb1.trans (ha.below hb1.size hg)
  have o2 := ((o1.stored (m * 3) (.slice l'.A1 l'.n1 l'.c1)).1.stored (m * 3 + 1) (.slice l'.A2 l'.n2 l'.c2)).1.stored (m * 3 + 2) (.slice l'.A3 l'.n3 l'.c3)
  have o3 : (putLev w1 g (m * 3) l').ownsRow w.heap.size 62 3 (.slice (some ⟨g, 0, none⟩) (m + 1) c) (m + 1) ((lcs0 ++ [l']).flatMap lvC) := by
    have h := o2.1
    rw [flat_set3, show (lcs0 ++ [l0]).set m l' = lcs0 ++ [l'] by rw [List.set_append_right _ _ (by omega), hm, Nat.sub_self]; rfl] at h
    exact h
  have o4 := own_below o3 (hb.mono (by rw [putLev_size]; exact Nat.le_refl _))
  obtain ⟨A, c', h4, hc, hs⟩ := own_form o4
  cases h4
  refine ⟨⟨_, c, lcs0 ++ [l'], ?_, ?_, hs, ((hl.kept hb2).more hb2.size).app (.cons hx.lev .nil)⟩, hb2⟩
  · simp [hi]
  · simpa [hi] using hc

set_option maxRecDepth 100000 in
theorem last37_any (p0 : Nat) (v : Value) (init : List Lv) (v0 v1 : Lv) (w : World) (h : IsLs w v (init ++ [v0])) (hm : init.length ≤ 1000)
    (HK : Hid (∀ W g o l0, Below w.heap.size w W → w.heap.size ≤ g → g < W.heap.size → LevAt W g o l0 → LevX W g l0 v0 → Calls Try.prog 37 #[.pointer (some ⟨g, o, none⟩), .pointer (some ⟨p0, 0, none⟩)] W (MutPost g o v1 W))) :
    Calls Try.prog 36 #[v, .func (.func 37) #[] #[.pointer (some ⟨p0, 0, none⟩)]] w (RetLs (init ++ [v1]) w) := by
  obtain ⟨A, c, lcs, rfl, hc, hs, hl⟩ := h
  obtain ⟨lcs0, l0, rfl, hl0, hlv⟩ := hl.split
  obtain ⟨m, hmm⟩ : ∃ m, m = init.length := ⟨_, rfl⟩
  have hL : (init ++ [v0]).length = m + 1 := by simp [hmm]
  rw [hL] at hc ⊢
  have hlen : lcs0.length = m := by rw [hl0.length, hmm]
  have HS := Lib.hid hs
  have HL0 := Lib.hid hl0
  have HLV := Lib.hid hlv
  have HM := Lib.hid hmm
  have HLN := Lib.hid hlen
  have hm2 : m ≤ 1000 := by omega
  clear hs hl hl0 hlv hmm hL hlen hm
  go_enter Try.func36, Try.ntmps36
  go_wp2_with fail
  refine (cloneL_any A (m + 1) c ((lcs0 ++ [l0]).flatMap lvC) w (by rw [flat_length lv_len, List.length_append, HLN.out]; rfl) (by omega) (flat_one lv_one _) HS.out).mono ?_
  rintro e w1 ⟨v1', rfl, o1, b1⟩
  obtain ⟨g, c1, rfl, hg, hg2⟩ := World.ownsRow.form o1 (by omega)
  have HO := Lib.hid o1
  have HB := Lib.hid b1
  have HAT : Hid (LevAt w1 g (m * 3) l0) := Lib.hid (by
    have hx : (lcs0 ++ [l0])[m]? = some l0 := by rw [List.getElem?_append_right (by rw [HLN.out]; omega), HLN.out, Nat.sub_self]; rfl
    exact ⟨(o1.cellAt (m * 3) (by omega)).trans (flat_get lv_len _ m 0 l0 hx (by omega)), (o1.cellAt (m * 3 + 1) (by omega)).trans (flat_get lv_len _ m 1 l0 hx (by omega)), (o1.cellAt (m * 3 + 2) (by omega)).trans (flat_get lv_len _ m 2 l0 hx (by omega)), o1.frozenAt _, o1.frozenAt _, o1.frozenAt _⟩)
  have HLX : Hid (LevX w1 g l0 v0) := Lib.hid (.of (HLV.out.below b1) b1.size hg)
  clear o1 b1
  go_wp2_with fail
  refine (HK.out w1 g (m * 3) l0 HB.out hg hg2 HAT.out HLX.out).mono ?_
  rintro e w2 ⟨rfl, l', hx, hb⟩
  have HT := Lib.hid (ls_turned HLN.out HM.out.symm HL0.out HB.out hg hg2 HO.out hx hb)
  clear hx hb
  go_wp2
  go_ret
  exact ⟨_, rfl, HT.out.1, HT.out.2⟩
set_option maxRecDepth 100000 in
theorem last39_any (p0 : Nat) (v : Value) (init : List Lv) (v0 v1 : Lv) (w : World) (h : IsLs w v (init ++ [v0])) (hm : init.length ≤ 1000)
    (HK : Hid (∀ W g o l0, Below w.heap.size w W → w.heap.size ≤ g → g < W.heap.size → LevAt W g o l0 → LevX W g l0 v0 → Calls Try.prog 39 #[.pointer (some ⟨g, o, none⟩), .pointer (some ⟨p0, 0, none⟩)] W (MutPost g o v1 W))) :
    Calls Try.prog 36 #[v, .func (.func 39) #[] #[.pointer (some ⟨p0, 0, none⟩)]] w (RetLs (init ++ [v1]) w) := by
  obtain ⟨A, c, lcs, rfl, hc, hs, hl⟩ := h
  obtain ⟨lcs0, l0, rfl, hl0, hlv⟩ := hl.split
  obtain ⟨m, hmm⟩ : ∃ m, m = init.length := ⟨_, rfl⟩
  have hL : (init ++ [v0]).length = m + 1 := by simp [hmm]
  rw [hL] at hc ⊢
  have hlen : lcs0.length = m := by rw [hl0.length, hmm]
  have HS := Lib.hid hs
  have HL0 := Lib.hid hl0
  have HLV := Lib.hid hlv
  have HM := Lib.hid hmm
  have HLN := Lib.hid hlen
  have hm2 : m ≤ 1000 := by omega
  clear hs hl hl0 hlv hmm hL hlen hm
  go_enter Try.func36, Try.ntmps36
  go_wp2_with fail
  refine (cloneL_any A (m + 1) c ((lcs0 ++ [l0]).flatMap lvC) w (by rw [flat_length lv_len, List.length_append, HLN.out]; rfl) (by omega) (flat_one lv_one _) HS.out).mono ?_
  rintro e w1 ⟨v1', rfl, o1, b1⟩
  obtain ⟨g, c1, rfl, hg, hg2⟩ := World.ownsRow.form o1 (by omega)
  have HO := Lib.hid o1
  have HB := Lib.hid b1
  have HAT : Hid (LevAt w1 g (m * 3) l0) := Lib.hid (by
    have hx : (lcs0 ++ [l0])[m]? = some l0 := by rw [List.getElem?_append_right (by rw [HLN.out]; omega), HLN.out, Nat.sub_self]; rfl
    exact ⟨(o1.cellAt (m * 3) (by omega)).trans (flat_get lv_len _ m 0 l0 hx (by omega)), (o1.cellAt (m * 3 + 1) (by omega)).trans (flat_get lv_len _ m 1 l0 hx (by omega)), (o1.cellAt (m * 3 + 2) (by omega)).trans (flat_get lv_len _ m 2 l0 hx (by omega)), o1.frozenAt _, o1.frozenAt _, o1.frozenAt _⟩)
  have HLX : Hid (LevX w1 g l0 v0) := Lib.hid (.of (HLV.out.below b1) b1.size hg)
  clear o1 b1
  go_wp2_with fail
  refine (HK.out w1 g (m * 3) l0 HB.out hg hg2 HAT.out HLX.out).mono ?_
  rintro e w2 ⟨rfl, l', hx, hb⟩
  have HT := Lib.hid (ls_turned HLN.out HM.out.symm HL0.out HB.out hg hg2 HO.out hx hb)
  clear hx hb
  go_wp2
  go_ret
  exact ⟨_, rfl, HT.out.1, HT.out.2⟩
set_option maxRecDepth 100000 in
theorem last50_any (p0 : Nat) (v : Value) (init : List Lv) (v0 v1 : Lv) (w : World) (h : IsLs w v (init ++ [v0])) (hm : init.length ≤ 1000)
    (HK : Hid (∀ W g o l0, Below w.heap.size w W → w.heap.size ≤ g → g < W.heap.size → LevAt W g o l0 → LevX W g l0 v0 → Calls Try.prog 50 #[.pointer (some ⟨g, o, none⟩), .pointer (some ⟨p0, 0, none⟩)] W (MutPost g o v1 W))) :
    Calls Try.prog 36 #[v, .func (.func 50) #[] #[.pointer (some ⟨p0, 0, none⟩)]] w (RetLs (init ++ [v1]) w) := by
  obtain ⟨A, c, lcs, rfl, hc, hs, hl⟩ := h
  obtain ⟨lcs0, l0, rfl, hl0, hlv⟩ := hl.split
  obtain ⟨m, hmm⟩ : ∃ m, m = init.length := ⟨_, rfl⟩
  have hL : (init ++ [v0]).length = m + 1 := by simp [hmm]
  rw [hL] at hc ⊢
  have hlen : lcs0.length = m := by rw [hl0.length, hmm]
  have HS := Lib.hid hs
  have HL0 := Lib.hid hl0
  have HLV := Lib.hid hlv
  have HM := Lib.hid hmm
  have HLN := Lib.hid hlen
  have hm2 : m ≤ 1000 := by omega
  clear hs hl hl0 hlv hmm hL hlen hm
  go_enter Try.func36, Try.ntmps36
  go_wp2_with fail
  refine (cloneL_any A (m + 1) c ((lcs0 ++ [l0]).flatMap lvC) w (by rw [flat_length lv_len, List.length_append, HLN.out]; rfl) (by omega) (flat_one lv_one _) HS.out).mono ?_
  rintro e w1 ⟨v1', rfl, o1, b1⟩
  obtain ⟨g, c1, rfl, hg, hg2⟩ := World.ownsRow.form o1 (by omega)
  have HO := Lib.hid o1
  have HB := Lib.hid b1
  have HAT : Hid (LevAt w1 g (m * 3) l0) := Lib.hid (by
    have hx : (lcs0 ++ [l0])[m]? = some l0 := by rw [List.getElem?_append_right (by rw [HLN.out]; omega), HLN.out, Nat.sub_self]; rfl
    exact ⟨(o1.cellAt (m * 3) (by omega)).trans (flat_get lv_len _ m 0 l0 hx (by omega)), (o1.cellAt (m * 3 + 1) (by omega)).trans (flat_get lv_len _ m 1 l0 hx (by omega)), (o1.cellAt (m * 3 + 2) (by omega)).trans (flat_get lv_len _ m 2 l0 hx (by omega)), o1.frozenAt _, o1.frozenAt _, o1.frozenAt _⟩)
  have HLX : Hid (LevX w1 g l0 v0) := Lib.hid (.of (HLV.out.below b1) b1.size hg)
  clear o1 b1
  go_wp2_with fail
  refine (HK.out w1 g (m * 3) l0 HB.out hg hg2 HAT.out HLX.out).mono ?_
  rintro e w2 ⟨rfl, l', hx, hb⟩
  have HT := Lib.hid (ls_turned HLN.out HM.out.symm HL0.out HB.out hg hg2 HO.out hx hb)
  clear hx hb
  go_wp2
  go_ret
  exact ⟨_, rfl, HT.out.1, HT.out.2⟩
set_option maxRecDepth 100000 in
theorem last61_any (p0 p1 p2 : Nat) (v : Value) (init : List Lv) (v0 v1 : Lv) (w : World) (h : IsLs w v (init ++ [v0])) (hm : init.length ≤ 1000)
    (HK : Hid (∀ W g o l0, Below w.heap.size w W → w.heap.size ≤ g → g < W.heap.size → LevAt W g o l0 → LevX W g l0 v0 → Calls Try.prog 61 #[.pointer (some ⟨g, o, none⟩), .pointer (some ⟨p0, 0, none⟩), .pointer (some ⟨p1, 0, none⟩), .pointer (some ⟨p2, 0, none⟩)] W (MutPost g o v1 W))) :
    Calls Try.prog 36 #[v, .func (.func 61) #[] #[.pointer (some ⟨p0, 0, none⟩), .pointer (some ⟨p1, 0, none⟩), .pointer (some ⟨p2, 0, none⟩)]] w (RetLs (init ++ [v1]) w) := by
  obtain ⟨A, c, lcs, rfl, hc, hs, hl⟩ := h
  obtain ⟨lcs0, l0, rfl, hl0, hlv⟩ := hl.split
  obtain ⟨m, hmm⟩ : ∃ m, m = init.length := ⟨_, rfl⟩
  have hL : (init ++ [v0]).length = m + 1 := by simp [hmm]
  rw [hL] at hc ⊢
  have hlen : lcs0.length = m := by rw [hl0.length, hmm]
  have HS := Lib.hid hs
  have HL0 := Lib.hid hl0
  have HLV := Lib.hid hlv
  have HM := Lib.hid hmm
  have HLN := Lib.hid hlen
  have hm2 : m ≤ 1000 := by omega
  clear hs hl hl0 hlv hmm hL hlen hm
  go_enter Try.func36, Try.ntmps36
  go_wp2_with fail
  refine (cloneL_any A (m + 1) c ((lcs0 ++ [l0]).flatMap lvC) w (by rw [flat_length lv_len, List.length_append, HLN.out]; rfl) (by omega) (flat_one lv_one _) HS.out).mono ?_
  rintro e w1 ⟨v1', rfl, o1, b1⟩
  obtain ⟨g, c1, rfl, hg, hg2⟩ := World.ownsRow.form o1 (by omega)
  have HO := Lib.hid o1
  have HB := Lib.hid b1
  have HAT : Hid (LevAt w1 g (m * 3) l0) := Lib.hid (by
    have hx : (lcs0 ++ [l0])[m]? = some l0 := by rw [List.getElem?_append_right (by rw [HLN.out]; omega), HLN.out, Nat.sub_self]; rfl
    exact ⟨(o1.cellAt (m * 3) (by omega)).trans (flat_get lv_len _ m 0 l0 hx (by omega)), (o1.cellAt (m * 3 + 1) (by omega)).trans (flat_get lv_len _ m 1 l0 hx (by omega)), (o1.cellAt (m * 3 + 2) (by omega)).trans (flat_get lv_len _ m 2 l0 hx (by omega)), o1.frozenAt _, o1.frozenAt _, o1.frozenAt _⟩)
  have HLX : Hid (LevX w1 g l0 v0) := Lib.hid (.of (HLV.out.below b1) b1.size hg)
  clear o1 b1
  go_wp2_with fail
  refine (HK.out w1 g (m * 3) l0 HB.out hg hg2 HAT.out HLX.out).mono ?_
  rintro e w2 ⟨rfl, l', hx, hb⟩
  have HT := Lib.hid (ls_turned HLN.out HM.out.symm HL0.out HB.out hg hg2 HO.out hx hb)
  clear hx hb
  go_wp2
  go_ret
  exact ⟨_, rfl, HT.out.1, HT.out.2⟩
end Go.Proofs.Ytiomfncbhbokpaa
