import Derived.Test.YtiomfncbhbokpaaTLast
namespace Go.Proofs.Ytiomfncbhbokpaa
open Go.RowKit
set_option linter.unusedVariables false

def zeroLC : LC := ⟨none, 0, 0, none, 0, 0, none, 0, 0⟩
def zeroLv : Lv := ⟨[], [], []⟩
theorem lev_zero (w : World) (B : Nat) : Lev w B zeroLC zeroLv := ⟨rfl, rfl, rfl, Nat.le_refl _, Nat.le_refl _, Nat.le_refl _, .nil, .nil, .nil⟩

set_option maxRecDepth 100000 in
theorem begin_any (v : Value) (ls : List Lv) (w : World) (h : IsLs w v ls) (hm : ls.length ≤ 1000) : Calls Try.prog 12 #[v] w (RetLs (ls ++ [zeroLv]) w) := by
  obtain ⟨i0, hi, hz0, hz1, hz2⟩ := info_parts Try.info62
  have HI := Lib.hid hi
  have HZ0 := Lib.hid hz0
  have HZ1 := Lib.hid hz1
  have HZ2 := Lib.hid hz2
  obtain ⟨A, c, lcs, rfl, hc, hs, hl⟩ := h
  obtain ⟨n, hn⟩ : ∃ n, n = ls.length := ⟨_, rfl⟩
  have HLL := Lib.hid hl.length
  rw [← hn] at hc hm ⊢
  have HN := Lib.hid hn
  have HS := Lib.hid hs
  have HL := Lib.hid hl
  clear hs hl hi hz0 hz1 hz2 hn
  go_enter Try.func12, Try.ntmps12
  go_wp2_with fail
  refine (cloneL_any A n c (lcs.flatMap lvC) w (by rw [flat_length lv_len, HLL.out, HN.out]) (by omega) (flat_one lv_one _) HS.out).mono ?_
  rintro e w1 ⟨v1, rfl, o1, b1⟩
  have HO := Lib.hid (own_below o1 ((Below.refl _ _).alloc (Nat.le_refl _) (.cells #[.slice none 0 0, .slice none 0 0, .slice none 0 0] 62)))
  have HB := Lib.hid b1
  clear o1 b1
  go_wp2_with (at_builtin; refine wpList_app rfl (.tmp 4) (.tmp 6) 22 rfl w.heap.size 62 i0 (.agg #[.slice none 0 0, .slice none 0 0, .slice none 0 0]) 3 72 Try.underlying22 HI.out HZ0.out HZ1.out HZ2.out rfl (by decide) HO.out (Sees.new w1 (lvC zeroLC) 62) rfl (lv_one zeroLC) rfl rfl (by unfold maxLen; omega) (by omega) (by have := HB.out.size; simp; omega) ?_)
  intro v2 w2 o2 b2
  have HB2 : Hid (Below w.heap.size w w2) := Lib.hid ((HB.out.alloc HB.out.size _).trans b2)
  obtain ⟨A2, c2, rfl, hc2, hs2⟩ := own_form o2
  have HR : Hid (IsLs w2 (.slice A2 (n + 1) c2) (ls ++ [zeroLv])) := Lib.hid (by
    refine ⟨A2, c2, lcs ++ [zeroLC], by simp [HN.out], by simpa [HN.out] using hc2, ?_, ((HL.out.kept HB2.out).more HB2.out.size).app (.cons (lev_zero _ _) .nil)⟩
    rw [List.flatMap_append]
    simpa using hs2)
  clear o2 b2 hc2 hs2
  go_wp2
  go_ret
  exact ⟨_, rfl, HR.out, HB2.out⟩

def addR (s : Seen) (v : Lv) : Lv := { v with reads := readL v.reads s }
def addW (s : Wr) (v : Lv) : Lv := { v with writes := putW v.writes s }
def addU (s : Und) (v : Lv) : Lv := { v with undo := v.undo ++ [s] }
theorem retLs_from {ls : List Lv} {w w1 w2 : World} {e : Ending} (hb : Below w.heap.size w w1) (h : RetLs ls w1 e w2) : RetLs ls w e w2 := by
  obtain ⟨v, rfl, h1, h2⟩ := h
  exact ⟨v, rfl, h1, hb.trans (h2.mono hb.size)⟩

set_option maxRecDepth 100000 in
theorem nread_any (v : Value) (init : List Lv) (v0 : Lv) (s : Seen) (w : World) (h : IsLs w v (init ++ [v0])) (hm : init.length ≤ 1000) (hr : v0.reads.length ≤ 80000) :
    Calls Try.prog 13 #[v, .agg #[.int .i64 s.loc, .int .i64 s.ver, .int .i64 s.val]] w (RetLs (init ++ [addR s v0]) w) := by
  have hal : Below w.heap.size w (w.alloc (.cells #[.int .i64 s.loc, .int .i64 s.ver, .int .i64 s.val] 30)) := (Below.refl _ _).alloc (Nat.le_refl _) _
  have HC := Lib.hid (last37_any w.heap.size v init v0 (addR s v0) _ (h.below hal) hm (Lib.hid (fun W g o l0 hb h1 h2 ha hx => by
    refine addRead_any g o w.heap.size l0 v0 s W h2 (by have := hb.size; simp at this; omega) ?_ ?_ ?_ ha hx hr
    · rw [hb.cell (p := ⟨w.heap.size, 0, none⟩) (by simp), World.cell?_alloc_at _ _ _ _ rfl]; rfl
    · rw [hb.cell (p := ⟨w.heap.size, 1, none⟩) (by simp), World.cell?_alloc_at _ _ _ _ rfl]; rfl
    · rw [hb.cell (p := ⟨w.heap.size, 2, none⟩) (by simp), World.cell?_alloc_at _ _ _ _ rfl]; rfl)))
  have HAL := Lib.hid hal
  clear h hal
  go_enter Try.func13, Try.ntmps13
  go_wp2_with fail
  refine HC.out.mono ?_
  intro e w2 h2
  obtain ⟨v2, rfl, h3, h4⟩ := retLs_from HAL.out h2
  have H3 := Lib.hid h3
  have H4 := Lib.hid h4
  clear h2 h3 h4
  go_wp2
  go_ret
  exact ⟨_, rfl, H3.out, H4.out⟩
set_option maxRecDepth 100000 in
theorem nput_any (v : Value) (init : List Lv) (v0 : Lv) (s : Wr) (w : World) (h : IsLs w v (init ++ [v0])) (hm : init.length ≤ 1000) (hr : v0.writes.length ≤ 80000) :
    Calls Try.prog 14 #[v, .agg #[.int .i64 s.loc, .int .i64 s.val]] w (RetLs (init ++ [addW s v0]) w) := by
  have hal : Below w.heap.size w (w.alloc (.cells #[.int .i64 s.loc, .int .i64 s.val] 33)) := (Below.refl _ _).alloc (Nat.le_refl _) _
  have HC := Lib.hid (last39_any w.heap.size v init v0 (addW s v0) _ (h.below hal) hm (Lib.hid (fun W g o l0 hb h1 h2 ha hx => by
    refine addWrite_any g o w.heap.size l0 v0 s W h2 (by have := hb.size; simp at this; omega) ?_ ?_ ha hx hr
    · rw [hb.cell (p := ⟨w.heap.size, 0, none⟩) (by simp), World.cell?_alloc_at _ _ _ _ rfl]; rfl
    · rw [hb.cell (p := ⟨w.heap.size, 1, none⟩) (by simp), World.cell?_alloc_at _ _ _ _ rfl]; rfl)))
  have HAL := Lib.hid hal
  clear h hal
  go_enter Try.func14, Try.ntmps14
  go_wp2_with fail
  refine HC.out.mono ?_
  intro e w2 h2
  obtain ⟨v2, rfl, h3, h4⟩ := retLs_from HAL.out h2
  have H3 := Lib.hid h3
  have H4 := Lib.hid h4
  clear h2 h3 h4
  go_wp2
  go_ret
  exact ⟨_, rfl, H3.out, H4.out⟩
set_option maxRecDepth 100000 in
theorem nkeep_any (v : Value) (init : List Lv) (v0 : Lv) (s : Und) (w : World) (h : IsLs w v (init ++ [v0])) (hm : init.length ≤ 1000) (hr : v0.undo.length ≤ 80000) :
    Calls Try.prog 23 #[v, .agg #[.int .i64 s.kind, .int .i64 s.n, .int .i64 s.m, .slice s.A s.len s.cap, .int .i64 s.lock]] w (RetLs (init ++ [addU s v0]) w) := by
  have hal : Below w.heap.size w (w.alloc (.cells #[.int .i64 s.kind, .int .i64 s.n, .int .i64 s.m, .slice s.A s.len s.cap, .int .i64 s.lock] 50)) := (Below.refl _ _).alloc (Nat.le_refl _) _
  have HC := Lib.hid (last50_any w.heap.size v init v0 (addU s v0) _ (h.below hal) hm (Lib.hid (fun W g o l0 hb h1 h2 ha hx => by
    refine addUndo_any g o w.heap.size l0 v0 s W h2 (by have := hb.size; simp at this; omega) ?_ ?_ ?_ ?_ ?_ ha hx hr
    · rw [hb.cell (p := ⟨w.heap.size, 0, none⟩) (by simp), World.cell?_alloc_at _ _ _ _ rfl]; rfl
    · rw [hb.cell (p := ⟨w.heap.size, 1, none⟩) (by simp), World.cell?_alloc_at _ _ _ _ rfl]; rfl
    · rw [hb.cell (p := ⟨w.heap.size, 2, none⟩) (by simp), World.cell?_alloc_at _ _ _ _ rfl]; rfl
    · rw [hb.cell (p := ⟨w.heap.size, 3, none⟩) (by simp), World.cell?_alloc_at _ _ _ _ rfl]; rfl
    · rw [hb.cell (p := ⟨w.heap.size, 4, none⟩) (by simp), World.cell?_alloc_at _ _ _ _ rfl]; rfl)))
  have HAL := Lib.hid hal
  clear h hal
  go_enter Try.func23, Try.ntmps23
  go_wp2_with fail
  refine HC.out.mono ?_
  intro e w2 h2
  obtain ⟨v2, rfl, h3, h4⟩ := retLs_from HAL.out h2
  have H3 := Lib.hid h3
  have H4 := Lib.hid h4
  clear h2 h3 h4
  go_wp2
  go_ret
  exact ⟨_, rfl, H3.out, H4.out⟩
end Go.Proofs.Ytiomfncbhbokpaa
