/- The reference's Read and Put. -/
import Derived.Test.YtiomfncbhbokpaaRPuts
namespace Go.Proofs.Ytiomfncbhbokpaa
open Go.RowKit
set_option linter.unusedVariables false

set_option maxRecDepth 100000 in
set_option maxHeartbeats 2000000 in
theorem rread_any (v : Value) (init : List Lv) (v0 : Lv) (s : Seen) (w : World) (h : IsLs w v (init ++ [v0])) (hm : init.length ≤ 1000) (hr : v0.reads.length ≤ 80000) :
    Calls Try.prog 21 #[v, .agg #[.int .i64 s.loc, .int .i64 s.ver, .int .i64 s.val]] w (RetLs (init ++ [addR s v0]) w) := by
  have hal : Below w.heap.size w (w.alloc (.cells #[.int .i64 s.loc, .int .i64 s.ver, .int .i64 s.val] 30)) := (Below.refl _ _).alloc (Nat.le_refl _) _
  have b1 := Box3.new w (.int .i64 s.loc) (.int .i64 s.ver) (.int .i64 s.val) 30
  have H1 := Lib.hid (h.below hal)
  have HAL := Lib.hid hal
  obtain ⟨b, off, c, lcs0, lf, rfl, hc, hlen, hb, hcell, hl0, hlf⟩ := h.form
  obtain ⟨x0, x1, x2⟩ := at_last hlen hcell
  obtain ⟨m, hmm⟩ : ∃ m, m = init.length := ⟨_, rfl⟩
  rw [← hmm] at hc hm x0 x1 x2 H1 ⊢
  obtain ⟨N, hN⟩ : ∃ N, N = m + 1 := ⟨_, rfl⟩
  rw [← hN] at hc H1 ⊢
  have HRD := Lib.hid (rreads_any lf v0 s (w.alloc (.cells #[.int .i64 s.loc, .int .i64 s.ver, .int .i64 s.val] 30)).drew (((hlf.below hal).more hal.size).drewN 1) hr)
  have p0 := b1.c0
  have p1 := b1.c1
  have p2 := b1.c2
  have hpos : ¬ ((N : Int) = 0) := by omega
  have hmN : m < N := by omega
  have hsub : (N : Int) - 1 = (m : Int) := by omega
  have hwm : IntKind.i64.wrap (m : Int) = (m : Int) := by rw [IntKind.wrap_i64]; omega
  have y0 := (hal.cell (p := ⟨b, off + m * 3, none⟩) hb).trans x0
  have y1 := (hal.cell (p := ⟨b, off + m * 3 + 1, none⟩) hb).trans x1
  have y2 := (hal.cell (p := ⟨b, off + m * 3 + 2, none⟩) hb).trans x2
  have HM := Lib.hid (show init.length ≤ 1000 by rw [← hmm]; exact hm)
  clear h hcell hl0 hlf hb hlen b1 hmm hal x0 x1 x2 hN
  go_enter Try.func21, Try.ntmps21
  go_wp2
  go_region_with (first
    | (go_at_call 48
       refine HRD.out.mono ?_
       rintro e w2 ⟨l2, rfl, lv2, b2⟩
       have H2 := Lib.hid (H1.out.below (below_of_drew b2))
       have B2 := Lib.hid (HAL.out.trans ((below_of_drew b2).mono HAL.out.size))
       have LV2 := Lib.hid lv2
       clear lv2 b2)
    | (go_at_call 47
       refine (with_any _ init v0 (addR s v0) l2 w2 H2.out HM.out LV2.out).mono ?_
       rintro e w3 ⟨v3, rfl, i3, b3⟩
       have H3 := Lib.hid i3
       have B3 := Lib.hid (B2.out.trans (b3.mono B2.out.size))
       clear i3 b3))
  all_goals
    go_wp2
    go_ret
    exact ⟨_, rfl, H3.out, B3.out⟩
set_option maxRecDepth 100000 in
set_option maxHeartbeats 2000000 in
theorem rput_any (v : Value) (init : List Lv) (v0 : Lv) (s : Wr) (w : World) (h : IsLs w v (init ++ [v0])) (hm : init.length ≤ 1000) (hr : v0.writes.length ≤ 80000) :
    Calls Try.prog 22 #[v, .agg #[.int .i64 s.loc, .int .i64 s.val]] w (RetLs (init ++ [addW s v0]) w) := by
  have hal : Below w.heap.size w (w.alloc (.cells #[.int .i64 s.loc, .int .i64 s.val] 33)) := (Below.refl _ _).alloc (Nat.le_refl _) _
  have b1 := Box2.new w (.int .i64 s.loc) (.int .i64 s.val) 33
  have H1 := Lib.hid (h.below hal)
  have HAL := Lib.hid hal
  obtain ⟨b, off, c, lcs0, lf, rfl, hc, hlen, hb, hcell, hl0, hlf⟩ := h.form
  obtain ⟨x0, x1, x2⟩ := at_last hlen hcell
  obtain ⟨m, hmm⟩ : ∃ m, m = init.length := ⟨_, rfl⟩
  rw [← hmm] at hc hm x0 x1 x2 H1 ⊢
  obtain ⟨N, hN⟩ : ∃ N, N = m + 1 := ⟨_, rfl⟩
  rw [← hN] at hc H1 ⊢
  have HRD := Lib.hid (rputs_any lf v0 s (w.alloc (.cells #[.int .i64 s.loc, .int .i64 s.val] 33)).drew (((hlf.below hal).more hal.size).drewN 1) hr)
  have p0 := b1.c0
  have p1 := b1.c1
  have hpos : ¬ ((N : Int) = 0) := by omega
  have hmN : m < N := by omega
  have hsub : (N : Int) - 1 = (m : Int) := by omega
  have hwm : IntKind.i64.wrap (m : Int) = (m : Int) := by rw [IntKind.wrap_i64]; omega
  have y0 := (hal.cell (p := ⟨b, off + m * 3, none⟩) hb).trans x0
  have y1 := (hal.cell (p := ⟨b, off + m * 3 + 1, none⟩) hb).trans x1
  have y2 := (hal.cell (p := ⟨b, off + m * 3 + 2, none⟩) hb).trans x2
  have HM := Lib.hid (show init.length ≤ 1000 by rw [← hmm]; exact hm)
  clear h hcell hl0 hlf hb hlen b1 hmm hal x0 x1 x2 hN
  go_enter Try.func22, Try.ntmps22
  go_wp2
  go_region_with (first
    | (go_at_call 49
       refine HRD.out.mono ?_
       rintro e w2 ⟨l2, rfl, lv2, b2⟩
       have H2 := Lib.hid (H1.out.below (below_of_drew b2))
       have B2 := Lib.hid (HAL.out.trans ((below_of_drew b2).mono HAL.out.size))
       have LV2 := Lib.hid lv2
       clear lv2 b2)
    | (go_at_call 47
       refine (with_any _ init v0 (addW s v0) l2 w2 H2.out HM.out LV2.out).mono ?_
       rintro e w3 ⟨v3, rfl, i3, b3⟩
       have H3 := Lib.hid i3
       have B3 := Lib.hid (B2.out.trans (b3.mono B2.out.size))
       clear i3 b3))
  all_goals
    go_wp2
    go_ret
    exact ⟨_, rfl, H3.out, B3.out⟩
end Go.Proofs.Ytiomfncbhbokpaa
