/- The reference's Keep. -/
import Derived.Test.YtiomfncbhbokpaaROps
namespace Go.Proofs.Ytiomfncbhbokpaa
open Go.RowKit
set_option linter.unusedVariables false

/-- A box of five cells. -/
structure Box5 (w : World) (b : Nat) (x y z u v : Value) : Prop where
  c0 : w.cell? ⟨b, 0, none⟩ = some x
  c1 : w.cell? ⟨b, 1, none⟩ = some y
  c2 : w.cell? ⟨b, 2, none⟩ = some z
  c3 : w.cell? ⟨b, 3, none⟩ = some u
  c4 : w.cell? ⟨b, 4, none⟩ = some v
theorem Box5.new (w : World) (x y z u v : Value) (t : TypeId) : Box5 (w.alloc (.cells #[x, y, z, u, v] t)) w.heap.size x y z u v :=
  ⟨by rw [World.cell?_alloc_at _ _ _ _ rfl]; rfl, by rw [World.cell?_alloc_at _ _ _ _ rfl]; rfl, by rw [World.cell?_alloc_at _ _ _ _ rfl]; rfl, by rw [World.cell?_alloc_at _ _ _ _ rfl]; rfl, by rw [World.cell?_alloc_at _ _ _ _ rfl]; rfl⟩
theorem Box5.below {w w' : World} {b n : Nat} {x y z u v : Value} (h : Box5 w b x y z u v) (hb : Below n w w') (hlt : b < n) : Box5 w' b x y z u v :=
  ⟨(hb.cell (p := ⟨b, 0, none⟩) hlt).trans h.c0, (hb.cell (p := ⟨b, 1, none⟩) hlt).trans h.c1, (hb.cell (p := ⟨b, 2, none⟩) hlt).trans h.c2, (hb.cell (p := ⟨b, 3, none⟩) hlt).trans h.c3, (hb.cell (p := ⟨b, 4, none⟩) hlt).trans h.c4⟩
theorem Box3.set2 {w : World} {b : Nat} {x y z : Value} (h : Box3 w b x y z) (u : Value) : Box3 (w.setCell ⟨b, 2, none⟩ u) b x y u :=
  ⟨(cell_set_off _ _ _ _ _ (by omega)).trans h.c0, (cell_set_off _ _ _ _ _ (by omega)).trans h.c1, World.cell?_setCell_same (h := h.c2) .., by rw [World.frozen?_setCell]; exact h.f0, by rw [World.frozen?_setCell]; exact h.f1, by rw [World.frozen?_setCell]; exact h.f2⟩
/-- What stands behind the region that adds a compensation. -/
theorem undos_end {w W w5 : World} {lf : LC} {A5 : Option Addr} {m c5 : Nat} {v : Lv} {us : List Und} (hl : Lev w w.heap.size lf v) (hB : Below w.heap.size w W) (hsz : W.heap.size = w.heap.size + 2) (h5 : Below (w.heap.size + 2) W w5)
    (o5 : w5.ownsRow W.heap.size 50 5 (.slice A5 m c5) m (us.flatMap undC)) (hm : us.length = m) (hc : m ≤ c5) (hb0 : Box3 W (w.heap.size + 1) (.slice lf.A1 lf.n1 lf.c1) (.slice lf.A2 lf.n2 lf.c2) (.slice lf.A3 lf.n3 lf.c3)) :
    Box3 (w5.setCell ⟨w.heap.size + 1, 2, none⟩ (.slice A5 m c5)) (w.heap.size + 1) (.slice lf.A1 lf.n1 lf.c1) (.slice lf.A2 lf.n2 lf.c2) (.slice A5 m c5) ∧
      Lev (w5.setCell ⟨w.heap.size + 1, 2, none⟩ (.slice A5 m c5)) (w5.setCell ⟨w.heap.size + 1, 2, none⟩ (.slice A5 m c5)).heap.size ⟨lf.A1, lf.n1, lf.c1, lf.A2, lf.n2, lf.c2, A5, m, c5⟩ { v with undo := us } ∧ Below w.heap.size w (w5.setCell ⟨w.heap.size + 1, 2, none⟩ (.slice A5 m c5)) := by
  have hW : Below w.heap.size W (w5.setCell ⟨w.heap.size + 1, 2, none⟩ (.slice A5 m c5)) := (show Below w.heap.size W w5 from h5.mono (by omega)).setCell (p := ⟨w.heap.size + 1, 2, none⟩) (Nat.le_succ _) _
  have hle := (hB.trans hW).size
  exact ⟨(hb0.below h5 (by omega)).set2 _, ⟨hl.e1, hl.e2, hm, hl.m1, hl.m2, hc, (hl.s1.below (hB.trans hW)).more hle, (hl.s2.below (hB.trans hW)).more hle, Sees.of_own (ownsRow_setCell_below o5 (show w.heap.size + 1 < W.heap.size by omega) _)⟩, hB.trans hW⟩
set_option maxRecDepth 100000 in
set_option maxHeartbeats 4000000 in
theorem rkeep_any (v : Value) (init : List Lv) (v0 : Lv) (s : Und) (w : World) (h : IsLs w v (init ++ [v0])) (hm : init.length ≤ 1000) (hr : v0.undo.length ≤ 80000) :
    Calls Try.prog 24 #[v, .agg #[.int .i64 s.kind, .int .i64 s.n, .int .i64 s.m, .slice s.A s.len s.cap, .int .i64 s.lock]] w (RetLs (init ++ [addU s v0]) w) := by
  obtain ⟨i0, hi, hz0, hz1, hz2⟩ := info_parts Try.info50
  have HI := Lib.hid hi
  have HZ0 := Lib.hid hz0
  have HZ1 := Lib.hid hz1
  have HZ2 := Lib.hid hz2
  have H0 := Lib.hid h
  obtain ⟨b, off, c, lcs0, lf, rfl, hc, hlen, hb, hcell, hl0, hlf⟩ := h.form
  obtain ⟨x0, x1, x2⟩ := at_last hlen hcell
  have hal1 : Below w.heap.size w (w.alloc (.cells #[.int .i64 s.kind, .int .i64 s.n, .int .i64 s.m, .slice s.A s.len s.cap, .int .i64 s.lock] 50)) := (Below.refl _ _).alloc (Nat.le_refl _) _
  have hal : Below w.heap.size w ((w.alloc (.cells #[.int .i64 s.kind, .int .i64 s.n, .int .i64 s.m, .slice s.A s.len s.cap, .int .i64 s.lock] 50)).alloc (.cells #[.slice lf.A1 lf.n1 lf.c1, .slice lf.A2 lf.n2 lf.c2, .slice lf.A3 lf.n3 lf.c3] 62)) := hal1.alloc (by simp) _
  have b1 := (Box5.new w (.int .i64 s.kind) (.int .i64 s.n) (.int .i64 s.m) (.slice s.A s.len s.cap) (.int .i64 s.lock) 50).below ((Below.refl (w.heap.size + 1) _).alloc (by simp) (.cells #[.slice lf.A1 lf.n1 lf.c1, .slice lf.A2 lf.n2 lf.c2, .slice lf.A3 lf.n3 lf.c3] 62)) (by omega)
  have b0 := Box3.new (w.alloc (.cells #[.int .i64 s.kind, .int .i64 s.n, .int .i64 s.m, .slice s.A s.len s.cap, .int .i64 s.lock] 50)) (.slice lf.A1 lf.n1 lf.c1) (.slice lf.A2 lf.n2 lf.c2) (.slice lf.A3 lf.n3 lf.c3) 62
  simp only [World.size_alloc] at b0
  have hWs : ((w.alloc (.cells #[.int .i64 s.kind, .int .i64 s.n, .int .i64 s.m, .slice s.A s.len s.cap, .int .i64 s.lock] 50)).alloc (.cells #[.slice lf.A1 lf.n1 lf.c1, .slice lf.A2 lf.n2 lf.c2, .slice lf.A3 lf.n3 lf.c3] 62)).heap.size = w.heap.size + 2 := by simp
  have HAL := Lib.hid hal
  have C1 := Lib.hid b1
  have C0 := Lib.hid b0
  have HWS := Lib.hid hWs
  obtain ⟨m, hmm⟩ : ∃ m, m = init.length := ⟨_, rfl⟩
  rw [← hmm] at hc hm x0 x1 x2 H0 ⊢
  obtain ⟨N, hN⟩ : ∃ N, N = m + 1 := ⟨_, rfl⟩
  rw [← hN] at hc H0 ⊢
  have hpos : ¬ ((N : Int) = 0) := by omega
  have hmN : m < N := by omega
  have hsub : (N : Int) - 1 = (m : Int) := by omega
  have hwm : IntKind.i64.wrap (m : Int) = (m : Int) := by rw [IntKind.wrap_i64]; omega
  have y0 := (hal1.cell (p := ⟨b, off + m * 3, none⟩) hb).trans x0
  have y1 := (hal1.cell (p := ⟨b, off + m * 3 + 1, none⟩) hb).trans x1
  have y2 := (hal1.cell (p := ⟨b, off + m * 3 + 2, none⟩) hb).trans x2
  have HM := Lib.hid (show init.length ≤ 1000 by rw [← hmm]; exact hm)
  have E3 := Lib.hid hlf.e3
  have hm3 : lf.n3 ≤ 80000 := by rw [← E3.out]; exact hr
  have HSR := Lib.hid (hlf.s3.below hal)
  have HLF := Lib.hid hlf
  have hfl : Hid ((v0.undo.flatMap undC).length = lf.n3 * 5) := Lib.hid (by rw [flat_length und_len, E3.out])
  clear h hcell hl0 hlf hb hlen b0 b1 hmm hal hal1 x0 x1 x2 hN hr hi hz0 hz1 hz2 hWs
  go_enter Try.func24, Try.ntmps24
  go_wp2
  generalize (w.alloc (.cells #[.int .i64 s.kind, .int .i64 s.n, .int .i64 s.m, .slice s.A s.len s.cap, .int .i64 s.lock] 50)).alloc (.cells #[.slice lf.A1 lf.n1 lf.c1, .slice lf.A2 lf.n2 lf.c2, .slice lf.A3 lf.n3 lf.c3] 62) = W at *
  have hSn : w.heap.size + 2 ≤ W.heap.size := by rw [HWS.out]; exact Nat.le_refl _
  have r0 := C0.out.c2
  have r1 := C1.out.c0
  have r2 := C1.out.c1
  have r3 := C1.out.c2
  have r4 := C1.out.c3
  have r5 := C1.out.c4
  clear y0 y1 y2 hpos hmN hsub hwm
  have ze0 := (C0.out.below (w' := W.alloc (.cells #[] 50)) ((Below.refl (w.heap.size + 2) W).alloc hSn _) (by omega)).c2
  have ze1 := (C1.out.below (w' := W.alloc (.cells #[] 50)) ((Below.refl (w.heap.size + 2) W).alloc hSn _) (by omega)).c0
  have ze2 := (C1.out.below (w' := W.alloc (.cells #[] 50)) ((Below.refl (w.heap.size + 2) W).alloc hSn _) (by omega)).c1
  have ze3 := (C1.out.below (w' := W.alloc (.cells #[] 50)) ((Below.refl (w.heap.size + 2) W).alloc hSn _) (by omega)).c2
  have ze4 := (C1.out.below (w' := W.alloc (.cells #[] 50)) ((Below.refl (w.heap.size + 2) W).alloc hSn _) (by omega)).c3
  have ze5 := (C1.out.below (w' := W.alloc (.cells #[] 50)) ((Below.refl (w.heap.size + 2) W).alloc hSn _) (by omega)).c4
  have zf0 := (C0.out.below (w' := W.alloc (.cells #[.int .i64 s.kind, .int .i64 s.n, .int .i64 s.m, .slice s.A s.len s.cap, .int .i64 s.lock] 50)) ((Below.refl (w.heap.size + 2) W).alloc hSn _) (by omega)).c2
  have zf1 := (C1.out.below (w' := W.alloc (.cells #[.int .i64 s.kind, .int .i64 s.n, .int .i64 s.m, .slice s.A s.len s.cap, .int .i64 s.lock] 50)) ((Below.refl (w.heap.size + 2) W).alloc hSn _) (by omega)).c0
  have zf2 := (C1.out.below (w' := W.alloc (.cells #[.int .i64 s.kind, .int .i64 s.n, .int .i64 s.m, .slice s.A s.len s.cap, .int .i64 s.lock] 50)) ((Below.refl (w.heap.size + 2) W).alloc hSn _) (by omega)).c1
  have zf3 := (C1.out.below (w' := W.alloc (.cells #[.int .i64 s.kind, .int .i64 s.n, .int .i64 s.m, .slice s.A s.len s.cap, .int .i64 s.lock] 50)) ((Below.refl (w.heap.size + 2) W).alloc hSn _) (by omega)).c2
  have zf4 := (C1.out.below (w' := W.alloc (.cells #[.int .i64 s.kind, .int .i64 s.n, .int .i64 s.m, .slice s.A s.len s.cap, .int .i64 s.lock] 50)) ((Below.refl (w.heap.size + 2) W).alloc hSn _) (by omega)).c3
  have zf5 := (C1.out.below (w' := W.alloc (.cells #[.int .i64 s.kind, .int .i64 s.n, .int .i64 s.m, .slice s.A s.len s.cap, .int .i64 s.lock] 50)) ((Below.refl (w.heap.size + 2) W).alloc hSn _) (by omega)).c4
  have zef0 := (C0.out.below (w' := (W.alloc (.cells #[] 50)).alloc (.cells #[.int .i64 s.kind, .int .i64 s.n, .int .i64 s.m, .slice s.A s.len s.cap, .int .i64 s.lock] 50)) (((Below.refl (w.heap.size + 2) W).alloc hSn _).alloc (by simp <;> omega) _) (by omega)).c2
  have zef1 := (C1.out.below (w' := (W.alloc (.cells #[] 50)).alloc (.cells #[.int .i64 s.kind, .int .i64 s.n, .int .i64 s.m, .slice s.A s.len s.cap, .int .i64 s.lock] 50)) (((Below.refl (w.heap.size + 2) W).alloc hSn _).alloc (by simp <;> omega) _) (by omega)).c0
  have zef2 := (C1.out.below (w' := (W.alloc (.cells #[] 50)).alloc (.cells #[.int .i64 s.kind, .int .i64 s.n, .int .i64 s.m, .slice s.A s.len s.cap, .int .i64 s.lock] 50)) (((Below.refl (w.heap.size + 2) W).alloc hSn _).alloc (by simp <;> omega) _) (by omega)).c1
  have zef3 := (C1.out.below (w' := (W.alloc (.cells #[] 50)).alloc (.cells #[.int .i64 s.kind, .int .i64 s.n, .int .i64 s.m, .slice s.A s.len s.cap, .int .i64 s.lock] 50)) (((Below.refl (w.heap.size + 2) W).alloc hSn _).alloc (by simp <;> omega) _) (by omega)).c2
  have zef4 := (C1.out.below (w' := (W.alloc (.cells #[] 50)).alloc (.cells #[.int .i64 s.kind, .int .i64 s.n, .int .i64 s.m, .slice s.A s.len s.cap, .int .i64 s.lock] 50)) (((Below.refl (w.heap.size + 2) W).alloc hSn _).alloc (by simp <;> omega) _) (by omega)).c3
  have zef5 := (C1.out.below (w' := (W.alloc (.cells #[] 50)).alloc (.cells #[.int .i64 s.kind, .int .i64 s.n, .int .i64 s.m, .slice s.A s.len s.cap, .int .i64 s.lock] 50)) (((Below.refl (w.heap.size + 2) W).alloc hSn _).alloc (by simp <;> omega) _) (by omega)).c4
  have zfe0 := (C0.out.below (w' := (W.alloc (.cells #[.int .i64 s.kind, .int .i64 s.n, .int .i64 s.m, .slice s.A s.len s.cap, .int .i64 s.lock] 50)).alloc (.cells #[] 50)) (((Below.refl (w.heap.size + 2) W).alloc hSn _).alloc (by simp <;> omega) _) (by omega)).c2
  have zfe1 := (C1.out.below (w' := (W.alloc (.cells #[.int .i64 s.kind, .int .i64 s.n, .int .i64 s.m, .slice s.A s.len s.cap, .int .i64 s.lock] 50)).alloc (.cells #[] 50)) (((Below.refl (w.heap.size + 2) W).alloc hSn _).alloc (by simp <;> omega) _) (by omega)).c0
  have zfe2 := (C1.out.below (w' := (W.alloc (.cells #[.int .i64 s.kind, .int .i64 s.n, .int .i64 s.m, .slice s.A s.len s.cap, .int .i64 s.lock] 50)).alloc (.cells #[] 50)) (((Below.refl (w.heap.size + 2) W).alloc hSn _).alloc (by simp <;> omega) _) (by omega)).c1
  have zfe3 := (C1.out.below (w' := (W.alloc (.cells #[.int .i64 s.kind, .int .i64 s.n, .int .i64 s.m, .slice s.A s.len s.cap, .int .i64 s.lock] 50)).alloc (.cells #[] 50)) (((Below.refl (w.heap.size + 2) W).alloc hSn _).alloc (by simp <;> omega) _) (by omega)).c2
  have zfe4 := (C1.out.below (w' := (W.alloc (.cells #[.int .i64 s.kind, .int .i64 s.n, .int .i64 s.m, .slice s.A s.len s.cap, .int .i64 s.lock] 50)).alloc (.cells #[] 50)) (((Below.refl (w.heap.size + 2) W).alloc hSn _).alloc (by simp <;> omega) _) (by omega)).c3
  have zfe5 := (C1.out.below (w' := (W.alloc (.cells #[.int .i64 s.kind, .int .i64 s.n, .int .i64 s.m, .slice s.A s.len s.cap, .int .i64 s.lock] 50)).alloc (.cells #[] 50)) (((Below.refl (w.heap.size + 2) W).alloc hSn _).alloc (by simp <;> omega) _) (by omega)).c4
  go_region_law (first
    | (refine step_app2 rfl (.tmp 16) (.tmp 18) 34 rfl W.heap.size 50 i0 (.agg #[.int .i64 0, .int .i64 0, .int .i64 0, .slice none 0 0, .int .i64 0]) 5 56 Try.underlying34 HI.out HZ0.out HZ1.out HZ2.out rfl (by decide) (own_none W.drew 50 5) ((HSR.out.drewN 1).alloc (by show w.heap.size ≤ W.heap.size; omega) (.cells #[] 50)) hfl.out (flat_one und_one _) (by rfl) (by rfl) (by unfold maxLen; omega) (by omega) (by simp) ?_
       intro v3 w3 o3 b3 k3
       obtain ⟨A4, c4, rfl, -, -⟩ := own_form o3
       have B3 : Hid (Below (w.heap.size + 2) W w3) := Lib.hid (((Below.refl _ W).drew.alloc hSn _).trans (b3.mono hSn))
       have O3 : Hid (w3.ownsRow W.heap.size 50 5 (.slice A4 lf.n3 c4) lf.n3 (v0.undo.flatMap undC)) := Lib.hid (by have h := o3; rw [Nat.zero_add, List.nil_append] at h; exact h)
       have S3 : True := trivial
       have y0 := (C0.out.below B3.out (by omega)).c2
       have y1 := (C1.out.below B3.out (by omega)).c0
       have y2 := (C1.out.below B3.out (by omega)).c1
       have y3 := (C1.out.below B3.out (by omega)).c2
       have y4 := (C1.out.below B3.out (by omega)).c3
       have y5 := (C1.out.below B3.out (by omega)).c4
       clear o3 b3 k3)
    | (refine step_app2 rfl (.tmp 16) (.tmp 18) 34 rfl (W.heap.size + 1) 50 i0 (.agg #[.int .i64 0, .int .i64 0, .int .i64 0, .slice none 0 0, .int .i64 0]) 5 56 Try.underlying34 HI.out HZ0.out HZ1.out HZ2.out rfl (by decide) (own_none1 W.drew (.cells #[.int .i64 s.kind, .int .i64 s.n, .int .i64 s.m, .slice s.A s.len s.cap, .int .i64 s.lock] 50) 50 5) (((HSR.out.drewN 1).alloc (by show w.heap.size ≤ W.heap.size; omega) (.cells #[.int .i64 s.kind, .int .i64 s.n, .int .i64 s.m, .slice s.A s.len s.cap, .int .i64 s.lock] 50)).alloc (by simp <;> omega) (.cells #[] 50)) hfl.out (flat_one und_one _) (by rfl) (by rfl) (by unfold maxLen; omega) (by omega) (by simp) ?_
       intro v3 w3 o3 b3 k3
       obtain ⟨A4, c4, rfl, -, -⟩ := own_form o3
       have B3 : Hid (Below (w.heap.size + 2) W w3) := Lib.hid ((((Below.refl _ W).drew.alloc hSn _).alloc (by simp <;> omega) _).trans (b3.mono (by omega)))
       have O3 : Hid (w3.ownsRow W.heap.size 50 5 (.slice A4 lf.n3 c4) lf.n3 (v0.undo.flatMap undC)) := Lib.hid (by have h := own_lower o3 (Nat.le_succ _); rw [Nat.zero_add, List.nil_append] at h; exact h)
       have S3 : Hid (Sees w3 (W.heap.size + 1) (some ⟨W.heap.size, 0, none⟩) (undC s)) := Lib.hid (((Sees.new W.drew (undC s) 50).below ((Below.refl _ _).alloc (by simp) (.cells #[] 50))).below b3)
       have y0 := (C0.out.below B3.out (by omega)).c2
       have y1 := (C1.out.below B3.out (by omega)).c0
       have y2 := (C1.out.below B3.out (by omega)).c1
       have y3 := (C1.out.below B3.out (by omega)).c2
       have y4 := (C1.out.below B3.out (by omega)).c3
       have y5 := (C1.out.below B3.out (by omega)).c4
       clear o3 b3 k3)
    | (refine step_app2 rfl (.tmp 16) (.tmp 18) 34 rfl W.heap.size 50 i0 (.agg #[.int .i64 0, .int .i64 0, .int .i64 0, .slice none 0 0, .int .i64 0]) 5 56 Try.underlying34 HI.out HZ0.out HZ1.out HZ2.out rfl (by decide) (own_below (own_none W.drew 50 5) ((Below.refl _ _).alloc (Nat.le_refl _) (.cells #[.int .i64 s.kind, .int .i64 s.n, .int .i64 s.m, .slice s.A s.len s.cap, .int .i64 s.lock] 50))) (((HSR.out.drewN 1).alloc (by show w.heap.size ≤ W.heap.size; omega) (.cells #[] 50)).alloc (by simp <;> omega) (.cells #[.int .i64 s.kind, .int .i64 s.n, .int .i64 s.m, .slice s.A s.len s.cap, .int .i64 s.lock] 50)) hfl.out (flat_one und_one _) (by rfl) (by rfl) (by unfold maxLen; omega) (by omega) (by simp <;> omega) ?_
       intro v3 w3 o3 b3 k3
       obtain ⟨A4, c4, rfl, -, -⟩ := own_form o3
       have B3 : Hid (Below (w.heap.size + 2) W w3) := Lib.hid ((((Below.refl _ W).drew.alloc hSn _).alloc (by simp <;> omega) _).trans (b3.mono hSn))
       have O3 : Hid (w3.ownsRow W.heap.size 50 5 (.slice A4 lf.n3 c4) lf.n3 (v0.undo.flatMap undC)) := Lib.hid (by have h := o3; rw [Nat.zero_add, List.nil_append] at h; exact h)
       have S3 : Hid (Sees w3 (W.heap.size + 2) (some ⟨W.heap.size + 1, 0, none⟩) (undC s)) := Lib.hid ((sees_second W.drew (.cells #[] 50) (undC s) 50).block (k3 (W.heap.size + 1) (by simp) (by simp [Value.ownBlock])) (by omega))
       have y0 := (C0.out.below B3.out (by omega)).c2
       have y1 := (C1.out.below B3.out (by omega)).c0
       have y2 := (C1.out.below B3.out (by omega)).c1
       have y3 := (C1.out.below B3.out (by omega)).c2
       have y4 := (C1.out.below B3.out (by omega)).c3
       have y5 := (C1.out.below B3.out (by omega)).c4
       clear o3 b3 k3)
    | (refine step_app2 rfl (.tmp 19) (.tmp 21) 34 rfl W.heap.size 50 i0 (.agg #[.int .i64 0, .int .i64 0, .int .i64 0, .slice none 0 0, .int .i64 0]) 5 56 Try.underlying34 HI.out HZ0.out HZ1.out HZ2.out rfl (by decide) (own_below O3.out ((Below.refl _ _).alloc (Nat.le_refl _) (.cells #[.int .i64 s.kind, .int .i64 s.n, .int .i64 s.m, .slice s.A s.len s.cap, .int .i64 s.lock] 50))) (Sees.new w3 (undC s) 50) rfl (und_one s) (by rfl) (by rfl) (by unfold maxLen; omega) (by omega) (by have := B3.out.size; simp <;> omega) ?_
       intro v5 w5 o5 b5 k5
       obtain ⟨A5, c5, rfl, hc5, -⟩ := own_form o5
       have HC5 := Lib.hid hc5
       have B5 : Hid (Below (w.heap.size + 2) W w5) := Lib.hid ((B3.out.alloc (by have := B3.out.size; omega) (.cells #[.int .i64 s.kind, .int .i64 s.n, .int .i64 s.m, .slice s.A s.len s.cap, .int .i64 s.lock] 50)).trans (b5.mono hSn))
       have O5 := Lib.hid o5
       have u0 := (C0.out.below B5.out (by omega)).c0
       have u1 := (C0.out.below B5.out (by omega)).c1
       have u2 := (C0.out.below B5.out (by omega)).c2
       have u3 := (C0.out.below B5.out (by omega)).f2
       clear o5 b5 k5 hc5)
    | (refine step_app2 rfl (.tmp 19) (.tmp 21) 34 rfl W.heap.size 50 i0 (.agg #[.int .i64 0, .int .i64 0, .int .i64 0, .slice none 0 0, .int .i64 0]) 5 56 Try.underlying34 HI.out HZ0.out HZ1.out HZ2.out rfl (by decide) O3.out S3.out rfl (und_one s) (by rfl) (by rfl) (by unfold maxLen; omega) (by omega) B3.out.size ?_
       intro v5 w5 o5 b5 k5
       obtain ⟨A5, c5, rfl, hc5, -⟩ := own_form o5
       have HC5 := Lib.hid hc5
       have B5 : Hid (Below (w.heap.size + 2) W w5) := Lib.hid (B3.out.trans (b5.mono hSn))
       have O5 := Lib.hid o5
       have u0 := (C0.out.below B5.out (by omega)).c0
       have u1 := (C0.out.below B5.out (by omega)).c1
       have u2 := (C0.out.below B5.out (by omega)).c2
       have u3 := (C0.out.below B5.out (by omega)).f2
       clear o5 b5 k5 hc5))
  all_goals
    have hT := undos_end (us := v0.undo ++ [s]) HLF.out HAL.out HWS.out B5.out (own_cast O5.out rfl (by simp)) (by rw [List.length_append, E3.out]; rfl) HC5.out C0.out
    clear ze0 ze1 ze2 ze3 ze4 ze5 zf0 zf1 zf2 zf3 zf4 zf5 zef0 zef1 zef2 zef3 zef4 zef5 zfe0 zfe1 zfe2 zfe3 zfe4 zfe5 y0 y1 y2 y3 y4 y5 r0 r1 r2 r3 r4 r5 u0 u1 u2 u3 B3 O3 S3
    generalize w5.setCell ⟨w.heap.size + 1, 2, none⟩ (.slice A5 (lf.n3 + 1) c5) = X at hT ⊢
    have u0 := hT.1.c0
    have u1 := hT.1.c1
    have u2 := hT.1.c2
    have HT := Lib.hid hT.2
    clear hT
    go_wp2_with fail
    refine (with_any _ init v0 (addU s v0) ⟨lf.A1, lf.n1, lf.c1, lf.A2, lf.n2, lf.c2, A5, lf.n3 + 1, c5⟩ X (H0.out.below HT.out.2) HM.out HT.out.1).mono ?_
    rintro e w7 ⟨v7, rfl, i7, b7⟩
    have H7 := Lib.hid i7
    have B7 := Lib.hid (HT.out.2.trans (b7.mono HT.out.2.size))
    clear i7 b7
    go_wp2
    go_ret
    exact ⟨_, rfl, H7.out, B7.out⟩
end Go.Proofs.Ytiomfncbhbokpaa
