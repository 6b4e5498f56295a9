/- The reference's Drop. -/
import Derived.Test.YtiomfncbhbokpaaREnd
namespace Go.Proofs.Ytiomfncbhbokpaa
open Go.RowKit
set_option linter.unusedVariables false

theorem drop_rev {α : Type} {xs : List α} {q : Nat} {x : α} (h : xs[q]? = some x) : (xs.drop q).reverse = (xs.drop (q + 1)).reverse ++ [x] := by
  obtain ⟨hlt, e⟩ := List.getElem?_eq_some_iff.1 h
  rw [List.drop_eq_getElem_cons hlt, List.reverse_cons, e]
set_option maxRecDepth 100000 in
set_option maxHeartbeats 4000000 in
theorem rdrop_many (v : Value) (init : List Lv) (v0 f : Lv) (w : World) (h : IsLs w v ((init ++ [v0]) ++ [f])) (hm : init.length ≤ 1000) (m1 : SmallV 1000 v0) (m2 : SmallV 1000 f) :
    Calls Try.prog 26 #[v] w (RetDrop (init ++ [joinR v0 f]) f.undo.reverse w) := by
  obtain ⟨i0, hi, hy0, hy1, hy2⟩ := info_parts Try.info50
  have HI0 := Lib.hid hi
  have HZ0 := Lib.hid hy0
  have HZ1 := Lib.hid hy1
  have HZ2 := Lib.hid hy2
  clear hi hy0 hy1 hy2
  obtain ⟨b, off, c, lcs0, lf, rfl, hc, hlen, hb, hcell, hl0, hlf⟩ := h.form
  obtain ⟨n, hn⟩ : ∃ n, n = (init ++ [v0]).length := ⟨_, rfl⟩
  rw [← hn] at hc hlen ⊢
  have hn2 : n ≤ 1001 := by rw [hn]; simp <;> omega
  have hn1 : 1 ≤ n := by rw [hn]; simp
  obtain ⟨x0, x1, x2⟩ := at_last hlen hcell
  have hcut : IsLs w (.slice (some ⟨b, off, none⟩) n c) (init ++ [v0]) := by
    have := IsLs.cut (c := c) (by omega) hb hcell hl0
    rwa [← hn] at this
  obtain ⟨N, hN⟩ : ∃ N, N = n + 1 := ⟨_, rfl⟩
  rw [← hN] at hc ⊢
  have hge : ¬ ((N : Int) = 0) := by omega
  have hge1 : ¬ ((N : Int) = 1) := by omega
  have hnN : n < N := by omega
  have hsub : (N : Int) - 1 = (n : Int) := by omega
  have hwn : IntKind.i64.wrap (n : Int) = (n : Int) := by rw [IntKind.wrap_i64]; omega
  have hnc : n ≤ c := by omega
  have hal : Below w.heap.size w (w.alloc (.cells #[.slice lf.A1 lf.n1 lf.c1, .slice lf.A2 lf.n2 lf.c2, .slice lf.A3 lf.n3 lf.c3] 62)) := (Below.refl _ _).alloc (Nat.le_refl _) _
  have HAL := Lib.hid hal
  have HI := Lib.hid (hcut.below hal)
  have HCX := Lib.hid (Box3.new w (.slice lf.A1 lf.n1 lf.c1) (.slice lf.A2 lf.n2 lf.c2) (.slice lf.A3 lf.n3 lf.c3) 62)
  have HLF := Lib.hid ((hlf.below hal).more hal.size)
  have HLT : Hid (w.heap.size < (w.alloc (.cells #[.slice lf.A1 lf.n1 lf.c1, .slice lf.A2 lf.n2 lf.c2, .slice lf.A3 lf.n3 lf.c3] 62)).heap.size) := Lib.hid (by simp)
  have hmn1 : lf.n1 ≤ 1000 := by rw [← hlf.e1]; exact m2.1
  have hmn2 : lf.n2 ≤ 1000 := by rw [← hlf.e2]; exact m2.2.1
  have hmn3 : lf.n3 ≤ 1000 := by rw [← hlf.e3]; exact m2.2.2
  have HM := Lib.hid hm
  have HM1 := Lib.hid m1
  have HM2 := Lib.hid m2
  clear h hcell hl0 hlf hcut hlen hal m1 m2 hm hn hN hb
  obtain ⟨A1, n1, c1, A2, n2, c2, A3, n3, c3⟩ := lf
  dsimp only at x0 x1 x2 HAL HI HCX HLT hmn1 hmn2 hmn3
  have E1 := Lib.hid (show f.reads.length = n1 from HLF.out.e1)
  have E2 := Lib.hid (show f.writes.length = n2 from HLF.out.e2)
  have E3 := Lib.hid (show f.undo.length = n3 from HLF.out.e3)
  go_enter Try.func26, Try.ntmps26
  go_wp2
  generalize w.alloc (.cells #[.slice A1 n1 c1, .slice A2 n2 c2, .slice A3 n3 c3] 62) = X0 at *
  have HB : Hid (Below X0.heap.size X0 X0) := Lib.hid (Below.refl _ _)
  clear x0 x1 x2
  go_loopw [5, 6] (fun o i wr => ∃ z : Int, -1 ≤ z ∧ z < n3 ∧ i = .int .i64 z ∧ Hid (wr.ownsRow X0.heap.size 50 5 o ((f.undo.drop (z + 1).toNat).reverse).length (((f.undo.drop (z + 1).toNat).reverse).flatMap undC)) ∧ Hid (Below X0.heap.size X0 wr)) (fun _ i _ => (intOf i + 1).toNat)
  case atStart => exact ⟨(n3 : Int) - 1, by omega, by omega, rfl, Lib.hid (by
    rw [show ((n3 : Int) - 1 + 1).toNat = n3 by omega, List.drop_of_length_le (by rw [E3.out]; omega)]
    exact ⟨rfl, .inl ⟨rfl, rfl⟩⟩), HB⟩
  case round =>
    obtain ⟨z, hz1, hz2, rfl, HO, HB⟩ := hrel
    have q2 := (HCX.out.below HB.out HLT.out).c2
    by_cases hz : 0 ≤ z
    · obtain ⟨q, rfl⟩ : ∃ q : Nat, z = q := ⟨z.toNat, by omega⟩
      have hq : q < n3 := by omega
      have hx : f.undo[q]? = some (f.undo[q]'(by rw [E3.out]; exact hq)) := List.getElem?_eq_getElem _
      generalize f.undo[q]'(by rw [E3.out]; exact hq) = x at hx
      obtain ⟨b, off, hA, -, x0, x1, x2, x3, x4⟩ := (HLF.out.s3.below HB.out).at5 hx
      dsimp only at hA
      have HN := Lib.hid (drop_rev hx)
      have hln : ((f.undo.drop ((q : Int) + 1).toNat).reverse).length ≤ 1000 := by rw [List.length_reverse, List.length_drop, E3.out]; omega
      rw [show ((q : Int) + 1).toNat = q + 1 by omega] at HO hln
      generalize (f.undo.drop (q + 1)).reverse = L at HO HN hln
      subst hA
      clear hx hz hz1 hz2
      go_wp2_with (at_builtin; refine wpList_push rfl (.tmp 27) (.tmp 33) 34 rfl X0.heap.size 50 i0 (.agg #[.int .i64 0, .int .i64 0, .int .i64 0, .slice none 0 0, .int .i64 0]) 5 56 Try.underlying34 HI0.out HZ0.out HZ1.out HZ2.out rfl (by decide) HO.out (us := #[.int .i64 x.kind, .int .i64 x.n, .int .i64 x.m, .slice x.A x.len x.cap, .int .i64 x.lock]) (m := 1) rfl rfl (by rfl) (by rfl) (by unfold maxLen; omega) (by omega) HB.out.size ?_)
      intro v9 w9 o9 b9
      have O9 : Hid (w9.ownsRow X0.heap.size 50 5 v9 ((f.undo.drop q).reverse).length (((f.undo.drop q).reverse).flatMap undC)) := Lib.hid (own_cast o9 (by rw [HN.out]; simp) (by rw [HN.out]; simp [undC]))
      have B9 := Lib.hid (HB.out.trans b9)
      clear o9 b9
      go_wp2
      go_roundw
      case rel => exact ⟨(q : Int) - 1, by omega, by omega, by go_num, by rw [show ((q : Int) - 1 + 1).toNat = q by omega]; exact O9, B9⟩
      case measure => simp [intOf] <;> omega
    · have ho2 := HO.out
      rw [show (z + 1).toNat = 0 by omega, List.drop_zero] at ho2
      obtain ⟨A9, c9, rfl, hc9, hs9⟩ := own_form ho2
      rw [List.length_reverse, E3.out] at hc9 ⊢
      have ⟨X1, hX1⟩ : ∃ X1, X1 = wr := ⟨_, rfl⟩
      subst hX1
      have HU := Lib.hid (show Sees X1 X1.heap.size A9 (f.undo.reverse.flatMap undC) from hs9)
      have HC9 := Lib.hid hc9
      have HI := Lib.hid (HI.out.below HB.out)
      have HCX := Lib.hid (HCX.out.below HB.out HLT.out)
      have HLF := Lib.hid ((HLF.out.below HB.out).more HB.out.size)
      have HLT := Lib.hid (Nat.lt_of_lt_of_le HLT.out HB.out.size)
      have HAL := Lib.hid (HAL.out.trans (HB.out.mono HAL.out.size))
      have q0 := HCX.out.c0
      clear HB HO ho2 hs9 hc9 hz1
      have HB : Hid (Below X1.heap.size X1 X1) := Lib.hid (Below.refl _ _)
      go_wp2
      go_loopw [7, 8] (fun o i wr => ∃ k : Nat, k ≤ n1 ∧ i = .int .i64 k ∧ Hid (IsLs wr o (init ++ [(f.reads.take k).foldl (fun a s => addR s a) (v0)])) ∧ Hid (Below X1.heap.size X1 wr)) (fun _ i _ => n1 - (intOf i).toNat)
      case atStart => exact ⟨0, Nat.zero_le _, rfl, HI, HB⟩
      case round =>
        obtain ⟨k, hk, rfl, HI, HB⟩ := hrel
        have q0 := (HCX.out.below HB.out HLT.out).c0
        by_cases hlt : k < n1
        · have hx : f.reads[k]? = some (f.reads[k]'(by rw [E1.out]; exact hlt)) := List.getElem?_eq_getElem _
          generalize f.reads[k]'(by rw [E1.out]; exact hlt) = x at hx
          obtain ⟨b, off, hA, -, x0, x1, x2⟩ := (HLF.out.s1.below HB.out).at3 hx
          have HN := Lib.hid (take_next (f := fun a s => addR s a) hx (v0))
          have HSZ := Lib.hid (folds_R (f.reads.take k) (v := v0) HM1.out)
          dsimp only at hA
          subst hA
          clear hx
          go_wp2_with fail
          refine (rread_any _ init _ x _ HI.out HM.out (by have := HSZ.out.1; have h2 := HM2.out.1; have h4 := HM2.out.2.1; have h5 := HM2.out.2.2; have h3 : (f.reads.take k).length ≤ f.reads.length := List.length_take_le' _ _; omega)).mono ?_
          rintro e w5 ⟨v5, rfl, i5, b5⟩
          have B5 := Lib.hid (HB.out.trans (b5.mono HB.out.size))
          have I5 := Lib.hid i5
          clear i5 b5
          go_wp2
          go_roundw
          case rel => exact ⟨k + 1, by omega, by go_num, by rw [HN.out]; exact I5, B5⟩
          case measure => simp [intOf]; omega
        · have hkn : k = n1 := by omega
          have HI2 := Lib.hid (show IsLs wr _ (init ++ [f.reads.foldl (fun a s => addR s a) (v0)]) by
            have h := HI.out
            rwa [List.take_of_length_le (by rw [E1.out]; omega)] at h)
          subst hkn
          clear hlt
          go_wp2
          go_ret2
          exact ⟨_, _, rfl, by rw [← folds_joinR]; exact HI2.out, ⟨A9, c9, by rw [List.length_reverse, E3.out] <;> rfl, by rw [List.length_reverse, E3.out]; exact HC9.out, (HU.out.below HB.out).more HB.out.size⟩, HAL.out.trans (HB.out.mono HAL.out.size)⟩
set_option maxRecDepth 100000 in
set_option maxHeartbeats 4000000 in
theorem rdrop_one (v : Value) (f : Lv) (w : World) (h : IsLs w v [f]) (m2 : SmallV 1000 f) : Calls Try.prog 26 #[v] w (RetDrop [⟨f.reads, [], []⟩] f.undo.reverse w) := by
  obtain ⟨i0, hi, hy0, hy1, hy2⟩ := info_parts Try.info50
  have HI0 := Lib.hid hi
  have HZ0 := Lib.hid hy0
  have HZ1 := Lib.hid hy1
  have HZ2 := Lib.hid hy2
  clear hi hy0 hy1 hy2
  obtain ⟨A, c, lcs, rfl, hc, hs, hl⟩ := h
  obtain ⟨lf, hlc, hlf⟩ := hl.get 0 f rfl
  obtain ⟨b, off, rfl, hb, x0, x1, x2⟩ := ls_cells hs hlc
  simp only [Nat.zero_mul, Nat.add_zero] at x0 x1 x2
  have hal : Below w.heap.size w (w.alloc (.cells #[.slice lf.A1 lf.n1 lf.c1, .slice lf.A2 lf.n2 lf.c2, .slice lf.A3 lf.n3 lf.c3] 62)) := (Below.refl _ _).alloc (Nat.le_refl _) _
  have HAL := Lib.hid hal
  have HCX := Lib.hid (Box3.new w (.slice lf.A1 lf.n1 lf.c1) (.slice lf.A2 lf.n2 lf.c2) (.slice lf.A3 lf.n3 lf.c3) 62)
  have HLF := Lib.hid ((hlf.below hal).more hal.size)
  have HLT : Hid (w.heap.size < (w.alloc (.cells #[.slice lf.A1 lf.n1 lf.c1, .slice lf.A2 lf.n2 lf.c2, .slice lf.A3 lf.n3 lf.c3] 62)).heap.size) := Lib.hid (by simp)
  have hmn3 : lf.n3 ≤ 1000 := by rw [← hlf.e3]; exact m2.2.2
  clear hs hl hlc hlf hal m2 hb
  obtain ⟨A1, n1, c1, A2, n2, c2, A3, n3, c3⟩ := lf
  dsimp only at x0 x1 x2 HAL HCX HLT hmn3
  have E1 := Lib.hid (show f.reads.length = n1 from HLF.out.e1)
  have E3 := Lib.hid (show f.undo.length = n3 from HLF.out.e3)
  simp only [List.length_cons, List.length_nil, Nat.zero_add] at hc ⊢
  go_enter Try.func26, Try.ntmps26
  go_wp2
  generalize w.alloc (.cells #[.slice A1 n1 c1, .slice A2 n2 c2, .slice A3 n3 c3] 62) = X0 at *
  have HB : Hid (Below X0.heap.size X0 X0) := Lib.hid (Below.refl _ _)
  clear x0 x1 x2
  go_loopw [5, 6] (fun o i wr => ∃ z : Int, -1 ≤ z ∧ z < n3 ∧ i = .int .i64 z ∧ Hid (wr.ownsRow X0.heap.size 50 5 o ((f.undo.drop (z + 1).toNat).reverse).length (((f.undo.drop (z + 1).toNat).reverse).flatMap undC)) ∧ Hid (Below X0.heap.size X0 wr)) (fun _ i _ => (intOf i + 1).toNat)
  case atStart => exact ⟨(n3 : Int) - 1, by omega, by omega, rfl, Lib.hid (by
    rw [show ((n3 : Int) - 1 + 1).toNat = n3 by omega, List.drop_of_length_le (by rw [E3.out]; omega)]
    exact ⟨rfl, .inl ⟨rfl, rfl⟩⟩), HB⟩
  case round =>
    obtain ⟨z, hz1, hz2, rfl, HO, HB⟩ := hrel
    have q2 := (HCX.out.below HB.out HLT.out).c2
    by_cases hz : 0 ≤ z
    · obtain ⟨q, rfl⟩ : ∃ q : Nat, z = q := ⟨z.toNat, by omega⟩
      have hq : q < n3 := by omega
      have hx : f.undo[q]? = some (f.undo[q]'(by rw [E3.out]; exact hq)) := List.getElem?_eq_getElem _
      generalize f.undo[q]'(by rw [E3.out]; exact hq) = x at hx
      obtain ⟨b, off, hA, -, x0, x1, x2, x3, x4⟩ := (HLF.out.s3.below HB.out).at5 hx
      dsimp only at hA
      have HN := Lib.hid (drop_rev hx)
      have hln : ((f.undo.drop ((q : Int) + 1).toNat).reverse).length ≤ 1000 := by rw [List.length_reverse, List.length_drop, E3.out]; omega
      rw [show ((q : Int) + 1).toNat = q + 1 by omega] at HO hln
      generalize (f.undo.drop (q + 1)).reverse = L at HO HN hln
      subst hA
      clear hx hz hz1 hz2
      go_wp2_with (at_builtin; refine wpList_push rfl (.tmp 27) (.tmp 33) 34 rfl X0.heap.size 50 i0 (.agg #[.int .i64 0, .int .i64 0, .int .i64 0, .slice none 0 0, .int .i64 0]) 5 56 Try.underlying34 HI0.out HZ0.out HZ1.out HZ2.out rfl (by decide) HO.out (us := #[.int .i64 x.kind, .int .i64 x.n, .int .i64 x.m, .slice x.A x.len x.cap, .int .i64 x.lock]) (m := 1) rfl rfl (by rfl) (by rfl) (by unfold maxLen; omega) (by omega) HB.out.size ?_)
      intro v9 w9 o9 b9
      have O9 : Hid (w9.ownsRow X0.heap.size 50 5 v9 ((f.undo.drop q).reverse).length (((f.undo.drop q).reverse).flatMap undC)) := Lib.hid (own_cast o9 (by rw [HN.out]; simp) (by rw [HN.out]; simp [undC]))
      have B9 := Lib.hid (HB.out.trans b9)
      clear o9 b9
      go_wp2
      go_roundw
      case rel => exact ⟨(q : Int) - 1, by omega, by omega, by go_num, by rw [show ((q : Int) - 1 + 1).toNat = q by omega]; exact O9, B9⟩
      case measure => simp [intOf] <;> omega
    · have ho2 := HO.out
      rw [show (z + 1).toNat = 0 by omega, List.drop_zero] at ho2
      obtain ⟨A9, c9, rfl, hc9, hs9⟩ := own_form ho2
      rw [List.length_reverse, E3.out] at hc9 ⊢
      have q0 := (HCX.out.below HB.out HLT.out).c0
      have HU := Lib.hid (show Sees wr wr.heap.size A9 (f.undo.reverse.flatMap undC) from hs9)
      have HC9 := Lib.hid hc9
      have hal3 : Below wr.heap.size wr (wr.alloc (.cells #[.slice A1 n1 c1, .slice none 0 0, .slice none 0 0] 62)) := (Below.refl _ _).alloc (Nat.le_refl _) _
      have HR : Hid (IsLs (wr.alloc (.cells #[.slice A1 n1 c1, .slice none 0 0, .slice none 0 0] 62)) (.slice (some ⟨wr.heap.size, 0, none⟩) 1 1) [⟨f.reads, [], []⟩]) := Lib.hid (by
        refine ⟨_, 1, [⟨A1, n1, c1, none, 0, 0, none, 0, 0⟩], rfl, Nat.le_refl _, ?_, .cons ⟨E1.out, rfl, rfl, HLF.out.m1, Nat.le_refl _, Nat.le_refl _, (((HLF.out.s1.below HB.out).more HB.out.size).below hal3).more hal3.size, .nil, .nil⟩ .nil⟩
        exact (Sees.new wr [.slice A1 n1 c1, .slice none 0 0, .slice none 0 0] 62).more (by simp))
      have HU4 := Lib.hid ((HU.out.below hal3).more hal3.size)
      have HB4 := Lib.hid ((HAL.out.trans (HB.out.mono HAL.out.size)).trans (hal3.mono (HAL.out.trans (HB.out.mono HAL.out.size)).size))
      clear HO ho2 hs9 hc9 hal3
      go_wp2
      go_ret2
      exact ⟨_, _, rfl, HR.out, ⟨A9, c9, by rw [List.length_reverse, E3.out] <;> rfl, by rw [List.length_reverse, E3.out]; exact HC9.out, HU4.out⟩, HB4.out⟩
set_option maxRecDepth 100000 in
theorem rdrop_none (v : Value) (w : World) (h : IsLs w v []) : Calls Try.prog 26 #[v] w fun e w' => e = .returned (.tuple #[v, .slice none 0 0]) ∧ w = w' := by
  obtain ⟨A, c, lcs, rfl, -⟩ := h
  go_enter Try.func26, Try.ntmps26
  go_wp2
  go_ret2
  exact ⟨rfl, rfl⟩
theorem rdrop_ls (v : Value) (ls : List Lv) (w : World) (h : IsLs w v ls) (hm : ls.length ≤ 1000) (hs : ∀ x ∈ ls, SmallV 1000 x) : Calls Try.prog 26 #[v] w (RetDrop (dropL ls) (dropU ls) w) := by
  rcases ls_cases ls with rfl | ⟨f, rfl⟩ | ⟨init, v0, f, rfl⟩
  · exact (rdrop_none v w h).mono fun e w' ⟨h1, h2⟩ => ⟨v, _, h1, by rw [← h2]; exact h, ⟨none, 0, rfl, Nat.le_refl _, .nil⟩, by rw [← h2]; exact Below.refl _ _⟩
  · exact rdrop_one v f w h (hs f (by simp))
  · rw [dropL_many, dropU_many]
    exact rdrop_many v init v0 f w h (by simp at hm; omega) (hs v0 (by simp)) (hs f (by simp))
set_option maxRecDepth 100000 in
theorem rend_short (v : Value) (ls : List Lv) (w : World) (h : IsLs w v ls) (hl : ls.length < 2) : Calls Try.prog 29 #[v] w fun e w' => e = .returned v ∧ w = w' := by
  obtain ⟨A, c, lcs, rfl, -⟩ := h
  obtain ⟨n, hn⟩ : ∃ n, n = ls.length := ⟨_, rfl⟩
  rw [← hn] at hl ⊢
  have hl2 : (n : Int) < 2 := by omega
  clear hn
  go_enter Try.func29, Try.ntmps29
  go_wp2
  go_ret
  exact ⟨rfl, rfl⟩
theorem rend_ls (v : Value) (ls : List Lv) (w : World) (h : IsLs w v ls) (hm : ls.length ≤ 1000) (hs : ∀ x ∈ ls, SmallV 1000 x) : Calls Try.prog 29 #[v] w (RetLs (endL ls) w) := by
  rcases ls_cases ls with rfl | ⟨f, rfl⟩ | ⟨init, v0, f, rfl⟩
  · exact (rend_short v [] w h (by simp)).mono fun e w' ⟨h1, h2⟩ => ⟨v, h1, by rw [← h2]; exact h, by rw [← h2]; exact Below.refl _ _⟩
  · exact (rend_short v [f] w h (by simp)).mono fun e w' ⟨h1, h2⟩ => ⟨v, h1, by rw [← h2]; exact h, by rw [← h2]; exact Below.refl _ _⟩
  · rw [endL_many]
    exact rend_many v init v0 f w h (by simp at hm; omega) (hs v0 (by simp)) (hs f (by simp))
end Go.Proofs.Ytiomfncbhbokpaa
