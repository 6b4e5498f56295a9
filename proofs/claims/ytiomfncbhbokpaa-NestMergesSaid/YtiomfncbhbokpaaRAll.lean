/- The reference's All. -/
import Derived.Test.YtiomfncbhbokpaaRDrop
namespace Go.Proofs.Ytiomfncbhbokpaa
open Go.RowKit
set_option linter.unusedVariables false

theorem fold_joinRW (x a : Lv) : x.writes.foldl (fun a s => addW s a) (x.reads.foldl (fun a s => addR s a) a) = joinRW a x := by
  rw [foldR_eq, foldW_eq]
  rfl
/-- The box of the level under construction: its cells, its rows elsewhere. -/
def AccAt (w : World) (wr : World) (v : Lv) : Prop := ∃ l : LC, Box3 wr w.heap.size (.slice l.A1 l.n1 l.c1) (.slice l.A2 l.n2 l.c2) (.slice l.A3 l.n3 l.c3) ∧ LevX wr w.heap.size l v ∧ Below w.heap.size w wr ∧ w.heap.size < wr.heap.size
theorem AccAt.next {w W W2 : World} {l : LC} {v2 : Lv} {l2 : LC} (hb : Box3 W w.heap.size (.slice l.A1 l.n1 l.c1) (.slice l.A2 l.n2 l.c2) (.slice l.A3 l.n3 l.c3)) (hB : Below w.heap.size w W) (hlt : w.heap.size < W.heap.size) (h2 : Below W.heap.size W W2) (hx : LevX W2 w.heap.size l2 v2) : AccAt w (putLev W2 w.heap.size 0 l2) v2 := by
  have hb2 := hb.below h2 hlt
  have hB2 := hB.trans (h2.mono hB.size)
  have hr := ret_lv (w := w) hx (Nat.le_refl _) hB2 hb2
  exact ⟨l2, hr.1, hx.aside (aside_put (Below.refl _ _)), hr.2.2, Nat.lt_of_lt_of_le (Nat.lt_of_lt_of_le hlt h2.size) (by rw [putLev_size]; exact Nat.le_refl _)⟩
set_option maxRecDepth 100000 in
set_option maxHeartbeats 8000000 in
theorem rall_any (v : Value) (ls : List Lv) (w : World) (h : IsLs w v ls) (hl12 : ls.length ≤ 12) (hs : ∀ x ∈ ls, SmallV 100 x) : Calls Try.prog 28 #[v] w (RetAll (allL ls) w) := by
  obtain ⟨A, c, lcs, rfl, hc, hse, hl⟩ := h
  obtain ⟨n, hn⟩ : ∃ n, n = ls.length := ⟨_, rfl⟩
  rw [← hn] at hc hl12 ⊢
  have HN := Lib.hid hn
  have HS := Lib.hid hse
  have HL := Lib.hid hl
  have HSV := Lib.hid hs
  have HSA := Lib.hid (all_small (ls := ls) (k := 100) (by rw [← hn]; exact hl12) (by omega) hs)
  have HA0 : Hid (AccAt w (w.alloc (.cells #[.slice none 0 0, .slice none 0 0, .slice none 0 0] 62)) zeroLv) := Lib.hid
    ⟨zeroLC, Box3.new w _ _ _ 62, ⟨rfl, rfl, rfl, Nat.le_refl _, Nat.le_refl _, Nat.le_refl _, .inl rfl, .inl rfl, .inl rfl⟩, (Below.refl _ _).alloc (Nat.le_refl _) _, by simp⟩
  clear hn hse hl hs
  go_enter Try.func28, Try.ntmps28
  go_wp2
  go_loopw [5] (fun i wr => ∃ k : Nat, k ≤ n ∧ i = .int .i64 k ∧ Hid (AccAt w wr (allL (ls.take k)))) (fun i _ => n - (intOf i).toNat)
  case atStart => exact ⟨0, Nat.zero_le _, rfl, HA0⟩
  case round =>
    obtain ⟨k, hk, rfl, HA⟩ := hrel
    by_cases hlt : k < n
    · have hx : ls[k]? = some (ls[k]'(by rw [← HN.out]; exact hlt)) := List.getElem?_eq_getElem _
      generalize ls[k]'(by rw [← HN.out]; exact hlt) = x at hx
      obtain ⟨lc, hlc, hlev⟩ := HL.out.get k x hx
      obtain ⟨b, off, rfl, hb, c0, c1, -⟩ := ls_cells HS.out hlc
      obtain ⟨A1, n1, a1, A2, n2, a2, A3, n3, a3⟩ := lc
      dsimp only at c0 c1
      have HCC := Lib.hid (And.intro hb (And.intro c0 c1))
      have HLV := Lib.hid hlev
      have HXS := Lib.hid (HSV.out x (List.mem_of_getElem? hx))
      have E1 := Lib.hid (show x.reads.length = n1 from hlev.e1)
      have E2 := Lib.hid (show x.writes.length = n2 from hlev.e2)
      have hm1 : n1 ≤ 100 := by rw [← E1.out]; exact HXS.out.1
      have hm2 : n2 ≤ 100 := by rw [← E2.out]; exact HXS.out.2.1
      have HTN := Lib.hid (take_next (f := joinRW) hx zeroLv)
      have HSK := Lib.hid (HSA.out k)
      clear hx hlc hlev hb c0 c1
      obtain ⟨acc, hacc⟩ : ∃ acc, acc = allL (ls.take k) := ⟨_, rfl⟩
      rw [← hacc] at HA HSK
      have HACC := Lib.hid hacc
      clear hacc
      go_wp2
      go_loopw [6] (fun i wr => ∃ j : Nat, j ≤ n1 ∧ i = .int .i64 j ∧ Hid (AccAt w wr ((x.reads.take j).foldl (fun a s => addR s a) acc))) (fun i _ => n1 - (intOf i).toNat)
      case atStart => exact ⟨0, Nat.zero_le _, rfl, HA⟩
      case round =>
        obtain ⟨j, hj, rfl, HA2⟩ := hrel
        obtain ⟨l, hbx, hlx, hB, hsz⟩ := HA2.out
        have q0 := (hB.cell (p := ⟨b, off + k * 3, none⟩) HCC.out.1).trans HCC.out.2.1
        by_cases hjt : j < n1
        · have hy : x.reads[j]? = some (x.reads[j]'(by rw [E1.out]; exact hjt)) := List.getElem?_eq_getElem _
          generalize x.reads[j]'(by rw [E1.out]; exact hjt) = y at hy
          obtain ⟨b1, off1, hA1, -, y0, y1, y2⟩ := (HLV.out.s1.below hB).at3 hy
          dsimp only at hA1
          subst hA1
          have HN2 := Lib.hid (take_next (f := fun a s => addR s a) hy acc)
          have HSZ := Lib.hid (folds_R (x.reads.take j) HSK.out)
          have u0 := hbx.c0
          have u1 := hbx.c1
          have u2 := hbx.c2
          have HRD := Lib.hid (rreadsX_any l ((x.reads.take j).foldl (fun a s => addR s a) acc) y wr.drew (hlx.lev.drewN 1) (by have h1 := HSZ.out.1; have h2 := List.length_take_le' j x.reads; have h3 := E1.out; omega))
          have HBX := Lib.hid hbx
          have HLX := Lib.hid hlx
          have HB := Lib.hid hB
          have HZ := Lib.hid hsz
          clear hy hbx hlx hB
          go_wp2
          go_region_with (
            go_at_call 48
            refine HRD.out.mono ?_
            rintro e w2 ⟨l2, rfl, -, b2, hx2⟩
            have HX2 := Lib.hid (hx2 w.heap.size HZ.out HLX.out.drew)
            have HB2 := Lib.hid (below_of_drew b2)
            have g0 := HBX.out.below HB2.out HZ.out
            have g1 := g0.c0
            have g2 := g0.c1
            have g3 := g0.c2
            have g4 := g0.f0
            have g5 := g0.f1
            have g6 := g0.f2
            clear g0 b2 hx2)
          all_goals
            have HNA := Lib.hid (AccAt.next HBX.out HB.out HZ.out HB2.out HX2.out)
            clear u0 u1 u2 g1 g2 g3 g4 g5 g6
            go_wp2
            go_roundw
            case rel => exact ⟨j + 1, by omega, by go_num, by rw [HN2.out]; exact HNA⟩
            case measure => simp [intOf]; omega
        · have hjn : j = n1 := by omega
          have HA3 : Hid (AccAt w wr (x.reads.foldl (fun a s => addR s a) acc)) := Lib.hid (by
            have h := HA2.out
            rwa [List.take_of_length_le (by rw [E1.out]; omega)] at h)
          have HSK2 := Lib.hid (folds_R x.reads HSK.out)
          obtain ⟨acc2, hacc2⟩ : ∃ acc2, acc2 = x.reads.foldl (fun a s => addR s a) acc := ⟨_, rfl⟩
          rw [← hacc2] at HA3 HSK2
          have HACC2 := Lib.hid hacc2
          subst hjn
          clear hbx hlx hB hsz hjt HA2 hacc2
          go_wp2
          go_loopw [7] (fun i wr => ∃ j2 : Nat, j2 ≤ n2 ∧ i = .int .i64 j2 ∧ Hid (AccAt w wr ((x.writes.take j2).foldl (fun a s => addW s a) acc2))) (fun i _ => n2 - (intOf i).toNat)
          case atStart => exact ⟨0, Nat.zero_le _, rfl, HA3⟩
          case round =>
            obtain ⟨j2, hj2, rfl, HA2⟩ := hrel
            obtain ⟨l, hbx, hlx, hB, hsz⟩ := HA2.out
            have q1 := (hB.cell (p := ⟨b, off + k * 3 + 1, none⟩) HCC.out.1).trans HCC.out.2.2
            by_cases hjt : j2 < n2
            · have hy : x.writes[j2]? = some (x.writes[j2]'(by rw [E2.out]; exact hjt)) := List.getElem?_eq_getElem _
              generalize x.writes[j2]'(by rw [E2.out]; exact hjt) = y at hy
              obtain ⟨b1, off1, hA1, -, y0, y1⟩ := (HLV.out.s2.below hB).at2 hy
              dsimp only at hA1
              subst hA1
              have HN2 := Lib.hid (take_next (f := fun a s => addW s a) hy acc2)
              have HSZ := Lib.hid (folds_W (x.writes.take j2) HSK2.out)
              have u0 := hbx.c0
              have u1 := hbx.c1
              have u2 := hbx.c2
              have HRD := Lib.hid (rputsX_any l ((x.writes.take j2).foldl (fun a s => addW s a) acc2) y wr.drew (hlx.lev.drewN 1) (by have h1 := HSZ.out.2.1; have h2 := List.length_take_le' j2 x.writes; have h3 := E2.out; have h4 := E1.out; omega))
              have HBX := Lib.hid hbx
              have HLX := Lib.hid hlx
              have HB := Lib.hid hB
              have HZ := Lib.hid hsz
              clear hy hbx hlx hB
              go_wp2
              go_region_with (
                go_at_call 49
                refine HRD.out.mono ?_
                rintro e w2 ⟨l2, rfl, -, b2, hx2⟩
                have HX2 := Lib.hid (hx2 w.heap.size HZ.out HLX.out.drew)
                have HB2 := Lib.hid (below_of_drew b2)
                have g0 := HBX.out.below HB2.out HZ.out
                have g1 := g0.c0
                have g2 := g0.c1
                have g3 := g0.c2
                have g4 := g0.f0
                have g5 := g0.f1
                have g6 := g0.f2
                clear g0 b2 hx2)
              all_goals
                have HNA := Lib.hid (AccAt.next HBX.out HB.out HZ.out HB2.out HX2.out)
                clear u0 u1 u2 g1 g2 g3 g4 g5 g6
                go_wp2
                go_roundw
                case rel => exact ⟨j2 + 1, by omega, by go_num, by rw [HN2.out]; exact HNA⟩
                case measure => simp [intOf]; omega
            · have hjn : j2 = n2 := by omega
              have HA4 : Hid (AccAt w wr (allL (ls.take (k + 1)))) := Lib.hid (by
                have h := HA2.out
                rw [List.take_of_length_le (by rw [E2.out]; omega), HACC2.out, fold_joinRW, HACC.out] at h
                unfold allL at h ⊢
                rw [HTN.out]
                exact h)
              subst hjn
              clear hbx hlx hB hsz hjt HA2
              go_wp2
              go_roundw
              case rel => exact ⟨k + 1, by omega, by go_num, HA4⟩
              case measure => simp [intOf]; omega
    · have hkn : k = n := by omega
      have hAk := HA.out
      rw [List.take_of_length_le (by rw [← HN.out]; omega)] at hAk
      obtain ⟨l, hbx, hlx, hB, hsz⟩ := hAk
      have u0 := hbx.c0
      have u1 := hbx.c1
      have HLX := Lib.hid hlx
      have HB := Lib.hid hB
      subst hkn
      clear hbx hlx hB hsz hlt
      go_wp2
      go_quiet (fail)
      go_wp2
      go_ret2
      refine ⟨l.A1, l.c1, l.A2, l.c2, ?_, HLX.out.lev.s1, HLX.out.lev.s2, below_drewN HB.out _⟩
      first
        | (rw [HLX.out.e1, HLX.out.e2]; done)
        | (rw [← HLX.out.e1, ← HLX.out.e2]; done)
        | (simp [HLX.out.e1, HLX.out.e2]; done)
end Go.Proofs.Ytiomfncbhbokpaa
