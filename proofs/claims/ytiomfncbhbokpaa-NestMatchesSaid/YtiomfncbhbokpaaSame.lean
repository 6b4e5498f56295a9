/- Two readings of one list of levels are the same. -/
import Derived.Test.YtiomfncbhbokpaaUndos
namespace Go.Proofs.Ytiomfncbhbokpaa
open Go.RowKit
set_option linter.unusedVariables false

theorem ls_cells {w : World} {A : Option Addr} {lcs : List LC} {k : Nat} {lc : LC} (hs : Sees w w.heap.size A (lcs.flatMap lvC)) (hlc : lcs[k]? = some lc) : ∃ b off, A = some ⟨b, off, none⟩ ∧ b < w.heap.size ∧ w.cell? ⟨b, off + k * 3, none⟩ = some (.slice lc.A1 lc.n1 lc.c1) ∧
    w.cell? ⟨b, off + k * 3 + 1, none⟩ = some (.slice lc.A2 lc.n2 lc.c2) ∧ w.cell? ⟨b, off + k * 3 + 2, none⟩ = some (.slice lc.A3 lc.n3 lc.c3) := by
  have g0 := flat_get (f := lvC) lv_len lcs k 0 lc hlc (by omega)
  have g1 := flat_get (f := lvC) lv_len lcs k 1 lc hlc (by omega)
  have g2 := flat_get (f := lvC) lv_len lcs k 2 lc hlc (by omega)
  rcases hs with h | ⟨b, off, hA, hb, hcell⟩
  · rw [h] at g0
    simp [lvC] at g0
  · refine ⟨b, off, hA, hb, hcell _ _ ((show _ = _ from g0).trans rfl), ?_, ?_⟩
    · have := hcell _ _ (g1.trans (show _ = some (Value.slice lc.A2 lc.n2 lc.c2) from rfl)); rw [← Nat.add_assoc] at this; exact this
    · have := hcell _ _ (g2.trans (show _ = some (Value.slice lc.A3 lc.n3 lc.c3) from rfl)); rw [← Nat.add_assoc] at this; exact this
theorem drew_below {w w2 : World} (h : ∃ d, w2 = w.drew.drewN d) : Below w.heap.size w w2 := by
  obtain ⟨d, rfl⟩ := h
  exact below_drewN (Below.refl _ _).drew d
set_option maxRecDepth 100000 in
set_option maxHeartbeats 4000000 in
theorem same_any (v v' : Value) (ls : List Lv) (w : World) (h : IsLs w v ls) (h' : IsLs w v' ls) (hm : ls.length ≤ 1000) (hsv : ∀ x ∈ ls, SmallV 80000 x) (ht : ∀ x ∈ ls, Trees w x.undo) : Calls Try.prog 19 #[v, v'] w (TrueBelow w) := by
  obtain ⟨A, c, lcs, rfl, hc, hs, hl⟩ := h
  obtain ⟨A', c', lcs', rfl, hc', hs', hl'⟩ := h'
  obtain ⟨n, hn⟩ : ∃ n, n = ls.length := ⟨_, rfl⟩
  rw [← hn] at hc hc' hm ⊢
  have HN := Lib.hid hn
  have HS := Lib.hid hs
  have HL := Lib.hid hl
  have HS' := Lib.hid hs'
  have HL' := Lib.hid hl'
  have HSV := Lib.hid hsv
  have HT := Lib.hid ht
  clear hn hs hl hs' hl' hsv ht
  go_enter Try.func19, Try.ntmps19
  go_wp2
  go_loopw [5] (fun i wr => ∃ k : Nat, k ≤ n ∧ i = .int .i64 k ∧ Hid (Below w.heap.size w wr)) (fun i _ => n - (intOf i).toNat)
  case atStart => exact ⟨0, by omega, rfl, Lib.hid (Below.refl _ _)⟩
  case round =>
    obtain ⟨k, hk, rfl, HB⟩ := hrel
    by_cases hlt : k < n
    · have hx : ls[k]? = some (ls[k]'(by rw [← HN.out]; exact hlt)) := List.getElem?_eq_getElem _
      generalize ls[k]'(by rw [← HN.out]; exact hlt) = x at hx
      obtain ⟨lc, hlc, hlev⟩ := HL.out.get k x hx
      obtain ⟨lc', hlc', hlev'⟩ := HL'.out.get k x hx
      obtain ⟨b, off, rfl, hb, c0, c1, c2⟩ := ls_cells HS.out hlc
      obtain ⟨b', off', rfl, hb', d0, d1, d2⟩ := ls_cells HS'.out hlc'
      have HMX := Lib.hid (HSV.out x (List.mem_of_getElem? hx))
      have HTX := Lib.hid (HT.out x (List.mem_of_getElem? hx))
      obtain ⟨A1, n1, a1, A2, n2, a2, A3, n3, a3⟩ := lc
      obtain ⟨A1', n1', a1', A2', n2', a2', A3', n3', a3'⟩ := lc'
      obtain rfl : n1 = n1' := hlev.e1.symm.trans hlev'.e1
      obtain rfl : n2 = n2' := hlev.e2.symm.trans hlev'.e2
      obtain rfl : n3 = n3' := hlev.e3.symm.trans hlev'.e3
      dsimp only at c0 c1 c2 d0 d1 d2
      have q0 := (HB.out.cell (p := ⟨b, off + k * 3, none⟩) hb).trans c0
      have q1 := (HB.out.cell (p := ⟨b', off' + k * 3, none⟩) hb').trans d0
      have HCC := Lib.hid (And.intro hb (And.intro c1 c2))
      have HDD := Lib.hid (And.intro hb' (And.intro d1 d2))
      have HLV := Lib.hid hlev
      have HLV' := Lib.hid hlev'
      have HC1 := Lib.hid (seensSame_any A1 n1 a1 A1' a1' x.reads wr.drew HLV.out.e1 (by have := HMX.out.1; have e : x.reads.length = n1 := HLV.out.e1; unfold maxLen; omega) ((HLV.out.s1.below HB.out).drewN 1) ((HLV'.out.s1.below HB.out).drewN 1))
      clear hx hlc hlc' hlev hlev' c0 c1 c2 d0 d1 d2 hb hb'
      go_wp2
      go_region_with (
        go_at_call 30
        refine HC1.out.mono ?_
        rintro e w2 ⟨rfl, hw2⟩
        have B2 := Lib.hid (HB.out.trans ((drew_below hw2).mono HB.out.size))
        clear hw2)
      all_goals
        have q2 := (B2.out.cell (p := ⟨b, off + k * 3 + 1, none⟩) HCC.out.1).trans HCC.out.2.1
        have q3 := (B2.out.cell (p := ⟨b', off' + k * 3 + 1, none⟩) HDD.out.1).trans HDD.out.2.1
        have HC2 := Lib.hid (writesSame_any A2 n2 a2 A2' a2' x.writes w2.drew HLV.out.e2 (by have := HMX.out.2.1; have e : x.writes.length = n2 := HLV.out.e2; unfold maxLen; omega) ((HLV.out.s2.below B2.out).drewN 1) ((HLV'.out.s2.below B2.out).drewN 1))
        clear q0 q1
        go_wp2
        go_region_with (
          go_at_call 31
          refine HC2.out.mono ?_
          rintro e w3 ⟨rfl, hw3⟩
          have B3 := Lib.hid (B2.out.trans ((drew_below hw3).mono B2.out.size))
          clear hw3)
        all_goals
          have q4 := (B3.out.cell (p := ⟨b, off + k * 3 + 2, none⟩) HCC.out.1).trans HCC.out.2.2
          have q5 := (B3.out.cell (p := ⟨b', off' + k * 3 + 2, none⟩) HDD.out.1).trans HDD.out.2.2
          have HC3 := Lib.hid (undosSame_any A3 n3 a3 A3' a3' x.undo w3.drew HLV.out.e3 (by have := HMX.out.2.2; have e : x.undo.length = n3 := HLV.out.e3; unfold maxLen; omega) (((HLV.out.s3.below B3.out).more B3.out.size).drewN 1) (((HLV'.out.s3.below B3.out).more B3.out.size).drewN 1) ((HTX.out.below B3.out).below (Below.refl _ _).drew))
          clear q2 q3
          go_wp2
          go_region_with (
            go_at_call 25
            refine HC3.out.mono ?_
            rintro e w4 ⟨rfl, b4⟩
            have B4 := Lib.hid (B3.out.trans ((below_of_drew b4).mono B3.out.size))
            clear b4)
          all_goals
            clear q4 q5
            go_wp2
            go_roundw
            case rel => exact ⟨k + 1, by omega, by go_num, B4⟩
            case measure => simp [intOf]; omega
    · have hkn : k = n := by omega
      subst hkn
      go_wp2
      go_ret
      exact ⟨rfl, HB.out⟩
end Go.Proofs.Ytiomfncbhbokpaa
