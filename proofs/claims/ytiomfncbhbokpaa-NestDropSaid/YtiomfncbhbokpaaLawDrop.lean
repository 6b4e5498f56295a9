/- NestDrop walked. -/
import Derived.Test.YtiomfncbhbokpaaPlainD
import Derived.Test.YtiomfncbhbokpaaLawReads
namespace Go.Proofs.Ytiomfncbhbokpaa
open Go.RowKit
set_option linter.unusedVariables false

theorem inL_small (rs : List Seen) (ws : List Wr) (k : Nat) (hk : k ≤ 20) : SmallV 20 (inL rs ws k) := by
  refine ⟨?_, ?_, Nat.zero_le _⟩
  · have := readsL_le (rs.take k) []
    have := List.length_take_le k rs
    show ((rs.take k).foldl readL []).length ≤ _
    simp at *
    omega
  · have := putsW_le (ws.take k) []
    have := List.length_take_le k ws
    show ((ws.take k).foldl putW []).length ≤ _
    simp at *
    omega
def IsSeens (w : World) (v : Value) (rs : List Seen) : Prop := ∃ A c, v = .slice A rs.length c ∧ rs.length ≤ maxLen ∧ Sees w w.heap.size A (rs.flatMap seenC)
def IsWrs (w : World) (v : Value) (ws : List Wr) : Prop := ∃ A c, v = .slice A ws.length c ∧ ws.length ≤ maxLen ∧ Sees w w.heap.size A (ws.flatMap wrC)
set_option maxRecDepth 100000 in
set_option maxHeartbeats 8000000 in
theorem ndrop_core (v : Value) (ls : List Lv) (A1 : Option Addr) (c1 : Nat) (rs : List Seen) (A2 : Option Addr) (c2 : Nat) (ws : List Wr) (loc : Int) (w : World) (h : IsLs w v ls) (hS1 : Sees w w.heap.size A1 (rs.flatMap seenC)) (hS2 : Sees w w.heap.size A2 (ws.flatMap wrC))
    (hF : fewL ls = true) (h1 : 1 ≤ ls.length) (h6 : ls.length ≤ 6) (hr : rs.length ≤ 20) (hw : ws.length ≤ 20) : Calls Try.prog 3 #[v, .slice A1 rs.length c1, .slice A2 ws.length c2, .int .i64 loc] w (TrueBelow w) := by
  obtain ⟨nr, hnr⟩ : ∃ nr, nr = rs.length := ⟨_, rfl⟩
  obtain ⟨nw, hnw⟩ : ∃ nw, nw = ws.length := ⟨_, rfl⟩
  obtain ⟨n, hn⟩ : ∃ n, n = ls.length := ⟨_, rfl⟩
  obtain ⟨A, c, lcs, rfl, -⟩ := id h
  rw [← hnr] at hr ⊢
  rw [← hnw] at hw ⊢
  rw [← hn] at h1 h6 h ⊢
  obtain ⟨-, hsm⟩ := few_small hF
  have H0 := Lib.hid h
  have HS1 := Lib.hid hS1
  have HS2 := Lib.hid hS2
  have HSM := Lib.hid hsm
  have HF := Lib.hid hF
  have HNR := Lib.hid hnr
  have HNW := Lib.hid hnw
  have HN := Lib.hid hn
  have g0 : ((n : Int) == 0) = false := by simp; omega
  have g5 : ¬ (((((n : Int) == 0) = true ∨ (6 : Int) < n) ∨ (20 : Int) < nr) ∨ (20 : Int) < nw) := by simp; omega
  have g2 : ¬ ((6 : Int) < (n : Int)) := by omega
  have g3 : ¬ ((20 : Int) < (nr : Int)) := by omega
  have g4 : ¬ ((20 : Int) < (nw : Int)) := by omega
  clear h hS1 hS2 hsm hF hnr hnw hn
  go_enter Try.func3, Try.ntmps3
  go_wp2_with fail
  refine (sanity_any w).mono ?_
  rintro e w1 ⟨rfl, b1⟩
  have B1 := Lib.hid b1
  have H1 := Lib.hid (H0.out.below b1)
  clear b1
  go_wp2_with fail
  refine (lawFew_any _ ls w1 H1.out).mono ?_
  rw [HF.out]
  rintro e w2 ⟨rfl, rfl⟩
  go_wp2_with fail
  refine (begin_any _ ls w1 H1.out (by rw [← HN.out]; omega)).mono ?_
  rintro e w3 ⟨v3, rfl, i3, b3⟩
  have B3 := Lib.hid (B1.out.trans (b3.mono B1.out.size))
  have H3 := Lib.hid (H1.out.below b3)
  have I3 := Lib.hid (show IsLs w3 v3 (ls ++ [inL rs ws 0]) by rw [inL_zero]; exact i3)
  clear b3 i3
  go_wp2
  go_loopw [10, 11] (fun o i wr => ∃ k : Nat, k ≤ 20 ∧ i = .int .i64 k ∧ Hid (IsLs wr o (ls ++ [inL rs ws k])) ∧ Hid (Below w3.heap.size w3 wr)) (fun _ i _ => 21 - (intOf i).toNat)
  case atStart => exact ⟨0, by omega, rfl, I3, Lib.hid (Below.refl _ _)⟩
  case round =>
    obtain ⟨k, hk, rfl, HI, HB⟩ := hrel
    by_cases hgo : k < nr ∨ k < nw
    · have HIS := Lib.hid (inL_small rs ws k hk)
      have hk19 : k < 20 := by omega
      by_cases hm : k % 3 = 1
      · have hm3 : ((k : Int) % 3 == 1) = true := by simp; omega
        have hlw0 : ¬ (k < nr) → k < nw := by omega
        by_cases hlt : k < nr
        · have hy : rs[k]? = some (rs[k]'(by rw [← HNR.out]; exact hlt)) := List.getElem?_eq_getElem _
          generalize rs[k]'(by rw [← HNR.out]; exact hlt) = y at hy
          have HY := Lib.hid hy
          clear hy
          by_cases hlw : k < nw
          · have hz : ws[k]? = some (ws[k]'(by rw [← HNW.out]; exact hlw)) := List.getElem?_eq_getElem _
            generalize ws[k]'(by rw [← HNW.out]; exact hlw) = z at hz
            have HZ := Lib.hid hz
            clear hz
            go_wp2_with fail
            refine (begin_any _ _ wr HI.out (by rw [List.length_append, ← HN.out]; simp; omega)).mono ?_
            rintro e wa ⟨va, rfl, ia, ba⟩
            have BA := Lib.hid (HB.out.trans (ba.mono HB.out.size))
            have IA := Lib.hid ia
            clear ia ba
            obtain ⟨b1, off1, hA1, -, y0, y1, y2⟩ := (HS1.out.below (B3.out.trans (BA.out.mono B3.out.size))).at3 HY.out
            subst hA1
            go_wp2_with fail
            refine (nread_any _ (ls ++ [inL rs ws k]) (zeroLv) y _ IA.out (by simp; rw [← HN.out]; omega) (by have := ((⟨Nat.zero_le _, Nat.zero_le _, Nat.zero_le _⟩ : SmallV 0 zeroLv)).1; omega)).mono ?_
            rintro e wb ⟨vb, rfl, ib, bb⟩
            have BB := Lib.hid (BA.out.trans (bb.mono BA.out.size))
            have IB := Lib.hid ib
            clear ib bb y0 y1 y2
            obtain ⟨b2, off2, hA2, -, z0, z1⟩ := (HS2.out.below (B3.out.trans (BB.out.mono B3.out.size))).at2 HZ.out
            subst hA2
            go_wp2_with fail
            refine (nput_any _ (ls ++ [inL rs ws k]) (addR y (zeroLv)) z _ IB.out (by simp; rw [← HN.out]; omega) (by have := (addR_small y ((⟨Nat.zero_le _, Nat.zero_le _, Nat.zero_le _⟩ : SmallV 0 zeroLv))).2.1; omega)).mono ?_
            rintro e wc ⟨vc, rfl, ic, bc⟩
            have BC := Lib.hid (BB.out.trans (bc.mono BB.out.size))
            have IC := Lib.hid ic
            clear ic bc z0 z1
            have HSI : Hid (SmallV 40000 (addW z (addR y (zeroLv)))) := Lib.hid (SmallV.up (addW_small z (addR_small y ((⟨Nat.zero_le _, Nat.zero_le _, Nat.zero_le _⟩ : SmallV 0 zeroLv)))) (by omega))
            go_wp2_with fail
            refine (end_any _ ls (inL rs ws k) (addW z (addR y (zeroLv))) _ IC.out (by rw [← HN.out]; omega) (HIS.out.up (by omega)) HSI.out).mono ?_
            rintro e wd ⟨vd, rfl, id, bd⟩
            have BD := Lib.hid (BC.out.trans (bd.mono BC.out.size))
            have ID := Lib.hid id
            clear id bd
            have HNX : Hid (joinL (inL rs ws k) (addW z (addR y (zeroLv))) = inL rs ws (k + 1)) := Lib.hid (by rw [inL_next, HY.out, HZ.out]; rfl)
            go_wp2
            go_roundw
            case rel => exact ⟨k + 1, by omega, by go_num, by rw [← HNX.out]; exact ID, BD⟩
            case measure => simp [intOf] <;> omega
          · have HZ0 : Hid (ws[k]? = none) := Lib.hid (List.getElem?_eq_none (by rw [← HNW.out]; omega))
            go_wp2_with fail
            refine (begin_any _ _ wr HI.out (by rw [List.length_append, ← HN.out]; simp; omega)).mono ?_
            rintro e wa ⟨va, rfl, ia, ba⟩
            have BA := Lib.hid (HB.out.trans (ba.mono HB.out.size))
            have IA := Lib.hid ia
            clear ia ba
            obtain ⟨b1, off1, hA1, -, y0, y1, y2⟩ := (HS1.out.below (B3.out.trans (BA.out.mono B3.out.size))).at3 HY.out
            subst hA1
            go_wp2_with fail
            refine (nread_any _ (ls ++ [inL rs ws k]) (zeroLv) y _ IA.out (by simp; rw [← HN.out]; omega) (by have := ((⟨Nat.zero_le _, Nat.zero_le _, Nat.zero_le _⟩ : SmallV 0 zeroLv)).1; omega)).mono ?_
            rintro e wb ⟨vb, rfl, ib, bb⟩
            have BB := Lib.hid (BA.out.trans (bb.mono BA.out.size))
            have IB := Lib.hid ib
            clear ib bb y0 y1 y2
            have HSI : Hid (SmallV 40000 (addR y (zeroLv))) := Lib.hid (SmallV.up (addR_small y ((⟨Nat.zero_le _, Nat.zero_le _, Nat.zero_le _⟩ : SmallV 0 zeroLv))) (by omega))
            go_wp2_with fail
            refine (end_any _ ls (inL rs ws k) (addR y (zeroLv)) _ IB.out (by rw [← HN.out]; omega) (HIS.out.up (by omega)) HSI.out).mono ?_
            rintro e wd ⟨vd, rfl, id, bd⟩
            have BD := Lib.hid (BB.out.trans (bd.mono BB.out.size))
            have ID := Lib.hid id
            clear id bd
            have HNX : Hid (joinL (inL rs ws k) (addR y (zeroLv)) = inL rs ws (k + 1)) := Lib.hid (by rw [inL_next, HY.out, HZ0.out]; rfl)
            go_wp2
            go_roundw
            case rel => exact ⟨k + 1, by omega, by go_num, by rw [← HNX.out]; exact ID, BD⟩
            case measure => simp [intOf] <;> omega
        · have HY0 : Hid (rs[k]? = none) := Lib.hid (List.getElem?_eq_none (by rw [← HNR.out]; omega))
          have hlw := hlw0 hlt
          have hz : ws[k]? = some (ws[k]'(by rw [← HNW.out]; exact hlw)) := List.getElem?_eq_getElem _
          generalize ws[k]'(by rw [← HNW.out]; exact hlw) = z at hz
          have HZ := Lib.hid hz
          clear hz
          go_wp2_with fail
          refine (begin_any _ _ wr HI.out (by rw [List.length_append, ← HN.out]; simp; omega)).mono ?_
          rintro e wa ⟨va, rfl, ia, ba⟩
          have BA := Lib.hid (HB.out.trans (ba.mono HB.out.size))
          have IA := Lib.hid ia
          clear ia ba
          obtain ⟨b2, off2, hA2, -, z0, z1⟩ := (HS2.out.below (B3.out.trans (BA.out.mono B3.out.size))).at2 HZ.out
          subst hA2
          go_wp2_with fail
          refine (nput_any _ (ls ++ [inL rs ws k]) (zeroLv) z _ IA.out (by simp; rw [← HN.out]; omega) (by have := ((⟨Nat.zero_le _, Nat.zero_le _, Nat.zero_le _⟩ : SmallV 0 zeroLv)).2.1; omega)).mono ?_
          rintro e wc ⟨vc, rfl, ic, bc⟩
          have BC := Lib.hid (BA.out.trans (bc.mono BA.out.size))
          have IC := Lib.hid ic
          clear ic bc z0 z1
          have HSI : Hid (SmallV 40000 (addW z (zeroLv))) := Lib.hid (SmallV.up (addW_small z ((⟨Nat.zero_le _, Nat.zero_le _, Nat.zero_le _⟩ : SmallV 0 zeroLv))) (by omega))
          go_wp2_with fail
          refine (end_any _ ls (inL rs ws k) (addW z (zeroLv)) _ IC.out (by rw [← HN.out]; omega) (HIS.out.up (by omega)) HSI.out).mono ?_
          rintro e wd ⟨vd, rfl, id, bd⟩
          have BD := Lib.hid (BC.out.trans (bd.mono BC.out.size))
          have ID := Lib.hid id
          clear id bd
          have HNX : Hid (joinL (inL rs ws k) (addW z (zeroLv)) = inL rs ws (k + 1)) := Lib.hid (by rw [inL_next, HY0.out, HZ.out]; rfl)
          go_wp2
          go_roundw
          case rel => exact ⟨k + 1, by omega, by go_num, by rw [← HNX.out]; exact ID, BD⟩
          case measure => simp [intOf] <;> omega
      · have hm3 : ((k : Int) % 3 == 1) = false := by simp; omega
        have hlw0 : ¬ (k < nr) → k < nw := by omega
        by_cases hlt : k < nr
        · have hy : rs[k]? = some (rs[k]'(by rw [← HNR.out]; exact hlt)) := List.getElem?_eq_getElem _
          generalize rs[k]'(by rw [← HNR.out]; exact hlt) = y at hy
          have HY := Lib.hid hy
          clear hy
          by_cases hlw : k < nw
          · have hz : ws[k]? = some (ws[k]'(by rw [← HNW.out]; exact hlw)) := List.getElem?_eq_getElem _
            generalize ws[k]'(by rw [← HNW.out]; exact hlw) = z at hz
            have HZ := Lib.hid hz
            clear hz
            obtain ⟨b1, off1, hA1, -, y0, y1, y2⟩ := (HS1.out.below (B3.out.trans (HB.out.mono B3.out.size))).at3 HY.out
            subst hA1
            go_wp2_with fail
            refine (nread_any _ (ls) (inL rs ws k) y _ HI.out (by rw [← HN.out]; omega) (by have := (HIS.out).1; omega)).mono ?_
            rintro e wb ⟨vb, rfl, ib, bb⟩
            have BB := Lib.hid (HB.out.trans (bb.mono HB.out.size))
            have IB := Lib.hid ib
            clear ib bb y0 y1 y2
            obtain ⟨b2, off2, hA2, -, z0, z1⟩ := (HS2.out.below (B3.out.trans (BB.out.mono B3.out.size))).at2 HZ.out
            subst hA2
            go_wp2_with fail
            refine (nput_any _ (ls) (addR y (inL rs ws k)) z _ IB.out (by rw [← HN.out]; omega) (by have := (addR_small y (HIS.out)).2.1; omega)).mono ?_
            rintro e wc ⟨vc, rfl, ic, bc⟩
            have BC := Lib.hid (BB.out.trans (bc.mono BB.out.size))
            have IC := Lib.hid ic
            clear ic bc z0 z1
            have HNX : Hid (addW z (addR y (inL rs ws k)) = inL rs ws (k + 1)) := Lib.hid (by rw [inL_next, HY.out, HZ.out]; rfl)
            go_wp2
            go_roundw
            case rel => exact ⟨k + 1, by omega, by go_num, by rw [← HNX.out]; exact IC, BC⟩
            case measure => simp [intOf] <;> omega
          · have HZ0 : Hid (ws[k]? = none) := Lib.hid (List.getElem?_eq_none (by rw [← HNW.out]; omega))
            obtain ⟨b1, off1, hA1, -, y0, y1, y2⟩ := (HS1.out.below (B3.out.trans (HB.out.mono B3.out.size))).at3 HY.out
            subst hA1
            go_wp2_with fail
            refine (nread_any _ (ls) (inL rs ws k) y _ HI.out (by rw [← HN.out]; omega) (by have := (HIS.out).1; omega)).mono ?_
            rintro e wb ⟨vb, rfl, ib, bb⟩
            have BB := Lib.hid (HB.out.trans (bb.mono HB.out.size))
            have IB := Lib.hid ib
            clear ib bb y0 y1 y2
            have HNX : Hid (addR y (inL rs ws k) = inL rs ws (k + 1)) := Lib.hid (by rw [inL_next, HY.out, HZ0.out]; rfl)
            go_wp2
            go_roundw
            case rel => exact ⟨k + 1, by omega, by go_num, by rw [← HNX.out]; exact IB, BB⟩
            case measure => simp [intOf] <;> omega
        · have HY0 : Hid (rs[k]? = none) := Lib.hid (List.getElem?_eq_none (by rw [← HNR.out]; omega))
          have hlw := hlw0 hlt
          have hz : ws[k]? = some (ws[k]'(by rw [← HNW.out]; exact hlw)) := List.getElem?_eq_getElem _
          generalize ws[k]'(by rw [← HNW.out]; exact hlw) = z at hz
          have HZ := Lib.hid hz
          clear hz
          obtain ⟨b2, off2, hA2, -, z0, z1⟩ := (HS2.out.below (B3.out.trans (HB.out.mono B3.out.size))).at2 HZ.out
          subst hA2
          go_wp2_with fail
          refine (nput_any _ (ls) (inL rs ws k) z _ HI.out (by rw [← HN.out]; omega) (by have := (HIS.out).2.1; omega)).mono ?_
          rintro e wc ⟨vc, rfl, ic, bc⟩
          have BC := Lib.hid (HB.out.trans (bc.mono HB.out.size))
          have IC := Lib.hid ic
          clear ic bc z0 z1
          have HNX : Hid (addW z (inL rs ws k) = inL rs ws (k + 1)) := Lib.hid (by rw [inL_next, HY0.out, HZ.out]; rfl)
          go_wp2
          go_roundw
          case rel => exact ⟨k + 1, by omega, by go_num, by rw [← HNX.out]; exact IC, BC⟩
          case measure => simp [intOf] <;> omega
    · have hkr : nr ≤ k := by omega
      have hkw : nw ≤ k := by omega
      obtain ⟨X, hX⟩ : ∃ X, X = inL rs ws k := ⟨_, rfl⟩
      have hXr : X.reads = rs.foldl readL [] := by rw [hX]; unfold inL; rw [List.take_of_length_le (by rw [← HNR.out]; exact hkr)]
      have hXu : X.undo = [] := by rw [hX]; rfl
      have hXs : SmallV 20 X := by rw [hX]; exact inL_small rs ws k hk
      obtain ⟨init, v0, hls⟩ : ∃ init v0, ls = init ++ [v0] := by
        rcases ls_snoc ls with h | h
        · rw [h] at HN
          have := HN.out
          simp at this
          omega
        · exact h
      have hI := HI.out
      rw [← hX, hls] at hI
      have HI2 := Lib.hid hI
      have HLS := Lib.hid hls
      have HXR := Lib.hid hXr
      have HXU := Lib.hid hXu
      have HXS := Lib.hid hXs
      have HV0 : Hid (SmallV 20 v0) := Lib.hid (HSM.out v0 (by rw [hls]; simp))
      have HIL : Hid (init.length + 1 = n) := Lib.hid (by rw [HN.out, hls]; simp)
      have HBW := Lib.hid (B3.out.trans (HB.out.mono B3.out.size))
      clear hI hls hXr hXu hXs hX
      go_wp2_with fail
      refine (drop_many _ init v0 X wr HI2.out (by have := HIL.out; omega) (HV0.out.up (by omega)) (HXS.out.up (by omega))).mono ?_
      rintro e wa ⟨va, ua, rfl, ia, hua, ba⟩
      have BA := Lib.hid (HBW.out.trans (ba.mono HBW.out.size))
      have IA := Lib.hid ia
      have UA := Lib.hid hua
      clear ia hua ba
      go_wp2_with fail
      refine (find_any _ ls loc wa (H0.out.below BA.out) (by rw [← HN.out]; omega) (fun x hx => (HSM.out x hx).up (by omega))).mono ?_
      rintro e wb ⟨rfl, bb⟩
      have BB := Lib.hid (BA.out.trans (bb.mono BA.out.size))
      have IB := Lib.hid (IA.out.below bb)
      have UB := Lib.hid (UA.out.below bb)
      clear bb
      go_wp2_with fail
      refine (find_any va (init ++ [joinR v0 X]) loc wb IB.out (by have := HIL.out; simp; omega) (fun x hx => by
        rcases List.mem_append.1 hx with hx | hx
        · exact (HSM.out x (by rw [HLS.out]; simp [hx])).up (by omega)
        · obtain rfl := List.mem_singleton.1 hx
          exact (joinR_small HV0.out HXS.out).up (by omega))).mono ?_
      rintro e wc ⟨rfl, bc⟩
      have BC := Lib.hid (BB.out.trans (bc.mono BB.out.size))
      have HSR := Lib.hid (HS1.out.below BC.out)
      obtain ⟨A8, c8, lcs8, hva, -⟩ := IB.out
      obtain ⟨A9, c9, hua, -⟩ := UB.out
      rw [HXU.out] at hua
      have hl8 : (init ++ [joinR v0 X]).length = n := by have := HIL.out; simp; omega
      rw [hl8] at hva
      simp only [List.reverse_nil, List.length_nil] at hua
      obtain ⟨fa, fv, fh, fb, fw, ft, e1, e2, hc⟩ := find_drop init v0 rs X HXR.out loc
      rw [← HLS.out] at e1
      rw [e1, e2]
      dsimp only
      subst hva hua
      clear e1 e2 hl8 bc
      rcases hc with ⟨rfl, rfl, rfl⟩ | hc
      · go_wp2
        go_ret
        exact ⟨rfl, BC.out⟩
      · have hh : (fh = 0 ∧ ((hasL rs loc = true ∧ ft = 2) ∨ (hasL rs loc = false ∧ ft = 0))) ∨ (fh = 2 ∧ ft = 2 ∧ (hasL rs loc = true ∨ (hasL rs loc = false ∧ fa = fb ∧ fv = fw))) := by
          rcases hc with ⟨h1, h2, h3⟩ | ⟨h1, h2, h3⟩ | ⟨h1, h2, h3⟩ | ⟨h1, h2, h3, h4, h5⟩
          · exact .inl ⟨h1, .inl ⟨h2, h3⟩⟩
          · exact .inl ⟨h1, .inr ⟨h2, h3⟩⟩
          · exact .inr ⟨h1, h2, .inl h3⟩
          · exact .inr ⟨h1, h2, .inr ⟨h3, h4, h5⟩⟩
        clear hc
        rcases hh with ⟨rfl, hc⟩ | ⟨rfl, rfl, hc⟩
        · have HC := Lib.hid hc
          clear hc
          go_wp2
          go_loop [20, 21] (fun o i => ∃ k : Nat, k ≤ nr ∧ i = .int .i64 k ∧ o = .bool ((rs.take k).any fun s => s.loc == loc)) (fun o i => nr - (intOf i).toNat)
          case atStart => exact ⟨0, Nat.zero_le _, rfl, rfl⟩
          case round =>
            obtain ⟨j, hj, rfl, rfl⟩ := hrel
            by_cases hlt : j < nr
            · have hy : rs[j]? = some (rs[j]'(by rw [← HNR.out]; exact hlt)) := List.getElem?_eq_getElem _
              generalize rs[j]'(by rw [← HNR.out]; exact hlt) = y at hy
              obtain ⟨b1, off1, hA1, -, y0, -, -⟩ := HSR.out.at3 hy
              subst hA1
              have HNX := Lib.hid (any_next (p := fun s : Seen => s.loc == loc) hy)
              clear hy
              cases hm3 : (rs.take j).any fun s => s.loc == loc with
              | true =>
                have HM2 := Lib.hid (HNX.out.trans (by rw [hm3]; rfl) : _ = true)
                clear hm3
                go_wp2
                go_round
                case rel => exact ⟨j + 1, by omega, by go_num, by rw [HM2.out]⟩
                case measure => simp [intOf]; omega
              | false =>
                have HM2 := Lib.hid (HNX.out.trans (by rw [hm3, Bool.false_or]) : _ = (y.loc == loc))
                clear hm3
                go_wp2
                go_round
                case rel => exact ⟨j + 1, by omega, by go_num, by rw [HM2.out]⟩
                case measure => simp [intOf]; omega
            · have hjn : j = nr := by omega
              have hout : ((rs.take j).any fun s => s.loc == loc) = hasL rs loc := by rw [List.take_of_length_le (by rw [← HNR.out]; omega)]; rfl
              rw [hout]
              subst hjn
              clear hout hlt
              have hc := HC.out
              clear HC
              rcases hc with ⟨hm, rfl⟩ | ⟨hm, rfl⟩
              · rw [hm]
                clear hm
                go_wp2
                go_ret
                exact ⟨rfl, BC.out⟩
              · rw [hm]
                clear hm
                go_wp2
                go_ret
                exact ⟨rfl, BC.out⟩
        · have HC := Lib.hid hc
          clear hc
          go_wp2
          go_loop [20, 21] (fun o i => ∃ k : Nat, k ≤ nr ∧ i = .int .i64 k ∧ o = .bool ((rs.take k).any fun s => s.loc == loc)) (fun o i => nr - (intOf i).toNat)
          case atStart => exact ⟨0, Nat.zero_le _, rfl, rfl⟩
          case round =>
            obtain ⟨j, hj, rfl, rfl⟩ := hrel
            by_cases hlt : j < nr
            · have hy : rs[j]? = some (rs[j]'(by rw [← HNR.out]; exact hlt)) := List.getElem?_eq_getElem _
              generalize rs[j]'(by rw [← HNR.out]; exact hlt) = y at hy
              obtain ⟨b1, off1, hA1, -, y0, -, -⟩ := HSR.out.at3 hy
              subst hA1
              have HNX := Lib.hid (any_next (p := fun s : Seen => s.loc == loc) hy)
              clear hy
              cases hm3 : (rs.take j).any fun s => s.loc == loc with
              | true =>
                have HM2 := Lib.hid (HNX.out.trans (by rw [hm3]; rfl) : _ = true)
                clear hm3
                go_wp2
                go_round
                case rel => exact ⟨j + 1, by omega, by go_num, by rw [HM2.out]⟩
                case measure => simp [intOf]; omega
              | false =>
                have HM2 := Lib.hid (HNX.out.trans (by rw [hm3, Bool.false_or]) : _ = (y.loc == loc))
                clear hm3
                go_wp2
                go_round
                case rel => exact ⟨j + 1, by omega, by go_num, by rw [HM2.out]⟩
                case measure => simp [intOf]; omega
            · have hjn : j = nr := by omega
              have hout : ((rs.take j).any fun s => s.loc == loc) = hasL rs loc := by rw [List.take_of_length_le (by rw [← HNR.out]; omega)]; rfl
              rw [hout]
              subst hjn
              clear hout hlt
              have hc := HC.out
              clear HC
              rcases hc with hm | ⟨hm, rfl, rfl⟩
              · rw [hm]
                clear hm
                go_wp2
                go_ret
                exact ⟨rfl, BC.out⟩
              · rw [hm]
                clear hm
                go_wp2
                go_ret
                exact ⟨rfl, BC.out⟩
set_option maxRecDepth 100000 in
set_option maxHeartbeats 4000000 in
theorem ndrop_early (v : Value) (ls : List Lv) (A1 : Option Addr) (c1 : Nat) (rs : List Seen) (A2 : Option Addr) (c2 : Nat) (ws : List Wr) (loc : Int) (w : World) (h : IsLs w v ls) (hd : fewL ls = false ∨ ls.length = 0 ∨ 6 < ls.length ∨ 20 < rs.length ∨ 20 < ws.length) :
    Calls Try.prog 3 #[v, .slice A1 rs.length c1, .slice A2 ws.length c2, .int .i64 loc] w (TrueBelow w) := by
  cases hF : fewL ls with
  | false =>
    clear hd
    have B0 := Lib.hid h
    obtain ⟨A, c, lcs, rfl, -⟩ := id h
    generalize ls.length = n at *
    generalize rs.length = nr at *
    generalize ws.length = nw at *
    -- no condition
    clear h
    go_enter Try.func3, Try.ntmps3
    go_wp2_with fail
    refine (sanity_any w).mono ?_
    rintro e w1 ⟨rfl, b1⟩
    have B1 := Lib.hid b1
    have H1 := Lib.hid (B0.out.below b1)
    clear b1
    go_wp2_with fail
    refine (lawFew_any _ ls w1 H1.out).mono ?_
    rw [hF]
    rintro e w2 ⟨rfl, rfl⟩
    go_wp2
    go_ret
    exact ⟨rfl, B1.out⟩
  | true =>
    rw [hF] at hd
    rcases Nat.eq_zero_or_pos ls.length with h0 | h0
    · clear hd
      have B0 := Lib.hid h
      obtain ⟨A, c, lcs, rfl, -⟩ := id h
      generalize ls.length = n at *
      generalize rs.length = nr at *
      generalize ws.length = nw at *
      subst h0
      clear h
      go_enter Try.func3, Try.ntmps3
      go_wp2_with fail
      refine (sanity_any w).mono ?_
      rintro e w1 ⟨rfl, b1⟩
      have B1 := Lib.hid b1
      have H1 := Lib.hid (B0.out.below b1)
      clear b1
      go_wp2_with fail
      refine (lawFew_any _ ls w1 H1.out).mono ?_
      rw [hF]
      rintro e w2 ⟨rfl, rfl⟩
      go_wp2
      go_ret
      exact ⟨rfl, B1.out⟩
    · rcases Nat.lt_or_ge 6 ls.length with h6 | h6
      · clear hd
        have B0 := Lib.hid h
        obtain ⟨A, c, lcs, rfl, -⟩ := id h
        generalize ls.length = n at *
        generalize rs.length = nr at *
        generalize ws.length = nw at *
        have g0 : ((n : Int) == 0) = false := by simp; omega
        have g1 : (6 : Int) < n := by omega
        have g5 : (((((n : Int) == 0) = true ∨ (6 : Int) < n) ∨ (20 : Int) < nr) ∨ (20 : Int) < nw) := .inl (.inl (.inr g1))
        clear h0 h6
        clear h
        go_enter Try.func3, Try.ntmps3
        go_wp2_with fail
        refine (sanity_any w).mono ?_
        rintro e w1 ⟨rfl, b1⟩
        have B1 := Lib.hid b1
        have H1 := Lib.hid (B0.out.below b1)
        clear b1
        go_wp2_with fail
        refine (lawFew_any _ ls w1 H1.out).mono ?_
        rw [hF]
        rintro e w2 ⟨rfl, rfl⟩
        go_wp2
        go_ret
        exact ⟨rfl, B1.out⟩
      · rcases Nat.lt_or_ge 20 rs.length with hr | hr
        · clear hd
          have B0 := Lib.hid h
          obtain ⟨A, c, lcs, rfl, -⟩ := id h
          generalize ls.length = n at *
          generalize rs.length = nr at *
          generalize ws.length = nw at *
          have g0 : ((n : Int) == 0) = false := by simp; omega
          have g1 : ¬ ((6 : Int) < n) := by omega
          have g2 : (20 : Int) < nr := by omega
          have g5 : (((((n : Int) == 0) = true ∨ (6 : Int) < n) ∨ (20 : Int) < nr) ∨ (20 : Int) < nw) := .inl (.inr g2)
          clear h0 h6 hr
          clear h
          go_enter Try.func3, Try.ntmps3
          go_wp2_with fail
          refine (sanity_any w).mono ?_
          rintro e w1 ⟨rfl, b1⟩
          have B1 := Lib.hid b1
          have H1 := Lib.hid (B0.out.below b1)
          clear b1
          go_wp2_with fail
          refine (lawFew_any _ ls w1 H1.out).mono ?_
          rw [hF]
          rintro e w2 ⟨rfl, rfl⟩
          go_wp2
          go_ret
          exact ⟨rfl, B1.out⟩
        · have hw : 20 < ws.length := by
            rcases hd with hd | hd | hd | hd | hd
            · cases hd
            · omega
            · omega
            · omega
            · exact hd
          clear hd
          have B0 := Lib.hid h
          obtain ⟨A, c, lcs, rfl, -⟩ := id h
          generalize ls.length = n at *
          generalize rs.length = nr at *
          generalize ws.length = nw at *
          have g0 : ((n : Int) == 0) = false := by simp; omega
          have g1 : ¬ ((6 : Int) < n) := by omega
          have g2 : ¬ ((20 : Int) < nr) := by omega
          have g3 : (20 : Int) < nw := by omega
          have g5 : (((((n : Int) == 0) = true ∨ (6 : Int) < n) ∨ (20 : Int) < nr) ∨ (20 : Int) < nw) := .inr g3
          clear h0 h6 hr hw
          clear h
          go_enter Try.func3, Try.ntmps3
          go_wp2_with fail
          refine (sanity_any w).mono ?_
          rintro e w1 ⟨rfl, b1⟩
          have B1 := Lib.hid b1
          have H1 := Lib.hid (B0.out.below b1)
          clear b1
          go_wp2_with fail
          refine (lawFew_any _ ls w1 H1.out).mono ?_
          rw [hF]
          rintro e w2 ⟨rfl, rfl⟩
          go_wp2
          go_ret
          exact ⟨rfl, B1.out⟩
theorem ndrop_law (v : Value) (ls : List Lv) (v1 : Value) (rs : List Seen) (v2 : Value) (ws : List Wr) (loc : Int) (w : World) (h : IsLs w v ls) (_ : ∀ x ∈ ls, Trees w x.undo) (h1 : IsSeens w v1 rs) (_ : True) (h2 : IsWrs w v2 ws) (_ : True) :
    Calls Try.prog 3 #[v, v1, v2, .int .i64 loc] w (TrueBelow w) := by
  obtain ⟨A1, c1, rfl, -, s1⟩ := h1
  obtain ⟨A2, c2, rfl, -, s2⟩ := h2
  by_cases hd : fewL ls = false ∨ ls.length = 0 ∨ 6 < ls.length ∨ 20 < rs.length ∨ 20 < ws.length
  · exact ndrop_early v ls A1 c1 rs A2 c2 ws loc w h hd
  · have hF : fewL ls = true := by
      cases hF : fewL ls with
      | false => exact absurd (.inl hF) hd
      | true => rfl
    exact ndrop_core v ls A1 c1 rs A2 c2 ws loc w h s1 s2 hF (by omega) (by omega) (by omega) (by omega)
section
variable {H : Type} {enc : TypeId × Value → H} {w : World} {base : Nat} {spare : Nat → Bool} {held : Bool}
theorem seens_in {v : Value} {d : DataW H} {p : List MemPlace} {A : Option Addr} {len cap : Nat} (hv : v = .slice A len cap) (h : DataW.Trod enc Try.prog w base spare held 23 v d p) : ∃ rs, IsSeens w v rs ∧ True := by
  subst hv
  obtain ⟨fuel, hf⟩ := h
  obtain ⟨hl, hm, rs, h1, h2⟩ := seens_form hf
  exact ⟨rs, ⟨A, cap, by rw [h1], by rw [h1]; omega, h2⟩, trivial⟩
theorem wrs_in {v : Value} {d : DataW H} {p : List MemPlace} {A : Option Addr} {len cap : Nat} (hv : v = .slice A len cap) (h : DataW.Trod enc Try.prog w base spare held 24 v d p) : ∃ ws, IsWrs w v ws ∧ True := by
  subst hv
  obtain ⟨fuel, hf⟩ := h
  obtain ⟨hl, hm, rs, h1, h2⟩ := wrs_form hf
  exact ⟨rs, ⟨A, cap, by rw [h1], by rw [h1]; omega, h2⟩, trivial⟩
end
end Go.Proofs.Ytiomfncbhbokpaa
