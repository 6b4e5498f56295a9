/- NestModel walked. -/
import Derived.Test.YtiomfncbhbokpaaTModel
namespace Go.Proofs.Ytiomfncbhbokpaa
open Go.RowKit
set_option linter.unusedVariables false

theorem zero_small : SmallV 0 zeroLv := ⟨Nat.zero_le _, Nat.zero_le _, Nat.zero_le _⟩
set_option maxRecDepth 100000 in
theorem Try.info42 : (Try.prog.info? 42).map (fun i => (i.zero, i.size, i.bytes)) = some (some (.agg #[.int .i64 0, .int .i64 0, .int .i64 0, .int .i64 0]), 4, 32) := by kernel_rfl
set_option maxRecDepth 100000 in
set_option maxHeartbeats 16000000 in
theorem nmodel_core (A1 : Option Addr) (n c1 : Nat) (bs : List Int) (A2 : Option Addr) (m c2 : Nat) (zs : List Int) (w : World) (hn : bs.length = n) (hm : zs.length = m) (hS1 : SeesN .u8 w w.heap.size A1 bs) (hS2 : SeesN .i16 w w.heap.size A2 zs)
    (hb1 : ∀ x ∈ bs, 0 ≤ x ∧ x ≤ 255) (hb2 : ∀ x ∈ zs, -32768 ≤ x ∧ x ≤ 32767) : Calls Try.prog 4 #[.slice A1 n c1, .slice A2 m c2] w (TrueBelow w) := by
  obtain ⟨i0, hi, hz0, hz1, hz2⟩ := info_parts Try.info42
  have HI := Lib.hid hi
  have HZ0 := Lib.hid hz0
  have HZ1 := Lib.hid hz1
  have HZ2 := Lib.hid hz2
  have HN := Lib.hid hn
  have HM := Lib.hid hm
  have HS1 := Lib.hid hS1
  have HS2 := Lib.hid hS2
  have HB1 := Lib.hid hb1
  have HB2 := Lib.hid hb2
  clear hi hz0 hz1 hz2 hn hm hS1 hS2 hb1 hb2
  go_enter Try.func4, Try.ntmps4
  go_wp2_with fail
  refine (sanity_any w).mono ?_
  rintro e w1 ⟨rfl, b1⟩
  have B1 := Lib.hid b1
  clear b1
  by_cases h40 : n ≤ 40 ∧ n ≤ m
  · obtain ⟨hn40, hnm⟩ := h40
    have hn40' : ¬ ((40 : Int) < (n : Int)) := by omega
    have hnm' : ¬ ((m : Int) < (n : Int)) := by omega
    go_wp2_with fail
    refine (begin_any (.slice none 0 0) [] w1 (IsLs.nil w1) (by simp)).mono ?_
    rintro e w3 ⟨v3, rfl, i3, b3⟩
    have I3 : Hid (IsLs w3 v3 [zeroLv]) := Lib.hid i3
    have B3 := Lib.hid (B1.out.trans (b3.mono B1.out.size))
    clear i3 b3
    have hal3 : Below w3.heap.size w3 (w3.alloc (.cells #[.int .i64 0, .int .i64 0, .int .i64 0, .int .i64 0] 42)) := (Below.refl _ _).alloc (Nat.le_refl _) _
    have B4 := Lib.hid (B3.out.trans (hal3.mono B3.out.size))
    have I4 := Lib.hid (I3.out.below hal3)
    have O4 : Hid (Own w.heap.size (w3.alloc (.cells #[.int .i64 0, .int .i64 0, .int .i64 0, .int .i64 0] 42)) (.slice (some ⟨w3.heap.size, 0, none⟩) 1 1) [zeroLv] 0) := Lib.hid ⟨rfl, .inr ⟨w3.heap.size, 1, #[.int .i64 0, .int .i64 0, .int .i64 0, .int .i64 0], rfl, B3.out.size, heap_alloc_new w3 _, Nat.le_refl _, by unfold maxLen; omega, rfl, rfl⟩⟩
    clear hal3
    go_wp2_with fail
    go_loopw [6, 7, 8] (fun l cp i wr => ∃ (k N : Nat) (init : List Lv) (f : Lv), k ≤ n ∧ N ≤ 9 ∧ i = .int .i64 k ∧ Hid (init.length = N) ∧ Hid (Made k (init ++ [f])) ∧ Hid (IsLs wr l (init ++ [f])) ∧ Hid (Own w.heap.size wr cp (init ++ [f]) N) ∧ Hid (Below w.heap.size w wr)) (fun _ _ i _ => n - (intOf i).toNat)
    case atStart => exact ⟨0, 0, [], zeroLv, Nat.zero_le _, Nat.zero_le _, rfl, Lib.hid rfl, Lib.hid made_one, I4, O4, B4⟩
    case round =>
      obtain ⟨k, N, init, f, hk, hN9, rfl, HIN, HMD, HL, HO, HB⟩ := hrel
      by_cases hlt : k < n
      · have hy : bs[k]? = some (bs[k]'(by rw [HN.out]; exact hlt)) := List.getElem?_eq_getElem _
        generalize bs[k]'(by rw [HN.out]; exact hlt) = y at hy
        have hyb := HB1.out y (List.mem_of_getElem? hy)
        obtain ⟨bb, off, rfl, hbb, y0⟩ := (HS1.out.below HB.out).at1 hy
        have hx : zs[k]? = some (zs[k]'(by rw [HM.out]; omega)) := List.getElem?_eq_getElem _
        generalize zs[k]'(by rw [HM.out]; omega) = x at hx
        have hxb := HB2.out x (List.mem_of_getElem? hx)
        obtain ⟨b2, off2, rfl, hbb2, x0⟩ := (HS2.out.below HB.out).at1 hx
        obtain ⟨g, c, rfl, hNc, hg0, hg⟩ := HO.out.form
        have HSM : Hid (∀ v ∈ init ++ [f], SmallV 40 v) := Lib.hid (fun v hv => (HMD.out.small v hv).up (by omega))
        have hN63 : ((N : Int) + 1 - 1) = (N : Int) := by omega
        have hkm : k < m := by omega
        have HY0 := Lib.hid (And.intro hbb y0)
        have HX0 := Lib.hid (And.intro hbb2 x0)
        have HG := Lib.hid hg
        have HG0 := Lib.hid hg0
        clear hy hx hbb hbb2 x0 hg hg0
        rcases (by omega : y % 4 = 0 ∨ y % 4 = 1 ∨ y % 4 = 2 ∨ y % 4 = 3) with h4 | h4 | h4 | h4
        · by_cases hN : N < 9
          · have hNi : (N : Int) < 9 := by omega
            go_wp2_with fail
            refine (begin_any _ (init ++ [f]) wr HL.out (by rw [List.length_append, HIN.out]; simp; omega)).mono ?_
            rintro e wa ⟨va, rfl, ia, ba⟩
            have IA := Lib.hid ia
            have BA := Lib.hid (HB.out.trans (ba.mono HB.out.size))
            have OA := Lib.hid (HO.out.below ba)
            clear ia ba
            obtain ⟨r0, r1, r2, r3, hr0, hr1, hr2, hr3⟩ : ∃ r0 r1 r2 r3, r0 = wVal (hitL (init ++ [f]) 0) ∧ r1 = wVal (hitL (init ++ [f]) 1) ∧ r2 = wVal (hitL (init ++ [f]) 2) ∧ r3 = wVal (hitL (init ++ [f]) 3) := ⟨_, _, _, _, rfl, rfl, rfl, rfl⟩
            have HRV : Hid (rowV (init ++ [f]) = [r0, r1, r2, r3]) := Lib.hid (by unfold rowV; rw [← hr0, ← hr1, ← hr2, ← hr3])
            have q0 : wa.cell? ⟨g, N * 4, none⟩ = some (.int .i64 r0) := (OA.out.last HIN.out 0 (by omega)).trans (by rw [hr0]; rfl)
            have q1 : wa.cell? ⟨g, N * 4 + 1, none⟩ = some (.int .i64 r1) := (OA.out.last HIN.out 1 (by omega)).trans (by rw [hr1]; rfl)
            have q2 : wa.cell? ⟨g, N * 4 + 2, none⟩ = some (.int .i64 r2) := (OA.out.last HIN.out 2 (by omega)).trans (by rw [hr2]; rfl)
            have q3 : wa.cell? ⟨g, N * 4 + 3, none⟩ = some (.int .i64 r3) := (OA.out.last HIN.out 3 (by omega)).trans (by rw [hr3]; rfl)
            clear hr0 hr1 hr2 hr3
            go_wp2_with (at_builtin; refine wpList_push2 rfl (.tmp 59) (.tmp 64) 43 rfl w.heap.size 42 i0 (.agg #[.int .i64 0, .int .i64 0, .int .i64 0, .int .i64 0]) 4 32 Try.underlying43 HI.out HZ0.out HZ1.out HZ2.out rfl (by decide) OA.out.row rfl rfl rfl rfl (by unfold maxLen; omega) (by omega) BA.out.size ?_)
            intro vb wb ob gb bb2
            obtain ⟨NN, hNN⟩ : ∃ NN, NN = N + 1 := ⟨_, rfl⟩
            have OB : Hid (Own w.heap.size wb vb ((init ++ [f]) ++ [zeroLv]) NN) := Lib.hid (Own.begin (own_cast ob rfl (by rw [HRV.out]; rfl)) hNN)
            have IL := Lib.hid (IsLs.grown IA.out OA.out.row (by decide) gb)
            have BW := Lib.hid (BA.out.trans bb2)
            have MD : Hid (Made (k + 1) ((init ++ [f]) ++ [zeroLv])) := Lib.hid (HMD.out.begin.up (by omega))
            have HIC : Hid ((init ++ [f]).length = NN) := Lib.hid (by rw [List.length_append, HIN.out, hNN]; rfl)
            obtain ⟨gN, cN, hvb, hcN, -, hgN⟩ := OB.out.form
            subst hvb
            have OC := OB
            have HGN := Lib.hid hgN
            have hNN3 : ((NN : Int) + 1 - 1) = (NN : Int) := by omega
            have hNN9 : NN ≤ 9 := by omega
            clear ob gb bb2 hgN q0 q1 q2 q3 hNN
            go_wp2_with fail
            go_loopw [13] (fun q wr => ∃ j : Nat, j ≤ 4 ∧ q = .int .i64 j ∧ Hid (Below wb.heap.size wb wr)) (fun q _ => 4 - (intOf q).toNat)
            case atStart => exact ⟨0, by omega, rfl, Lib.hid (Below.refl _ _)⟩
            case round =>
              obtain ⟨j, hj, rfl, HV⟩ := hrel
              by_cases hj4 : j < 4
              · obtain ⟨a, how, hfi, ha, hcase⟩ := MD.out.find (j : Int)
                have hcell := (HV.out.cell (p := ⟨gN, NN * 4 + j, none⟩) HGN.out).trans (OC.out.last HIC.out j hj4)
                rw [← ha] at hcell
                have HC1 := Lib.hid hcell
                have HGV := Lib.hid (Nat.lt_of_lt_of_le HGN.out HV.out.size)
                have HFI := Lib.hid hfi
                have HCA := Lib.hid hcase
                clear hcell ha hfi hcase
                go_wp2_with fail
                refine (find_any va ((init ++ [f]) ++ [zeroLv]) j wr (IL.out.below HV.out) (by rw [List.length_append, HIC.out]; simp; omega) (fun x hx => SmallV.up (MD.out.small x hx) (by omega))).mono ?_
                rintro e wz ⟨rfl, bz⟩
                rw [HFI.out]
                dsimp only
                have hc2 := (bz.cell (p := ⟨gN, NN * 4 + j, none⟩) HGV.out).trans HC1.out
                have HV2 := Lib.hid (HV.out.trans (bz.mono HV.out.size))
                clear bz
                rcases HCA.out with ⟨rfl, ha0⟩ | ⟨rfl, rfl⟩
                · have ha1 : (a != 0) = true := by simpa using ha0
                  go_wp2
                  go_roundw
                  case rel => exact ⟨j + 1, by omega, by go_num, HV2⟩
                  case measure => simp [intOf] <;> omega
                · go_wp2
                  go_roundw
                  case rel => exact ⟨j + 1, by omega, by go_num, HV2⟩
                  case measure => simp [intOf] <;> omega
              · have hj4' : j = 4 := by omega
                subst hj4'
                go_wp2
                go_roundw
                case rel => exact ⟨k + 1, NN, (init ++ [f]), zeroLv, by omega, by omega, by go_num, HIC, MD, Lib.hid (IL.out.below HV.out), Lib.hid (OC.out.below HV.out), Lib.hid (BW.out.trans (HV.out.mono BW.out.size))⟩
                case measure => simp [intOf] <;> omega
          · have hNi : ¬ ((N : Int) < 9) := by omega
            obtain ⟨wn, hwn⟩ : ∃ wn, wn = wr := ⟨_, rfl⟩
            subst hwn
            have IL := HL
            have OC := HO
            have MD : Hid (Made (k + 1) (init ++ [f])) := Lib.hid (HMD.out.up (by omega))
            have BW := HB
            have HIC := HIN
            have HGN := HG
            go_wp2_with fail
            go_loopw [13] (fun q wr => ∃ j : Nat, j ≤ 4 ∧ q = .int .i64 j ∧ Hid (Below wn.heap.size wn wr)) (fun q _ => 4 - (intOf q).toNat)
            case atStart => exact ⟨0, by omega, rfl, Lib.hid (Below.refl _ _)⟩
            case round =>
              obtain ⟨j, hj, rfl, HV⟩ := hrel
              by_cases hj4 : j < 4
              · obtain ⟨a, how, hfi, ha, hcase⟩ := MD.out.find (j : Int)
                have hcell := (HV.out.cell (p := ⟨g, N * 4 + j, none⟩) HGN.out).trans (OC.out.last HIC.out j hj4)
                rw [← ha] at hcell
                have HC1 := Lib.hid hcell
                have HGV := Lib.hid (Nat.lt_of_lt_of_le HGN.out HV.out.size)
                have HFI := Lib.hid hfi
                have HCA := Lib.hid hcase
                clear hcell ha hfi hcase
                go_wp2_with fail
                refine (find_any u6 (init ++ [f]) j wr (IL.out.below HV.out) (by rw [List.length_append, HIC.out]; simp; omega) (fun x hx => SmallV.up (MD.out.small x hx) (by omega))).mono ?_
                rintro e wz ⟨rfl, bz⟩
                rw [HFI.out]
                dsimp only
                have hc2 := (bz.cell (p := ⟨g, N * 4 + j, none⟩) HGV.out).trans HC1.out
                have HV2 := Lib.hid (HV.out.trans (bz.mono HV.out.size))
                clear bz
                rcases HCA.out with ⟨rfl, ha0⟩ | ⟨rfl, rfl⟩
                · have ha1 : (a != 0) = true := by simpa using ha0
                  go_wp2
                  go_roundw
                  case rel => exact ⟨j + 1, by omega, by go_num, HV2⟩
                  case measure => simp [intOf] <;> omega
                · go_wp2
                  go_roundw
                  case rel => exact ⟨j + 1, by omega, by go_num, HV2⟩
                  case measure => simp [intOf] <;> omega
              · have hj4' : j = 4 := by omega
                subst hj4'
                go_wp2
                go_roundw
                case rel => exact ⟨k + 1, N, init, f, by omega, by omega, by go_num, HIC, MD, Lib.hid (IL.out.below HV.out), Lib.hid (OC.out.below HV.out), Lib.hid (BW.out.trans (HV.out.mono BW.out.size))⟩
                case measure => simp [intOf] <;> omega
        · by_cases hN : 0 < N
          · have hNi : (0 : Int) < (N : Int) := by omega
            obtain ⟨NN, hNN0⟩ : ∃ NN, N = NN + 1 := ⟨N - 1, by omega⟩
            obtain ⟨init0, v0, hini⟩ : ∃ init0 v0, init = init0 ++ [v0] := by
              rcases List.eq_nil_or_concat init with h | ⟨i, x, h⟩
              · have := HIN.out
                rw [h] at this
                simp at this
                omega
              · exact ⟨i, x, by rw [h, List.concat_eq_append]⟩
            subst hini
            have HIC : Hid (init0.length = NN) := Lib.hid (by have := HIN.out; rw [List.length_append] at this; simp at this; omega)
            have hN1 : (N : Int) - 1 = (NN : Int) := by omega
            have hNc2 : N ≤ c := by omega
            have hNN3 : ((NN : Int) + 1 - 1) = (NN : Int) := by omega
            have hNN9 : NN ≤ 9 := by omega
            have hNN1 : NN < N + 1 := by omega
            have HNN := Lib.hid hNN0
            clear hNN0
            go_wp2_with fail
            refine (end_any _ init0 v0 f wr HL.out (by have := HIC.out; omega) (SmallV.up (HSM.out v0 (by simp)) (by omega)) (SmallV.up (HSM.out f (by simp)) (by omega))).mono ?_
            rintro e wa ⟨va, rfl, ia, ba⟩
            have IA := Lib.hid ia
            have BA := Lib.hid (HB.out.trans (ba.mono HB.out.size))
            have OA := Lib.hid (HO.out.below ba)
            have HGA := Lib.hid (Nat.lt_of_lt_of_le HG.out ba.size)
            clear ia ba
            obtain ⟨r0, r1, r2, r3, hr0, hr1, hr2, hr3⟩ : ∃ r0 r1 r2 r3, r0 = wVal (hitL ((init0 ++ [v0]) ++ [f]) 0) ∧ r1 = wVal (hitL ((init0 ++ [v0]) ++ [f]) 1) ∧ r2 = wVal (hitL ((init0 ++ [v0]) ++ [f]) 2) ∧ r3 = wVal (hitL ((init0 ++ [v0]) ++ [f]) 3) := ⟨_, _, _, _, rfl, rfl, rfl, rfl⟩
            have HRV : Hid (rowV ((init0 ++ [v0]) ++ [f]) = [r0, r1, r2, r3]) := Lib.hid (by unfold rowV; rw [← hr0, ← hr1, ← hr2, ← hr3])
            have q0 : wa.cell? ⟨g, N * 4, none⟩ = some (.int .i64 r0) := (OA.out.last HIN.out 0 (by omega)).trans (by rw [hr0]; rfl)
            have q1 : wa.cell? ⟨g, N * 4 + 1, none⟩ = some (.int .i64 r1) := (OA.out.last HIN.out 1 (by omega)).trans (by rw [hr1]; rfl)
            have q2 : wa.cell? ⟨g, N * 4 + 2, none⟩ = some (.int .i64 r2) := (OA.out.last HIN.out 2 (by omega)).trans (by rw [hr2]; rfl)
            have q3 : wa.cell? ⟨g, N * 4 + 3, none⟩ = some (.int .i64 r3) := (OA.out.last HIN.out 3 (by omega)).trans (by rw [hr3]; rfl)
            clear hr0 hr1 hr2 hr3
            obtain ⟨p0, hp0⟩ := OA.out.has (NN * 4) (by omega)
            obtain ⟨p1, hp1⟩ := OA.out.has (NN * 4 + 1) (by omega)
            obtain ⟨p2, hp2⟩ := OA.out.has (NN * 4 + 2) (by omega)
            obtain ⟨p3, hp3⟩ := OA.out.has (NN * 4 + 3) (by omega)
            have f0 := OA.out.free (NN * 4)
            have f1 := OA.out.free (NN * 4 + 1)
            have f2 := OA.out.free (NN * 4 + 2)
            have f3 := OA.out.free (NN * 4 + 3)
            have OC := Lib.hid (Own.fin OA.out HNN.out HIC.out (HMD.out.once f (by simp)) HRV.out)
            have IL := Lib.hid (IsLs.stored4 (o1 := NN * 4) (o2 := NN * 4 + 1) (o3 := NN * 4 + 2) (o4 := NN * 4 + 3) (u1 := .int .i64 r0) (u2 := .int .i64 r1) (u3 := .int .i64 r2) (u4 := .int .i64 r3) IA.out OA.out.row)
            have BW := Lib.hid (below_stored4 (o1 := NN * 4) (o2 := NN * 4 + 1) (o3 := NN * 4 + 2) (o4 := NN * 4 + 3) (u1 := .int .i64 r0) (u2 := .int .i64 r1) (u3 := .int .i64 r2) (u4 := .int .i64 r3) BA.out HG0.out)
            have MD : Hid (Made (k + 1) (init0 ++ [joinL v0 f])) := Lib.hid (HMD.out.fin.up (by omega))
            have HGN : Hid (g < ((((wa.setCell ⟨g, NN * 4, none⟩ (.int .i64 r0)).setCell ⟨g, NN * 4 + 1, none⟩ (.int .i64 r1)).setCell ⟨g, NN * 4 + 2, none⟩ (.int .i64 r2)).setCell ⟨g, NN * 4 + 3, none⟩ (.int .i64 r3)).heap.size) := Lib.hid (by rw [setCell_size, setCell_size, setCell_size, setCell_size]; exact HGA.out)
            go_wp2_with fail
            generalize (((wa.setCell ⟨g, NN * 4, none⟩ (.int .i64 r0)).setCell ⟨g, NN * 4 + 1, none⟩ (.int .i64 r1)).setCell ⟨g, NN * 4 + 2, none⟩ (.int .i64 r2)).setCell ⟨g, NN * 4 + 3, none⟩ (.int .i64 r3) = wn at *
            obtain rfl := HNN.out
            clear q0 q1 q2 q3 hp0 hp1 hp2 hp3 f0 f1 f2 f3
            go_wp2_with fail
            go_loopw [13] (fun q wr => ∃ j : Nat, j ≤ 4 ∧ q = .int .i64 j ∧ Hid (Below wn.heap.size wn wr)) (fun q _ => 4 - (intOf q).toNat)
            case atStart => exact ⟨0, by omega, rfl, Lib.hid (Below.refl _ _)⟩
            case round =>
              obtain ⟨j, hj, rfl, HV⟩ := hrel
              by_cases hj4 : j < 4
              · obtain ⟨a, how, hfi, ha, hcase⟩ := MD.out.find (j : Int)
                have hcell := (HV.out.cell (p := ⟨g, NN * 4 + j, none⟩) HGN.out).trans (OC.out.last HIC.out j hj4)
                rw [← ha] at hcell
                have HC1 := Lib.hid hcell
                have HGV := Lib.hid (Nat.lt_of_lt_of_le HGN.out HV.out.size)
                have HFI := Lib.hid hfi
                have HCA := Lib.hid hcase
                clear hcell ha hfi hcase
                go_wp2_with fail
                refine (find_any va (init0 ++ [(joinL v0 f)]) j wr (IL.out.below HV.out) (by rw [List.length_append, HIC.out]; simp; omega) (fun x hx => SmallV.up (MD.out.small x hx) (by omega))).mono ?_
                rintro e wz ⟨rfl, bz⟩
                rw [HFI.out]
                dsimp only
                have hc2 := (bz.cell (p := ⟨g, NN * 4 + j, none⟩) HGV.out).trans HC1.out
                have HV2 := Lib.hid (HV.out.trans (bz.mono HV.out.size))
                clear bz
                rcases HCA.out with ⟨rfl, ha0⟩ | ⟨rfl, rfl⟩
                · have ha1 : (a != 0) = true := by simpa using ha0
                  go_wp2
                  go_roundw
                  case rel => exact ⟨j + 1, by omega, by go_num, HV2⟩
                  case measure => simp [intOf] <;> omega
                · go_wp2
                  go_roundw
                  case rel => exact ⟨j + 1, by omega, by go_num, HV2⟩
                  case measure => simp [intOf] <;> omega
              · have hj4' : j = 4 := by omega
                subst hj4'
                go_wp2
                go_roundw
                case rel => exact ⟨k + 1, NN, init0, (joinL v0 f), by omega, by omega, by go_num, HIC, MD, Lib.hid (IL.out.below HV.out), Lib.hid (OC.out.below HV.out), Lib.hid (BW.out.trans (HV.out.mono BW.out.size))⟩
                case measure => simp [intOf] <;> omega
          · have hNi : ¬ ((0 : Int) < (N : Int)) := by omega
            obtain ⟨wn, hwn⟩ : ∃ wn, wn = wr := ⟨_, rfl⟩
            subst hwn
            have IL := HL
            have OC := HO
            have MD : Hid (Made (k + 1) (init ++ [f])) := Lib.hid (HMD.out.up (by omega))
            have BW := HB
            have HIC := HIN
            have HGN := HG
            go_wp2_with fail
            go_loopw [13] (fun q wr => ∃ j : Nat, j ≤ 4 ∧ q = .int .i64 j ∧ Hid (Below wn.heap.size wn wr)) (fun q _ => 4 - (intOf q).toNat)
            case atStart => exact ⟨0, by omega, rfl, Lib.hid (Below.refl _ _)⟩
            case round =>
              obtain ⟨j, hj, rfl, HV⟩ := hrel
              by_cases hj4 : j < 4
              · obtain ⟨a, how, hfi, ha, hcase⟩ := MD.out.find (j : Int)
                have hcell := (HV.out.cell (p := ⟨g, N * 4 + j, none⟩) HGN.out).trans (OC.out.last HIC.out j hj4)
                rw [← ha] at hcell
                have HC1 := Lib.hid hcell
                have HGV := Lib.hid (Nat.lt_of_lt_of_le HGN.out HV.out.size)
                have HFI := Lib.hid hfi
                have HCA := Lib.hid hcase
                clear hcell ha hfi hcase
                go_wp2_with fail
                refine (find_any u6 (init ++ [f]) j wr (IL.out.below HV.out) (by rw [List.length_append, HIC.out]; simp; omega) (fun x hx => SmallV.up (MD.out.small x hx) (by omega))).mono ?_
                rintro e wz ⟨rfl, bz⟩
                rw [HFI.out]
                dsimp only
                have hc2 := (bz.cell (p := ⟨g, N * 4 + j, none⟩) HGV.out).trans HC1.out
                have HV2 := Lib.hid (HV.out.trans (bz.mono HV.out.size))
                clear bz
                rcases HCA.out with ⟨rfl, ha0⟩ | ⟨rfl, rfl⟩
                · have ha1 : (a != 0) = true := by simpa using ha0
                  go_wp2
                  go_roundw
                  case rel => exact ⟨j + 1, by omega, by go_num, HV2⟩
                  case measure => simp [intOf] <;> omega
                · go_wp2
                  go_roundw
                  case rel => exact ⟨j + 1, by omega, by go_num, HV2⟩
                  case measure => simp [intOf] <;> omega
              · have hj4' : j = 4 := by omega
                subst hj4'
                go_wp2
                go_roundw
                case rel => exact ⟨k + 1, N, init, f, by omega, by omega, by go_num, HIC, MD, Lib.hid (IL.out.below HV.out), Lib.hid (OC.out.below HV.out), Lib.hid (BW.out.trans (HV.out.mono BW.out.size))⟩
                case measure => simp [intOf] <;> omega
        · by_cases hN : 0 < N
          · have hNi : (0 : Int) < (N : Int) := by omega
            obtain ⟨NN, hNN0⟩ : ∃ NN, N = NN + 1 := ⟨N - 1, by omega⟩
            obtain ⟨init0, v0, hini⟩ : ∃ init0 v0, init = init0 ++ [v0] := by
              rcases List.eq_nil_or_concat init with h | ⟨i, x, h⟩
              · have := HIN.out
                rw [h] at this
                simp at this
                omega
              · exact ⟨i, x, by rw [h, List.concat_eq_append]⟩
            subst hini
            have HIC : Hid (init0.length = NN) := Lib.hid (by have := HIN.out; rw [List.length_append] at this; simp at this; omega)
            have hN1 : (N : Int) - 1 = (NN : Int) := by omega
            have hNc2 : N ≤ c := by omega
            have hNN3 : ((NN : Int) + 1 - 1) = (NN : Int) := by omega
            have hNN9 : NN ≤ 9 := by omega
            have hNN1 : NN < N + 1 := by omega
            have HNN := Lib.hid hNN0
            clear hNN0
            go_wp2_with fail
            refine (drop_many _ init0 v0 f wr HL.out (by have := HIC.out; omega) (SmallV.up (HSM.out v0 (by simp)) (by omega)) (SmallV.up (HSM.out f (by simp)) (by omega))).mono ?_
            rintro e wa ⟨va, ua, rfl, ia, -, ba⟩
            have IL := Lib.hid ia
            have BW := Lib.hid (HB.out.trans (ba.mono HB.out.size))
            have OC := Lib.hid (Own.drop (HO.out.below ba) HNN.out HIC.out)
            have HGN := Lib.hid (Nat.lt_of_lt_of_le HG.out ba.size)
            have MD : Hid (Made (k + 1) (init0 ++ [joinR v0 f])) := Lib.hid (HMD.out.drop.up (by omega))
            clear ia ba
            go_wp2_with fail
            obtain rfl := HNN.out
            go_wp2_with fail
            go_loopw [13] (fun q wr => ∃ j : Nat, j ≤ 4 ∧ q = .int .i64 j ∧ Hid (Below wa.heap.size wa wr)) (fun q _ => 4 - (intOf q).toNat)
            case atStart => exact ⟨0, by omega, rfl, Lib.hid (Below.refl _ _)⟩
            case round =>
              obtain ⟨j, hj, rfl, HV⟩ := hrel
              by_cases hj4 : j < 4
              · obtain ⟨a, how, hfi, ha, hcase⟩ := MD.out.find (j : Int)
                have hcell := (HV.out.cell (p := ⟨g, NN * 4 + j, none⟩) HGN.out).trans (OC.out.last HIC.out j hj4)
                rw [← ha] at hcell
                have HC1 := Lib.hid hcell
                have HGV := Lib.hid (Nat.lt_of_lt_of_le HGN.out HV.out.size)
                have HFI := Lib.hid hfi
                have HCA := Lib.hid hcase
                clear hcell ha hfi hcase
                go_wp2_with fail
                refine (find_any va (init0 ++ [(joinR v0 f)]) j wr (IL.out.below HV.out) (by rw [List.length_append, HIC.out]; simp; omega) (fun x hx => SmallV.up (MD.out.small x hx) (by omega))).mono ?_
                rintro e wz ⟨rfl, bz⟩
                rw [HFI.out]
                dsimp only
                have hc2 := (bz.cell (p := ⟨g, NN * 4 + j, none⟩) HGV.out).trans HC1.out
                have HV2 := Lib.hid (HV.out.trans (bz.mono HV.out.size))
                clear bz
                rcases HCA.out with ⟨rfl, ha0⟩ | ⟨rfl, rfl⟩
                · have ha1 : (a != 0) = true := by simpa using ha0
                  go_wp2
                  go_roundw
                  case rel => exact ⟨j + 1, by omega, by go_num, HV2⟩
                  case measure => simp [intOf] <;> omega
                · go_wp2
                  go_roundw
                  case rel => exact ⟨j + 1, by omega, by go_num, HV2⟩
                  case measure => simp [intOf] <;> omega
              · have hj4' : j = 4 := by omega
                subst hj4'
                go_wp2
                go_roundw
                case rel => exact ⟨k + 1, NN, init0, (joinR v0 f), by omega, by omega, by go_num, HIC, MD, Lib.hid (IL.out.below HV.out), Lib.hid (OC.out.below HV.out), Lib.hid (BW.out.trans (HV.out.mono BW.out.size))⟩
                case measure => simp [intOf] <;> omega
          · have hNi : ¬ ((0 : Int) < (N : Int)) := by omega
            obtain ⟨wn, hwn⟩ : ∃ wn, wn = wr := ⟨_, rfl⟩
            subst hwn
            have IL := HL
            have OC := HO
            have MD : Hid (Made (k + 1) (init ++ [f])) := Lib.hid (HMD.out.up (by omega))
            have BW := HB
            have HIC := HIN
            have HGN := HG
            go_wp2_with fail
            go_loopw [13] (fun q wr => ∃ j : Nat, j ≤ 4 ∧ q = .int .i64 j ∧ Hid (Below wn.heap.size wn wr)) (fun q _ => 4 - (intOf q).toNat)
            case atStart => exact ⟨0, by omega, rfl, Lib.hid (Below.refl _ _)⟩
            case round =>
              obtain ⟨j, hj, rfl, HV⟩ := hrel
              by_cases hj4 : j < 4
              · obtain ⟨a, how, hfi, ha, hcase⟩ := MD.out.find (j : Int)
                have hcell := (HV.out.cell (p := ⟨g, N * 4 + j, none⟩) HGN.out).trans (OC.out.last HIC.out j hj4)
                rw [← ha] at hcell
                have HC1 := Lib.hid hcell
                have HGV := Lib.hid (Nat.lt_of_lt_of_le HGN.out HV.out.size)
                have HFI := Lib.hid hfi
                have HCA := Lib.hid hcase
                clear hcell ha hfi hcase
                go_wp2_with fail
                refine (find_any u6 (init ++ [f]) j wr (IL.out.below HV.out) (by rw [List.length_append, HIC.out]; simp; omega) (fun x hx => SmallV.up (MD.out.small x hx) (by omega))).mono ?_
                rintro e wz ⟨rfl, bz⟩
                rw [HFI.out]
                dsimp only
                have hc2 := (bz.cell (p := ⟨g, N * 4 + j, none⟩) HGV.out).trans HC1.out
                have HV2 := Lib.hid (HV.out.trans (bz.mono HV.out.size))
                clear bz
                rcases HCA.out with ⟨rfl, ha0⟩ | ⟨rfl, rfl⟩
                · have ha1 : (a != 0) = true := by simpa using ha0
                  go_wp2
                  go_roundw
                  case rel => exact ⟨j + 1, by omega, by go_num, HV2⟩
                  case measure => simp [intOf] <;> omega
                · go_wp2
                  go_roundw
                  case rel => exact ⟨j + 1, by omega, by go_num, HV2⟩
                  case measure => simp [intOf] <;> omega
              · have hj4' : j = 4 := by omega
                subst hj4'
                go_wp2
                go_roundw
                case rel => exact ⟨k + 1, N, init, f, by omega, by omega, by go_num, HIC, MD, Lib.hid (IL.out.below HV.out), Lib.hid (OC.out.below HV.out), Lib.hid (BW.out.trans (HV.out.mono BW.out.size))⟩
                case measure => simp [intOf] <;> omega
        · have x1 := HX0.out.2
          obtain ⟨lc, hlc⟩ : ∃ lc : Nat, y / 4 % 4 = (lc : Int) := ⟨(y / 4 % 4).toNat, by omega⟩
          have hlc4 : lc < 4 := by omega
          go_wp2_with fail
          refine (nput_any _ init f ⟨(lc : Int), 1 + x + 40000⟩ wr HL.out (by rw [HIN.out]; omega) (by have := (HSM.out f (by simp)).2.1; omega)).mono ?_
          rintro e wa ⟨va, rfl, ia, ba⟩
          have IA := Lib.hid ia
          have BA := Lib.hid (HB.out.trans (ba.mono HB.out.size))
          have OA := Lib.hid (HO.out.below ba)
          have HGA := Lib.hid (Nat.lt_of_lt_of_le HG.out ba.size)
          have y2 := (ba.cell (p := ⟨b2, off2 + k, none⟩) (Nat.lt_of_lt_of_le HX0.out.1 HB.out.size)).trans HX0.out.2
          have MD : Hid (Made (k + 1) (init ++ [addW ⟨(lc : Int), 1 + x + 40000⟩ f])) := Lib.hid (HMD.out.put (show (1 + x + 40000 : Int) ≠ 0 by omega))
          have OC := Lib.hid (Own.put OA.out HIN.out lc (1 + x + 40000) hlc4)
          have IL := Lib.hid (IsLs.stored (o := N * 4 + lc) (u := .int .i64 (1 + x + 40000)) IA.out OA.out.row (by decide))
          have BW := Lib.hid (BA.out.setCell (p := ⟨g, N * 4 + lc, none⟩) HG0.out (.int .i64 (1 + x + 40000)))
          have HGN : Hid (g < (wa.setCell ⟨g, N * 4 + lc, none⟩ (.int .i64 (1 + x + 40000))).heap.size) := Lib.hid (by rw [setCell_size]; exact HGA.out)
          obtain ⟨p0, hp0⟩ := OA.out.has (N * 4 + lc) (by omega)
          have f0 := OA.out.free (N * 4 + lc)
          have hNlt : (N : Int) < (N : Int) + 1 := by omega
          have hwN : IntKind.i64.wrap (N : Int) = (N : Int) := by rw [IntKind.wrap_i64]; omega
          have hwl : IntKind.i64.wrap (lc : Int) = (lc : Int) := by rw [IntKind.wrap_i64]; omega
          have hwk : IntKind.i64.wrap (k : Int) = (k : Int) := by rw [IntKind.wrap_i64]; omega
          have hw1 : IntKind.i64.wrap (1 + x) = 1 + x := by rw [IntKind.wrap_i64]; omega
          have hw2 : IntKind.i64.wrap (1 + x + 40000) = 1 + x + 40000 := by rw [IntKind.wrap_i64]; omega
          have hw3 : IntKind.i64.wrap x = x := by rw [IntKind.wrap_i64]; omega
          have hlc4 : (lc : Int) < 4 := by omega
          clear ia ba x1
          go_wp2_with fail
          go_region_law (fail)
          have hdr : Below (wa.setCell ⟨g, N * 4 + lc, none⟩ (.int .i64 (1 + x + 40000))).heap.size (wa.setCell ⟨g, N * 4 + lc, none⟩ (.int .i64 (1 + x + 40000))) (wa.setCell ⟨g, N * 4 + lc, none⟩ (.int .i64 (1 + x + 40000))).drew := (Below.refl _ _).drew
          have IL := Lib.hid (IL.out.below hdr)
          have OC := Lib.hid (OC.out.below hdr)
          have BW := Lib.hid (BW.out.trans (hdr.mono BW.out.size))
          have HGN := Lib.hid (Nat.lt_of_lt_of_le HGN.out hdr.size)
          have HIC := HIN
          clear hdr hp0 f0 y2 hwN hwl hwk hw1 hw2 hw3 hNlt
          generalize (wa.setCell ⟨g, N * 4 + lc, none⟩ (.int .i64 (1 + x + 40000))).drew = wn at *
          go_wp2_with fail
          go_loopw [13] (fun q wr => ∃ j : Nat, j ≤ 4 ∧ q = .int .i64 j ∧ Hid (Below wn.heap.size wn wr)) (fun q _ => 4 - (intOf q).toNat)
          case atStart => exact ⟨0, by omega, rfl, Lib.hid (Below.refl _ _)⟩
          case round =>
            obtain ⟨j, hj, rfl, HV⟩ := hrel
            by_cases hj4 : j < 4
            · obtain ⟨a, how, hfi, ha, hcase⟩ := MD.out.find (j : Int)
              have hcell := (HV.out.cell (p := ⟨g, N * 4 + j, none⟩) HGN.out).trans (OC.out.last HIC.out j hj4)
              rw [← ha] at hcell
              have HC1 := Lib.hid hcell
              have HGV := Lib.hid (Nat.lt_of_lt_of_le HGN.out HV.out.size)
              have HFI := Lib.hid hfi
              have HCA := Lib.hid hcase
              clear hcell ha hfi hcase
              go_wp2_with fail
              refine (find_any va (init ++ [(addW ⟨(lc : Int), 1 + x + 40000⟩ f)]) j wr (IL.out.below HV.out) (by rw [List.length_append, HIC.out]; simp; omega) (fun x hx => SmallV.up (MD.out.small x hx) (by omega))).mono ?_
              rintro e wz ⟨rfl, bz⟩
              rw [HFI.out]
              dsimp only
              have hc2 := (bz.cell (p := ⟨g, N * 4 + j, none⟩) HGV.out).trans HC1.out
              have HV2 := Lib.hid (HV.out.trans (bz.mono HV.out.size))
              clear bz
              rcases HCA.out with ⟨rfl, ha0⟩ | ⟨rfl, rfl⟩
              · have ha1 : (a != 0) = true := by simpa using ha0
                go_wp2
                go_roundw
                case rel => exact ⟨j + 1, by omega, by go_num, HV2⟩
                case measure => simp [intOf] <;> omega
              · go_wp2
                go_roundw
                case rel => exact ⟨j + 1, by omega, by go_num, HV2⟩
                case measure => simp [intOf] <;> omega
            · have hj4' : j = 4 := by omega
              subst hj4'
              go_wp2
              go_roundw
              case rel => exact ⟨k + 1, N, init, (addW ⟨(lc : Int), 1 + x + 40000⟩ f), by omega, by omega, by go_num, HIC, MD, Lib.hid (IL.out.below HV.out), Lib.hid (OC.out.below HV.out), Lib.hid (BW.out.trans (HV.out.mono BW.out.size))⟩
              case measure => simp [intOf] <;> omega
      · go_wp2
        go_ret
        exact ⟨rfl, HB.out⟩
  · by_cases hn40 : n ≤ 40
    · have hn40' : ¬ ((40 : Int) < (n : Int)) := by omega
      have hnm : ¬ n ≤ m := fun h => h40 ⟨hn40, h⟩
      have hnm' : (m : Int) < (n : Int) := by omega
      go_wp2
      go_ret
      exact ⟨rfl, B1.out⟩
    · have hn40' : (40 : Int) < (n : Int) := by omega
      go_wp2
      go_ret
      exact ⟨rfl, B1.out⟩
theorem nmodel_walk (a : Option Addr) (len cap : Nat) (zs : List Int) (a' : Option Addr) (len' cap' : Nat) (zs' : List Int) (w : World) (h : Row .u8 w a len cap zs) (h' : Row .i16 w a' len' cap' zs') : Calls Try.prog 4 #[.slice a len cap, .slice a' len' cap'] w (TrueBelow w) :=
  nmodel_core a len cap (zs.take len) a' len' cap' (zs'.take len') w h.len.1 h'.len.1 h.sees h'.sees (fun x hx => bounds_u8 (h.len.2.2.2 x hx)) (fun x hx => bounds_i16 (h'.len.2.2.2 x hx))
end Go.Proofs.Ytiomfncbhbokpaa
