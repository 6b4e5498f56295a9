/- NestUndo walked. -/
import Derived.Test.YtiomfncbhbokpaaTSide
import Derived.Test.YtiomfncbhbokpaaTSteady
namespace Go.Proofs.Ytiomfncbhbokpaa
open Go.RowKit
set_option linter.unusedVariables false

def mkU (k : Int) : Und := ⟨0, 0, 0, none, 0, 0, k⟩
def lvU (ks : List Int) : Lv := ⟨[], [], ks.map mkU⟩
theorem lvU_add (ks : List Int) (k : Int) : addU (mkU k) (lvU ks) = lvU (ks ++ [k]) := by simp [addU, lvU]
theorem lvU_join (ks : List Int) (k : Int) : joinL (lvU ks) (addU (mkU k) zeroLv) = lvU (ks ++ [k]) := by simp [joinL, lvU, addU, zeroLv]
theorem lvU_drop (ks : List Int) (k : Int) : joinR (lvU ks) (addU (mkU k) zeroLv) = lvU ks := by simp [joinR, lvU, addU, zeroLv]
theorem lvU_small {ks : List Int} {m : Nat} (h : ks.length ≤ m) : SmallV m (lvU ks) := ⟨Nat.zero_le _, Nat.zero_le _, by simpa [lvU] using h⟩
theorem zero_small : SmallV 0 zeroLv := ⟨Nat.zero_le _, Nat.zero_le _, Nat.zero_le _⟩
theorem trees_mkU (w : World) (ks : List Int) : Trees w (ks.map mkU) := fun u hu => by
  obtain ⟨k, _, rfl⟩ := List.mem_map.1 hu
  exact ⟨1, Nat.zero_le _, fun i hi => by cases hi⟩
set_option maxRecDepth 100000 in
theorem Try.info3 : (Try.prog.info? 3).map (fun i => (i.zero, i.size, i.bytes)) = some (some (.int .i64 0), 1, 8) := by kernel_rfl

set_option maxRecDepth 100000 in
set_option maxHeartbeats 8000000 in
theorem nundo_core (A : Option Addr) (n c : Nat) (bs : List Int) (w : World) (hn : bs.length = n) (hS : SeesN .u8 w w.heap.size A bs) (hb : ∀ x ∈ bs, 0 ≤ x ∧ x ≤ 255) : Calls Try.prog 6 #[.slice A n c] w (TrueBelow w) := by
  obtain ⟨i0, hi, hz0, hz1, hz2⟩ := info_parts Try.info3
  have HI := Lib.hid hi
  have HZ0 := Lib.hid hz0
  have HZ1 := Lib.hid hz1
  have HZ2 := Lib.hid hz2
  have HN := Lib.hid hn
  have HS := Lib.hid hS
  have HBY := Lib.hid hb
  clear hi hz0 hz1 hz2 hn hS hb
  go_enter Try.func6, Try.ntmps6
  go_wp2_with fail
  refine (sanity_any w).mono ?_
  rintro e w1 ⟨rfl, b1⟩
  have B1 := Lib.hid b1
  clear b1
  by_cases h12 : n ≤ 12
  · have h12' : ¬ ((12 : Int) < (n : Int)) := by omega
    go_wp2_with fail
    refine (begin_any (.slice none 0 0) [] w1 (IsLs.nil w1) (by simp)).mono ?_
    rintro e w3 ⟨v3, rfl, i3, b3⟩
    have I3 : Hid (IsLs w3 v3 [lvU []]) := Lib.hid i3
    have B3 := Lib.hid (B1.out.trans (b3.mono B1.out.size))
    clear i3 b3
    go_wp2
    go_loopw [4, 5, 6] (fun l kp i wr => ∃ (k : Nat) (ks : List Int), k ≤ n ∧ ks.length ≤ k ∧ i = .int .i64 k ∧ Hid (IsLs wr l [lvU ks]) ∧ Hid (wr.ownsRow w.heap.size 3 1 kp ks.length (ks.map (Value.int .i64))) ∧ Hid (Below w.heap.size w wr)) (fun _ _ i _ => n - (intOf i).toNat)
    case atStart => exact ⟨0, [], Nat.zero_le _, Nat.le_refl _, rfl, I3, Lib.hid (World.ownsRow_nil _ _ _ _), B3⟩
    case round =>
      obtain ⟨k, ks, hk, hks, rfl, HL, HO, HB⟩ := hrel
      by_cases hlt : k < n
      · have hy : bs[k]? = some (bs[k]'(by rw [HN.out]; exact hlt)) := List.getElem?_eq_getElem _
        generalize bs[k]'(by rw [HN.out]; exact hlt) = y at hy
        have hyb := HBY.out y (List.mem_of_getElem? hy)
        obtain ⟨bb, off, rfl, hbb, y0⟩ := (HS.out.below HB.out).at1 hy
        clear hy
        have hal : Below wr.heap.size wr (wr.alloc (.cells #[.int .i64 0, .int .i64 0, .int .i64 0, .slice none 0 0, .int .i64 ((k : Int) + 1)] 50)) := (Below.refl _ _).alloc (Nat.le_refl _) _
        have hbw : bb < wr.heap.size := Nat.lt_of_lt_of_le hbb HB.out.size
        have y1 := (hal.cell (p := ⟨bb, off + k, none⟩) hbw).trans y0
        have HB5 := Lib.hid (HB.out.trans (hal.mono HB.out.size))
        have HL5 := Lib.hid (HL.out.below hal)
        have HO5 := Lib.hid (own_below HO.out hal)
        have HX5 := Lib.hid (Box5.new wr (.int .i64 0) (.int .i64 0) (.int .i64 0) (.slice none 0 0) (.int .i64 ((k : Int) + 1)) 50)
        have HG5 : Hid (wr.heap.size < (wr.alloc (.cells #[.int .i64 0, .int .i64 0, .int .i64 0, .slice none 0 0, .int .i64 ((k : Int) + 1)] 50)).heap.size) := Lib.hid (by simp)
        clear hal
        rcases (by omega : y % 3 = 0 ∨ y % 3 = 1 ∨ y % 3 = 2) with h3 | h3 | h3
        · go_wp2_with fail
          refine (nkeep_any _ [] (lvU ks) (mkU ((k : Int) + 1)) _ HL5.out (by simp) (by simp [lvU]; omega)).mono ?_
          rintro e w6 ⟨v6, rfl, i6, b6⟩
          have I6 : Hid (IsLs w6 v6 [lvU (ks ++ [(k : Int) + 1])]) := Lib.hid (by rw [← lvU_add]; exact i6)
          have O6 := Lib.hid (own_below HO5.out b6)
          have B6 := Lib.hid (HB5.out.trans (b6.mono HB5.out.size))
          clear i6 b6
          go_wp2_with (at_builtin; refine wpList_push2 rfl (.tmp 38) (.tmp 41) 54 rfl w.heap.size 3 i0 (.int .i64 0) 1 8 Try.underlying54 HI.out HZ0.out HZ1.out HZ2.out rfl (by decide) O6.out rfl rfl rfl rfl (by unfold maxLen; omega) (by omega) B6.out.size ?_)
          intro v7 w7 o7 g7 b7
          have I7 := Lib.hid (IsLs.grown I6.out O6.out (by decide) g7)
          have O7 := Lib.hid (own_cast (n' := (ks ++ [(k : Int) + 1]).length) (xs' := (ks ++ [(k : Int) + 1]).map (Value.int .i64)) o7 (by simp) (by simp))
          have B7 := Lib.hid (B6.out.trans b7)
          clear o7 g7 b7
          go_wp2
          go_roundw
          case rel => exact ⟨k + 1, ks ++ [(k : Int) + 1], by omega, by simp; omega, by go_num, I7, O7, B7⟩
          case measure => simp [intOf] <;> omega
        · go_wp2_with fail
          generalize hXX : wr.alloc (.cells #[.int .i64 0, .int .i64 0, .int .i64 0, .slice none 0 0, .int .i64 ((k : Int) + 1)] 50) = X at *
          have BC : Hid (Below X.heap.size X X.drew) := Lib.hid (Below.refl _ _).drew
          clear y0 y1 hbb hbw hXX
          refine wp_region_any (by kernel_rfl) ?_
          change wpAny _ _ _ _ _ _ _ X.drew
          refine wpAny_take (i := 0) (v := ?_) rfl (by kernel_rfl) (by kernel_rfl) (by kernel_rfl) (fun _ _ _ h => h) (Or.inl ⟨by rfl, ?_⟩) ?_
          case refine_2 => (intro W; go_simp; try with_reducible rfl)
          try go_simp
          refine wpAny_load (I := fun W => Below X.heap.size X W) (i := 2) (c := 1) (rs := [1, 2]) (dst := some 47) (T := 50) (x := .tmp 7) (v := .agg #[.int .i64 0, .int .i64 0, .int .i64 0, .slice none 0 0, .int .i64 ((k : Int) + 1)]) ⟨⟨_, _, _, _, rfl, by rfl, fun W hW => ?_⟩, fun h => by cases h⟩ BC.out rfl (by kernel_rfl) (fun _ _ h => by cases h) (fun _ _ _ h => h) (by kernel_rfl) (by simp) (by decide) (by kernel_rfl) (by kernel_rfl) (by decide) ?_
          case refine_1 => (have q0 := (HX5.out.below (show Below X.heap.size X W from hW) HG5.out).c0; have q1 := (HX5.out.below (show Below X.heap.size X W from hW) HG5.out).c1; have q2 := (HX5.out.below (show Below X.heap.size X W from hW) HG5.out).c2; have q3 := (HX5.out.below (show Below X.heap.size X W from hW) HG5.out).c3; have q4 := (HX5.out.below (show Below X.heap.size X W from hW) HG5.out).c4; go_simp; try with_reducible rfl)
          refine wpOp_step rfl (fun K hK => ?_)
          go_simp
          go_wp2_with fail
          refine (begin_any _ _ _ (HL5.out.below BC.out) (by simp)).mono ?_
          rintro e wn ⟨v8, rfl, i8, BN⟩
          have BC := Lib.hid (BC.out.trans (BN.mono BC.out.size))
          have I8 := Lib.hid i8
          clear i8 BN
          go_wp2_with fail
          first | refine ⟨BC.out, ?_⟩ | refine hK _ _ ⟨BC.out, ?_⟩
          try clear hK K
          refine wpAny_ready (rs := [3]) (by kernel_rfl) (by simp) ?_
          refine AllReady.cons rfl (fun K hK => ?_) AllReady.nil
          go_simp
          go_wp2_with fail
          refine (nkeep_any _ [lvU ks] zeroLv (mkU ((k : Int) + 1)) _ I8.out (by simp) (by simp [zeroLv])).mono ?_
          rintro e wn ⟨v9, rfl, i9, BN⟩
          have BC := Lib.hid (BC.out.trans (BN.mono BC.out.size))
          have I9 := Lib.hid i9
          clear i9 BN
          go_wp2_with fail
          try (refine hK _ _ ?_; clear hK K)
          refine wpAny_ready (rs := [4]) (by kernel_rfl) (by simp) ?_
          refine AllReady.cons rfl (fun K hK => ?_) AllReady.nil
          go_simp
          go_wp2_with fail
          refine (end_any _ [] (lvU ks) (addU (mkU ((k : Int) + 1)) zeroLv) _ I9.out (by simp) (SmallV.up (lvU_small (m := 12) (by omega)) (by omega)) (SmallV.up (addU_small (mkU ((k : Int) + 1)) zero_small) (by omega))).mono ?_
          rintro e wn ⟨v6, rfl, i6, BN⟩
          have BC := Lib.hid (BC.out.trans (BN.mono BC.out.size))
          have I6 : Hid (IsLs wn v6 [lvU (ks ++ [(k : Int) + 1])]) := Lib.hid (by rw [← lvU_join]; exact i6)
          clear i6 BN
          go_wp2_with fail
          try (refine hK _ _ ?_; clear hK K)
          refine wpAny_take (i := 5) (v := ?_) rfl (by kernel_rfl) (by kernel_rfl) (by kernel_rfl) (fun _ _ _ h => h) (Or.inl ⟨by rfl, ?_⟩) ?_
          case refine_2 => (intro W; go_simp; try with_reducible rfl)
          try go_simp
          refine wpAny_done (by kernel_rfl) ?_ _
          have O6 := Lib.hid (own_below HO5.out BC.out)
          have B6 := Lib.hid (HB5.out.trans (BC.out.mono HB5.out.size))
          go_wp2_with (at_builtin; refine wpList_push2 rfl (.tmp 50) (.tmp 53) 54 rfl w.heap.size 3 i0 (.int .i64 0) 1 8 Try.underlying54 HI.out HZ0.out HZ1.out HZ2.out rfl (by decide) O6.out rfl rfl rfl rfl (by unfold maxLen; omega) (by omega) B6.out.size ?_)
          intro v7 w7 o7 g7 b7
          have I7 := Lib.hid (IsLs.grown I6.out O6.out (by decide) g7)
          have O7 := Lib.hid (own_cast (n' := (ks ++ [(k : Int) + 1]).length) (xs' := (ks ++ [(k : Int) + 1]).map (Value.int .i64)) o7 (by simp) (by simp))
          have B7 := Lib.hid (B6.out.trans b7)
          clear o7 g7 b7
          go_wp2
          go_roundw
          case rel => exact ⟨k + 1, ks ++ [(k : Int) + 1], by omega, by simp; omega, by go_num, I7, O7, B7⟩
          case measure => simp [intOf] <;> omega
        · go_wp2_with fail
          generalize hXX : wr.alloc (.cells #[.int .i64 0, .int .i64 0, .int .i64 0, .slice none 0 0, .int .i64 ((k : Int) + 1)] 50) = X at *
          have BC : Hid (Below X.heap.size X X.drew) := Lib.hid (Below.refl _ _).drew
          clear y0 y1 hbb hbw hXX
          refine wp_region_any (by kernel_rfl) ?_
          change wpAny _ _ _ _ _ _ _ X.drew
          refine wpAny_take (i := 0) (v := ?_) rfl (by kernel_rfl) (by kernel_rfl) (by kernel_rfl) (fun _ _ _ h => h) (Or.inl ⟨by rfl, ?_⟩) ?_
          case refine_2 => (intro W; go_simp; try with_reducible rfl)
          try go_simp
          refine wpAny_load (I := fun W => Below X.heap.size X W) (i := 2) (c := 1) (rs := [1, 2]) (dst := some 60) (T := 50) (x := .tmp 7) (v := .agg #[.int .i64 0, .int .i64 0, .int .i64 0, .slice none 0 0, .int .i64 ((k : Int) + 1)]) ⟨⟨_, _, _, _, rfl, by rfl, fun W hW => ?_⟩, fun h => by cases h⟩ BC.out rfl (by kernel_rfl) (fun _ _ h => by cases h) (fun _ _ _ h => h) (by kernel_rfl) (by simp) (by decide) (by kernel_rfl) (by kernel_rfl) (by decide) ?_
          case refine_1 => (have q0 := (HX5.out.below (show Below X.heap.size X W from hW) HG5.out).c0; have q1 := (HX5.out.below (show Below X.heap.size X W from hW) HG5.out).c1; have q2 := (HX5.out.below (show Below X.heap.size X W from hW) HG5.out).c2; have q3 := (HX5.out.below (show Below X.heap.size X W from hW) HG5.out).c3; have q4 := (HX5.out.below (show Below X.heap.size X W from hW) HG5.out).c4; go_simp; try with_reducible rfl)
          refine wpOp_step rfl (fun K hK => ?_)
          go_simp
          go_wp2_with fail
          refine (begin_any _ _ _ (HL5.out.below BC.out) (by simp)).mono ?_
          rintro e wn ⟨v8, rfl, i8, BN⟩
          have BC := Lib.hid (BC.out.trans (BN.mono BC.out.size))
          have I8 := Lib.hid i8
          clear i8 BN
          go_wp2_with fail
          first | refine ⟨BC.out, ?_⟩ | refine hK _ _ ⟨BC.out, ?_⟩
          try clear hK K
          refine wpAny_ready (rs := [3]) (by kernel_rfl) (by simp) ?_
          refine AllReady.cons rfl (fun K hK => ?_) AllReady.nil
          go_simp
          go_wp2_with fail
          refine (nkeep_any _ [lvU ks] zeroLv (mkU ((k : Int) + 1)) _ I8.out (by simp) (by simp [zeroLv])).mono ?_
          rintro e wn ⟨v9, rfl, i9, BN⟩
          have BC := Lib.hid (BC.out.trans (BN.mono BC.out.size))
          have I9 := Lib.hid i9
          clear i9 BN
          go_wp2_with fail
          try (refine hK _ _ ?_; clear hK K)
          refine wpAny_ready (rs := [4]) (by kernel_rfl) (by simp) ?_
          refine AllReady.cons rfl (fun K hK => ?_) AllReady.nil
          go_simp
          go_wp2_with fail
          refine (drop_many _ [] (lvU ks) (addU (mkU ((k : Int) + 1)) zeroLv) _ I9.out (by simp) (SmallV.up (lvU_small (m := 12) (by omega)) (by omega)) (SmallV.up (addU_small (mkU ((k : Int) + 1)) zero_small) (by omega))).mono ?_
          rintro e wn ⟨v6, u6, rfl, i6, hu6, BN⟩
          have BC := Lib.hid (BC.out.trans (BN.mono BC.out.size))
          have I6 : Hid (IsLs wn v6 [lvU ks]) := Lib.hid (by rw [← lvU_drop ks ((k : Int) + 1)]; exact i6)
          have U6 : Hid (IsU wn u6 [mkU ((k : Int) + 1)]) := Lib.hid hu6
          clear i6 hu6 BN
          go_wp2_with fail
          try (refine hK _ _ ?_; clear hK K)
          refine wpAny_take (i := 5) (v := ?_) rfl (by kernel_rfl) (by kernel_rfl) (by kernel_rfl) (fun _ _ _ h => h) (Or.inl ⟨by rfl, ?_⟩) ?_
          case refine_2 => (intro W; go_simp; try with_reducible rfl)
          try go_simp
          refine wpAny_take (i := 6) (v := ?_) rfl (by kernel_rfl) (by kernel_rfl) (by kernel_rfl) (fun _ _ _ h => h) (Or.inl ⟨by rfl, ?_⟩) ?_
          case refine_2 => (intro W; go_simp; try with_reducible rfl)
          try go_simp
          refine wpAny_take (i := 7) (v := ?_) rfl (by kernel_rfl) (by kernel_rfl) (by kernel_rfl) (fun _ _ _ h => h) (Or.inl ⟨by rfl, ?_⟩) ?_
          case refine_2 => (intro W; go_simp; try with_reducible rfl)
          try go_simp
          refine wpAny_take (i := 8) (v := ?_) rfl (by kernel_rfl) (by kernel_rfl) (by kernel_rfl) (fun _ _ _ h => h) (Or.inl ⟨by rfl, ?_⟩) ?_
          case refine_2 => (intro W; go_simp; try with_reducible rfl)
          try go_simp
          refine wpAny_take (i := 9) (v := ?_) rfl (by kernel_rfl) (by kernel_rfl) (by kernel_rfl) (fun _ _ _ h => h) (Or.inl ⟨by rfl, ?_⟩) ?_
          case refine_2 => (intro W; go_simp; try with_reducible rfl)
          try go_simp
          refine wpAny_done (by kernel_rfl) ?_ _
          obtain ⟨A6, c6, hu, hc6, hs6⟩ := U6.out
          simp only [List.length_singleton] at hu hc6
          subst hu
          have O6 := Lib.hid (own_below HO5.out BC.out)
          have B6 := Lib.hid (HB5.out.trans (BC.out.mono HB5.out.size))
          have E6 := Lib.hid (HX5.out.below BC.out HG5.out)
          have q0 := E6.out.c0
          have q1 := E6.out.c1
          have q2 := E6.out.c2
          have q3 := E6.out.c3
          have q4 := E6.out.c4
          have S6 := Lib.hid hs6
          clear hs6
          have HAL : Hid (Below wn.heap.size wn (wn.alloc (.cells #[.int .i64 0, .int .i64 0, .int .i64 0, .slice none 0 0, .int .i64 ((k : Int) + 1)] 50))) := Lib.hid ((Below.refl _ _).alloc (Nat.le_refl _) _)
          have S7 := Lib.hid ((S6.out.below HAL.out).more HAL.out.size)
          have S8 := Lib.hid ((Sees.new wn [.int .i64 0, .int .i64 0, .int .i64 0, .slice none 0 0, .int .i64 ((k : Int) + 1)] 50).more (show wn.heap.size + 1 ≤ (wn.alloc (.cells #[.int .i64 0, .int .i64 0, .int .i64 0, .slice none 0 0, .int .i64 ((k : Int) + 1)] 50)).heap.size by simp))
          go_wp2_with fail
          refine (undosSame_any A6 1 c6 (some ⟨wn.heap.size, 0, none⟩) 1 [mkU ((k : Int) + 1)] _ rfl (by unfold maxLen; omega) S7.out S8.out (trees_mkU _ [(k : Int) + 1])).mono ?_
          rintro e wz ⟨rfl, bz⟩
          have BZ := Lib.hid (HAL.out.trans (bz.mono HAL.out.size))
          have I7 := Lib.hid (I6.out.below BZ.out)
          have O7 := Lib.hid (own_below O6.out BZ.out)
          have B7 := Lib.hid (B6.out.trans (BZ.out.mono B6.out.size))
          clear bz
          go_wp2
          go_roundw
          case rel => exact ⟨k + 1, ks, by omega, by omega, by go_num, I7, O7, B7⟩
          case measure => simp [intOf] <;> omega
      · go_wp2_with fail
        refine (drop_one _ (lvU ks) wr HL.out (SmallV.up (lvU_small (m := 12) (by omega)) (by omega))).mono ?_
        rintro e wz ⟨v9, u9, rfl, -, hu9, bz⟩
        obtain ⟨A9, c9, hu, hc9, hs9⟩ := hu9
        have O9 := Lib.hid (own_below HO.out bz)
        have B9 := Lib.hid (HB.out.trans (bz.mono HB.out.size))
        obtain ⟨m, hm⟩ : ∃ m, m = ks.length := ⟨_, rfl⟩
        have hlu : (lvU ks).undo.reverse.length = m := by simp [lvU, hm]
        rw [hlu] at hu hc9
        have S9 : Hid (Sees wz wz.heap.size A9 ((ks.reverse.map mkU).flatMap undC)) := Lib.hid (by rw [List.map_reverse]; exact hs9)
        obtain ⟨A7, c7, hv, hc7, hk7⟩ := own_form0 O9.out
        rw [← hm] at hv hc7
        have HM := Lib.hid hm
        subst hu hv
        clear bz hs9 hlu hm
        have HK7 := Lib.hid hk7
        clear hk7
        have hmn : m ≤ n := by rw [HM.out]; omega
        go_wp2_with fail
        go_loopw [12] (fun i wr => ∃ j : Nat, j ≤ m ∧ i = .int .i64 j ∧ Hid (Below wz.heap.size wz wr)) (fun i _ => m - (intOf i).toNat)
        case atStart => exact ⟨0, Nat.zero_le _, rfl, Lib.hid (Below.refl _ _)⟩
        case round =>
          obtain ⟨j, hj, rfl, HV⟩ := hrel
          by_cases hjm : j < m
          · obtain ⟨q, hq⟩ : ∃ q, q + j + 1 = m := ⟨m - 1 - j, by omega⟩
            obtain ⟨z, hz⟩ : ∃ z, ks[q]? = some z := ⟨ks[q]'(by rw [← HM.out]; omega), List.getElem?_eq_getElem _⟩
            have hz2 : (ks.reverse.map mkU)[j]? = some (mkU z) := by rw [List.getElem?_map, List.getElem?_reverse (by rw [← HM.out]; exact hjm), ← HM.out, show m - 1 - j = q by omega, hz]; rfl
            obtain ⟨b5, o5, rfl, hb5, -, -, -, -, d4⟩ := S9.out.at5 hz2
            obtain ⟨b7, rfl, hb7, d7⟩ := HK7.out q (.int .i64 z) (by rw [List.getElem?_map, hz]; rfl)
            have e4 := (HV.out.cell (p := ⟨b5, o5 + j * 5 + 4, none⟩) hb5).trans (show _ = some (Value.int .i64 z) from d4)
            have e7 := (HV.out.cell (p := ⟨b7, q, none⟩) hb7).trans d7
            have hqm : q < m := by omega
            have hs1 : (m : Int) - 1 - (j : Int) = (q : Int) := by omega
            have hw1 : IntKind.i64.wrap ((m : Int) - 1) = (m : Int) - 1 := by rw [IntKind.wrap_i64]; omega
            have hw2 : IntKind.i64.wrap (q : Int) = (q : Int) := by rw [IntKind.wrap_i64]; omega
            have HV2 := Lib.hid (HV.out.trans ((Below.refl wr.heap.size wr).drew.mono HV.out.size))
            clear d4 d7 hb5 hb7 hz hz2
            go_wp2
            go_region_law (fail)
            all_goals
              go_wp2
              go_roundw
              case rel => exact ⟨j + 1, by omega, by go_num, HV2⟩
              case measure => simp [intOf] <;> omega
          · have hjm' : j = m := by omega
            subst hjm'
            go_wp2
            go_ret
            exact ⟨rfl, B9.out.trans (HV.out.mono B9.out.size)⟩
  · have h12' : ((12 : Int) < (n : Int)) := by omega
    go_wp2
    go_ret
    exact ⟨rfl, B1.out⟩
theorem nundo_walk (a : Option Addr) (len cap : Nat) (zs : List Int) (w : World) (h : Row .u8 w a len cap zs) : Calls Try.prog 6 #[.slice a len cap] w (TrueBelow w) :=
  nundo_core a len cap (zs.take len) w h.len.1 h.sees fun x hx => bounds_u8 (h.len.2.2.2 x hx)
end Go.Proofs.Ytiomfncbhbokpaa
