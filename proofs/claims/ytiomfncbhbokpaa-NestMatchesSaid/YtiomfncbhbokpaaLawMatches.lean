/- NestMatches walked. -/
import Derived.Test.YtiomfncbhbokpaaLast2
import Derived.Test.YtiomfncbhbokpaaSteady
namespace Go.Proofs.Ytiomfncbhbokpaa
open Go.RowKit
set_option linter.unusedVariables false

set_option maxRecDepth 100000 in
set_option maxHeartbeats 100000000 in
theorem nmatches_walk (v : Value) (ls : List Lv) (loc : Int) (s : Seen) (q : Wr) (lock : Int) (w : World) (h : IsLs w v ls) (ht : TreesL w ls) :
    Calls Try.prog 5 #[v, .int .i64 loc, .agg #[.int .i64 s.loc, .int .i64 s.ver, .int .i64 s.val], .agg #[.int .i64 q.loc, .int .i64 q.val], .int .i64 lock] w (TrueBelow w) := by
  have hal : Below w.heap.size w ((w.alloc (.cells #[.int .i64 s.loc, .int .i64 s.ver, .int .i64 s.val] 30)).alloc (.cells #[.int .i64 q.loc, .int .i64 q.val] 33)) := ((Below.refl _ _).alloc (Nat.le_refl _) _).alloc (by simp) _
  have b7 := (Box3.new w (.int .i64 s.loc) (.int .i64 s.ver) (.int .i64 s.val) 30).below ((Below.refl (w.heap.size + 1) _).alloc (by simp) (.cells #[.int .i64 q.loc, .int .i64 q.val] 33)) (by omega)
  have b8 := Box2.new (w.alloc (.cells #[.int .i64 s.loc, .int .i64 s.ver, .int .i64 s.val] 30)) (.int .i64 q.loc) (.int .i64 q.val) 33
  simp only [World.size_alloc] at b8
  have hsz : ((w.alloc (.cells #[.int .i64 s.loc, .int .i64 s.ver, .int .i64 s.val] 30)).alloc (.cells #[.int .i64 q.loc, .int .i64 q.val] 33)).heap.size = w.heap.size + 2 := by simp
  have B0 := Lib.hid hal
  have H0 := Lib.hid (h.below hal)
  have T0 := Lib.hid (ht.below hal)
  have D7 := Lib.hid b7
  have D8 := Lib.hid b8
  have HSZ := Lib.hid hsz
  clear h ht hal b7 b8 hsz
  go_enter Try.func5, Try.ntmps5
  go_wp2_with fail
  generalize (w.alloc (.cells #[.int .i64 s.loc, .int .i64 s.ver, .int .i64 s.val] 30)).alloc (.cells #[.int .i64 q.loc, .int .i64 q.val] 33) = w0 at *
  refine (sanity_any w0).mono ?_
  rintro e w1 ⟨rfl, b1⟩
  have B1 := Lib.hid (B0.out.trans (b1.mono B0.out.size))
  have Z1 := Lib.hid b1
  have H1 := Lib.hid (H0.out.below b1)
  have T1 := Lib.hid (T0.out.below b1)
  clear b1
  go_wp2_with fail
  refine (lawFew_any v ls w1 H1.out).mono ?_
  rintro e w2 ⟨rfl, rfl⟩
  cases hF : fewL ls with
  | false =>
    clear hF
    go_wp2
    go_ret
    exact ⟨rfl, B1.out⟩
  | true =>
    obtain ⟨hl12, hsm⟩ := few_small hF
    have HL := Lib.hid hl12
    have HSM := Lib.hid hsm
    clear hF hl12 hsm
    go_wp2_with fail
    refine (find_any v ls loc w1 H1.out (by have := HL.out; omega) (fun x hx => (HSM.out x hx).up (by omega))).mono ?_
    rintro e w3 ⟨rfl, b3⟩
    have B3 := Lib.hid (B1.out.trans (b3.mono B1.out.size))
    have Z3 := Lib.hid (Z1.out.trans (b3.mono Z1.out.size))
    have H3 := Lib.hid (H1.out.below b3)
    have T3 := Lib.hid (T1.out.below b3)
    clear b3
    go_wp2_with fail
    refine (rfind_any v ls loc w3 H3.out (by have := HL.out; omega) (fun x hx => (HSM.out x hx).up (by omega))).mono ?_
    rintro e w4 ⟨rfl, hd4⟩
    have b4 : Below w3.heap.size w3 w4 := by
      obtain ⟨d, rfl⟩ := hd4
      exact below_drewN (Below.refl _ _) d
    have B4 := Lib.hid (B3.out.trans (b4.mono B3.out.size))
    have Z4 := Lib.hid (Z3.out.trans (b4.mono Z3.out.size))
    have H4 := Lib.hid (H3.out.below b4)
    have T4 := Lib.hid (T3.out.below b4)
    clear b4 hd4
    generalize findL ls loc = f
    obtain ⟨fa, fb, fc⟩ := f
    dsimp only
    have hal5 : Below w4.heap.size w4 (w4.alloc (.cells #[.int .i64 0, .int .i64 0, .int .i64 0, .slice none 0 0, .int .i64 lock] 50)) := (Below.refl _ _).alloc (Nat.le_refl _) _
    have b9 := Box5.new w4 (.int .i64 0) (.int .i64 0) (.int .i64 0) (.slice none 0 0) (.int .i64 lock) 50
    have C9 := Lib.hid b9
    have B5 := Lib.hid (B4.out.trans (hal5.mono B4.out.size))
    have Z5 := Lib.hid (Z4.out.trans (hal5.mono Z4.out.size))
    have HX := Lib.hid (H4.out.below hal5)
    have HT := Lib.hid (T4.out.below hal5)
    have C9L : Hid (w4.heap.size < (w4.alloc (.cells #[.int .i64 0, .int .i64 0, .int .i64 0, .slice none 0 0, .int .i64 lock] 50)).heap.size) := Lib.hid (by simp)
    clear hal5 b9
    go_wp2
    generalize w4.alloc (.cells #[.int .i64 0, .int .i64 0, .int .i64 0, .slice none 0 0, .int .i64 lock] 50) = X at *
    generalize w4.heap.size = g at *
    have C7 := Lib.hid (D7.out.below Z5.out (by rw [HSZ.out]; omega))
    have C8 := Lib.hid (D8.out.below Z5.out (by rw [HSZ.out]; omega))
    have hXs := Z5.out.size
    rw [HSZ.out] at hXs
    have C7L : Hid (w.heap.size < X.heap.size) := Lib.hid (by omega)
    have C8L : Hid (w.heap.size + 1 < X.heap.size) := Lib.hid (by omega)
    have BC : Hid (Below X.heap.size X X.drew) := Lib.hid (Below.refl _ _).drew
    have HM : Hid (ls.length ≤ 1000) := Lib.hid (by have := HL.out; omega)
    have HS4 : Hid (∀ x ∈ ls, SmallV 40000 x) := Lib.hid (fun x hx => (HSM.out x hx).up (by omega))
    have HLB : Hid ((ls ++ [zeroLv]).length ≤ 1000) := Lib.hid (by rw [List.length_append]; have := HL.out; simp; omega)
    have HSB : Hid (∀ x ∈ ls ++ [zeroLv], SmallV 80000 x) := Lib.hid (fun x hx => by
      rcases List.mem_append.1 hx with hx | hx
      · exact (HSM.out x hx).up (by omega)
      · obtain rfl := List.mem_singleton.1 hx
        exact ⟨Nat.zero_le _, Nat.zero_le _, Nat.zero_le _⟩)
    have HLO : Hid (∀ f : Lv → Lv, (onLast f ls).length ≤ 1000) := Lib.hid (fun f => by rw [onLast_length]; exact HM.out)
    have HSO : Hid (∀ f : Lv → Lv, (∀ x, SmallV 20 x → SmallV 21 (f x)) → ∀ x ∈ onLast f ls, SmallV 80000 x) := Lib.hid (fun f hf x hx => (onLast_small HSM.out hf x hx).up (by omega))
    clear hXs B1 B3 B4 Z1 Z3 Z4 Z5 H1 H3 H4 T1 T3 T4 HL HSM D7 D8 HSZ B0 H0 T0
    refine wp_region_any (by kernel_rfl) ?_
    change wpAny _ _ _ _ _ _ _ X.drew
    refine wpAny_take (i := 0) (v := ?_) rfl (by kernel_rfl) (by kernel_rfl) (by kernel_rfl) (fun _ _ _ h => h) (Or.inl ⟨by rfl, ?_⟩) ?_
    case refine_2 => (intro W; go_simp; try with_reducible rfl)
    try go_simp
    refine wpAny_take (i := 1) (v := ?_) rfl (by kernel_rfl) (by kernel_rfl) (by kernel_rfl) (fun _ _ _ h => h) (Or.inl ⟨by rfl, ?_⟩) ?_
    case refine_2 => (intro W; go_simp; try with_reducible rfl)
    try go_simp
    refine wpAny_take (i := 2) (v := ?_) rfl (by kernel_rfl) (by kernel_rfl) (by kernel_rfl) (fun _ _ _ h => h) (Or.inl ⟨by rfl, ?_⟩) ?_
    case refine_2 => (intro W; go_simp; try with_reducible rfl)
    try go_simp
    refine wpAny_take (i := 3) (v := ?_) rfl (by kernel_rfl) (by kernel_rfl) (by kernel_rfl) (fun _ _ _ h => h) (Or.inl ⟨by rfl, ?_⟩) ?_
    case refine_2 => (intro W; go_simp; try with_reducible rfl)
    try go_simp
    refine wpAny_take (i := 4) (v := ?_) rfl (by kernel_rfl) (by kernel_rfl) (by kernel_rfl) (fun _ _ _ h => h) (Or.inl ⟨by rfl, ?_⟩) ?_
    case refine_2 => (intro W; go_simp; try with_reducible rfl)
    try go_simp
    refine wpAny_take (i := 5) (v := ?_) rfl (by kernel_rfl) (by kernel_rfl) (by kernel_rfl) (fun _ _ _ h => h) (Or.inl ⟨by rfl, ?_⟩) ?_
    case refine_2 => (intro W; go_simp; try with_reducible rfl)
    try go_simp
    refine wpAny_take (i := 6) (v := ?_) rfl (by kernel_rfl) (by kernel_rfl) (by kernel_rfl) (fun _ _ _ h => h) (Or.inl ⟨by rfl, ?_⟩) ?_
    case refine_2 => (intro W; go_simp; try with_reducible rfl)
    try go_simp
    refine wpAny_take (i := 7) (v := ?_) rfl (by kernel_rfl) (by kernel_rfl) (by kernel_rfl) (fun _ _ _ h => h) (Or.inl ⟨by rfl, ?_⟩) ?_
    case refine_2 => (intro W; go_simp; try with_reducible rfl)
    try go_simp
    refine wpAny_take (i := 8) (v := ?_) rfl (by kernel_rfl) (by kernel_rfl) (by kernel_rfl) (fun _ _ _ h => h) (Or.inl ⟨by rfl, ?_⟩) ?_
    case refine_2 => (intro W; go_simp; try with_reducible rfl)
    try go_simp
    refine wpAny_take (i := 9) (v := ?_) rfl (by kernel_rfl) (by kernel_rfl) (by kernel_rfl) (fun _ _ _ h => h) (Or.inl ⟨by rfl, ?_⟩) ?_
    case refine_2 => (intro W; go_simp; try with_reducible rfl)
    try go_simp
    refine wpAny_take (i := 10) (v := ?_) rfl (by kernel_rfl) (by kernel_rfl) (by kernel_rfl) (fun _ _ _ h => h) (Or.inl ⟨by rfl, ?_⟩) ?_
    case refine_2 => (intro W; go_simp; try with_reducible rfl)
    try go_simp
    refine wpAny_take (i := 11) (v := ?_) rfl (by kernel_rfl) (by kernel_rfl) (by kernel_rfl) (fun _ _ _ h => h) (Or.inl ⟨by rfl, ?_⟩) ?_
    case refine_2 => (intro W; go_simp; try with_reducible rfl)
    try go_simp
    refine wpAny_take (i := 12) (v := ?_) rfl (by kernel_rfl) (by kernel_rfl) (by kernel_rfl) (fun _ _ _ h => h) (Or.inl ⟨by rfl, ?_⟩) ?_
    case refine_2 => (intro W; go_simp; try with_reducible rfl)
    try go_simp
    refine wpAny_take (i := 13) (v := ?_) rfl (by kernel_rfl) (by kernel_rfl) (by kernel_rfl) (fun _ _ _ h => h) (Or.inl ⟨by rfl, ?_⟩) ?_
    case refine_2 => (intro W; go_simp; try with_reducible rfl)
    try go_simp
    refine wpAny_take (i := 14) (v := ?_) rfl (by kernel_rfl) (by kernel_rfl) (by kernel_rfl) (fun _ _ _ h => h) (Or.inl ⟨by rfl, ?_⟩) ?_
    case refine_2 => (intro W; go_simp; try with_reducible rfl)
    try go_simp
    refine wpAny_take (i := 15) (v := ?_) rfl (by kernel_rfl) (by kernel_rfl) (by kernel_rfl) (fun _ _ _ h => h) (Or.inl ⟨by rfl, ?_⟩) ?_
    case refine_2 => (intro W; go_simp; try with_reducible rfl)
    try go_simp
    refine wpAny_take (i := 16) (v := ?_) rfl (by kernel_rfl) (by kernel_rfl) (by kernel_rfl) (fun _ _ _ h => h) (Or.inl ⟨by rfl, ?_⟩) ?_
    case refine_2 => (intro W; go_simp; try with_reducible rfl)
    try go_simp
    refine wpAny_take (i := 17) (v := ?_) rfl (by kernel_rfl) (by kernel_rfl) (by kernel_rfl) (fun _ _ _ h => h) (Or.inl ⟨by rfl, ?_⟩) ?_
    case refine_2 => (intro W; go_simp; try with_reducible rfl)
    try go_simp
    refine wpAny_take (i := 19) (v := ?_) rfl (by kernel_rfl) (by kernel_rfl) (by kernel_rfl) (fun _ _ _ h => h) (Or.inl ⟨by rfl, ?_⟩) ?_
    case refine_2 => (intro W; go_simp; try with_reducible rfl)
    try go_simp
    refine wpAny_ready (rs := [18]) (by kernel_rfl) (by simp) ?_
    refine AllReady.cons rfl (fun K hK => ?_) AllReady.nil
    go_simp
    go_wp2_with fail
    refine (begin_any v ls _ (HX.out.below BC.out) HM.out).mono ?_
    rintro e wn ⟨v1, rfl, i1, BN⟩
    have BC := Lib.hid (BC.out.trans (BN.mono BC.out.size))
    have I1 := Lib.hid i1
    have HQ := Lib.hid (And.intro HLB.out (And.intro HSB.out (HT.out.begin)))
    clear i1 BN
    go_wp2_with fail
    try (refine hK _ _ ?_; clear hK K)
    refine wpAny_ready (rs := [20]) (by kernel_rfl) (by simp) ?_
    refine AllReady.cons rfl (fun K hK => ?_) AllReady.nil
    go_simp
    go_wp2_with fail
    refine (rbegin_any v ls _ (HX.out.below BC.out) HM.out).mono ?_
    rintro e wn ⟨v2, rfl, i2, BN⟩
    have BC := Lib.hid (BC.out.trans (BN.mono BC.out.size))
    have I1 := Lib.hid (I1.out.below BN)
    have I2 := Lib.hid i2
    clear i2 BN
    go_wp2_with fail
    try (refine hK _ _ ?_; clear hK K)
    refine wpAny_ready (rs := [21]) (by kernel_rfl) (by simp) ?_
    refine AllReady.cons rfl (fun K hK => ?_) AllReady.nil
    go_simp
    go_wp2_with fail
    refine (same_any _ _ _ _ I1.out I2.out HQ.out.1 HQ.out.2.1 (TreesL.below HQ.out.2.2 BC.out)).mono ?_
    rintro e wn ⟨rfl, BN⟩
    have BC := Lib.hid (BC.out.trans (BN.mono BC.out.size))
    clear BN
    go_wp2_with fail
    try (refine hK _ _ ?_; clear hK K)
    refine wpAny_take (i := 22) (v := ?_) rfl (by kernel_rfl) (by kernel_rfl) (by kernel_rfl) (fun _ _ _ h => h) (Or.inl ⟨by rfl, ?_⟩) ?_
    case refine_2 => (intro W; go_simp; try with_reducible rfl)
    try go_simp
    refine wpAny_take (i := 23) (v := ?_) rfl (by kernel_rfl) (by kernel_rfl) (by kernel_rfl) (fun _ _ _ h => h) (Or.inl ⟨by rfl, ?_⟩) ?_
    case refine_2 => (intro W; go_simp; try with_reducible rfl)
    try go_simp
    refine wpAny_take (i := 24) (v := ?_) rfl (by kernel_rfl) (by kernel_rfl) (by kernel_rfl) (fun _ _ _ h => h) (Or.inl ⟨by rfl, ?_⟩) ?_
    case refine_2 => (intro W; go_simp; try with_reducible rfl)
    try go_simp
    refine wpAny_take (i := 27) (v := ?_) rfl (by kernel_rfl) (by kernel_rfl) (by kernel_rfl) (fun _ _ _ h => h) (Or.inl ⟨by rfl, ?_⟩) ?_
    case refine_2 => (intro W; go_simp; try with_reducible rfl)
    try go_simp
    refine wpAny_loads (I := fun W => Below X.heap.size X W) (i := 25) (j := 28) (c := 26) (rs := [26, 28]) (di := some 65) (dj := some 68) (Ti := 30) (Tj := 30) (x := .tmp 7) (y := .tmp 7) (v := .agg #[.int .i64 s.loc, .int .i64 s.ver, .int .i64 s.val]) (u := .agg #[.int .i64 s.loc, .int .i64 s.ver, .int .i64 s.val]) ⟨⟨_, _, _, _, rfl, by rfl, fun W hW => ?_⟩, fun h => by cases h⟩ ⟨⟨_, _, _, _, rfl, by rfl, fun W hW => ?_⟩, fun h => by cases h⟩ ⟨⟨_, _, _, _, rfl, by rfl, fun W hW => ?_⟩, fun h => by cases h⟩ ⟨⟨_, _, _, _, rfl, by rfl, fun W hW => ?_⟩, fun h => by cases h⟩ BC.out (fun d h => by injection h with h; subst h; decide) rfl (by kernel_rfl) (fun _ _ h => by cases h) (fun _ _ _ h => h) (by kernel_rfl) (by kernel_rfl) (by simp) (by decide) (by kernel_rfl) (by kernel_rfl) (by kernel_rfl) (by decide) (by decide) ?_
    case refine_1 => (have k0 := (C7.out.below (show Below X.heap.size X W from hW) C7L.out).c0; have k1 := (C7.out.below (show Below X.heap.size X W from hW) C7L.out).c1; have k2 := (C7.out.below (show Below X.heap.size X W from hW) C7L.out).c2; go_simp; try with_reducible rfl)
    case refine_2 => (have k0 := (C7.out.below (show Below X.heap.size X W from hW) C7L.out).c0; have k1 := (C7.out.below (show Below X.heap.size X W from hW) C7L.out).c1; have k2 := (C7.out.below (show Below X.heap.size X W from hW) C7L.out).c2; go_simp; try with_reducible rfl)
    case refine_3 => (have k0 := (C7.out.below (show Below X.heap.size X W from hW) C7L.out).c0; have k1 := (C7.out.below (show Below X.heap.size X W from hW) C7L.out).c1; have k2 := (C7.out.below (show Below X.heap.size X W from hW) C7L.out).c2; go_simp; try with_reducible rfl)
    case refine_4 => (have k0 := (C7.out.below (show Below X.heap.size X W from hW) C7L.out).c0; have k1 := (C7.out.below (show Below X.heap.size X W from hW) C7L.out).c1; have k2 := (C7.out.below (show Below X.heap.size X W from hW) C7L.out).c2; go_simp; try with_reducible rfl)
    refine wpOp_step rfl (fun K hK => ?_)
    go_simp
    go_wp2_with fail
    refine (nread_ls v ls _ (HX.out.below BC.out) HM.out HS4.out s).mono ?_
    rintro e wn ⟨v1, rfl, i1, BN⟩
    have BC := Lib.hid (BC.out.trans (BN.mono BC.out.size))
    have I1 := Lib.hid i1
    have HQ := Lib.hid (And.intro (HLO.out (addR s)) (And.intro (HSO.out (addR s) (fun x hx => addR_small s hx)) (show TreesL X (onLast (addR s) ls) from onLast_all (p := fun x => Trees X x.undo) HT.out (fun x hx => hx))))
    clear i1 BN
    go_wp2_with fail
    first | refine ⟨BC.out, ?_⟩ | refine hK _ _ ⟨BC.out, ?_⟩
    try clear hK K
    refine wpAny_ready (rs := [29]) (by kernel_rfl) (by simp) ?_
    refine AllReady.cons rfl (fun K hK => ?_) AllReady.nil
    go_simp
    go_wp2_with fail
    refine (rread_ls v ls _ (HX.out.below BC.out) HM.out HS4.out s).mono ?_
    rintro e wn ⟨v2, rfl, i2, BN⟩
    have BC := Lib.hid (BC.out.trans (BN.mono BC.out.size))
    have I1 := Lib.hid (I1.out.below BN)
    have I2 := Lib.hid i2
    clear i2 BN
    go_wp2_with fail
    try (refine hK _ _ ?_; clear hK K)
    refine wpAny_ready (rs := [30]) (by kernel_rfl) (by simp) ?_
    refine AllReady.cons rfl (fun K hK => ?_) AllReady.nil
    go_simp
    go_wp2_with fail
    refine (same_any _ _ _ _ I1.out I2.out HQ.out.1 HQ.out.2.1 (TreesL.below HQ.out.2.2 BC.out)).mono ?_
    rintro e wn ⟨rfl, BN⟩
    have BC := Lib.hid (BC.out.trans (BN.mono BC.out.size))
    clear BN
    go_wp2_with fail
    try (refine hK _ _ ?_; clear hK K)
    refine wpAny_take (i := 31) (v := ?_) rfl (by kernel_rfl) (by kernel_rfl) (by kernel_rfl) (fun _ _ _ h => h) (Or.inl ⟨by rfl, ?_⟩) ?_
    case refine_2 => (intro W; go_simp; try with_reducible rfl)
    try go_simp
    refine wpAny_take (i := 32) (v := ?_) rfl (by kernel_rfl) (by kernel_rfl) (by kernel_rfl) (fun _ _ _ h => h) (Or.inl ⟨by rfl, ?_⟩) ?_
    case refine_2 => (intro W; go_simp; try with_reducible rfl)
    try go_simp
    refine wpAny_take (i := 33) (v := ?_) rfl (by kernel_rfl) (by kernel_rfl) (by kernel_rfl) (fun _ _ _ h => h) (Or.inl ⟨by rfl, ?_⟩) ?_
    case refine_2 => (intro W; go_simp; try with_reducible rfl)
    try go_simp
    refine wpAny_take (i := 36) (v := ?_) rfl (by kernel_rfl) (by kernel_rfl) (by kernel_rfl) (fun _ _ _ h => h) (Or.inl ⟨by rfl, ?_⟩) ?_
    case refine_2 => (intro W; go_simp; try with_reducible rfl)
    try go_simp
    refine wpAny_loads (I := fun W => Below X.heap.size X W) (i := 34) (j := 37) (c := 35) (rs := [35, 37]) (di := some 74) (dj := some 77) (Ti := 33) (Tj := 33) (x := .tmp 8) (y := .tmp 8) (v := .agg #[.int .i64 q.loc, .int .i64 q.val]) (u := .agg #[.int .i64 q.loc, .int .i64 q.val]) ⟨⟨_, _, _, _, rfl, by rfl, fun W hW => ?_⟩, fun h => by cases h⟩ ⟨⟨_, _, _, _, rfl, by rfl, fun W hW => ?_⟩, fun h => by cases h⟩ ⟨⟨_, _, _, _, rfl, by rfl, fun W hW => ?_⟩, fun h => by cases h⟩ ⟨⟨_, _, _, _, rfl, by rfl, fun W hW => ?_⟩, fun h => by cases h⟩ BC.out (fun d h => by injection h with h; subst h; decide) rfl (by kernel_rfl) (fun _ _ h => by cases h) (fun _ _ _ h => h) (by kernel_rfl) (by kernel_rfl) (by simp) (by decide) (by kernel_rfl) (by kernel_rfl) (by kernel_rfl) (by decide) (by decide) ?_
    case refine_1 => (have j0 := (C8.out.below (show Below X.heap.size X W from hW) C8L.out).c0; have j1 := (C8.out.below (show Below X.heap.size X W from hW) C8L.out).c1; go_simp; try with_reducible rfl)
    case refine_2 => (have j0 := (C8.out.below (show Below X.heap.size X W from hW) C8L.out).c0; have j1 := (C8.out.below (show Below X.heap.size X W from hW) C8L.out).c1; go_simp; try with_reducible rfl)
    case refine_3 => (have j0 := (C8.out.below (show Below X.heap.size X W from hW) C8L.out).c0; have j1 := (C8.out.below (show Below X.heap.size X W from hW) C8L.out).c1; go_simp; try with_reducible rfl)
    case refine_4 => (have j0 := (C8.out.below (show Below X.heap.size X W from hW) C8L.out).c0; have j1 := (C8.out.below (show Below X.heap.size X W from hW) C8L.out).c1; go_simp; try with_reducible rfl)
    refine wpOp_step rfl (fun K hK => ?_)
    go_simp
    go_wp2_with fail
    refine (nput_ls v ls _ (HX.out.below BC.out) HM.out HS4.out q).mono ?_
    rintro e wn ⟨v1, rfl, i1, BN⟩
    have BC := Lib.hid (BC.out.trans (BN.mono BC.out.size))
    have I1 := Lib.hid i1
    have HQ := Lib.hid (And.intro (HLO.out (addW q)) (And.intro (HSO.out (addW q) (fun x hx => addW_small q hx)) (show TreesL X (onLast (addW q) ls) from onLast_all (p := fun x => Trees X x.undo) HT.out (fun x hx => hx))))
    clear i1 BN
    go_wp2_with fail
    first | refine ⟨BC.out, ?_⟩ | refine hK _ _ ⟨BC.out, ?_⟩
    try clear hK K
    refine wpAny_ready (rs := [38]) (by kernel_rfl) (by simp) ?_
    refine AllReady.cons rfl (fun K hK => ?_) AllReady.nil
    go_simp
    go_wp2_with fail
    refine (rput_ls v ls _ (HX.out.below BC.out) HM.out HS4.out q).mono ?_
    rintro e wn ⟨v2, rfl, i2, BN⟩
    have BC := Lib.hid (BC.out.trans (BN.mono BC.out.size))
    have I1 := Lib.hid (I1.out.below BN)
    have I2 := Lib.hid i2
    clear i2 BN
    go_wp2_with fail
    try (refine hK _ _ ?_; clear hK K)
    refine wpAny_ready (rs := [39]) (by kernel_rfl) (by simp) ?_
    refine AllReady.cons rfl (fun K hK => ?_) AllReady.nil
    go_simp
    go_wp2_with fail
    refine (same_any _ _ _ _ I1.out I2.out HQ.out.1 HQ.out.2.1 (TreesL.below HQ.out.2.2 BC.out)).mono ?_
    rintro e wn ⟨rfl, BN⟩
    have BC := Lib.hid (BC.out.trans (BN.mono BC.out.size))
    clear BN
    go_wp2_with fail
    try (refine hK _ _ ?_; clear hK K)
    refine wpAny_take (i := 40) (v := ?_) rfl (by kernel_rfl) (by kernel_rfl) (by kernel_rfl) (fun _ _ _ h => h) (Or.inl ⟨by rfl, ?_⟩) ?_
    case refine_2 => (intro W; go_simp; try with_reducible rfl)
    try go_simp
    refine wpAny_take (i := 41) (v := ?_) rfl (by kernel_rfl) (by kernel_rfl) (by kernel_rfl) (fun _ _ _ h => h) (Or.inl ⟨by rfl, ?_⟩) ?_
    case refine_2 => (intro W; go_simp; try with_reducible rfl)
    try go_simp
    refine wpAny_take (i := 42) (v := ?_) rfl (by kernel_rfl) (by kernel_rfl) (by kernel_rfl) (fun _ _ _ h => h) (Or.inl ⟨by rfl, ?_⟩) ?_
    case refine_2 => (intro W; go_simp; try with_reducible rfl)
    try go_simp
    refine wpAny_take (i := 45) (v := ?_) rfl (by kernel_rfl) (by kernel_rfl) (by kernel_rfl) (fun _ _ _ h => h) (Or.inl ⟨by rfl, ?_⟩) ?_
    case refine_2 => (intro W; go_simp; try with_reducible rfl)
    try go_simp
    refine wpAny_loads (I := fun W => Below X.heap.size X W) (i := 43) (j := 46) (c := 44) (rs := [44, 46]) (di := some 83) (dj := some 86) (Ti := 50) (Tj := 50) (x := .tmp 18) (y := .tmp 18) (v := .agg #[.int .i64 0, .int .i64 0, .int .i64 0, .slice none 0 0, .int .i64 lock]) (u := .agg #[.int .i64 0, .int .i64 0, .int .i64 0, .slice none 0 0, .int .i64 lock]) ⟨⟨_, _, _, _, rfl, by rfl, fun W hW => ?_⟩, fun h => by cases h⟩ ⟨⟨_, _, _, _, rfl, by rfl, fun W hW => ?_⟩, fun h => by cases h⟩ ⟨⟨_, _, _, _, rfl, by rfl, fun W hW => ?_⟩, fun h => by cases h⟩ ⟨⟨_, _, _, _, rfl, by rfl, fun W hW => ?_⟩, fun h => by cases h⟩ BC.out (fun d h => by injection h with h; subst h; decide) rfl (by kernel_rfl) (fun _ _ h => by cases h) (fun _ _ _ h => h) (by kernel_rfl) (by kernel_rfl) (by simp) (by decide) (by kernel_rfl) (by kernel_rfl) (by kernel_rfl) (by decide) (by decide) ?_
    case refine_1 => (have u0 := (C9.out.below (show Below X.heap.size X W from hW) C9L.out).c0; have u1 := (C9.out.below (show Below X.heap.size X W from hW) C9L.out).c1; have u2 := (C9.out.below (show Below X.heap.size X W from hW) C9L.out).c2; have u3 := (C9.out.below (show Below X.heap.size X W from hW) C9L.out).c3; have u4 := (C9.out.below (show Below X.heap.size X W from hW) C9L.out).c4; go_simp; try with_reducible rfl)
    case refine_2 => (have u0 := (C9.out.below (show Below X.heap.size X W from hW) C9L.out).c0; have u1 := (C9.out.below (show Below X.heap.size X W from hW) C9L.out).c1; have u2 := (C9.out.below (show Below X.heap.size X W from hW) C9L.out).c2; have u3 := (C9.out.below (show Below X.heap.size X W from hW) C9L.out).c3; have u4 := (C9.out.below (show Below X.heap.size X W from hW) C9L.out).c4; go_simp; try with_reducible rfl)
    case refine_3 => (have u0 := (C9.out.below (show Below X.heap.size X W from hW) C9L.out).c0; have u1 := (C9.out.below (show Below X.heap.size X W from hW) C9L.out).c1; have u2 := (C9.out.below (show Below X.heap.size X W from hW) C9L.out).c2; have u3 := (C9.out.below (show Below X.heap.size X W from hW) C9L.out).c3; have u4 := (C9.out.below (show Below X.heap.size X W from hW) C9L.out).c4; go_simp; try with_reducible rfl)
    case refine_4 => (have u0 := (C9.out.below (show Below X.heap.size X W from hW) C9L.out).c0; have u1 := (C9.out.below (show Below X.heap.size X W from hW) C9L.out).c1; have u2 := (C9.out.below (show Below X.heap.size X W from hW) C9L.out).c2; have u3 := (C9.out.below (show Below X.heap.size X W from hW) C9L.out).c3; have u4 := (C9.out.below (show Below X.heap.size X W from hW) C9L.out).c4; go_simp; try with_reducible rfl)
    refine wpOp_step rfl (fun K hK => ?_)
    go_simp
    go_wp2_with fail
    refine (nkeep_ls v ls _ (HX.out.below BC.out) HM.out HS4.out ⟨0, 0, 0, none, 0, 0, lock⟩).mono ?_
    rintro e wn ⟨v1, rfl, i1, BN⟩
    have BC := Lib.hid (BC.out.trans (BN.mono BC.out.size))
    have I1 := Lib.hid i1
    have HQ := Lib.hid (And.intro (HLO.out (addU ⟨0, 0, 0, none, 0, 0, lock⟩)) (And.intro (HSO.out (addU ⟨0, 0, 0, none, 0, 0, lock⟩) (fun x hx => addU_small _ hx)) (HT.out.keep lock)))
    clear i1 BN
    go_wp2_with fail
    first | refine ⟨BC.out, ?_⟩ | refine hK _ _ ⟨BC.out, ?_⟩
    try clear hK K
    refine wpAny_ready (rs := [47]) (by kernel_rfl) (by simp) ?_
    refine AllReady.cons rfl (fun K hK => ?_) AllReady.nil
    go_simp
    go_wp2_with fail
    refine (rkeep_ls v ls _ (HX.out.below BC.out) HM.out HS4.out ⟨0, 0, 0, none, 0, 0, lock⟩).mono ?_
    rintro e wn ⟨v2, rfl, i2, BN⟩
    have BC := Lib.hid (BC.out.trans (BN.mono BC.out.size))
    have I1 := Lib.hid (I1.out.below BN)
    have I2 := Lib.hid i2
    clear i2 BN
    go_wp2_with fail
    try (refine hK _ _ ?_; clear hK K)
    refine wpAny_ready (rs := [48]) (by kernel_rfl) (by simp) ?_
    refine AllReady.cons rfl (fun K hK => ?_) AllReady.nil
    go_simp
    go_wp2_with fail
    refine (same_any _ _ _ _ I1.out I2.out HQ.out.1 HQ.out.2.1 (TreesL.below HQ.out.2.2 BC.out)).mono ?_
    rintro e wn ⟨rfl, BN⟩
    have BC := Lib.hid (BC.out.trans (BN.mono BC.out.size))
    clear BN
    go_wp2_with fail
    try (refine hK _ _ ?_; clear hK K)
    refine wpAny_take (i := 49) (v := ?_) rfl (by kernel_rfl) (by kernel_rfl) (by kernel_rfl) (fun _ _ _ h => h) (Or.inl ⟨by rfl, ?_⟩) ?_
    case refine_2 => (intro W; go_simp; try with_reducible rfl)
    try go_simp
    refine wpAny_take (i := 50) (v := ?_) rfl (by kernel_rfl) (by kernel_rfl) (by kernel_rfl) (fun _ _ _ h => h) (Or.inl ⟨by rfl, ?_⟩) ?_
    case refine_2 => (intro W; go_simp; try with_reducible rfl)
    try go_simp
    refine wpAny_done (by kernel_rfl) ?_ _
    go_wp2
    go_ret
    exact ⟨rfl, B5.out.trans (BC.out.mono B5.out.size)⟩
end Go.Proofs.Ytiomfncbhbokpaa
