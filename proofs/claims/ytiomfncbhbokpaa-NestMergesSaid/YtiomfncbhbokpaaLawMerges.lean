/- NestMerges walked. -/
import Derived.Test.YtiomfncbhbokpaaRAll
import Derived.Test.YtiomfncbhbokpaaLawReads
namespace Go.Proofs.Ytiomfncbhbokpaa
open Go.RowKit
set_option linter.unusedVariables false

theorem TreesL.endL {w : World} {ls : List Lv} (h : TreesL w ls) : TreesL w (endL ls) := by
  rcases ls_cases ls with rfl | ⟨f, rfl⟩ | ⟨init, v0, f, rfl⟩
  · exact h
  · exact h
  · rw [endL_many]
    intro x hx
    rcases List.mem_append.1 hx with hx | hx
    · exact h x (by simp [hx])
    · obtain rfl := List.mem_singleton.1 hx
      intro u hu
      rcases List.mem_append.1 (show u ∈ v0.undo ++ f.undo from hu) with hu | hu
      · exact h v0 (by simp) u hu
      · exact h f (by simp) u hu
theorem TreesL.dropL {w : World} {ls : List Lv} (h : TreesL w ls) : TreesL w (dropL ls) := by
  rcases ls_cases ls with rfl | ⟨f, rfl⟩ | ⟨init, v0, f, rfl⟩
  · exact h
  · intro x hx
    obtain rfl := List.mem_singleton.1 hx
    intro u hu
    cases hu
  · rw [dropL_many]
    intro x hx
    rcases List.mem_append.1 hx with hx | hx
    · exact h x (by simp [hx])
    · obtain rfl := List.mem_singleton.1 hx
      exact h v0 (by simp)
theorem TreesL.dropU {w : World} {ls : List Lv} (h : TreesL w ls) : Trees w (dropU ls) := by
  rcases ls_snoc ls with rfl | ⟨init, f, rfl⟩
  · intro u hu; cases hu
  · rw [dropU_many]
    intro u hu
    exact h f (by simp) u (List.mem_reverse.1 hu)
theorem dropU_small {ls : List Lv} {k : Nat} (h : ∀ x ∈ ls, SmallV k x) : (dropU ls).length ≤ k := by
  rcases ls_snoc ls with rfl | ⟨init, f, rfl⟩
  · exact Nat.zero_le _
  · rw [dropU_many, List.length_reverse]
    exact (h f (by simp)).2.2
set_option maxRecDepth 100000 in
set_option maxHeartbeats 8000000 in
theorem nmerges_walk (v : Value) (ls : List Lv) (w : World) (h : IsLs w v ls) (ht : TreesL w ls) : Calls Try.prog 7 #[v] w (TrueBelow w) := by
  have H0 := Lib.hid h
  have T0 := Lib.hid ht
  clear h ht
  go_enter Try.func7, Try.ntmps7
  go_wp2_with fail
  refine (sanity_any w).mono ?_
  rintro e w1 ⟨rfl, b1⟩
  have B1 := Lib.hid b1
  have H1 := Lib.hid (H0.out.below b1)
  have T1 := Lib.hid (T0.out.below b1)
  clear b1
  go_wp2_with fail
  refine (lawFew_any v ls w1 H1.out).mono ?_
  rintro e w2 ⟨rfl, rfl⟩
  cases hF : fewL ls with
  | false =>
    clear hF
    go_wp2
    go_ret
    exact ⟨rfl, B1.out⟩
  | true =>
    obtain ⟨hl12, hsm⟩ := few_small hF
    have HL := Lib.hid hl12
    have HM : Hid (ls.length ≤ 1000) := Lib.hid (by omega)
    have HSM := Lib.hid hsm
    have HS4 : Hid (∀ x ∈ ls, SmallV 40000 x) := Lib.hid (fun x hx => (hsm x hx).up (by omega))
    have HS1 : Hid (∀ x ∈ ls, SmallV 1000 x) := Lib.hid (fun x hx => (hsm x hx).up (by omega))
    clear hF hl12 hsm
    go_wp2_with fail
    refine (drop_ls v ls w1 H1.out HM.out HS4.out).mono ?_
    rintro e w3 ⟨v3, u3, rfl, i3, hu3, b3⟩
    have B3 := Lib.hid (B1.out.trans (b3.mono B1.out.size))
    have H3 := Lib.hid (H1.out.below b3)
    have T3 := Lib.hid (T1.out.below b3)
    have D3 := Lib.hid i3
    have U3 := Lib.hid hu3
    clear b3 i3 hu3
    go_wp2_with fail
    refine (rdrop_ls v ls w3 H3.out HM.out HS1.out).mono ?_
    rintro e w4 ⟨v4, u4, rfl, i4, hu4, b4⟩
    have B4 := Lib.hid (B3.out.trans (b4.mono B3.out.size))
    have H4 := Lib.hid (H3.out.below b4)
    have T4 := Lib.hid (T3.out.below b4)
    have D4 := Lib.hid (D3.out.below b4)
    have U4 := Lib.hid (U3.out.below b4)
    have E4 := Lib.hid i4
    have V4 := Lib.hid hu4
    clear b4 i4 hu4
    go_wp2_with fail
    refine (all_ls v ls w4 H4.out HL.out (k := 20) (by omega) HSM.out).mono ?_
    rintro e w5 ⟨A1, c1, A2, c2, rfl, s1, s2, b5⟩
    have B5 := Lib.hid (B4.out.trans (b5.mono B4.out.size))
    have H5 := Lib.hid (H4.out.below b5)
    have T5 := Lib.hid (T4.out.below b5)
    have D5 := Lib.hid (D4.out.below b5)
    have U5 := Lib.hid (U4.out.below b5)
    have E5 := Lib.hid (E4.out.below b5)
    have V5 := Lib.hid (V4.out.below b5)
    have P5 := Lib.hid s1
    have Q5 := Lib.hid s2
    clear b5 s1 s2
    go_wp2_with fail
    refine (rall_any v ls w5 H5.out HL.out (fun x hx => (HSM.out x hx).up (by omega))).mono ?_
    rintro e w6 ⟨A3, c3, A4, c4, rfl, s3, s4, b6⟩
    have B6 := Lib.hid (B5.out.trans (b6.mono B5.out.size))
    have H6 := Lib.hid (H5.out.below b6)
    have T6 := Lib.hid (T5.out.below b6)
    have D6 := Lib.hid (D5.out.below b6)
    have U6 := Lib.hid (U5.out.below b6)
    have E6 := Lib.hid (E5.out.below b6)
    have V6 := Lib.hid (V5.out.below b6)
    have P6 := Lib.hid ((P5.out.below b6).more b6.size)
    have Q6 := Lib.hid ((Q5.out.below b6).more b6.size)
    have R6 := Lib.hid s3
    have S6 := Lib.hid s4
    have hlr : (allL ls).reads.length ≤ 40000 ∧ (allL ls).writes.length ≤ 40000 := by
      have := all_small HL.out (by omega) HSM.out ls.length
      rw [List.take_length] at this
      exact ⟨this.1, this.2.1⟩
    have HLR := Lib.hid hlr
    clear b6 s3 s4 hlr
    generalize (allL ls).reads = RD at P6 R6 HLR ⊢
    generalize (allL ls).writes = WD at Q6 S6 HLR ⊢
    go_wp2_with fail
    refine (end_ls v ls w6 H6.out HM.out HS4.out).mono ?_
    rintro e w7 ⟨v7, rfl, i7, b7⟩
    have B7 := Lib.hid (B6.out.trans (b7.mono B6.out.size))
    have Z7 := Lib.hid b7
    have H7 := Lib.hid (H6.out.below b7)
    have I7 := Lib.hid i7
    clear b7 i7
    go_wp2_with fail
    refine (rend_ls v ls w7 H7.out HM.out HS1.out).mono ?_
    rintro e w8 ⟨v8, rfl, i8, b8⟩
    have B8 := Lib.hid (B7.out.trans (b8.mono B7.out.size))
    have Z8 := Lib.hid (Z7.out.trans (b8.mono Z7.out.size))
    have I8 := Lib.hid (I7.out.below b8)
    have J8 := Lib.hid i8
    clear b8 i8
    go_wp2_with fail
    refine (same_any v7 v8 (endL ls) w8 I8.out J8.out (by have := endL_length ls; have := HM.out; omega) (fun x hx => (endL_small HSM.out x hx).up (by omega)) (TreesL.endL (T6.out.below Z8.out))).mono ?_
    rintro e w9 ⟨rfl, b9⟩
    have B9 := Lib.hid (B8.out.trans (b9.mono B8.out.size))
    have Z9 := Lib.hid (Z8.out.trans (b9.mono Z8.out.size))
    clear b9
    go_wp2_with fail
    refine (same_any v3 v4 (dropL ls) w9 (D6.out.below Z9.out) (E6.out.below Z9.out) (by have := dropL_length ls; have := HM.out; omega) (fun x hx => (dropL_small HSM.out x hx).up (by omega)) (TreesL.dropL (T6.out.below Z9.out))).mono ?_
    rintro e w10 ⟨rfl, b10⟩
    have B10 := Lib.hid (B9.out.trans (b10.mono B9.out.size))
    have Z10 := Lib.hid (Z9.out.trans (b10.mono Z9.out.size))
    clear b10
    obtain ⟨A5, c5, rfl, hc5, hs5⟩ := U6.out.below Z10.out
    obtain ⟨A6, c6, rfl, hc6, hs6⟩ := V6.out.below Z10.out
    have HU := Lib.hid (undosSame_any A5 _ c5 A6 c6 (dropU ls) w10 rfl (by have := dropU_small HSM.out; unfold maxLen; omega) hs5 hs6 (TreesL.dropU (T6.out.below Z10.out)))
    clear hc5 hs5 hc6 hs6
    generalize (dropU ls).length = nu at HU ⊢
    go_wp2_with fail
    refine HU.out.mono ?_
    rintro e w11 ⟨rfl, b11⟩
    have B11 := Lib.hid (B10.out.trans (b11.mono B10.out.size))
    have Z11 := Lib.hid (Z10.out.trans (b11.mono Z10.out.size))
    clear b11
    go_wp2_with fail
    refine (seensSame_any A1 RD.length c1 A3 c3 RD w11 rfl (by have := HLR.out.1; unfold maxLen; omega) (P6.out.below Z11.out) (R6.out.below Z11.out)).mono ?_
    rintro e w12 ⟨rfl, hd12⟩
    have b12 : Below w11.heap.size w11 w12 := by
      obtain ⟨d, rfl⟩ := hd12
      exact below_drewN (Below.refl _ _) d
    have B12 := Lib.hid (B11.out.trans (b12.mono B11.out.size))
    have Z12 := Lib.hid (Z11.out.trans (b12.mono Z11.out.size))
    clear b12 hd12
    go_wp2_with fail
    refine (writesSame_any A2 WD.length c2 A4 c4 WD w12 rfl (by have := HLR.out.2; unfold maxLen; omega) (Q6.out.below Z12.out) (S6.out.below Z12.out)).mono ?_
    rintro e w13 ⟨rfl, hd13⟩
    have b13 : Below w12.heap.size w12 w13 := by
      obtain ⟨d, rfl⟩ := hd13
      exact below_drewN (Below.refl _ _) d
    have B13 := Lib.hid (B12.out.trans (b13.mono B12.out.size))
    clear b13 hd13
    go_wp2
    go_ret
    exact ⟨rfl, B13.out⟩
end Go.Proofs.Ytiomfncbhbokpaa
