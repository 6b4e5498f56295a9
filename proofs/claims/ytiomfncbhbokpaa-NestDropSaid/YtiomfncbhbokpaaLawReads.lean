/- NestReads walked. -/
import Derived.Test.YtiomfncbhbokpaaShape
namespace Go.Proofs.Ytiomfncbhbokpaa
open Go.RowKit
set_option linter.unusedVariables false

theorem any_next {α : Type} {p : α → Bool} {xs : List α} {k : Nat} {x : α} (hx : xs[k]? = some x) : (xs.take (k + 1)).any p = ((xs.take k).any p || p x) := by
  rw [List.take_add_one, hx]
  simp
set_option maxRecDepth 100000 in
set_option maxHeartbeats 2000000 in
theorem nreads_walk (v : Value) (ls : List Lv) (l : Int) (w : World) (h : IsLs w v ls) : Calls Try.prog 9 #[v, .int .i64 l] w (TrueBelow w) := by
  have H := Lib.hid h
  clear h
  go_enter Try.func9, Try.ntmps9
  go_wp2_with fail
  refine (sanity_any w).mono ?_
  rintro e w1 ⟨rfl, b1⟩
  have B1 := Lib.hid b1
  have H1 := Lib.hid (H.out.below b1)
  clear b1
  go_wp2_with fail
  refine (lawFew_any v ls w1 H1.out).mono ?_
  rintro e w2 ⟨rfl, rfl⟩
  cases hF : fewL ls with
  | false =>
    clear hF
    go_wp2
    go_ret
    exact ⟨rfl, B1.out⟩
  | true =>
    obtain ⟨hl12, hsm⟩ := few_small hF
    have HL := Lib.hid hl12
    have HSM := Lib.hid hsm
    clear hF hl12 hsm
    go_wp2_with fail
    refine (drop_ls v ls w1 H1.out (by have := HL.out; omega) (fun x hx => (HSM.out x hx).up (by omega))).mono ?_
    rintro e w3 ⟨v3, u3, rfl, i3, -, b3⟩
    have B3 := Lib.hid (B1.out.trans (b3.mono B1.out.size))
    have H3 := Lib.hid (H1.out.below b3)
    have D3 := Lib.hid i3
    clear b3 i3
    go_wp2_with fail
    refine (all_ls v ls w3 H3.out HL.out (k := 20) (by omega) HSM.out).mono ?_
    rintro e w4 ⟨A1, c1, A2, c2, rfl, s1, -, b4⟩
    have B4 := Lib.hid (B3.out.trans (b4.mono B3.out.size))
    have H4 := Lib.hid (H3.out.below b4)
    have D4 := Lib.hid (D3.out.below b4)
    have S4 := Lib.hid s1
    clear b4 s1
    go_wp2_with fail
    refine (end_ls v ls w4 H4.out (by have := HL.out; omega) (fun x hx => (HSM.out x hx).up (by omega))).mono ?_
    rintro e w5 ⟨v5, rfl, i5, b5⟩
    have B5 := Lib.hid (B4.out.trans (b5.mono B4.out.size))
    have H5 := Lib.hid (H4.out.below b5)
    have D5 := Lib.hid (D4.out.below b5)
    have E5 := Lib.hid i5
    have S5 := Lib.hid ((S4.out.below b5).more b5.size)
    clear b5 i5
    go_wp2_with fail
    refine (all_ls v5 (endL ls) w5 E5.out (by have := endL_length ls; have := HL.out; omega) (k := 40) (by omega) (endL_small HSM.out)).mono ?_
    rintro e w6 ⟨A3, c3, A4, c4, rfl, s3, -, b6⟩
    have B6 := Lib.hid (B5.out.trans (b6.mono B5.out.size))
    have H6 := Lib.hid (H5.out.below b6)
    have D6 := Lib.hid (D5.out.below b6)
    have S6 := Lib.hid ((S5.out.below b6).more b6.size)
    have R6 := Lib.hid s3
    clear b6 s3
    go_wp2_with fail
    refine (all_ls v3 (dropL ls) w6 D6.out (by have := dropL_length ls; have := HL.out; omega) (k := 40) (by omega) (dropL_small HSM.out)).mono ?_
    rintro e w7 ⟨A5, c5, A6, c6, rfl, s5, -, b7⟩
    have B7 := Lib.hid (B6.out.trans (b7.mono B6.out.size))
    have H7 := Lib.hid (H6.out.below b7)
    have S7 := Lib.hid ((S6.out.below b7).more b7.size)
    have R7 := Lib.hid ((R6.out.below b7).more b7.size)
    have T7 := Lib.hid s5
    clear b7 s5
    have e1 : (allL (endL ls)).reads = (allL ls).reads := by rw [allL_reads, allL_reads, allR_end]
    have e2 : (allL (dropL ls)).reads = (allL ls).reads := by rw [allL_reads, allL_reads, allR_drop]
    rw [e1] at R7 ⊢
    rw [e2] at T7 ⊢
    have HM := Lib.hid (show hasL (allL ls).reads l = ls.any fun v => hasL v.reads l by rw [allL_reads, has_allR])
    have hlen : (allL ls).reads.length ≤ 40000 := by
      have := all_small HL.out (by omega) HSM.out ls.length
      rw [List.take_length] at this
      exact this.1
    clear e1 e2
    generalize (allL ls).reads = R at S7 R7 T7 HM hlen ⊢
    generalize (allL ls).writes = X
    generalize (allL (endL ls)).writes = X2
    generalize (allL (dropL ls)).writes = X3
    go_wp2_with fail
    refine (has_any A1 R.length c1 R l w7 rfl (by unfold maxLen; omega) S7.out).mono ?_
    rintro e w8 ⟨rfl, rfl⟩
    obtain ⟨n, hn⟩ : ∃ n, n = ls.length := ⟨_, rfl⟩
    obtain ⟨A, c, lcs, hv, -, hs, hlv⟩ := H7.out
    rw [← hn] at hv
    have hn12 : n ≤ 12 := by rw [hn]; exact HL.out
    have HN := Lib.hid hn
    have HS := Lib.hid hs
    have HLV := Lib.hid hlv
    subst hv
    clear hn hs hlv
    go_wp2
    go_loop [15, 16] (fun m i => ∃ k : Nat, k ≤ n ∧ i = .int .i64 k ∧ m = .bool ((ls.take k).any fun v => hasL v.reads l)) (fun m i => n - (intOf i).toNat)
    case atStart => exact ⟨0, Nat.zero_le _, rfl, rfl⟩
    case round =>
      obtain ⟨k, hk, rfl, rfl⟩ := hrel
      by_cases hlt : k < n
      · have hx : ls[k]? = some (ls[k]'(by rw [← HN.out]; exact hlt)) := List.getElem?_eq_getElem _
        generalize ls[k]'(by rw [← HN.out]; exact hlt) = x at hx
        obtain ⟨lc, hlc, hlev⟩ := HLV.out.get k x hx
        have g0 := flat_get (f := lvC) lv_len lcs k 0 lc hlc (by omega)
        obtain ⟨b, off, rfl, hcell⟩ : ∃ b off, A = some ⟨b, off, none⟩ ∧ ∀ j u, (lcs.flatMap lvC)[j]? = some u → w7.cell? ⟨b, off + j, none⟩ = some u := by
          rcases HS.out with h | ⟨b, off, hA, _, hc⟩
          · rw [h] at g0
            simp [lvC] at g0
          · exact ⟨b, off, hA, hc⟩
        have c0 : w7.cell? ⟨b, off + k * 3, none⟩ = some (.slice lc.A1 lc.n1 lc.c1) := hcell _ _ ((show _ = _ from g0).trans rfl)
        have HNX := Lib.hid (any_next (p := fun v : Lv => hasL v.reads l) hx)
        have HC := Lib.hid (has_any lc.A1 lc.n1 lc.c1 x.reads l w7 hlev.e1 (by have := (HSM.out x (List.mem_of_getElem? hx)).1; have := hlev.e1; unfold maxLen; omega) hlev.s1)
        clear hx hlc hlev g0 hcell
        cases hm : (ls.take k).any fun v => hasL v.reads l with
        | true =>
          have HM2 := Lib.hid (HNX.out.trans (by rw [hm]; rfl) : _ = true)
          clear hm
          go_wp2
          go_round
          case rel => exact ⟨k + 1, by omega, by go_num, by rw [HM2.out]⟩
          case measure => simp [intOf]; omega
        | false =>
          have HM2 := Lib.hid (HNX.out.trans (by rw [hm, Bool.false_or]) : _ = hasL x.reads l)
          clear hm
          go_wp2_with fail
          refine HC.out.mono ?_
          rintro e w8 ⟨rfl, rfl⟩
          go_wp2
          go_round
          case rel => exact ⟨k + 1, by omega, by go_num, by rw [HM2.out]⟩
          case measure => simp [intOf]; omega
      · have hkn : k = n := by omega
        have hM : ((ls.take k).any fun v => hasL v.reads l) = hasL R l := by rw [HM.out, List.take_of_length_le (by rw [← HN.out]; omega)]
        rw [hM]
        subst hkn
        clear hM hlt
        have HC3 := Lib.hid (has_any A3 R.length c3 R l w7 rfl (by unfold maxLen; omega) R7.out)
        have HC5 := Lib.hid (has_any A5 R.length c5 R l w7 rfl (by unfold maxLen; omega) T7.out)
        clear HM
        have q : ∀ (w : World), (binOp .eql 4 (.bool (hasL R l)) (.bool (hasL R l))).run Try.prog w = .ok (.bool true) w := fun w => by cases hasL R l <;> rfl
        generalize hasL R l = hb at HC3 HC5 q ⊢
        go_wp2_with fail
        refine HC3.out.mono ?_
        rintro e w8 ⟨rfl, rfl⟩
        go_wp2_with fail
        refine HC5.out.mono ?_
        rintro e w8 ⟨rfl, rfl⟩
        go_wp2
        go_ret
        exact ⟨rfl, B7.out⟩
theorem nreads_law (v : Value) (ls : List Lv) (l : Int) (w : World) (h : IsLs w v ls) (_ : ∀ x ∈ ls, Trees w x.undo) : Calls Try.prog 9 #[v, .int .i64 l] w (TrueBelow w) := nreads_walk v ls l w h
end Go.Proofs.Ytiomfncbhbokpaa
