/- NestEnd walked. -/
import Derived.Test.YtiomfncbhbokpaaOnce
import Derived.Test.YtiomfncbhbokpaaLawReads
namespace Go.Proofs.Ytiomfncbhbokpaa
open Go.RowKit
set_option linter.unusedVariables false

set_option maxRecDepth 100000 in
set_option maxHeartbeats 2000000 in
theorem nend_walk (v : Value) (ls : List Lv) (l : Int) (w : World) (h : IsLs w v ls) : Calls Try.prog 8 #[v, .int .i64 l] w (TrueBelow w) := by
  have H := Lib.hid h
  clear h
  go_enter Try.func8, Try.ntmps8
  go_wp2_with fail
  refine (sanity_any w).mono ?_
  rintro e w1 ⟨rfl, b1⟩
  have B1 := Lib.hid b1
  have H1 := Lib.hid (H.out.below b1)
  clear b1
  go_wp2_with fail
  refine (lawFew_any v ls w1 H1.out).mono ?_
  rintro e w2 ⟨rfl, rfl⟩
  cases hF : fewL ls with
  | false =>
    clear hF
    go_wp2
    go_ret
    exact ⟨rfl, B1.out⟩
  | true =>
    obtain ⟨hl12, hsm⟩ := few_small hF
    have HL := Lib.hid hl12
    have HSM := Lib.hid hsm
    clear hF hl12 hsm
    obtain ⟨A, c, lcs, hv, -, -, -⟩ := H1.out
    rcases Nat.lt_or_ge ls.length 2 with hl2 | hl2
    · obtain ⟨n, hn⟩ : ∃ n, n = ls.length := ⟨_, rfl⟩
      rw [← hn] at hl2 hv
      have hn2 : (n : Int) < 2 := by omega
      subst hv
      clear hn
      go_wp2
      go_ret
      exact ⟨rfl, B1.out⟩
    · obtain ⟨init, v0, f, hls⟩ : ∃ init v0 f, ls = (init ++ [v0]) ++ [f] := by
        rcases ls_cases ls with rfl | ⟨f, rfl⟩ | h
        · simp at hl2
        · simp at hl2
        · exact h
      obtain ⟨m, hm⟩ : ∃ m, m = init.length := ⟨_, rfl⟩
      have hlen : ls.length = m + 2 := by rw [hls, hm]; simp
      have HLS := Lib.hid hls
      rw [hlen] at hv
      have hm12 : m ≤ 10 := by have := HL.out; rw [hlen] at this; omega
      have HLEN := Lib.hid hlen
      have HM := Lib.hid hm
      have hn2 : ¬ (((m + 2 : Nat) : Int) < 2) := by omega
      subst hv
      clear hm hlen hl2 hls
      go_wp2_with fail
      refine (once_any _ _ w1 H1.out (by have := HL.out; omega) (fun x hx => (HSM.out x hx).up (by omega))).mono ?_
      rintro e w2 ⟨b, d, rfl, rfl, hon⟩
      cases b with
      | false =>
        clear hon
        go_wp2
        go_ret
        exact ⟨rfl, below_drewN B1.out d⟩
      | true =>
        have HON := Lib.hid (hon rfl)
        have H2 := Lib.hid (H1.out.below (below_drewN (Below.refl _ w1) d))
        have B2 := Lib.hid (below_drewN B1.out d)
        clear hon
        go_wp2_with fail
        refine (find_any _ _ l _ H2.out (by have := HL.out; omega) (fun x hx => (HSM.out x hx).up (by omega))).mono ?_
        rintro e w3 ⟨rfl, b3⟩
        have B3 := Lib.hid (B2.out.trans (b3.mono B2.out.size))
        have H3 := Lib.hid (H2.out.below b3)
        clear b3
        go_wp2_with fail
        refine (end_ls _ _ w3 H3.out (by have := HL.out; omega) (fun x hx => (HSM.out x hx).up (by omega))).mono ?_
        rintro e w4 ⟨v4, rfl, i4, b4⟩
        have B4 := Lib.hid (B3.out.trans (b4.mono B3.out.size))
        have H4 := Lib.hid (H3.out.below b4)
        have E4 := Lib.hid i4
        clear b4 i4
        go_wp2_with fail
        refine (find_any _ _ l _ E4.out (by have := HL.out; have := endL_length ls; omega) (fun x hx => (endL_small HSM.out x hx).up (by omega))).mono ?_
        rintro e w5 ⟨rfl, b5⟩
        have B5 := Lib.hid (B4.out.trans (b5.mono B4.out.size))
        have H5 := Lib.hid (H4.out.below b5)
        clear b5
        go_wp2_with fail
        refine (all_ls _ _ w5 H5.out HL.out (k := 20) (by omega) HSM.out).mono ?_
        rintro e w6 ⟨A1, c1, A2, c2, rfl, -, s2, b6⟩
        have B6 := Lib.hid (B5.out.trans (b6.mono B5.out.size))
        have H6 := Lib.hid (H5.out.below b6)
        have S6 := Lib.hid s2
        clear b6 s2
        go_wp2_with fail
        refine (end_ls _ _ w6 H6.out (by have := HL.out; omega) (fun x hx => (HSM.out x hx).up (by omega))).mono ?_
        rintro e w7 ⟨v7, rfl, i7, b7⟩
        have B7 := Lib.hid (B6.out.trans (b7.mono B6.out.size))
        have H7 := Lib.hid (H6.out.below b7)
        have S7 := Lib.hid ((S6.out.below b7).more b7.size)
        have E7 := Lib.hid i7
        clear b7 i7
        go_wp2_with fail
        refine (all_ls _ _ w7 E7.out (by have := endL_length ls; have := HL.out; omega) (k := 40) (by omega) (endL_small HSM.out)).mono ?_
        rintro e w8 ⟨A3, c3, A4, c4, rfl, -, s4, b8⟩
        have B8 := Lib.hid (B7.out.trans (b8.mono B7.out.size))
        have H8 := Lib.hid (H7.out.below b8)
        have S8 := Lib.hid ((S7.out.below b8).more b8.size)
        have hww : (allL (endL ls)).writes = (allL ls).writes := by rw [allL_writes, allL_writes, allW_end HON.out]
        rw [hww] at s4 ⊢
        have T8 := Lib.hid s4
        have hlw : (allL ls).writes.length ≤ 40000 := by
          have := all_small HL.out (by omega) HSM.out ls.length
          rw [List.take_length] at this
          exact this.2.1
        have hfe := find_end (init := init) (v0 := v0) (f := f) (HON.out f (by rw [HLS.out]; simp)) l
        rw [← endL_many, ← HLS.out] at hfe
        have HFE := Lib.hid hfe
        clear b8 s4 hww hfe
        generalize (allL ls).writes = X at S8 T8 hlw ⊢
        generalize (allL ls).reads.length = z1
        generalize (allL (endL ls)).reads.length = z2
        generalize findL ls l = q1 at HFE ⊢
        generalize findL (endL ls) l = q2 at HFE ⊢
        obtain ⟨q1a, q1b, q1c⟩ := q1
        obtain ⟨q2a, q2b, q2c⟩ := q2
        dsimp only at HFE ⊢
        obtain ⟨hq, hor⟩ := HFE.out
        subst hq
        have HOR := Lib.hid hor
        have hx : ls[m]? = some v0 := by rw [HLS.out, HM.out]; simp
        obtain ⟨A', c', lcs', he, -, hsA, hlA⟩ := H8.out
        simp only [Value.slice.injEq] at he
        obtain ⟨rfl, -, rfl⟩ := he
        obtain ⟨lc, hlc, hlev⟩ := hlA.get m v0 hx
        have g0 := flat_get (f := lvC) lv_len lcs' m 0 lc hlc (by omega)
        obtain ⟨b, off, rfl, hcell⟩ : ∃ b off, A = some ⟨b, off, none⟩ ∧ ∀ j u, (lcs'.flatMap lvC)[j]? = some u → w8.cell? ⟨b, off + j, none⟩ = some u := by
          rcases hsA with h | ⟨b, off, hA, _, hc⟩
          · rw [h] at g0
            simp [lvC] at g0
          · exact ⟨b, off, hA, hc⟩
        have c0 : w8.cell? ⟨b, off + m * 3, none⟩ = some (.slice lc.A1 lc.n1 lc.c1) := hcell _ _ ((show _ = _ from g0).trans rfl)
        obtain ⟨R1, hR1⟩ : ∃ R1, lc.A1 = R1 := ⟨_, rfl⟩
        obtain ⟨n1, hn1⟩ : ∃ n1, lc.n1 = n1 := ⟨_, rfl⟩
        obtain ⟨d1, hd1⟩ : ∃ d1, lc.c1 = d1 := ⟨_, rfl⟩
        have hm1 : n1 ≤ 20 := by rw [← hn1, ← hlev.e1]; exact (HSM.out v0 (List.mem_of_getElem? hx)).1
        have HE := Lib.hid (hlev.e1.trans hn1)
        have HSR := Lib.hid (show Sees w8 w8.heap.size R1 (v0.reads.flatMap seenC) by rw [← hR1]; exact hlev.s1)
        rw [hR1, hn1, hd1] at c0
        clear hx hlc hlev g0 hcell hsA hlA hR1 hn1 hd1 hor
        go_wp2
        go_loop [16, 17] (fun o i => ∃ k : Nat, k ≤ n1 ∧ i = .int .i64 k ∧ o = .bool ((v0.reads.take k).any fun s => s.loc == l)) (fun o i => n1 - (intOf i).toNat)
        case atStart => exact ⟨0, Nat.zero_le _, rfl, rfl⟩
        case round =>
          obtain ⟨k, hk, rfl, rfl⟩ := hrel
          by_cases hlt : k < n1
          · have hy : v0.reads[k]? = some (v0.reads[k]'(by rw [HE.out]; exact hlt)) := List.getElem?_eq_getElem _
            generalize v0.reads[k]'(by rw [HE.out]; exact hlt) = y at hy
            obtain ⟨b1, off1, rfl, -, y0, -, -⟩ := HSR.out.at3 hy
            have HNX := Lib.hid (any_next (p := fun s : Seen => s.loc == l) hy)
            clear hy
            cases hm3 : (v0.reads.take k).any fun s => s.loc == l with
            | true =>
              have HM2 := Lib.hid (HNX.out.trans (by rw [hm3]; rfl) : _ = true)
              clear hm3
              go_wp2
              go_round
              case rel => exact ⟨k + 1, by omega, by go_num, by rw [HM2.out]⟩
              case measure => simp [intOf]; omega
            | false =>
              have HM2 := Lib.hid (HNX.out.trans (by rw [hm3, Bool.false_or]) : _ = (y.loc == l))
              clear hm3
              go_wp2
              go_round
              case rel => exact ⟨k + 1, by omega, by go_num, by rw [HM2.out]⟩
              case measure => simp [intOf]; omega
          · have hkn : k = n1 := by omega
            have hout : ((v0.reads.take k).any fun s => s.loc == l) = hasL v0.reads l := by rw [List.take_of_length_le (by rw [HE.out]; omega)]; rfl
            have HCW := Lib.hid (writesSame_any A2 X.length c2 A4 c4 X w8 rfl (by unfold maxLen; omega) S8.out T8.out)
            have HB8 := Lib.hid (fun d => below_drewN B8.out d)
            rw [hout]
            subst hkn
            clear hout hlt
            have hor := HOR.out
            clear HOR
            cases ho : hasL v0.reads l with
            | true =>
              by_cases hc2 : q1c = 2
              · subst hc2
                clear ho hor
                go_wp2_with fail
                refine HCW.out.mono ?_
                rintro e w9 ⟨rfl, d2, rfl⟩
                go_wp2
                go_ret
                exact ⟨rfl, HB8.out d2⟩
              · obtain rfl : q1a = q2a := by
                  rcases hor with h | h
                  · exact absurd h.1 hc2
                  · exact h
                clear ho hor
                go_wp2_with fail
                refine HCW.out.mono ?_
                rintro e w9 ⟨rfl, d2, rfl⟩
                go_wp2
                go_ret
                exact ⟨rfl, HB8.out d2⟩
            | false =>
              obtain rfl : q1a = q2a := by
                rcases hor with h | h
                · rw [ho] at h; cases h.2
                · exact h
              clear ho hor
              by_cases hc2 : q1c = 2
              · subst hc2
                go_wp2_with fail
                refine HCW.out.mono ?_
                rintro e w9 ⟨rfl, d2, rfl⟩
                go_wp2
                go_ret
                exact ⟨rfl, HB8.out d2⟩
              · go_wp2_with fail
                refine HCW.out.mono ?_
                rintro e w9 ⟨rfl, d2, rfl⟩
                go_wp2
                go_ret
                exact ⟨rfl, HB8.out d2⟩
theorem nend_law (v : Value) (ls : List Lv) (l : Int) (w : World) (h : IsLs w v ls) (_ : ∀ x ∈ ls, Trees w x.undo) : Calls Try.prog 8 #[v, .int .i64 l] w (TrueBelow w) := nend_walk v ls l w h
end Go.Proofs.Ytiomfncbhbokpaa
