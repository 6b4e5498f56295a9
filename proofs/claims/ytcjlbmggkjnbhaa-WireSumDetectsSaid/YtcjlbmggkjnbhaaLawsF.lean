import Derived.Test.YtcjlbmggkjnbhaaLawsE
namespace Go.Proofs.Ytcjlbmggkjnbhaa
open Go.RowKit
set_option linter.unusedVariables false

set_option maxHeartbeats 2000000 in
set_option maxRecDepth 100000 in
theorem sealMS_core (A : Option Addr) (n c : Nat) (b : List Int) (w : World) (e1 : b.length = n) (m1 : n ≤ 1000) (hc : n ≤ c) (hby : Bytes b) (h1 : Sees w w.heap.size A (b.map (.int .u8))) :
    Calls Try.prog 11 #[.slice A n c] w (Sane w) := by
  have M1 : n ≤ maxLen := by unfold maxLen; omega
  have M2 : n ≤ 1000000 := by omega
  have HN : (openR b).1.length ≤ 1000 := by
    unfold openR
    cases h : openL b with
    | none => simp
    | some r =>
      have := (openL_some hby (s := r.1) (m := r.2) h).2.2.1
      simp only
      omega
  have HSL : (sealL b).length ≤ maxLen := by have := sealL_le b; unfold maxLen; omega
  have C1 := Lib.hid (fun W (hW : Below w.heap.size w W) => open_any A n c b W e1 M2 hc hby ((h1.below hW).more hW.size))
  have C2 := Lib.hid (fun W (hW : Below w.heap.size w W) => ropen_any A n c b W e1 M2 hc hby ((h1.below hW).more hW.size))
  have C3 := Lib.hid (fun W (hW : Below w.heap.size w W) => sum_any A n c b W e1 M1 hby (h1.below hW))
  have C4 := Lib.hid (fun W (hW : Below w.heap.size w W) => rsum_any A n c b W e1 M1 hby (h1.below hW))
  have C5 := Lib.hid (fun W (hW : Below w.heap.size w W) => seal_any A n c b W e1 M2 hby ((h1.below hW).more hW.size))
  have C6 := Lib.hid (fun W (hW : Below w.heap.size w W) => rseal_any A n c b W e1 M2 hby ((h1.below hW).more hW.size))
  clear e1 hby h1 M1 M2 hc
  generalize openR b = u at C1 C2 HN
  generalize sumL b = t at C3 C4
  generalize sealL b = P at C5 C6 HSL
  clear b
  obtain ⟨u1, u2, u3⟩ := u
  simp only at HN
  have HU : Hid (u1.length ≤ maxLen) := Lib.hid (by unfold maxLen; omega)
  have HP := Lib.hid HSL
  clear HSL
  go_enter Try.func11, Try.ntmps11
  go_wp2_with fail
  refine (C1.out _ (Below.refl _ _)).mono ?_
  rintro e w1 ⟨A1, c1, rfl, hc1, hs1, hb1⟩
  go_wp2_with fail
  refine (C2.out _ hb1).mono ?_
  rintro e w2 ⟨A2, c2, rfl, hc2, hs2, hb2⟩
  have hs12 := Lib.hid ((hs1.below hb2).more hb2.size)
  have hs22 := Lib.hid hs2
  have hb02 := hb1.trans (hb2.mono hb1.size)
  clear hs1 hs2 hb1 hb2
  go_wp2_with fail
  refine (sanity_any _).mono ?_
  rintro e w3 ⟨rfl, hb3⟩
  have hs13 := Lib.hid ((hs12.out.below hb3).more hb3.size)
  have hs23 := Lib.hid ((hs22.out.below hb3).more hb3.size)
  have hb03 := hb02.trans (hb3.mono hb02.size)
  clear hs12 hs22 hb3 hb02
  go_wp2_with fail
  refine (C3.out _ hb03).mono ?_
  rintro e w4 ⟨rfl, rfl⟩
  go_wp2_with fail
  refine (C4.out _ hb03).mono ?_
  rintro e w4 ⟨rfl, rfl⟩
  go_wp2_with fail
  refine (C5.out _ hb03).mono ?_
  rintro e w5 ⟨v5, rfl, ho5, hb5⟩
  obtain ⟨A5, c5, rfl, _, hs5⟩ := own_form ho5
  have hs15 := Lib.hid ((hs13.out.below hb5).more hb5.size)
  have hs25 := Lib.hid ((hs23.out.below hb5).more hb5.size)
  have hb05 := hb03.trans (hb5.mono hb03.size)
  have hs55 := Lib.hid hs5
  clear ho5 hb5 hb03 hs13 hs23 hs5
  go_wp2_with fail
  refine (C6.out _ hb05).mono ?_
  rintro e w6 ⟨v6, rfl, ho6, hb6⟩
  obtain ⟨A6, c6, rfl, _, hs6⟩ := own_form ho6
  have hs16 := Lib.hid ((hs15.out.below hb6).more hb6.size)
  have hs26 := Lib.hid ((hs25.out.below hb6).more hb6.size)
  have hs56 := (hs55.out.below hb6).more hb6.size
  have hb06 := hb05.trans (hb6.mono hb05.size)
  clear ho6 hb6 hb05 hs15 hs25 hs55
  go_wp2_with fail
  refine (same_any A5 A6 _ _ c5 c6 P P _ rfl rfl HP.out HP.out hs56 hs6).mono ?_
  rw [decide_eq_true rfl]
  rintro e w7 ⟨rfl, d, rfl⟩
  go_wp2_with fail
  refine (same_any A1 A2 _ _ c1 c2 u1 u1 _ rfl rfl HU.out HU.out (hs16.out.drewN d) (hs26.out.drewN d)).mono ?_
  rw [decide_eq_true rfl]
  rintro e w8 ⟨rfl, d2, rfl⟩
  go_wp2
  go_ret
  exact ⟨rfl, below_drewN hb06 _⟩
theorem sealMS_walk (A : Option Addr) (n c : Nat) (zs : List Int) (w : World) (w0 : Row .u8 w A n c zs) : Calls Try.prog 11 #[.slice A n c] w (Sane w) := by
  obtain ⟨l1, l2, l3, _⟩ := w0.len
  by_cases hn : n ≤ 1000
  · exact sealMS_core A n c (zs.take n) w l1 hn l2 w0.bytes w0.sees
  · have hl : (1000 : Int) < (n : Int) := by omega
    clear hn w0 l1 l2 l3
    go_enter Try.func11, Try.ntmps11
    go_wp2_with fail
    refine (sanity_any _).mono ?_
    rintro e w3 ⟨rfl, hb3⟩
    go_wp2
    go_ret
    exact ⟨rfl, hb3⟩

theorem openR_seal {b : List Int} (hl : b.length ≤ 1000000) (r : List Int) : openR (sealL b ++ r) = (b, ((sealL b).length : Int), 0) := by
  unfold openR
  rw [openL_seal (by omega) r]
theorem sealL_bytes {b : List Int} (h : Bytes b) (hl : b.length ≤ 1000000) : Bytes (sealL b) := (textL_bytes h hl).app (put_bytes (sumL_in64 b))
theorem openR_short {b : List Int} (h : Bytes b) (hl : b.length ≤ 1000000) {k : Nat} (hk : k < (sealL b).length) : openR ((sealL b).take k) = ([], 0, 3) := by
  have h1 := openL_seal (b := b) (by omega) []
  rw [List.append_nil] at h1
  have hle := sealL_le b
  unfold openR
  rw [openL_short (sealL_bytes h hl) (by omega) h1 hk]

set_option maxHeartbeats 2000000 in
theorem sealRT_core (A0 : Option Addr) (n0 c0 : Nat) (l : List Int) (A : Option Addr) (n c : Nat) (b : List Int) (w : World) (e0 : l.length = n0) (hl : Bytes l) (h0 : Sees w w.heap.size A0 (l.map (.int .u8)))
    (e1 : b.length = n) (m1 : n0 + n ≤ 600) (hby : Bytes b) (h1 : Sees w w.heap.size A (b.map (.int .u8))) :
    Calls Try.prog 12 #[.slice A0 n0 c0, .slice A n c] w (Sane w) := by
  obtain ⟨i0, hi, hz0, hz1, hz2⟩ := info_parts Try.info5
  have H0 := Lib.hid h0
  have H1 := Lib.hid h1
  have E0 := Lib.hid e0
  have htl := sealL_le l
  have hp1 : 1 ≤ (sealL l).length := by
    unfold sealL
    have := (textL_len l).1
    rw [List.length_append]; omega
  have HTB := sealL_bytes hl (by omega)
  have HR : Hid (openR (sealL l ++ b) = (l, ((sealL l).length : Int), 0)) := Lib.hid (openR_seal (by omega) b)
  have HS : Hid (∀ k, k < (sealL l).length → openR ((sealL l).take k) = ([], 0, 3)) := Lib.hid fun k hk => openR_short hl (by omega) hk
  have C1 := Lib.hid (fun W (hW : Below w.heap.size w W) => seal_any A0 n0 c0 l W e0 (by omega) hl ((h0.below hW).more hW.size))
  rw [e0] at htl
  generalize sealL l = P at *
  have HPB := Lib.hid HTB
  have HB : Hid (Bytes (P ++ b)) := Lib.hid (HTB.app hby)
  have HL : Hid ((P ++ b).length = P.length + n) := Lib.hid (by rw [List.length_append, e1])
  have HM : Hid (P.length + n ≤ 1000000) := Lib.hid (by omega)
  have HLM : Hid (n0 ≤ maxLen) := Lib.hid (by unfold maxLen; omega)
  have HEL : Hid ((b.map (Value.int .u8)).length = n * 1) := Lib.hid (by rw [List.length_map, e1, Nat.mul_one])
  clear e1 hby h1 HTB e0 h0 hl
  go_enter Try.func12, Try.ntmps12
  go_wp2_with fail
  refine (C1.out _ (Below.refl _ _)).mono ?_
  rintro e w1 ⟨v1, rfl, ho1, hb1⟩
  obtain ⟨A1, c1, rfl, hc1, hs1⟩ := own_form ho1
  clear ho1
  have hsl := fun W => slice_hm Try.slice24 Try.size24 A1 P.length c1 P.length P.length (P.length : Int) (P.length : Int) rfl rfl (Nat.le_refl _) hc1 W
  have hs2 := H1.out.below hb1
  have HS1 := Lib.hid hs1
  go_wp2_with (at_builtin; refine wpList_app_clip rfl (.tmp 28) (.tmp 29) 24 rfl 5 i0 (.int .u8 0) 1 1 Try.underlying24 hi hz0 hz1 hz2 rfl (by decide) hs1 (by simp) hp1 (Nat.le_refl _) hs2 HEL.out rfl rfl (by unfold maxLen; omega) (by omega) ?_)
  intro A2 c2 w2 hc2 hs3 hb2
  have hb02 := hb1.trans (hb2.mono hb1.size)
  have HS2 := Lib.hid ((HS1.out.below hb2).more hb2.size)
  rw [← List.map_append] at hs3
  clear hb1 hb2 hs1 hs2 hsl HS1
  go_wp2_with fail
  refine (open_any A2 (P.length + n) c2 (P ++ b) _ HL.out HM.out hc2 HB.out hs3).mono ?_
  rw [HR.out]
  rintro e w3 ⟨A3, c3, rfl, hc3, hs33, hb3⟩
  have HR3 := Lib.hid hs33
  have HS3 := Lib.hid ((HS2.out.below hb3).more hb3.size)
  have hb03 := hb02.trans (hb3.mono hb02.size)
  have HC3 := Lib.hid hc3
  clear hs3 hb3 hb02 HS2 hs33 hc3
  go_wp2
  go_loopw [37] (fun i wr => ∃ k : Nat, k ≤ P.length ∧ i = .int .i64 k ∧ Below w.heap.size w wr ∧ Below w3.heap.size w3 wr) (fun i _ => P.length - (intOf i).toNat)
  case atStart => exact ⟨0, by omega, rfl, hb03, Below.refl _ _⟩
  case round =>
    clear hb03
    obtain ⟨k, hk, rfl, hb, hb3⟩ := hrel
    have HBR := Lib.hid hb3
    clear hb3
    by_cases hlt : k < P.length
    · have hsl := fun W => slice_hi Try.slice24 Try.size24 A1 P.length c1 k (k : Int) rfl (by omega) W
      have hKL : Hid ((P.take k).length = k) := Lib.hid (by rw [List.length_take]; omega)
      go_wp2_with fail
      refine (open_any A1 k c1 (P.take k) _ hKL.out (by omega) (by omega) (HPB.out.take k) (by rw [List.map_take]; exact ((HS3.out.below HBR.out).more HBR.out.size).take k)).mono ?_
      rw [HS.out k hlt]
      rintro e w4 ⟨A4, c4, rfl, hc4, hs4, hb4⟩
      have hb04 := hb.trans (hb4.mono hb.size)
      have HBR4 := Lib.hid (HBR.out.trans (hb4.mono HBR.out.size))
      clear hsl hb4 hs4 hb
      go_wp2
      go_roundw
      case rel => exact ⟨k + 1, by omega, by go_num, hb04, HBR4.out⟩
      case measure => simp [intOf]; omega
    · obtain rfl : k = P.length := by omega
      go_wp2_with fail
      refine (sanity_any _).mono ?_
      rintro e w5 ⟨rfl, hb5⟩
      have hb05 := hb.trans (hb5.mono hb.size)
      have HR5 := (HR3.out.below HBR.out).more HBR.out.size
      have HR6 := HR5.below hb5
      clear hb5 HR5
      go_wp2_with fail
      refine (same_any A3 A0 l.length n0 c3 c0 l l _ rfl E0.out (by rw [E0.out]; exact HLM.out) HLM.out HR6 (H0.out.below hb05)).mono ?_
      rw [decide_eq_true rfl]
      rintro e w7 ⟨rfl, d, rfl⟩
      go_wp2
      go_ret
      exact ⟨rfl, below_drewN hb05 _⟩
theorem sealRT_walk (A0 : Option Addr) (n0 c0 : Nat) (ys : List Int) (A : Option Addr) (n c : Nat) (zs : List Int) (w : World) (w0 : Row .u8 w A0 n0 c0 ys) (w1 : Row .u8 w A n c zs) (s0 : n0 ≤ 140737488355328) (s1 : n ≤ 140737488355328) :
    Calls Try.prog 12 #[.slice A0 n0 c0, .slice A n c] w (Sane w) := by
  obtain ⟨k1, k2, k3, _⟩ := w0.len
  obtain ⟨l1, l2, l3, _⟩ := w1.len
  by_cases hs : n0 + n ≤ 600
  · exact sealRT_core A0 n0 c0 (ys.take n0) A n c (zs.take n) w k1 w0.bytes w0.sees l1 hs w1.bytes w1.sees
  · have hl : (600 : Int) < (n0 : Int) + (n : Int) := by omega
    clear w0 w1 l1 l2 l3 k1 k2 k3 hs
    go_enter Try.func12, Try.ntmps12
    go_wp2_with fail
    refine (sanity_any _).mono ?_
    rintro e w3 ⟨rfl, hb3⟩
    go_wp2
    go_ret
    exact ⟨rfl, hb3⟩
end Go.Proofs.Ytcjlbmggkjnbhaa
