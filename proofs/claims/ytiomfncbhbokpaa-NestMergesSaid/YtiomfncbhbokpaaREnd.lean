/- The reference's End and Drop. -/
import Derived.Test.YtiomfncbhbokpaaLast2
namespace Go.Proofs.Ytiomfncbhbokpaa
open Go.RowKit
set_option linter.unusedVariables false

theorem folds_R (rs : List Seen) {v : Lv} {k : Nat} (h : SmallV k v) : SmallV (k + rs.length) (rs.foldl (fun a s => addR s a) v) := by
  induction rs generalizing v k with
  | nil => exact h
  | cons x r ih => rw [List.foldl_cons]; exact (ih (addR_small x h)).up (by rw [List.length_cons]; omega)
theorem folds_W (rs : List Wr) {v : Lv} {k : Nat} (h : SmallV k v) : SmallV (k + rs.length) (rs.foldl (fun a s => addW s a) v) := by
  induction rs generalizing v k with
  | nil => exact h
  | cons x r ih => rw [List.foldl_cons]; exact (ih (addW_small x h)).up (by rw [List.length_cons]; omega)
theorem folds_U (rs : List Und) {v : Lv} {k : Nat} (h : SmallV k v) : SmallV (k + rs.length) (rs.foldl (fun a s => addU s a) v) := by
  induction rs generalizing v k with
  | nil => exact h
  | cons x r ih => rw [List.foldl_cons]; exact (ih (addU_small x h)).up (by rw [List.length_cons]; omega)
theorem foldR_eq (rs : List Seen) (v : Lv) : rs.foldl (fun a s => addR s a) v = { v with reads := rs.foldl readL v.reads } := by
  induction rs generalizing v with
  | nil => rfl
  | cons x r ih => rw [List.foldl_cons, ih]; rfl
theorem foldW_eq (rs : List Wr) (v : Lv) : rs.foldl (fun a s => addW s a) v = { v with writes := rs.foldl putW v.writes } := by
  induction rs generalizing v with
  | nil => rfl
  | cons x r ih => rw [List.foldl_cons, ih]; rfl
theorem foldU_eq (rs : List Und) (v : Lv) : rs.foldl (fun a s => addU s a) v = { v with undo := v.undo ++ rs } := by
  induction rs generalizing v with
  | nil => simp
  | cons x r ih => rw [List.foldl_cons, ih]; simp [addU]
theorem folds_join (v0 f : Lv) : f.undo.foldl (fun a s => addU s a) (f.writes.foldl (fun a s => addW s a) (f.reads.foldl (fun a s => addR s a) v0)) = joinL v0 f := by
  rw [foldR_eq, foldW_eq, foldU_eq]
  rfl
theorem folds_joinR (v0 f : Lv) : f.reads.foldl (fun a s => addR s a) v0 = joinR v0 f := foldR_eq _ _
set_option maxRecDepth 100000 in
set_option maxHeartbeats 4000000 in
theorem rend_many (v : Value) (init : List Lv) (v0 f : Lv) (w : World) (h : IsLs w v ((init ++ [v0]) ++ [f])) (hm : init.length ≤ 1000) (m1 : SmallV 1000 v0) (m2 : SmallV 1000 f) :
    Calls Try.prog 29 #[v] w (RetLs (init ++ [joinL v0 f]) w) := by
  obtain ⟨b, off, c, lcs0, lf, rfl, hc, hlen, hb, hcell, hl0, hlf⟩ := h.form
  obtain ⟨n, hn⟩ : ∃ n, n = (init ++ [v0]).length := ⟨_, rfl⟩
  rw [← hn] at hc hlen ⊢
  have hn2 : n ≤ 1001 := by rw [hn]; simp <;> omega
  have hn1 : 1 ≤ n := by rw [hn]; simp
  obtain ⟨x0, x1, x2⟩ := at_last hlen hcell
  have hcut : IsLs w (.slice (some ⟨b, off, none⟩) n c) (init ++ [v0]) := by
    have := IsLs.cut (c := c) (by omega) hb hcell hl0
    rwa [← hn] at this
  obtain ⟨N, hN⟩ : ∃ N, N = n + 1 := ⟨_, rfl⟩
  rw [← hN] at hc ⊢
  have hge : ¬ ((N : Int) < 2) := by omega
  have hnN : n < N := by omega
  have hsub : (N : Int) - 1 = (n : Int) := by omega
  have hwn : IntKind.i64.wrap (n : Int) = (n : Int) := by rw [IntKind.wrap_i64]; omega
  have hnc : n ≤ c := by omega
  have hal : Below w.heap.size w (w.alloc (.cells #[.slice lf.A1 lf.n1 lf.c1, .slice lf.A2 lf.n2 lf.c2, .slice lf.A3 lf.n3 lf.c3] 62)) := (Below.refl _ _).alloc (Nat.le_refl _) _
  have HAL := Lib.hid hal
  have HI := Lib.hid (hcut.below hal)
  have HCX := Lib.hid (Box3.new w (.slice lf.A1 lf.n1 lf.c1) (.slice lf.A2 lf.n2 lf.c2) (.slice lf.A3 lf.n3 lf.c3) 62)
  have HLF := Lib.hid ((hlf.below hal).more hal.size)
  have HLT : Hid (w.heap.size < (w.alloc (.cells #[.slice lf.A1 lf.n1 lf.c1, .slice lf.A2 lf.n2 lf.c2, .slice lf.A3 lf.n3 lf.c3] 62)).heap.size) := Lib.hid (by simp)
  have hmn1 : lf.n1 ≤ 1000 := by rw [← hlf.e1]; exact m2.1
  have hmn2 : lf.n2 ≤ 1000 := by rw [← hlf.e2]; exact m2.2.1
  have hmn3 : lf.n3 ≤ 1000 := by rw [← hlf.e3]; exact m2.2.2
  have HM := Lib.hid hm
  have HM1 := Lib.hid m1
  have HM2 := Lib.hid m2
  clear h hcell hl0 hlf hcut hlen hal m1 m2 hm hn hN hb
  obtain ⟨A1, n1, c1, A2, n2, c2, A3, n3, c3⟩ := lf
  dsimp only at x0 x1 x2 HAL HI HCX HLT hmn1 hmn2 hmn3
  have E1 := Lib.hid (show f.reads.length = n1 from HLF.out.e1)
  have E2 := Lib.hid (show f.writes.length = n2 from HLF.out.e2)
  have E3 := Lib.hid (show f.undo.length = n3 from HLF.out.e3)
  go_enter Try.func29, Try.ntmps29
  go_wp2
  generalize w.alloc (.cells #[.slice A1 n1 c1, .slice A2 n2 c2, .slice A3 n3 c3] 62) = X0 at *
  have HB : Hid (Below X0.heap.size X0 X0) := Lib.hid (Below.refl _ _)
  clear x0 x1 x2 hge hnN hsub hwn hnc
  go_wp2
  go_loopw [4, 5] (fun o i wr => ∃ k : Nat, k ≤ n1 ∧ i = .int .i64 k ∧ Hid (IsLs wr o (init ++ [(f.reads.take k).foldl (fun a s => addR s a) (v0)])) ∧ Hid (Below X0.heap.size X0 wr)) (fun _ i _ => n1 - (intOf i).toNat)
  case atStart => exact ⟨0, Nat.zero_le _, rfl, HI, HB⟩
  case round =>
    obtain ⟨k, hk, rfl, HI, HB⟩ := hrel
    have q0 := (HCX.out.below HB.out HLT.out).c0
    by_cases hlt : k < n1
    · have hx : f.reads[k]? = some (f.reads[k]'(by rw [E1.out]; exact hlt)) := List.getElem?_eq_getElem _
      generalize f.reads[k]'(by rw [E1.out]; exact hlt) = x at hx
      obtain ⟨b, off, hA, -, x0, x1, x2⟩ := (HLF.out.s1.below HB.out).at3 hx
      have HN := Lib.hid (take_next (f := fun a s => addR s a) hx (v0))
      have HSZ := Lib.hid (folds_R (f.reads.take k) (v := v0) HM1.out)
      dsimp only at hA
      subst hA
      clear hx
      go_wp2_with fail
      refine (rread_any _ init _ x _ HI.out HM.out (by have := HSZ.out.1; have h2 := HM2.out.1; have h4 := HM2.out.2.1; have h5 := HM2.out.2.2; have h3 : (f.reads.take k).length ≤ f.reads.length := List.length_take_le' _ _; omega)).mono ?_
      rintro e w5 ⟨v5, rfl, i5, b5⟩
      have B5 := Lib.hid (HB.out.trans (b5.mono HB.out.size))
      have I5 := Lib.hid i5
      clear i5 b5
      go_wp2
      go_roundw
      case rel => exact ⟨k + 1, by omega, by go_num, by rw [HN.out]; exact I5, B5⟩
      case measure => simp [intOf]; omega
    · have hkn : k = n1 := by omega
      have HI2 := Lib.hid (show IsLs wr _ (init ++ [f.reads.foldl (fun a s => addR s a) (v0)]) by
        have h := HI.out
        rwa [List.take_of_length_le (by rw [E1.out]; omega)] at h)
      subst hkn
      clear hlt
      have HI := HI2
      clear HI2
      go_wp2
      go_loopw [4, 6] (fun o i wr => ∃ k : Nat, k ≤ n2 ∧ i = .int .i64 k ∧ Hid (IsLs wr o (init ++ [(f.writes.take k).foldl (fun a s => addW s a) (f.reads.foldl (fun a s => addR s a) v0)])) ∧ Hid (Below X0.heap.size X0 wr)) (fun _ i _ => n2 - (intOf i).toNat)
      case atStart => exact ⟨0, Nat.zero_le _, rfl, HI, HB⟩
      case round =>
        obtain ⟨k, hk, rfl, HI, HB⟩ := hrel
        have q0 := (HCX.out.below HB.out HLT.out).c1
        by_cases hlt : k < n2
        · have hx : f.writes[k]? = some (f.writes[k]'(by rw [E2.out]; exact hlt)) := List.getElem?_eq_getElem _
          generalize f.writes[k]'(by rw [E2.out]; exact hlt) = x at hx
          obtain ⟨b, off, hA, -, x0, x1⟩ := (HLF.out.s2.below HB.out).at2 hx
          have HN := Lib.hid (take_next (f := fun a s => addW s a) hx (f.reads.foldl (fun a s => addR s a) v0))
          have HSZ := Lib.hid (folds_W (f.writes.take k) (v := f.reads.foldl (fun a s => addR s a) v0) (folds_R f.reads HM1.out))
          dsimp only at hA
          subst hA
          clear hx
          go_wp2_with fail
          refine (rput_any _ init _ x _ HI.out HM.out (by have := HSZ.out.2.1; have h2 := HM2.out.1; have h4 := HM2.out.2.1; have h5 := HM2.out.2.2; have h3 : (f.writes.take k).length ≤ f.writes.length := List.length_take_le' _ _; omega)).mono ?_
          rintro e w5 ⟨v5, rfl, i5, b5⟩
          have B5 := Lib.hid (HB.out.trans (b5.mono HB.out.size))
          have I5 := Lib.hid i5
          clear i5 b5
          go_wp2
          go_roundw
          case rel => exact ⟨k + 1, by omega, by go_num, by rw [HN.out]; exact I5, B5⟩
          case measure => simp [intOf]; omega
        · have hkn : k = n2 := by omega
          have HI2 := Lib.hid (show IsLs wr _ (init ++ [f.writes.foldl (fun a s => addW s a) (f.reads.foldl (fun a s => addR s a) v0)]) by
            have h := HI.out
            rwa [List.take_of_length_le (by rw [E2.out]; omega)] at h)
          subst hkn
          clear hlt
          have HI := HI2
          clear HI2
          go_wp2
          go_loopw [4, 7] (fun o i wr => ∃ k : Nat, k ≤ n3 ∧ i = .int .i64 k ∧ Hid (IsLs wr o (init ++ [(f.undo.take k).foldl (fun a s => addU s a) (f.writes.foldl (fun a s => addW s a) (f.reads.foldl (fun a s => addR s a) v0))])) ∧ Hid (Below X0.heap.size X0 wr)) (fun _ i _ => n3 - (intOf i).toNat)
          case atStart => exact ⟨0, Nat.zero_le _, rfl, HI, HB⟩
          case round =>
            obtain ⟨k, hk, rfl, HI, HB⟩ := hrel
            have q0 := (HCX.out.below HB.out HLT.out).c2
            by_cases hlt : k < n3
            · have hx : f.undo[k]? = some (f.undo[k]'(by rw [E3.out]; exact hlt)) := List.getElem?_eq_getElem _
              generalize f.undo[k]'(by rw [E3.out]; exact hlt) = x at hx
              obtain ⟨b, off, hA, -, x0, x1, x2, x3, x4⟩ := (HLF.out.s3.below HB.out).at5 hx
              have HN := Lib.hid (take_next (f := fun a s => addU s a) hx (f.writes.foldl (fun a s => addW s a) (f.reads.foldl (fun a s => addR s a) v0)))
              have HSZ := Lib.hid (folds_U (f.undo.take k) (v := f.writes.foldl (fun a s => addW s a) (f.reads.foldl (fun a s => addR s a) v0)) (folds_W f.writes (folds_R f.reads HM1.out)))
              dsimp only at hA
              subst hA
              clear hx
              go_wp2_with fail
              refine (rkeep_any _ init _ x _ HI.out HM.out (by have := HSZ.out.2.2; have h2 := HM2.out.1; have h4 := HM2.out.2.1; have h5 := HM2.out.2.2; have h3 : (f.undo.take k).length ≤ f.undo.length := List.length_take_le' _ _; omega)).mono ?_
              rintro e w5 ⟨v5, rfl, i5, b5⟩
              have B5 := Lib.hid (HB.out.trans (b5.mono HB.out.size))
              have I5 := Lib.hid i5
              clear i5 b5
              go_wp2
              go_roundw
              case rel => exact ⟨k + 1, by omega, by go_num, by rw [HN.out]; exact I5, B5⟩
              case measure => simp [intOf]; omega
            · have hkn : k = n3 := by omega
              have HI2 := Lib.hid (show IsLs wr _ (init ++ [f.undo.foldl (fun a s => addU s a) (f.writes.foldl (fun a s => addW s a) (f.reads.foldl (fun a s => addR s a) v0))]) by
                have h := HI.out
                rwa [List.take_of_length_le (by rw [E3.out]; omega)] at h)
              subst hkn
              clear hlt
              go_wp2
              go_ret
              exact ⟨_, rfl, by rw [← folds_join]; exact HI2.out, HAL.out.trans (HB.out.mono HAL.out.size)⟩
end Go.Proofs.Ytiomfncbhbokpaa
