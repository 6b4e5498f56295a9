import Derived.Test.YtdcdloojojmihaaLaws
namespace Go.Proofs.Ytdcdloojojmihaa
open Go.RowKit
set_option linter.unusedVariables false

theorem take_snoc {l : List Int} {k : Nat} (h : k < l.length) : l.take (k + 1) = l.take k ++ [l.getD k 0] := by
  rw [List.take_add_one, List.getD_eq_getElem?_getD, List.getElem?_eq_getElem h]; rfl
theorem getD_mem {l : List Int} {k : Nat} (h : k < l.length) : l.getD k 0 ∈ l := by
  rw [List.getD_eq_getElem?_getD, List.getElem?_eq_getElem h]; exact List.getElem_mem h
theorem sorted_at {l : List Int} (hs : l.Pairwise (· < ·)) {i j : Nat} (hij : i < j) (hj : j < l.length) : l.getD i 0 < l.getD j 0 := by
  rw [List.getD_eq_getElem?_getD, List.getD_eq_getElem?_getD, List.getElem?_eq_getElem hj, List.getElem?_eq_getElem (by omega)]
  exact List.pairwise_iff_getElem.1 hs i j (by omega) hj hij

theorem wbits_walk (n : Int) (w0 : (Lit.int .u64 n).wf = true) (w : World) : Calls Try.prog 9 #[.int .u64 n] w (Sane w) := by
  obtain ⟨n0, n1⟩ := bounds_u64 w0
  clear w0
  have m0 : 0 ≤ n % 4611686018427387904 := by omega
  have m1 : n % 4611686018427387904 < 4611686018427387904 := by omega
  go_enter Try.func9, Try.ntmps9
  go_wp2_with fail
  refine (sanity_any _).mono ?_
  rintro e w1 ⟨rfl, hb⟩
  go_wp2_with fail
  refine (bits_any (n % 4611686018427387904) _).mono ?_
  generalize n % 4611686018427387904 = m at m0 m1
  rintro e w2 ⟨v, rfl, hown, hb2⟩
  have hle := bl_le m 62
  have HA := Lib.hid (made_all m0 m1)
  have HS := Lib.hid (bl_sorted m 62)
  have HM := Lib.hid (fun x (h : x ∈ bl m 62) => bl_mem h)
  clear m0 m1
  generalize bl m 62 = l at *
  obtain ⟨A, c, rfl, _, hs⟩ := own_form hown
  have hb3 := hb.trans (hb2.mono hb.size)
  clear hown hb hb2
  generalize hl : l.length = len at hle
  have HL := Lib.hid hl
  clear hl
  go_wp2
  go_loopw [6, 7] (fun p i wr => ∃ k : Nat, k ≤ len ∧ i = .int .i64 k ∧ p = .int .i64 (made (l.take k)) ∧ Below w.heap.size w wr ∧ Sees wr w2.heap.size A (l.map (Value.int .i64))) (fun _ i _ => len - (intOf i).toNat)
  case atStart => exact ⟨0, by omega, rfl, rfl, hb3, hs⟩
  case round =>
    obtain ⟨k, hk, rfl, rfl, hbr, hsr⟩ := hrel
    clear hs hb3
    by_cases hlt : k < len
    · have hlt' : k < l.length := by rw [HL.out]; exact hlt
      have HR := Lib.hid hsr
      obtain ⟨b, o, rfl, _, g⟩ := hsr.at_ (k := k) (by rw [List.length_map]; exact hlt')
      have hm := HM.out _ (getD_mem hlt')
      have HT := Lib.hid (take_snoc hlt')
      have HI := Lib.hid (made_in (l.take k))
      have f := g k _ (getElem?_ints hlt')
      have hh : has m (l.getD k 0) = true := hm.2.2
      have HH := Lib.hid hh
      clear hh
      by_cases hz : k = 0
      · subst hz
        have hl : (0 : Int) < (len : Int) := by omega
        generalize l.getD 0 0 = x at f hm HH HT
        clear hsr g hm
        rw [show ((0 : Nat) : Int) = 0 from rfl]
        have f' : wr.cell? ⟨b, o, none⟩ = some (.int .i64 x) := f
        clear f
        go_wp2
        go_quiet ((go_at_call 29; exact quiet_left (calls_bool (in_any _ _ _) HH.out)))
        go_wp2_with (go_at_call 31; refine (with_any _ x HI.out _).mono ?_; rintro e w' ⟨rfl, rfl⟩)
        go_roundw
        case rel => exact ⟨1, by omega, rfl, by rw [HT.out, made_snoc]; rfl, below_drewN hbr _, HR.out.drewN _⟩
        case measure => simp [intOf]; omega
      · obtain ⟨j, rfl⟩ : ∃ j, k = j + 1 := ⟨k - 1, by omega⟩
        have f2 := g j _ (getElem?_ints (by omega))
        have hlt2 := sorted_at HS.out (show j < j + 1 by omega) hlt'
        have hl : (j : Int) + 1 < (len : Int) := by omega
        have hl2 : (j : Int) < (len : Int) := by omega
        generalize l.getD (j + 1) 0 = x at f hm HH HT hlt2
        generalize l.getD j 0 = y at f2 hlt2
        have hxy : decide (x ≤ y) = false := by simp; omega
        clear hsr g hm
        rw [show ((j + 1 : Nat) : Int) = (j : Int) + 1 from by omega]
        go_wp2
        go_quiet ((go_at_call 29; exact quiet_left (calls_bool (in_any _ _ _) HH.out)))
        go_wp2_with (go_at_call 31; refine (with_any _ x HI.out _).mono ?_; rintro e w' ⟨rfl, rfl⟩)
        go_roundw
        case rel => exact ⟨j + 2, by omega, by go_num, by rw [HT.out, made_snoc], below_drewN hbr _, HR.out.drewN _⟩
        case measure => simp [intOf]; omega
    · obtain rfl : k = len := by omega
      rw [← HL.out, List.take_of_length_le (Nat.le_refl _), HA.out]
      go_wp2
      go_ret
      exact ⟨rfl, hbr⟩
end Go.Proofs.Ytdcdloojojmihaa
