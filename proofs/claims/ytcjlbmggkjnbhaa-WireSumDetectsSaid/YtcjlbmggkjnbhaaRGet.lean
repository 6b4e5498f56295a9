import Derived.Test.YtcjlbmggkjnbhaaGet
import Derived.Test.YtcjlbmggkjnbhaaRMath
import Derived.Deep.RegionWith
import Derived.Deep.RegionHeld3
namespace Go.Proofs.Ytcjlbmggkjnbhaa
open Go.RowKit
set_option linter.unusedVariables false

theorem Try.slice24 : Try.prog.underlying 24 = some (.slice (Try.prog.elem 24)) := by kernel_rfl
theorem Try.size24 (w : World) : (sizeOf (Try.prog.elem 24)).run Try.prog w = .ok 1 w := by kernel_rfl
theorem drop_take_at {b : List Int} {k j : Nat} (hk : k < b.length) (hj : j ≤ k) : (b.take (k + 1)).drop j = b.getD j 0 :: (b.take (k + 1)).drop (j + 1) := by
  have h := drop_at (b := b.take (k + 1)) (k := j) (by rw [List.length_take]; omega)
  rw [h]
  congr 1
  rw [List.getD_eq_getElem?_getD, List.getD_eq_getElem?_getD, List.getElem?_take, if_pos (by omega)]

theorem rget_any (A : Option Addr) (n c : Nat) (b : List Int) (w : World) (e1 : b.length = n) (m1 : n ≤ maxLen) (hc : n ≤ c) (hb : Bytes b) (h1 : Sees w w.heap.size A (b.map (.int .u8))) :
    Calls Try.prog 19 #[.slice A n c] w fun e w' => e = Ret3 (getR b) ∧ Below w.heap.size w w' := by
  unfold maxLen at m1
  have E1 := Lib.hid e1
  have HB := Lib.hid hb
  clear e1 hb
  go_enter Try.func19, Try.ntmps19
  go_wp2
  go_loop [6] (fun i => ∃ k : Nat, k ≤ n ∧ k ≤ 10 ∧ i = .int .i64 k ∧ Hid (∀ i, i < k → 128 ≤ b.getD i 0)) (fun i => n - (intOf i).toNat)
  case atStart => exact ⟨0, by omega, by omega, rfl, fun i h => absurd h (by omega)⟩
  case round =>
    obtain ⟨k, hk, hk10, rfl, HA⟩ := hrel
    by_cases hlt : k < n
    · have hlt' : k < b.length := by rw [E1.out]; exact hlt
      have H1 := Lib.hid h1
      obtain ⟨b1, o1, rfl, _, g1⟩ := h1.at_ (k := k) (by rw [List.length_map]; exact hlt')
      have f1 := g1 k _ (getElem?_ints hlt')
      have hx := byte_at HB.out hlt'
      generalize hxx : b.getD k 0 = x at f1 hx
      have HX := Lib.hid hxx
      obtain ⟨hx0, hx1⟩ := hx
      clear g1 h1 hxx
      by_cases h10 : k = 10
      · have HN := Lib.hid (get_no HB.out (.inr h10) HA.out)
        have e1 : ((k : Int) == (n : Int)) = false := by simp; omega
        have e2 : ((k : Int) == 10) = true := by simp; omega
        have e3 : decide ((k : Int) < 10) = false := by simp; omega
        clear h10
        go_wp2
        go_ret3
        exact ⟨ret3 (by unfold getR; rw [HN.out]), Below.refl _ _⟩
      · have hk9 : k ≤ 9 := by omega
        have hl : (k : Int) < (n : Int) := by omega
        by_cases hbig : 128 ≤ x
        · go_wp2
          go_round
          case rel => exact ⟨k + 1, by omega, by omega, by go_num, fun i hi => by
            rcases (show i < k ∨ i = k by omega) with h | h
            · exact HA.out i h
            · subst h; rw [HX.out]; exact hbig⟩
          case measure => simp [intOf]; omega
        · have e1 : ((k : Int) == (n : Int)) = false := by simp; omega
          have e2 : ((k : Int) == 10) = false := by simp; omega
          have HG := Lib.hid (get_ref HB.out hlt' HA.out (by rw [HX.out]; omega))
          go_wp2
          go_loop [5, 7] (fun u i => ∃ (z : Int), -1 ≤ z ∧ z ≤ k ∧ i = .int .i64 z ∧ u = .int .u64 (val ((b.take (k + 1)).drop (z + 1).toNat))) (fun _ i => (intOf i + 1).toNat)
          case atStart => exact ⟨k, by omega, by omega, rfl, by rw [show ((k : Int) + 1).toNat = k + 1 by omega, List.drop_eq_nil_of_le (List.length_take_le _ _)]; rfl⟩
          case round =>
            obtain ⟨z, hz0, hz1, rfl, rfl⟩ := hrel
            by_cases hz : 0 ≤ z
            · obtain ⟨i, rfl⟩ := Int.eq_ofNat_of_zero_le hz
              have hik : i ≤ k := by omega
              obtain ⟨b2, o2, hA2, _, g2⟩ := H1.out.at_ (k := i) (by rw [List.length_map]; omega)
              obtain ⟨rfl, rfl⟩ : b1 = b2 ∧ o1 = o2 := by simpa using hA2
              have f2 := g2 i _ (getElem?_ints (by omega))
              have hy := byte_at HB.out (show i < b.length by omega)
              have HS := Lib.hid (drop_take_at hlt' hik)
              have hv := val_rng ((b.take (k + 1)).drop (i + 1))
              rw [show ((i : Int) + 1).toNat = i + 1 by omega]
              generalize b.getD i 0 = y at f2 hy HS
              generalize hvv : val ((b.take (k + 1)).drop (i + 1)) = v at hv
              have HV := Lib.hid hvv
              obtain ⟨hy0, hy1⟩ := hy
              obtain ⟨hv0, hv1⟩ := hv
              have hl2 : (i : Int) < (n : Int) := by omega
              clear g2 hvv hA2 f1 HG
              go_wp2
              go_round
              case rel => 
                refine ⟨(i : Int) - 1, by omega, by omega, rfl, ?_⟩
                rw [show ((i : Int) - 1 + 1).toNat = i by omega, HS.out]
                simp only [val]
                rw [HV.out, IntKind.wrap_u64, IntKind.wrap_u64]
                congr 1
                omega
              case measure => simp [intOf]
            · obtain rfl : z = -1 := by omega
              have hv := val_rng (b.take (k + 1))
              rw [show ((-1 : Int) + 1).toNat = 0 by omega, List.drop_zero]
              generalize val (b.take (k + 1)) = v at hv HG
              have HI := Lib.hid (unzig_in hv)
              obtain ⟨hv0, hv1⟩ := hv
              have HT : Hid ((b.take (k + 1)).length = k + 1) := Lib.hid (by rw [List.length_take]; omega)
              have hpl := put_le (unzig v)
              rcases (show v % 2 = 0 ∨ v % 2 = 1 by omega) with hp | hp
              · have hu : unzig v = v / 2 := by unfold unzig; rw [if_pos hp]
                have hb2 : (v % 2 == 1) = false := by rw [hp]; rfl
                rw [hu] at HG HI hpl
                clear hu hp
                have hw1 : IntKind.i64.wrap ((k : Int) + 1) = (k : Int) + 1 := IntWalk.i64_in _ (by omega)
                have hpl1 : (putL (v / 2)).length ≤ maxLen := by unfold maxLen; omega
                have hk1 : k + 1 ≤ maxLen := by unfold maxLen; omega
                have htk : Sees w.drew w.drew.heap.size (some ⟨b1, o1, none⟩) ((b.take (k + 1)).map (Value.int .u8)) := by
                  rw [List.map_take]; exact H1.out.take (k + 1)
                have hsl := fun W => slice_hi Try.slice24 Try.size24 (some ⟨b1, o1, none⟩) n c (k + 1) ((k : Int) + 1) (by omega) (by omega) W
                by_cases hq : putL (v / 2) = b.take (k + 1)
                · have HQ := Lib.hid (decide_eq_true hq)
                  have hres : Hid (getR b = (v / 2, (k : Int) + 1, 0)) := Lib.hid (by unfold getR; rw [HG.out, if_pos hq]; rfl)
                  clear hq
                  go_wp2
                  go_region_held3 (fun _ => True) (trivial) (first
                    | (go_at_call 17; refine (rput_any (v / 2) HI.out _).mono ?_; rintro e w1 ⟨v1, rfl, hown, hbw⟩; obtain ⟨A1, c1, rfl, _, hs1⟩ := own_form hown; clear hown; have ht1 := htk.below hbw)
                    | (go_at_call 15; refine (same_any A1 (some ⟨b1, o1, none⟩) (putL (v / 2)).length (k + 1) c1 c (putL (v / 2)) (b.take (k + 1)) _ rfl HT.out hpl1 hk1 hs1 ht1).mono ?_; rw [HQ.out]; rintro e w2 ⟨rfl, d, rfl⟩))
                  go_wp2
                  go_ret3
                  exact ⟨ret3 hres.out, below_drewN (below_of_drew hbw) _⟩
                · have HQ := Lib.hid (decide_eq_false hq)
                  have hres : Hid (getR b = (0, 0, 3)) := Lib.hid (by unfold getR; rw [HG.out, if_neg hq])
                  clear hq
                  go_wp2
                  go_region_held3 (fun _ => True) (trivial) (first
                    | (go_at_call 17; refine (rput_any (v / 2) HI.out _).mono ?_; rintro e w1 ⟨v1, rfl, hown, hbw⟩; obtain ⟨A1, c1, rfl, _, hs1⟩ := own_form hown; clear hown; have ht1 := htk.below hbw)
                    | (go_at_call 15; refine (same_any A1 (some ⟨b1, o1, none⟩) (putL (v / 2)).length (k + 1) c1 c (putL (v / 2)) (b.take (k + 1)) _ rfl HT.out hpl1 hk1 hs1 ht1).mono ?_; rw [HQ.out]; rintro e w2 ⟨rfl, d, rfl⟩))
                  go_wp2
                  go_ret3
                  exact ⟨ret3 hres.out, below_drewN (below_of_drew hbw) _⟩
              · have hu : unzig v = -(v / 2) - 1 := by unfold unzig; rw [if_neg (by omega)]
                have hb2 : (v % 2 == 1) = true := by rw [hp]; rfl
                rw [hu] at HG HI hpl
                clear hu hp
                have hw1 : IntKind.i64.wrap ((k : Int) + 1) = (k : Int) + 1 := IntWalk.i64_in _ (by omega)
                have hpl1 : (putL (-(v / 2) - 1)).length ≤ maxLen := by unfold maxLen; omega
                have hk1 : k + 1 ≤ maxLen := by unfold maxLen; omega
                have htk : Sees w.drew w.drew.heap.size (some ⟨b1, o1, none⟩) ((b.take (k + 1)).map (Value.int .u8)) := by
                  rw [List.map_take]; exact H1.out.take (k + 1)
                have hsl := fun W => slice_hi Try.slice24 Try.size24 (some ⟨b1, o1, none⟩) n c (k + 1) ((k : Int) + 1) (by omega) (by omega) W
                by_cases hq : putL (-(v / 2) - 1) = b.take (k + 1)
                · have HQ := Lib.hid (decide_eq_true hq)
                  have hres : Hid (getR b = (-(v / 2) - 1, (k : Int) + 1, 0)) := Lib.hid (by unfold getR; rw [HG.out, if_pos hq]; rfl)
                  clear hq
                  go_wp2
                  go_region_held3 (fun _ => True) (trivial) (first
                    | (go_at_call 17; refine (rput_any (-(v / 2) - 1) HI.out _).mono ?_; rintro e w1 ⟨v1, rfl, hown, hbw⟩; obtain ⟨A1, c1, rfl, _, hs1⟩ := own_form hown; clear hown; have ht1 := htk.below hbw)
                    | (go_at_call 15; refine (same_any A1 (some ⟨b1, o1, none⟩) (putL (-(v / 2) - 1)).length (k + 1) c1 c (putL (-(v / 2) - 1)) (b.take (k + 1)) _ rfl HT.out hpl1 hk1 hs1 ht1).mono ?_; rw [HQ.out]; rintro e w2 ⟨rfl, d, rfl⟩))
                  go_wp2
                  go_ret3
                  exact ⟨ret3 hres.out, below_drewN (below_of_drew hbw) _⟩
                · have HQ := Lib.hid (decide_eq_false hq)
                  have hres : Hid (getR b = (0, 0, 3)) := Lib.hid (by unfold getR; rw [HG.out, if_neg hq])
                  clear hq
                  go_wp2
                  go_region_held3 (fun _ => True) (trivial) (first
                    | (go_at_call 17; refine (rput_any (-(v / 2) - 1) HI.out _).mono ?_; rintro e w1 ⟨v1, rfl, hown, hbw⟩; obtain ⟨A1, c1, rfl, _, hs1⟩ := own_form hown; clear hown; have ht1 := htk.below hbw)
                    | (go_at_call 15; refine (same_any A1 (some ⟨b1, o1, none⟩) (putL (-(v / 2) - 1)).length (k + 1) c1 c (putL (-(v / 2) - 1)) (b.take (k + 1)) _ rfl HT.out hpl1 hk1 hs1 ht1).mono ?_; rw [HQ.out]; rintro e w2 ⟨rfl, d, rfl⟩))
                  go_wp2
                  go_ret3
                  exact ⟨ret3 hres.out, below_drewN (below_of_drew hbw) _⟩
    · have hn : k = n := by omega
      have HN := Lib.hid (get_no HB.out (.inl (by rw [E1.out]; exact hn)) HA.out)
      have e1 : ((k : Int) == (n : Int)) = true := by simp; omega
      have e2 : decide (k < n) = false := by simp; omega
      clear hn
      go_wp2
      go_ret3
      exact ⟨ret3 (by unfold getR; rw [HN.out]), Below.refl _ _⟩
end Go.Proofs.Ytcjlbmggkjnbhaa
