import Derived.Test.YtcjlbmggkjnbhaaRGetNums
import Derived.Lib.ConvBytes
namespace Go.Proofs.Ytcjlbmggkjnbhaa
open Go.RowKit
set_option linter.unusedVariables false

theorem sums_snoc {b : List Int} {k : Nat} (hk : k < b.length) {X Y : Int} (h : sumsL (b.take k) (1, 0) = (X, Y)) :
    sumsL (b.take (k + 1)) (1, 0) = ((X + b.getD k 0) % 65521, (Y + (X + b.getD k 0) % 65521) % 65521) := by
  have : b.take (k + 1) = b.take k ++ [b.getD k 0] := by
    rw [List.take_add_one, List.getD_eq_getElem?_getD, List.getElem?_eq_getElem hk]; rfl
  rw [this, sumsL_app, h]; rfl
theorem or_sum {x y : Int} (hx : 0 ≤ x ∧ x < 65521) (hy : 0 ≤ y ∧ y < 65521) : bits .or .i64 (y * 65536) x = 65536 * y + x := by
  have e1 : y * 65536 = ((y.toNat * 65536 : Nat) : Int) := by omega
  have e2 : x = (x.toNat : Int) := by omega
  have h1 : y.toNat * 65536 < 4294967296 := by omega
  have h2 : x.toNat < 65536 := by omega
  show IntKind.i64.wrap ((BitVec.ofInt 64 (y * 65536) ||| BitVec.ofInt 64 x).toNat : Int) = _
  rw [BitVec.toNat_or, e1, e2]
  rw [BitVec.ofInt_natCast, BitVec.ofInt_natCast, BitVec.toNat_ofNat, BitVec.toNat_ofNat, Nat.mod_eq_of_lt (by omega), Nat.mod_eq_of_lt (by omega), nat_join 16 _ _ (by omega) (by omega), IntKind.wrap_i64]
  omega
def SumRel (b : List Int) (n : Nat) (x y i : Value) : Prop :=
  ∃ (k : Nat) (X Y : Int), k ≤ n ∧ i = .int .i64 k ∧ x = .int .i64 X ∧ y = .int .i64 Y ∧ (0 ≤ X ∧ X < 65521) ∧ (0 ≤ Y ∧ Y < 65521) ∧ Hid (sumsL (b.take k) (1, 0) = (X, Y))

theorem sum_any {B : Nat} (A : Option Addr) (n c : Nat) (b : List Int) (w : World) (e1 : b.length = n) (m1 : n ≤ maxLen) (hb : Bytes b) (h1 : Sees w B A (b.map (.int .u8))) :
    Calls Try.prog 31 #[.slice A n c] w fun e w' => e = .returned (.int .i64 (sumL b)) ∧ w = w' := by
  unfold maxLen at m1
  have E1 := Lib.hid e1
  have HB := Lib.hid hb
  clear e1 hb
  go_enter Try.func31, Try.ntmps31
  go_wp2
  go_loop [3, 4, 9] (SumRel b n) (fun _ _ i => n - (intOf i).toNat)
  case atStart => exact ⟨0, 1, 0, by omega, rfl, rfl, rfl, by omega, by omega, rfl⟩
  case round =>
    obtain ⟨k, X, Y, hk, rfl, rfl, rfl, hX, hY, hS⟩ := hrel
    by_cases hlt : k < n
    · have hlt' : k < b.length := by rw [E1.out]; exact hlt
      obtain ⟨b1, o1, rfl, _, g1⟩ := h1.at_ (k := k) (by rw [List.length_map]; exact hlt')
      have f1 := g1 k _ (getElem?_ints hlt')
      have hx := byte_at HB.out hlt'
      have HS := Lib.hid (sums_snoc hlt' hS.out)
      generalize b.getD k 0 = z at f1 hx HS
      obtain ⟨hx0, hx1⟩ := hx
      obtain ⟨hX0, hX1⟩ := hX
      obtain ⟨hY0, hY1⟩ := hY
      clear g1 h1 hlt'
      go_wp2
      go_round
      case rel => exact ⟨k + 1, _, _, by omega, by go_num, rfl, rfl, by omega, by omega, HS⟩
      case measure => simp [intOf]; omega
    · obtain rfl : k = n := by omega
      have HF : Hid (bits .or .i64 (Y * 65536) X = sumL b) := Lib.hid (by
        have := hS.out
        rw [List.take_of_length_le (by rw [E1.out]; exact Nat.le_refl _)] at this
        unfold sumL
        rw [this, or_sum hX hY])
      obtain ⟨hX0, hX1⟩ := hX
      obtain ⟨hY0, hY1⟩ := hY
      go_wp2
      go_ret
      exact ⟨ret_int HF.out, rfl⟩
theorem sums_any {B : Nat} (A : Option Addr) (n c : Nat) (b : List Int) (w : World) (e1 : b.length = n) (m1 : n ≤ maxLen) (hb : Bytes b) (h1 : Sees w B A (b.map (.int .u8))) :
    Calls Try.prog 38 #[.slice A n c] w fun e w' => e = .returned (.tuple #[.int .i64 (sumsL b (1, 0)).1, .int .i64 (sumsL b (1, 0)).2]) ∧ w = w' := by
  unfold maxLen at m1
  have E1 := Lib.hid e1
  have HB := Lib.hid hb
  clear e1 hb
  go_enter Try.func38, Try.ntmps38
  go_wp2
  go_loop [4, 5, 6] (SumRel b n) (fun _ _ i => n - (intOf i).toNat)
  case atStart => exact ⟨0, 1, 0, by omega, rfl, rfl, rfl, by omega, by omega, rfl⟩
  case round =>
    obtain ⟨k, X, Y, hk, rfl, rfl, rfl, hX, hY, hS⟩ := hrel
    by_cases hlt : k < n
    · have hlt' : k < b.length := by rw [E1.out]; exact hlt
      obtain ⟨b1, o1, rfl, _, g1⟩ := h1.at_ (k := k) (by rw [List.length_map]; exact hlt')
      have f1 := g1 k _ (getElem?_ints hlt')
      have hx := byte_at HB.out hlt'
      have HS := Lib.hid (sums_snoc hlt' hS.out)
      generalize b.getD k 0 = z at f1 hx HS
      obtain ⟨hx0, hx1⟩ := hx
      obtain ⟨hX0, hX1⟩ := hX
      obtain ⟨hY0, hY1⟩ := hY
      clear g1 h1 hlt'
      go_wp2
      go_round
      case rel => exact ⟨k + 1, _, _, by omega, by go_num, rfl, rfl, by omega, by omega, HS⟩
      case measure => simp [intOf]; omega
    · obtain rfl : k = n := by omega
      have HF : Hid (sumsL b (1, 0) = (X, Y)) := Lib.hid (by
        have := hS.out
        rwa [List.take_of_length_le (by rw [E1.out]; exact Nat.le_refl _)] at this)
      obtain ⟨hX0, hX1⟩ := hX
      obtain ⟨hY0, hY1⟩ := hY
      go_wp2
      go_ret2
      rw [HF.out]
      exact ⟨rfl, rfl⟩
theorem rsum_any {B : Nat} (A : Option Addr) (n c : Nat) (b : List Int) (w : World) (e1 : b.length = n) (m1 : n ≤ maxLen) (hb : Bytes b) (h1 : Sees w B A (b.map (.int .u8))) :
    Calls Try.prog 32 #[.slice A n c] w fun e w' => e = .returned (.int .i64 (sumL b)) ∧ w = w' := by
  have hr := sumsL_rng b 1 0 (by omega) (by omega)
  have HC := Lib.hid (sums_any A n c b w e1 m1 hb h1)
  have HF : Hid (65536 * (sumsL b (1, 0)).2 + (sumsL b (1, 0)).1 = sumL b) := Lib.hid rfl
  generalize sumsL b (1, 0) = p at hr HC HF
  obtain ⟨X, Y⟩ := p
  simp only at hr HF
  obtain ⟨⟨hX0, hX1⟩, hY0, hY1⟩ := hr
  clear e1 m1 hb h1
  go_enter Try.func32, Try.ntmps32
  go_wp2_with fail
  refine HC.out.mono ?_
  rintro e w1 ⟨rfl, rfl⟩
  go_wp2
  go_ret
  exact ⟨ret_int HF.out, rfl⟩

theorem own_cast {w : World} {B : Nat} {e : TypeId} {size n n' : Nat} {v : Value} {xs xs' : List Value} (h : w.ownsRow B e size v n xs) (hn : n = n') (hx : xs = xs') : w.ownsRow B e size v n' xs' := by
  subst hn hx; exact h
theorem sealL_le (b : List Int) : (sealL b).length ≤ b.length + 20 := by
  unfold sealL textL
  have := put_le b.length
  have := put_le (sumL b)
  simp only [List.length_append]
  omega
theorem seal_any (A : Option Addr) (n c : Nat) (b : List Int) (w : World) (e1 : b.length = n) (m1 : n ≤ 1000000) (hb : Bytes b) (h1 : Sees w w.heap.size A (b.map (.int .u8))) :
    Calls Try.prog 33 #[.slice A n c] w (IsBytes (sealL b) w) := by
  obtain ⟨i0, hi, hz0, hz1, hz2⟩ := info_parts Try.info5
  have HI := Lib.hid (len_in (n := n) (by omega))
  have HB := Lib.hid hb
  have E1 := Lib.hid e1
  have H1 := Lib.hid h1
  have M1 : Hid (n ≤ maxLen) := Lib.hid (by unfold maxLen; omega)
  have hp := put_le n
  have hq := put_le (sumL b)
  clear e1 hb h1
  go_enter Try.func33, Try.ntmps33
  go_wp2_with fail
  refine (put_any n HI.out _).mono ?_
  rintro e w1 ⟨v, rfl, hown, hbw⟩
  have hs1 := H1.out.below hbw
  go_wp2_with (at_builtin; refine wpList_app rfl (.tmp 5) (.tmp 6) 24 rfl w.heap.size 5 i0 (.int .u8 0) 1 1 Try.underlying24 hi hz0 hz1 hz2 rfl (by decide) hown hs1 (by rw [List.length_map, E1.out]; simp) ints_one rfl rfl (by unfold maxLen; omega) (by omega) hbw.size ?_)
  intro v2 w2 hown2 hb2
  have hbw2 := hbw.trans hb2
  have hs2 := Lib.hid (H1.out.below hbw2)
  clear hown hbw hb2 hs1
  go_wp2_with fail
  refine (sum_any A n c b w2 E1.out M1.out HB.out hs2.out).mono ?_
  rintro e w3 ⟨rfl, rfl⟩
  go_wp2_with fail
  refine (put_any (sumL b) (sumL_in64 b) _).mono ?_
  rintro e w4 ⟨v4, rfl, hown4, hb4⟩
  obtain ⟨A4, c4, rfl, _, hs4⟩ := own_form hown4
  have hown5 := own_below hown2 hb4
  have hb5 := hbw2.trans (hb4.mono hbw2.size)
  clear hown4 hown2 hbw2 hb4 hs2
  go_wp2_with (at_builtin; refine wpList_app rfl (.tmp 7) (.tmp 10) 24 rfl w.heap.size 5 i0 (.int .u8 0) 1 1 Try.underlying24 hi hz0 hz1 hz2 rfl (by decide) hown5 hs4 (by simp) ints_one rfl rfl (by unfold maxLen; omega) (by omega) hb5.size ?_)
  intro v6 w6 hown6 hb6
  go_wp2
  go_ret
  refine ⟨v6, rfl, ?_, hb5.trans hb6⟩
  unfold sealL textL
  rw [E1.out]
  clear hp hq
  revert hown6
  generalize putL (n : Int) = P
  generalize putL (sumL b) = Q
  intro hown6
  exact own_cast hown6 (by simp [E1.out, Nat.add_assoc]) (by simp)
theorem rseal_any (A : Option Addr) (n c : Nat) (b : List Int) (w : World) (e1 : b.length = n) (m1 : n ≤ 1000000) (hb : Bytes b) (h1 : Sees w w.heap.size A (b.map (.int .u8))) :
    Calls Try.prog 34 #[.slice A n c] w (IsBytes (sealL b) w) := by
  obtain ⟨i0, hi, hz0, hz1, hz2⟩ := info_parts Try.info5
  have HI := Lib.hid (len_in (n := n) (by omega))
  have HB := Lib.hid hb
  have E1 := Lib.hid e1
  have H1 := Lib.hid h1
  have M1 : Hid (n ≤ maxLen) := Lib.hid (by unfold maxLen; omega)
  have hp := put_le n
  have hq := put_le (sumL b)
  clear e1 hb h1
  go_enter Try.func34, Try.ntmps34
  go_wp2_with fail
  refine (rput_any n HI.out _).mono ?_
  rintro e w1 ⟨v, rfl, hown, hbw⟩
  have hs1 := H1.out.below hbw
  go_wp2_with (at_builtin; refine wpList_app rfl (.tmp 6) (.tmp 7) 24 rfl w.heap.size 5 i0 (.int .u8 0) 1 1 Try.underlying24 hi hz0 hz1 hz2 rfl (by decide) hown hs1 (by rw [List.length_map, E1.out]; simp) ints_one rfl rfl (by unfold maxLen; omega) (by omega) hbw.size ?_)
  intro v2 w2 hown2 hb2
  have hbw2 := hbw.trans hb2
  have hs2 := Lib.hid (H1.out.below hbw2)
  clear hown hbw hb2 hs1
  go_wp2_with fail
  refine (rsum_any A n c b w2 E1.out M1.out HB.out hs2.out).mono ?_
  rintro e w3 ⟨rfl, rfl⟩
  go_wp2_with fail
  refine (rput_any (sumL b) (sumL_in64 b) _).mono ?_
  rintro e w4 ⟨v4, rfl, hown4, hb4⟩
  obtain ⟨A4, c4, rfl, _, hs4⟩ := own_form hown4
  have hown5 := own_below hown2 hb4
  have hb5 := hbw2.trans (hb4.mono hbw2.size)
  clear hown4 hown2 hbw2 hb4 hs2
  go_wp2_with (at_builtin; refine wpList_app rfl (.tmp 9) (.tmp 12) 24 rfl w.heap.size 5 i0 (.int .u8 0) 1 1 Try.underlying24 hi hz0 hz1 hz2 rfl (by decide) hown5 hs4 (by simp) ints_one rfl rfl (by unfold maxLen; omega) (by omega) hb5.size ?_)
  intro v6 w6 hown6 hb6
  go_wp2
  go_ret
  refine ⟨v6, rfl, ?_, hb5.trans hb6⟩
  unfold sealL textL
  rw [E1.out]
  clear hp hq
  revert hown6
  generalize putL (n : Int) = P
  generalize putL (sumL b) = Q
  intro hown6
  exact own_cast hown6 (by simp [E1.out, Nat.add_assoc]) (by simp)
end Go.Proofs.Ytcjlbmggkjnbhaa
