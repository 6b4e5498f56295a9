import Derived.Test.YtcjlbmggkjnbhaaRows
import Derived.Test.YtcjlbmggkjnbhaaMath
import Derived.Test.YtcjlbmggkjnbhaaMem
import Derived.WalkSpells
import Derived.Lib.Hide
import Derived.Handy
import Derived.Deep.QuietTactic
import Derived.BigQuiet
import Derived.Lib.Zigzag
namespace Go.Proofs.Ytcjlbmggkjnbhaa
open Go.RowKit
set_option linter.unusedVariables false

theorem ret_int {k : IntKind} {a b : Int} (h : a = b) : Ending.returned (.int k a) = .returned (.int k b) := by rw [h]
theorem ret_bool {a b : Bool} (h : a = b) : Ending.returned (.bool a) = .returned (.bool b) := by rw [h]
theorem Try.info5 : (Try.prog.info? 5).map (fun i => (i.zero, i.size, i.bytes)) = some (some (.int .u8 0), 1, 1) := by kernel_rfl
theorem Try.info3 : (Try.prog.info? 3).map (fun i => (i.zero, i.size, i.bytes)) = some (some (.int .i64 0), 1, 8) := by kernel_rfl

theorem turned_any (n : Int) (hn : In64 n) (w : World) : Calls Try.prog 36 #[.int .i64 n] w fun e w' => e = .returned (.int .u64 (zig n)) ∧ w = w' := by
  unfold In64 at hn
  by_cases h : 0 ≤ n
  · go_enter Try.func36, Try.ntmps36
    go_wp2
    go_ret
    exact ⟨by unfold zig; rw [if_pos h]; rfl, rfl⟩
  · go_enter Try.func36, Try.ntmps36
    go_wp2
    go_ret
    exact ⟨by unfold zig; rw [if_neg (by omega)]; exact congrArg (fun z => Ending.returned (.int .u64 z)) (by omega), rfl⟩
def IsPut (n : Int) (w : World) (e : Ending) (w' : World) : Prop :=
  ∃ v, e = .returned v ∧ w'.ownsRow w.heap.size 5 1 v (putL n).length ((putL n).map (Value.int .u8)) ∧ Below w.heap.size w w'

theorem xor_pos {n : Int} (h : 0 ≤ n) (h1 : n ≤ 9223372036854775807) : bits .xor .u64 (n * 2) (n / 9223372036854775808) = zig n := by
  have e : n / 9223372036854775808 = ((0 : Nat) : Int) := by omega
  have e2 : n * 2 = ((n * 2).toNat : Int) := by omega
  rw [e, e2, bits_xor_u64_nat _ _ (by omega) (by omega), Nat.xor_zero]
  unfold zig; rw [if_pos h]; omega
theorem xor_neg {n : Int} (h : n < 0) (h1 : -9223372036854775808 ≤ n) : bits .xor .u64 (IntKind.u64.wrap (IntKind.u64.wrap n * 2)) (IntKind.u64.wrap (n / 9223372036854775808)) = zig n := by
  have e : IntKind.u64.wrap (n / 9223372036854775808) = ((2 ^ 64 - 1 : Nat) : Int) := by
    rw [IntKind.wrap_u64]; omega
  have e2 : IntKind.u64.wrap (IntKind.u64.wrap n * 2) = (((2 * n + 18446744073709551616).toNat : Nat) : Int) := by
    rw [IntKind.wrap_u64, IntKind.wrap_u64]; omega
  rw [e, e2, bits_xor_u64_nat _ _ (by omega) (by decide), Nat.xor_comm, Lib.xor_ones64 _ (by omega)]
  unfold zig; rw [if_neg (by omega)]; omega
theorem or_byte {x : Int} (h0 : 0 ≤ x) : bits .or .u8 (x % 256) 128 = x % 128 + 128 := by
  have e : x % 256 = ((x % 256).toNat : Int) := by omega
  have e3 : (x % 256).toNat ||| 128 = (x % 128).toNat + 128 := by
    have : ∀ k : Fin 256, k.val ||| 128 = k.val % 128 + 128 := by decide +kernel
    have := this ⟨(x % 256).toNat, by omega⟩
    simp only at this
    omega
  rw [e, show (128 : Int) = ((128 : Nat) : Int) from rfl, u8_or_nat _ _ (by omega) (by omega), e3]
  omega
theorem enc_small {f : Nat} {x : Int} (h : x < 128) : enc f x = [x] := by
  cases f with
  | zero => rfl
  | succ f => unfold enc; rw [if_pos h]
theorem enc_big {f : Nat} {x : Int} (h : ¬ x < 128) : enc (f + 1) x = (x % 128 + 128) :: enc f (x / 128) := by rw [enc, if_neg h]
theorem own_snoc {w : World} {B : Nat} {v : Value} {k : IntKind} {E : TypeId} {xs ys : List Int} {x : Int} (h : w.ownsRow B E 1 v (xs.length + 1) (xs.map (Value.int k) ++ [.int k x])) (e : ys = xs ++ [x]) :
    w.ownsRow B E 1 v ys.length (ys.map (Value.int k)) := by subst e; simpa using h

/-- The state of the loop: what is written, what is left. -/
def PutRel (n : Int) (w : World) (u v : Value) (wr : World) : Prop :=
  ∃ (f : Nat) (x : Int) (l : List Int), u = .int .u64 x ∧ 0 ≤ x ∧ x < top f ∧ f ≤ 9 ∧ l ++ enc f x = putL n ∧ wr.ownsRow w.heap.size 5 1 v l.length (l.map (Value.int .u8)) ∧ Below w.heap.size w wr
theorem top_le {f : Nat} (h : f ≤ 9) : top f ≤ 18446744073709551616 := by
  have : ∀ k : Fin 10, top k.val ≤ 18446744073709551616 := by decide
  exact this ⟨f, by omega⟩

theorem put_any (n : Int) (hn : In64 n) (w : World) : Calls Try.prog 16 #[.int .i64 n] w (IsPut n w) := by
  obtain ⟨i0, hi, hz0, hz1, hz2⟩ := info_parts Try.info5
  have hz := zig_rng hn
  unfold In64 at hn
  have HX : Hid (bits .xor .u64 (IntKind.u64.wrap (IntKind.u64.wrap n * 2)) (IntKind.u64.wrap (n / 9223372036854775808)) = zig n) := by
    by_cases h : 0 ≤ n
    · refine Lib.hid ?_
      have := xor_pos h hn.2
      rwa [IntWalk.u64_in n ⟨by omega, by omega⟩, IntWalk.u64_in (n * 2) ⟨by omega, by omega⟩, IntWalk.u64_in (n / 9223372036854775808) ⟨by omega, by omega⟩]
    · exact Lib.hid (xor_neg (by omega) hn.1)
  obtain ⟨hn1, hn2⟩ := hn
  clear hn1 hn2
  go_enter Try.func16, Try.ntmps16
  go_wp2
  go_step3
  go_wp2
  go_step3
  go_wp2
  rw [HX.out]
  go_loopw [3, 4] (PutRel n w) (fun u _ _ => (intOf u).toNat)
  case atStart => exact ⟨9, zig n, [], rfl, hz.1, by rw [top_9]; omega, by omega, rfl, World.ownsRow_nil _ _ _ _, Below.refl _ _⟩
  case round =>
    obtain ⟨f, x, l, rfl, hx0, hx1, hf, he, hown, hb⟩ := hrel
    have ht := top_le hf
    have hx2 : x ≤ 18446744073709551615 := by omega
    have HE := Lib.hid he
    have hle : l.length ≤ 10 := by
      have := congrArg List.length he
      have := put_le n
      simp at *; omega
    clear he ht HX
    by_cases hlt : x < 128
    · have HS := Lib.hid (enc_small (f := f) hlt)
      clear hx1 hx2
      go_wp2_with (at_builtin; refine wpList_push rfl (.tmp 14) (.tmp 17) 24 rfl w.heap.size 5 i0 (.int .u8 0) 1 1 Try.underlying24 hi hz0 hz1 hz2 rfl (by decide) hown rfl rfl rfl rfl (by unfold maxLen; omega) (by omega) hb.size ?_)
      intro v' w1 hown1 hb1
      have hb2 := hb.trans hb1
      clear hown hb hb1
      go_wp2
      rw [Exit.noGoto_ret]
      go_ret
      refine ⟨v', rfl, own_snoc hown1 ?_, hb2⟩
      rw [← HE.out, HS.out]
    · obtain ⟨g, rfl⟩ : ∃ g, f = g + 1 := by
        cases f with
        | zero => exact absurd (show x < 128 by simp only [top] at hx1; omega) hlt
        | succ g => exact ⟨g, rfl⟩
      have HS := Lib.hid (enc_big (f := g) hlt)
      have HT : Hid (x / 128 < top g) := Lib.hid (by simp only [top] at hx1; omega)
      have HO := Lib.hid (or_byte hx0)
      clear hx1
      go_wp2_with (at_builtin; refine wpList_push rfl (.tmp 19) (.tmp 23) 24 rfl w.heap.size 5 i0 (.int .u8 0) 1 1 Try.underlying24 hi hz0 hz1 hz2 rfl (by decide) hown rfl rfl rfl rfl (by unfold maxLen; omega) (by omega) hb.size ?_)
      intro v' w1 hown1 hb1
      have hb2 := hb.trans hb1
      clear hown hb hb1
      rw [HO.out] at hown1
      go_wp2
      go_roundw
      case rel => exact ⟨g, x / 128, l ++ [x % 128 + 128], rfl, by omega, HT.out, by omega, by rw [← HE.out, HS.out]; simp, own_snoc hown1 rfl, hb2⟩
      case measure => simp [intOf]; omega

theorem rput_any (n : Int) (hn : In64 n) (w : World) : Calls Try.prog 17 #[.int .i64 n] w (IsPut n w) := by
  obtain ⟨i0, hi, hz0, hz1, hz2⟩ := info_parts Try.info5
  have hz := zig_rng hn
  have HN := Lib.hid hn
  clear hn
  go_enter Try.func17, Try.ntmps17
  go_wp2_with (go_at_call 36; refine (turned_any n HN.out _).mono ?_; rintro e w' ⟨rfl, rfl⟩)
  go_loopw [3, 4] (PutRel n w) (fun u _ _ => (intOf u).toNat)
  case atStart => exact ⟨9, zig n, [], rfl, hz.1, by rw [top_9]; omega, by omega, rfl, World.ownsRow_nil _ _ _ _, Below.refl _ _⟩
  case round =>
    obtain ⟨f, x, l, rfl, hx0, hx1, hf, he, hown, hb⟩ := hrel
    have ht := top_le hf
    have hx2 : x ≤ 18446744073709551615 := by omega
    have HE := Lib.hid he
    have hle : l.length ≤ 10 := by
      have := congrArg List.length he
      have := put_le n
      simp at *; omega
    clear he ht
    by_cases hlt : x < 128
    · have HS := Lib.hid (enc_small (f := f) hlt)
      clear hx1 hx2
      go_wp2_with (at_builtin; refine wpList_push rfl (.tmp 18) (.tmp 21) 24 rfl w.heap.size 5 i0 (.int .u8 0) 1 1 Try.underlying24 hi hz0 hz1 hz2 rfl (by decide) hown rfl rfl rfl rfl (by unfold maxLen; omega) (by omega) hb.size ?_)
      intro v' w1 hown1 hb1
      have hb2 := hb.trans hb1
      clear hown hb hb1
      go_wp2
      go_ret
      refine ⟨v', rfl, own_snoc hown1 ?_, hb2⟩
      rw [← HE.out, HS.out]
    · obtain ⟨g, rfl⟩ : ∃ g, f = g + 1 := by
        cases f with
        | zero => exact absurd (show x < 128 by simp only [top] at hx1; omega) hlt
        | succ g => exact ⟨g, rfl⟩
      have HS := Lib.hid (enc_big (f := g) hlt)
      have HT : Hid (x / 128 < top g) := Lib.hid (by simp only [top] at hx1; omega)
      clear hx1
      go_wp2_with (at_builtin; refine wpList_push rfl (.tmp 9) (.tmp 14) 24 rfl w.heap.size 5 i0 (.int .u8 0) 1 1 Try.underlying24 hi hz0 hz1 hz2 rfl (by decide) hown rfl rfl rfl rfl (by unfold maxLen; omega) (by omega) hb.size ?_)
      intro v' w1 hown1 hb1
      have hb2 := hb.trans hb1
      clear hown hb hb1
      go_wp2
      go_roundw
      case rel => exact ⟨g, x / 128, l ++ [x % 128 + 128], rfl, by omega, HT.out, by omega, by rw [← HE.out, HS.out]; simp, own_snoc hown1 rfl, hb2⟩
      case measure => simp [intOf]; omega
end Go.Proofs.Ytcjlbmggkjnbhaa
