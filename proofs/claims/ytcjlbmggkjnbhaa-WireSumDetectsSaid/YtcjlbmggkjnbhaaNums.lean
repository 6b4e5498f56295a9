import Derived.Test.YtcjlbmggkjnbhaaText
namespace Go.Proofs.Ytcjlbmggkjnbhaa
open Go.RowKit
set_option linter.unusedVariables false

theorem own_below {w w' : World} {base : Nat} {e : TypeId} {size n : Nat} {v : Value} {xs : List Value} (h : w.ownsRow base e size v n xs) (hb : Below w.heap.size w w') : w'.ownsRow base e size v n xs :=
  h.kept (row := none) ⟨hb.os, hb.tape, hb.output, hb.size, fun k hk _ => hb.block k hk⟩ (by cases v.ownBlock <;> simp)
theorem own_app2 {w : World} {B : Nat} {v : Value} {k : IntKind} {E : TypeId} {xs ys : List Int} (h : w.ownsRow B E 1 v (xs.length + ys.length) (xs.map (Value.int k) ++ ys.map (Value.int k))) :
    w.ownsRow B E 1 v (xs ++ ys).length ((xs ++ ys).map (Value.int k)) := own_app h rfl rfl
theorem cat_snoc {l : List Int} {k : Nat} (h : k < l.length) : catL (l.take (k + 1)) = catL (l.take k) ++ putL (l.getD k 0) := by
  have : l.take (k + 1) = l.take k ++ [l.getD k 0] := by
    rw [List.take_add_one, List.getD_eq_getElem?_getD, List.getElem?_eq_getElem h]; rfl
  rw [this, catL_app]
  simp [catL]
theorem getD_in {l : List Int} (h : AllIn l) {k : Nat} (hk : k < l.length) : In64 (l.getD k 0) := by
  rw [List.getD_eq_getElem?_getD, List.getElem?_eq_getElem hk]
  exact h _ (List.getElem_mem hk)
def NumsRel (l : List Int) (w : World) (v i : Value) (wr : World) : Prop :=
  ∃ k : Nat, k ≤ l.length ∧ i = .int .i64 k ∧ wr.ownsRow w.heap.size 5 1 v (putL l.length ++ catL (l.take k)).length ((putL l.length ++ catL (l.take k)).map (Value.int .u8)) ∧ Below w.heap.size w wr

theorem nums_any (A : Option Addr) (n c : Nat) (l : List Int) (w : World) (e1 : l.length = n) (hn : n ≤ 1000000) (hl : AllIn l) (h1 : Sees w w.heap.size A (l.map (.int .i64))) :
    Calls Try.prog 27 #[.slice A n c] w (IsBytes (numsL l) w) := by
  obtain ⟨i0, hi, hz0, hz1, hz2⟩ := info_parts Try.info5
  have HI := Lib.hid (len_in (n := l.length) (by omega))
  have HL := Lib.hid hl
  have E1 := Lib.hid e1
  have H1 := Lib.hid h1
  subst e1
  clear hl h1 E1
  go_enter Try.func27, Try.ntmps27
  go_wp2_with fail
  refine (put_any l.length HI.out _).mono ?_
  rintro e w1 ⟨v, rfl, hown, hb⟩
  go_wp2
  go_loopw [3, 11] (NumsRel l w) (fun _ i _ => l.length - (intOf i).toNat)
  case atStart => exact ⟨0, by omega, rfl, by simpa [catL] using hown, hb⟩
  case round =>
    clear hown hb
    obtain ⟨k, hk, rfl, hown, hb⟩ := hrel
    have hle1 := put_le l.length
    have hle2 := catL_le (l.take k)
    have hle3 : (l.take k).length ≤ k := List.length_take_le _ _
    have hlen : (putL l.length ++ catL (l.take k)).length ≤ 10 + 10 * k := by rw [List.length_append]; omega
    by_cases hlt : k < l.length
    · have HS := Lib.hid (H1.out.below hb)
      obtain ⟨b1, o1, rfl, _, g1⟩ := (H1.out.below hb).at_ (k := k) (by rw [List.length_map]; exact hlt)
      have f1 := g1 k _ (getElem?_ints hlt)
      have HG := Lib.hid (getD_in HL.out hlt)
      have HC := Lib.hid (cat_snoc hlt)
      generalize l.getD k 0 = x at f1 HG HC
      have hlx := put_le x
      clear g1 hle1 hle2 hle3
      go_wp2_with fail
      refine (put_any x HG.out _).mono ?_
      rintro e w2 ⟨v2, rfl, hown2, hb2⟩
      obtain ⟨A2, c2, rfl, _, hs2⟩ := own_form hown2
      have hown3 := own_below hown hb2
      have hb3 := hb.trans (hb2.mono hb.size)
      clear hown2 hown hb hb2
      go_wp2_with (at_builtin; refine wpList_app rfl (.tmp 15) (.tmp 17) 24 rfl w.heap.size 5 i0 (.int .u8 0) 1 1 Try.underlying24 hi hz0 hz1 hz2 rfl (by decide) hown3 hs2 (by simp) ints_one rfl rfl (by unfold maxLen; omega) (by omega) hb3.size ?_)
      intro v' w4 hown4 hb4
      have hb5 := hb3.trans hb4
      have hown5 : w4.ownsRow w.heap.size 5 1 v' (putL l.length ++ catL (l.take (k + 1))).length ((putL l.length ++ catL (l.take (k + 1))).map (Value.int .u8)) := by
        rw [HC.out]
        simpa [Nat.add_assoc] using hown4
      clear hown4 hb4 hb3 hown3 hs2 f1
      go_wp2
      go_roundw
      case rel => exact ⟨k + 1, by omega, by go_num, hown5, hb5⟩
      case measure => simp [intOf]; omega
    · obtain rfl : k = l.length := by omega
      go_wp2
      go_ret
      rw [List.take_of_length_le (Nat.le_refl _)] at hown
      exact ⟨_, rfl, hown, hb⟩
theorem rnums_any (A : Option Addr) (n c : Nat) (l : List Int) (w : World) (e1 : l.length = n) (hn : n ≤ 1000000) (hl : AllIn l) (h1 : Sees w w.heap.size A (l.map (.int .i64))) :
    Calls Try.prog 28 #[.slice A n c] w (IsBytes (numsL l) w) := by
  obtain ⟨i0, hi, hz0, hz1, hz2⟩ := info_parts Try.info5
  have HI := Lib.hid (len_in (n := l.length) (by omega))
  have HL := Lib.hid hl
  have E1 := Lib.hid e1
  have H1 := Lib.hid h1
  subst e1
  clear hl h1 E1
  go_enter Try.func28, Try.ntmps28
  go_wp2_with fail
  refine (rput_any l.length HI.out _).mono ?_
  rintro e w1 ⟨v, rfl, hown, hb⟩
  go_wp2
  go_loopw [3, 4] (NumsRel l w) (fun _ i _ => l.length - (intOf i).toNat)
  case atStart => exact ⟨0, by omega, rfl, by simpa [catL] using hown, hb⟩
  case round =>
    clear hown hb
    obtain ⟨k, hk, rfl, hown, hb⟩ := hrel
    have hle1 := put_le l.length
    have hle2 := catL_le (l.take k)
    have hle3 : (l.take k).length ≤ k := List.length_take_le _ _
    have hlen : (putL l.length ++ catL (l.take k)).length ≤ 10 + 10 * k := by rw [List.length_append]; omega
    by_cases hlt : k < l.length
    · have HS := Lib.hid (H1.out.below hb)
      obtain ⟨b1, o1, rfl, _, g1⟩ := (H1.out.below hb).at_ (k := k) (by rw [List.length_map]; exact hlt)
      have f1 := g1 k _ (getElem?_ints hlt)
      have HG := Lib.hid (getD_in HL.out hlt)
      have HC := Lib.hid (cat_snoc hlt)
      generalize l.getD k 0 = x at f1 HG HC
      have hlx := put_le x
      clear g1 hle1 hle2 hle3
      go_wp2_with fail
      refine (rput_any x HG.out _).mono ?_
      rintro e w2 ⟨v2, rfl, hown2, hb2⟩
      obtain ⟨A2, c2, rfl, _, hs2⟩ := own_form hown2
      have hown3 := own_below hown hb2
      have hb3 := hb.trans (hb2.mono hb.size)
      clear hown2 hown hb hb2
      go_wp2_with (at_builtin; refine wpList_app rfl (.tmp 14) (.tmp 19) 24 rfl w.heap.size 5 i0 (.int .u8 0) 1 1 Try.underlying24 hi hz0 hz1 hz2 rfl (by decide) hown3 hs2 (by simp) ints_one rfl rfl (by unfold maxLen; omega) (by omega) hb3.size ?_)
      intro v' w4 hown4 hb4
      have hb5 := hb3.trans hb4
      have hown5 : w4.ownsRow w.heap.size 5 1 v' (putL l.length ++ catL (l.take (k + 1))).length ((putL l.length ++ catL (l.take (k + 1))).map (Value.int .u8)) := by
        rw [HC.out]
        simpa [Nat.add_assoc] using hown4
      clear hown4 hb4 hb3 hown3 hs2 f1
      go_wp2
      go_roundw
      case rel => exact ⟨k + 1, by omega, by go_num, hown5, hb5⟩
      case measure => simp [intOf]; omega
    · obtain rfl : k = l.length := by omega
      go_wp2
      go_ret
      rw [List.take_of_length_le (Nat.le_refl _)] at hown
      exact ⟨_, rfl, hown, hb⟩
end Go.Proofs.Ytcjlbmggkjnbhaa
