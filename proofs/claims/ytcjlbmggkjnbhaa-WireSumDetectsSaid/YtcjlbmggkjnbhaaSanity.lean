import Derived.Test.YtcjlbmggkjnbhaaROpen
namespace Go.Proofs.Ytcjlbmggkjnbhaa
open Go.RowKit
set_option linter.unusedVariables false

def Sane (w : World) (e : Ending) (w' : World) : Prop := e = .returned (.bool true) ∧ Below w.heap.size w w'
theorem in_m64 : In64 (-64) := by unfold In64; decide
theorem in_64 : In64 64 := by unfold In64; decide
theorem put_m64 : putL (-64) = [127] := by decide +kernel
theorem put_64 : putL 64 = [128, 1] := by decide +kernel
theorem getR_a : getR [128, 1, 9] = (64, 2, 0) := by decide +kernel
theorem getR_b : getR [128, 0] = (0, 0, 3) := by decide +kernel
theorem textR_a : textR [4, 97, 98, 7] = (⟨#[97, 98]⟩, 3, 0) := by
  have : getText [4, 97, 98, 7] = some ([97, 98], 3) := by decide +kernel
  unfold textR; rw [this]; rfl
theorem numsR_a : numsR [4, 2, 1] = ([1, -1], 3, 0) := by decide +kernel
theorem textL_a : textL (numsOf ⟨#[97, 98]⟩) = [4, 97, 98] := by decide +kernel
theorem numsL_a : numsL [1, -1] = [4, 2, 1] := by decide +kernel
theorem sumL_a : sumL [1, 2] = 393220 := by decide +kernel
theorem sealL_a : sealL [1] = [2, 1, 132, 128, 16] := by decide +kernel
instance (l : List Int) : Decidable (Bytes l) := inferInstanceAs (Decidable (∀ x ∈ l, 0 ≤ x ∧ x ≤ 255))
theorem all_a : AllIn [1, -1] := by
  intro x hx
  simp at hx
  unfold In64
  omega
/-- A literal's row, just laid. -/
theorem Sees.lit {w : World} {g : Nat} {cs : Array Value} {t : TypeId} {k : IntKind} {l : List Int} (hx : cs.toList = l.map (Value.int k)) (hg : g = w.heap.size) : Sees (w.alloc (.cells cs t)) (w.alloc (.cells cs t)).heap.size (some ⟨g, 0, none⟩) (l.map (Value.int k)) := by
  subst hg
  rw [← hx]
  exact (Sees.new w cs.toList t).more (by simp)
theorem lit_max {n : Nat} (h : n ≤ 10) : n ≤ maxLen := by unfold maxLen; omega

theorem same_lit {w : World} {g : Nat} {cs : Array Value} {t : TypeId} (A : Option Addr) (n n2 c c2 : Nat) (xs l : List Int) (hg : g = w.heap.size) (hx : cs.toList = l.map (Value.int .u8)) (e1 : xs.length = n) (e2 : l.length = n2) (m1 : n ≤ 10) (m2 : n2 ≤ 10)
    (hs : Sees w w.heap.size A (xs.map (Value.int .u8))) (he : xs = l) :
    Calls Try.prog 15 #[.slice A n c, .slice (some ⟨g, 0, none⟩) n2 c2] (w.alloc (.cells cs t)) fun e w' => e = .returned (.bool true) ∧ Below w.heap.size w w' := by
  refine (same_any A _ n n2 c c2 xs l _ e1 e2 (lit_max m1) (lit_max m2) (hs.alloc (Nat.le_refl _) _) (Sees.lit hx hg)).mono ?_
  rintro e w' ⟨he', d, rfl⟩
  rw [decide_eq_true he] at he'
  exact ⟨he', below_drewN ((Below.refl _ _).alloc (Nat.le_refl _) _) _⟩
theorem ints_lit {w : World} {g : Nat} {cs : Array Value} {t : TypeId} (A : Option Addr) (n n2 c c2 : Nat) (xs l : List Int) (hg : g = w.heap.size) (hx : cs.toList = l.map (Value.int .i64)) (e1 : xs.length = n) (e2 : l.length = n2) (m1 : n ≤ 10) (m2 : n2 ≤ 10)
    (hs : Sees w w.heap.size A (xs.map (Value.int .i64))) (he : xs = l) :
    Calls Try.prog 24 #[.slice A n c, .slice (some ⟨g, 0, none⟩) n2 c2] (w.alloc (.cells cs t)) fun e w' => e = .returned (.bool true) ∧ Below w.heap.size w w' := by
  refine (ints_any A _ n n2 c c2 xs l _ e1 e2 (lit_max m1) (lit_max m2) (hs.alloc (Nat.le_refl _) _) (Sees.lit hx hg)).mono ?_
  rintro e w' ⟨he', d, rfl⟩
  rw [decide_eq_true he] at he'
  exact ⟨he', below_drewN ((Below.refl _ _).alloc (Nat.le_refl _) _) _⟩

set_option maxHeartbeats 4000000 in
set_option maxRecDepth 100000 in
theorem sanity_any (w : World) : Calls Try.prog 14 #[] w (Sane w) := by
  go_enter Try.func14, Try.ntmps14
  go_wp2_with fail
  refine (put_any (-64) in_m64 _).mono ?_
  unfold IsPut
  rw [put_m64]
  rintro e w1 ⟨v1, rfl, ho1, hb1⟩
  obtain ⟨A1, c1, rfl, _, hs1⟩ := own_form ho1
  clear ho1
  go_wp2_with fail
  refine (put_any 64 in_64 _).mono ?_
  unfold IsPut
  rw [put_64]
  rintro e w2 ⟨v2, rfl, ho2, hb2⟩
  obtain ⟨A2, c2, rfl, _, hs2⟩ := own_form ho2
  have hs12 := (hs1.below hb2).more hb2.size
  have hb12 := hb1.trans (hb2.mono hb1.size)
  clear ho2 hs1 hb1 hb2
  go_wp2_with fail
  refine (get_any _ 3 3 [128, 1, 9] _ rfl (lit_max (by omega)) (by decide) (Sees.lit rfl rfl)).mono ?_
  rw [getR_a]
  rintro e w3 ⟨rfl, rfl⟩
  unfold Ret3
  go_wp2_with fail
  refine (get_any _ 2 2 [128, 0] _ rfl (lit_max (by omega)) (by decide) (Sees.lit rfl (by simp))).mono ?_
  rw [getR_b]
  rintro e w3 ⟨rfl, rfl⟩
  unfold Ret3
  go_wp2_with fail
  refine (getText_any _ 4 4 [4, 97, 98, 7] _ rfl (lit_max (by omega)) (Nat.le_refl _) (by decide) (Sees.lit rfl (by simp))).mono ?_
  rw [textR_a]
  rintro e w3 ⟨rfl, rfl⟩
  unfold RetS
  go_wp2_with fail
  refine (getNums_any _ 3 3 [4, 2, 1] _ rfl (by omega) (Nat.le_refl _) (by decide) (Sees.lit rfl (by simp))).mono ?_
  rw [numsR_a]
  rintro e w4 ⟨v4, rfl, ho4, hb4⟩
  obtain ⟨A4, c4, rfl, _, hs4⟩ := own_form ho4
  have hb24 : Below w2.heap.size w2 w4 := by
    refine Below.trans ?_ (hb4.mono ?_)
    · go_grown
    · simp; omega
  have ha4 := (hs12.below hb24).more hb24.size
  have hc4 := (hs2.below hb24).more hb24.size
  have hb04 := hb12.trans (hb24.mono hb12.size)
  clear ho4 hb4 hb24 hs12 hs2 hb12
  go_wp2_with fail
  refine (same_lit A1 1 1 c1 1 [127] [127] rfl rfl rfl rfl (by omega) (by omega) ha4 rfl).mono ?_
  rintro e w5 ⟨rfl, hb5⟩
  have hs5 := (hs4.below hb5).more hb5.size
  have hc5 := (hc4.below hb5).more hb5.size
  have hb05 := hb04.trans (hb5.mono hb04.size)
  clear hb5 hb04 hs4 hc4 ha4
  go_wp2_with fail
  refine (same_lit A2 2 2 c2 2 [128, 1] [128, 1] rfl rfl rfl rfl (by omega) (by omega) hc5 rfl).mono ?_
  rintro e w6 ⟨rfl, hb6⟩
  have hs6 := (hs5.below hb6).more hb6.size
  have hb06 := hb05.trans (hb6.mono hb05.size)
  clear hb6 hb05 hs5 hc5
  go_wp2_with fail
  refine (ints_lit A4 2 2 c4 2 [1, -1] [1, -1] rfl rfl rfl rfl (by omega) (by omega) hs6 rfl).mono ?_
  rintro e w7 ⟨rfl, hb7⟩
  have hb07 := hb06.trans (hb7.mono hb06.size)
  clear hb7 hb06 hs6
  go_wp2_with fail
  refine (text_any ⟨#[97, 98]⟩ (by decide) _).mono ?_
  rw [textL_a]
  rintro e w8 ⟨v8, rfl, ho8, hb8⟩
  obtain ⟨A8, c8, rfl, _, hs8⟩ := own_form ho8
  have hb08 := hb07.trans (hb8.mono hb07.size)
  clear ho8 hb8 hb07
  go_wp2_with fail
  refine (same_lit A8 3 3 c8 3 [4, 97, 98] [4, 97, 98] rfl rfl rfl rfl (by omega) (by omega) hs8 rfl).mono ?_
  rintro e w9 ⟨rfl, hb9⟩
  have hb09 := hb08.trans (hb9.mono hb08.size)
  clear hb9 hb08 hs8
  go_wp2_with fail
  refine (nums_any _ 2 2 [1, -1] _ rfl (by omega) all_a (Sees.lit rfl rfl)).mono ?_
  rw [numsL_a]
  rintro e w10 ⟨v10, rfl, ho10, hb10⟩
  obtain ⟨A10, c10, rfl, _, hs10⟩ := own_form ho10
  have hb010 := (hb09.alloc hb09.size _).trans (hb10.mono (by have := hb09.size; simp; omega))
  clear ho10 hb10 hb09
  go_wp2_with fail
  refine (same_lit A10 3 3 c10 3 [4, 2, 1] [4, 2, 1] rfl rfl rfl rfl (by omega) (by omega) hs10 rfl).mono ?_
  rintro e w11 ⟨rfl, hb11⟩
  have hb011 := hb010.trans (hb11.mono hb010.size)
  clear hb11 hb010 hs10
  go_wp2_with fail
  refine (sum_any _ 2 2 [1, 2] _ rfl (lit_max (by omega)) (by decide) (Sees.lit rfl rfl)).mono ?_
  rw [sumL_a]
  rintro e w12 ⟨rfl, rfl⟩
  go_wp2_with fail
  refine (seal_any _ 1 1 [1] _ rfl (by omega) (by decide) (Sees.lit rfl (by simp))).mono ?_
  rw [sealL_a]
  rintro e w13 ⟨v13, rfl, ho13, hb13⟩
  obtain ⟨A13, c13, rfl, _, hs13⟩ := own_form ho13
  have hb013 : Below w.heap.size w w13 := by
    refine Below.trans hb011 (Below.trans ?_ (hb13.mono (by have := hb011.size; simp; omega)))
    have := hb011.size
    go_grown
  clear ho13 hb13 hb011
  go_wp2_with fail
  refine (same_lit A13 5 5 c13 5 [2, 1, 132, 128, 16] [2, 1, 132, 128, 16] rfl rfl rfl rfl (by omega) (by omega) hs13 rfl).mono ?_
  rintro e w14 ⟨rfl, hb14⟩
  have hb014 := hb013.trans (hb14.mono hb013.size)
  go_wp2
  go_ret
  exact ⟨rfl, hb014⟩
end Go.Proofs.Ytcjlbmggkjnbhaa
