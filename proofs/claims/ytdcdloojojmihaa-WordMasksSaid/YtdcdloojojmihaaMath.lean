import Derived.WalkKit
import Derived.PlainAid
namespace Go.Proofs.Ytdcdloojojmihaa
open Go.RowKit

/-- The mask of one thread. -/
def bitOf (t : Int) : Int := if 0 ≤ t ∧ t < 62 then 2 ^ t.toNat else 0
abbrev B (m : Int) : BitVec 64 := BitVec.ofInt 64 m
def In64 (m : Int) : Prop := -9223372036854775808 ≤ m ∧ m ≤ 9223372036854775807

theorem wrap_B (x : Int) : wrap64 x = (B x).toInt := by
  unfold B wrap64
  rw [BitVec.toInt_ofInt, Int.bmod_def]
  simp only [Nat.reducePow, Int.cast_ofNat_Int]
  split <;> omega
theorem wrap_toInt (v : BitVec 64) : IntKind.i64.wrap (v.toNat : Int) = v.toInt := by
  rw [Go.PlainAid.i64_is, wrap_B]
  unfold B
  rw [BitVec.ofInt_natCast, BitVec.ofNat_toNat, BitVec.setWidth_eq]
theorem B_of {m : Int} (h : In64 m) : (B m).toInt = m := by
  rw [← wrap_B]; unfold In64 at h; exact IntWalk.wrap64_in m ⟨by omega, by omega⟩
theorem In64_toInt (v : BitVec 64) : In64 v.toInt := by
  unfold In64
  have h1 := BitVec.le_toInt v
  have h2 := BitVec.toInt_lt (x := v)
  simp at h1 h2
  omega
theorem B_toInt (v : BitVec 64) : B v.toInt = v := BitVec.ofInt_toInt
theorem B_pow (t : Nat) : B (2 ^ t) = BitVec.twoPow 64 t := by
  unfold B
  rw [show ((2 : Int) ^ t) = ((2 ^ t : Nat) : Int) by simp, BitVec.ofInt_natCast]
  apply BitVec.eq_of_toNat_eq
  simp

theorem and_eq (m x : Int) : bits .and .i64 m x = (B m &&& B x).toInt := wrap_toInt _
theorem or_eq (m x : Int) : bits .or .i64 m x = (B m ||| B x).toInt := wrap_toInt _
theorem andNot_eq (m x : Int) : bits .andNot .i64 m x = (B m &&& ~~~ B x).toInt := wrap_toInt _

/-- Does the mask contain the thread? -/
def has (m t : Int) : Bool := decide (0 ≤ t ∧ t < 62) && (B m).getLsbD t.toNat
def withT (m t : Int) : Int := if 0 ≤ t ∧ t < 62 then (B m ||| BitVec.twoPow 64 t.toNat).toInt else m
def without (m t : Int) : Int := if 0 ≤ t ∧ t < 62 then (B m &&& ~~~ BitVec.twoPow 64 t.toNat).toInt else m

theorem B_zero : B 0 = 0#64 := by decide
theorem toInt_ne_zero (v : BitVec 64) : (v.toInt != 0) = (v != 0#64) := by
  rw [Bool.eq_iff_iff]
  simp only [bne_iff_ne, ne_eq]
  rw [← BitVec.toInt_inj]
  simp

theorem and_twoPow_ne (v : BitVec 64) (t : Nat) (ht : t < 64) : (v &&& BitVec.twoPow 64 t != 0#64) = v.getLsbD t := by
  rw [BitVec.and_twoPow]
  cases h : v.getLsbD t
  · simp
  · simp only [if_true, bne_iff_ne, ne_eq]
    intro e
    have := congrArg (fun v : BitVec 64 => v.getLsbD t) e
    simp [ht] at this

/-- word.has -/
theorem code_has (m t : Int) : (bits .and .i64 m (bitOf t) != 0) = has m t := by
  rw [and_eq, toInt_ne_zero]
  unfold bitOf has
  by_cases h : 0 ≤ t ∧ t < 62
  · rw [if_pos h, B_pow, and_twoPow_ne _ _ (by omega), decide_eq_true h, Bool.true_and]
  · rw [if_neg h, decide_eq_false h, Bool.false_and, B_zero]
    simp
theorem code_with {m : Int} (hm : In64 m) (t : Int) : bits .or .i64 m (bitOf t) = withT m t := by
  rw [or_eq]
  unfold bitOf withT
  by_cases h : 0 ≤ t ∧ t < 62
  · rw [if_pos h, if_pos h, B_pow]
  · rw [if_neg h, if_neg h, B_zero]
    simp [B_of hm]
theorem code_without {m : Int} (hm : In64 m) (t : Int) : bits .andNot .i64 m (bitOf t) = without m t := by
  rw [andNot_eq]
  unfold bitOf without
  by_cases h : 0 ≤ t ∧ t < 62
  · rw [if_pos h, if_pos h, B_pow]
  · rw [if_neg h, if_neg h, B_zero]
    have e : B m &&& ~~~ (0#64) = B m := by
      apply BitVec.eq_of_getLsbD_eq
      intro i hi
      rw [BitVec.getLsbD_and, BitVec.getLsbD_not]
      simp [hi]
    rw [e, B_of hm]

/-- the reference's test -/
theorem ref_has {m : Int} (hm : In64 m) (t : Nat) (ht : t < 62) : (m / 2 ^ t % 2 == 1) = (B m).getLsbD t := by
  have e : ((B m).sshiftRight t).toInt = m / 2 ^ t := by
    rw [BitVec.toInt_sshiftRight, B_of hm, Int.shiftRight_eq_div_pow]; simp
  have g : ((B m).sshiftRight t).getLsbD 0 = (B m).getLsbD t := by
    rw [BitVec.getLsbD_sshiftRight]
    simp; omega
  rw [← e, ← g]
  generalize (B m).sshiftRight t = v
  rw [BitVec.toInt_eq_toNat_bmod, Int.bmod_def, BitVec.getLsbD, Nat.testBit_zero]
  have := v.isLt
  simp only [Nat.reducePow, Int.cast_ofNat_Int]
  rw [Bool.eq_iff_iff]
  simp only [beq_iff_eq, decide_eq_true_eq]
  split <;> omega

theorem ref_with {m : Int} (t : Int) (h : 0 ≤ t ∧ t < 62) (hn : has m t = false) : wrap64 (m + 2 ^ t.toNat) = withT m t := by
  unfold has at hn
  rw [decide_eq_true h, Bool.true_and] at hn
  unfold withT
  rw [if_pos h, wrap_B]
  congr 1
  show BitVec.ofInt 64 (m + 2 ^ t.toNat) = _
  rw [BitVec.ofInt_add]
  show B m + B (2 ^ t.toNat) = _
  rw [B_pow]
  refine BitVec.add_eq_or_of_and_eq_zero _ _ ?_
  rw [BitVec.and_twoPow, hn]; rfl
theorem has_with {m : Int} (hm : In64 m) (t : Int) (hn : has m t = true) : withT m t = m := by
  unfold has at hn
  simp only [Bool.and_eq_true, decide_eq_true_eq] at hn
  unfold withT
  rw [if_pos hn.1]
  have : B m ||| BitVec.twoPow 64 t.toNat = B m := by
    apply BitVec.eq_of_getLsbD_eq
    intro i hi
    rw [BitVec.getLsbD_or, BitVec.getLsbD_twoPow]
    by_cases e : t.toNat = i
    · subst e; simp [hn.2]
    · simp [e]
  rw [this, B_of hm]
theorem without_not {m : Int} (hm : In64 m) (t : Int) (hn : has m t = false) : without m t = m := by
  unfold has at hn
  unfold without
  split
  · rename_i h
    rw [decide_eq_true h, Bool.true_and] at hn
    have : B m &&& ~~~ BitVec.twoPow 64 t.toNat = B m := by
      apply BitVec.eq_of_getLsbD_eq
      intro i hi
      rw [BitVec.getLsbD_and, BitVec.getLsbD_not, BitVec.getLsbD_twoPow]
      by_cases e : t.toNat = i
      · subst e; simp [hn]
      · simp [e, hi]
    rw [this, B_of hm]
  · rfl
theorem ref_without {m : Int} (t : Int) (hn : has m t = true) : wrap64 (m - 2 ^ t.toNat) = without m t := by
  unfold has at hn
  simp only [Bool.and_eq_true, decide_eq_true_eq] at hn
  obtain ⟨h, hn⟩ := hn
  unfold without
  rw [if_pos h, wrap_B]
  congr 1
  show BitVec.ofInt 64 (m - 2 ^ t.toNat) = _
  rw [show m - 2 ^ t.toNat = m + -(2 ^ t.toNat) by omega, BitVec.ofInt_add, BitVec.ofInt_neg]
  show B m + - B (2 ^ t.toNat) = _
  rw [B_pow]
  have e : (B m &&& ~~~ BitVec.twoPow 64 t.toNat) + BitVec.twoPow 64 t.toNat = B m := by
    rw [BitVec.add_eq_or_of_and_eq_zero]
    · apply BitVec.eq_of_getLsbD_eq
      intro i hi
      rw [BitVec.getLsbD_or, BitVec.getLsbD_and, BitVec.getLsbD_not, BitVec.getLsbD_twoPow]
      by_cases e : t.toNat = i
      · subst e; simp [hn, hi]
      · simp [e, hi]
    · apply BitVec.eq_of_getLsbD_eq
      intro i hi
      rw [BitVec.getLsbD_and, BitVec.getLsbD_and, BitVec.getLsbD_not, BitVec.getLsbD_twoPow]
      by_cases e : t.toNat = i <;> simp [e]
  rw [← BitVec.sub_eq_add_neg]
  have := congrArg (· - BitVec.twoPow 64 t.toNat) e
  simpa [BitVec.add_sub_cancel] using this.symm

theorem B_nat (m : Int) : (B m).toNat = (m % 18446744073709551616).toNat := by
  unfold B
  rw [BitVec.toNat_ofInt]; simp
theorem B_wrap (x : Int) : B (wrap64 x) = B x := by rw [wrap_B, B_toInt]
theorem toInt_small (v : BitVec 64) (h : v.toNat < 9223372036854775808) : v.toInt = (v.toNat : Int) := by
  rw [← wrap_toInt, IntKind.wrap_i64]; omega
theorem mask1 (n : Int) : bits .and .i64 n 1 = n % 2 := by
  rw [and_eq]
  have e : (B n &&& B 1).toNat = (n % 2).toNat := by
    rw [BitVec.toNat_and, B_nat, B_nat, show ((1 : Int) % 18446744073709551616).toNat = 1 from rfl, nat_mask1]
    omega
  rw [toInt_small _ (by rw [e]; omega), e]; omega
theorem mask3 (n : Int) : bits .and .i64 n 3 = n % 4 := by
  rw [and_eq]
  have e : (B n &&& B 3).toNat = (n % 4).toNat := by
    rw [BitVec.toNat_and, B_nat, B_nat, show ((3 : Int) % 18446744073709551616).toNat = 3 from rfl, nat_mask2]
    omega
  rw [toInt_small _ (by rw [e]; omega), e]; omega
theorem join1 (x : Int) : bits .or .i64 (wrap64 (2 * x)) 1 = wrap64 (2 * x + 1) := by
  rw [or_eq, B_wrap, wrap_B]
  congr 1
  apply BitVec.eq_of_toNat_eq
  rw [BitVec.toNat_or, B_nat, B_nat, B_nat, show ((1 : Int) % 18446744073709551616).toNat = 1 from rfl, nat_join 1 _ _ (by omega) (by omega)]
  omega
theorem join3 (x k : Int) (h0 : 0 ≤ k) (h1 : k < 4) : bits .or .i64 (wrap64 (4 * x)) k = wrap64 (4 * x + k) := by
  rw [or_eq, B_wrap, wrap_B]
  congr 1
  apply BitVec.eq_of_toNat_eq
  rw [BitVec.toNat_or, B_nat, B_nat, B_nat, nat_join 2 _ _ (by omega) (by omega)]
  omega
theorem wrap_add (a b : Int) : wrap64 (wrap64 a + b) = wrap64 (a + b) := by unfold wrap64; omega
theorem tmod_mod (m n : Int) (h : 0 < n) : m.tmod n = if m.tmod n < 0 then m % n - n else m % n := by
  have e := Int.tmod_add_tdiv_mul m n
  rw [Int.tmod_eq_emod]
  have h1 := Int.emod_nonneg m (show n ≠ 0 by omega)
  have h2 := Int.emod_lt_of_pos m h
  split <;> split <;> omega

def pw (k : Nat) : Int := 2 ^ k
theorem pw_zero : pw 0 = 1 := rfl
theorem pw_succ (k : Nat) : pw (k + 1) = 2 * pw k := by unfold pw; rw [Int.pow_succ]; omega
theorem pw_pos (k : Nat) : 0 < pw k := Int.pow_pos (by decide)
theorem pw_mono {k j : Nat} (h : k ≤ j) : pw k ≤ pw j := by
  induction h with
  | refl => exact Int.le_refl _
  | step _ ih => rw [pw_succ]; have := pw_pos k; omega
theorem pw_le {k : Nat} (h : k ≤ 62) : pw k ≤ 4611686018427387904 := Int.le_trans (pw_mono h) (by decide)
theorem down_bound {m : Int} (hm : In64 m) {t : Nat} (ht : t ≤ 62) : -9223372036854775808 ≤ m - m % pw t := by
  have e := Int.mul_ediv_add_emod m (pw t)
  have h2 : m - m % pw t = pw t * (m / pw t) := by omega
  rw [h2]
  have hp := pw_pos t
  have hq : (-9223372036854775808 : Int) = pw t * (- pw (63 - t)) := by
    unfold pw
    rw [Int.mul_neg, ← Int.pow_add, show t + (63 - t) = 63 by omega]; rfl
  unfold In64 at hm
  have h3 : - pw (63 - t) ≤ m / pw t := Int.le_ediv_of_mul_le hp (by rw [Int.mul_comm, ← hq]; omega)
  rw [hq]
  exact Int.mul_le_mul_of_nonneg_left h3 (by omega)
theorem down_eq (m n : Int) (h : 0 < n) : (m - m % n).tdiv n = m / n := by
  have e := Int.mul_ediv_add_emod m n
  rw [show m - m % n = n * (m / n) by omega, Int.mul_tdiv_cancel_left _ (by omega)]
theorem bit_lt (t : Int) : 0 ≤ bitOf t ∧ bitOf t ≤ 2305843009213693952 := by
  unfold bitOf
  split
  · have := pw_le (k := t.toNat) (by omega)
    have h2 := pw_mono (k := t.toNat) (j := 61) (by omega)
    have h3 := pw_pos t.toNat
    have h4 : pw 61 = 2305843009213693952 := by decide
    unfold pw at *
    omega
  · omega
theorem bit_in {t : Int} (h : 0 ≤ t ∧ t < 62) : bitOf t = pw t.toNat := if_pos h
theorem bit_out {t : Int} (h : ¬ (0 ≤ t ∧ t < 62)) : bitOf t = 0 := if_neg h
theorem has_out {m t : Int} (h : ¬ (0 ≤ t ∧ t < 62)) : has m t = false := by unfold has; rw [decide_eq_false h]; rfl
theorem has_ref {m : Int} (hm : In64 m) {t : Int} (h : 0 ≤ t ∧ t < 62) : (m / pw t.toNat % 2 == 1) = has m t := by
  have := ref_has hm t.toNat (by omega)
  unfold has
  rw [decide_eq_true h, Bool.true_and, ← this]; rfl
theorem with_in {m : Int} (hm : In64 m) (t : Int) : In64 (withT m t) := by
  unfold withT; split
  · exact In64_toInt _
  · exact hm
theorem B_with (m : Int) {t : Int} (h : 0 ≤ t ∧ t < 62) : B (withT m t) = B m ||| BitVec.twoPow 64 t.toNat := by
  unfold withT; rw [if_pos h, B_toInt]
theorem B_without (m : Int) {t : Int} (h : 0 ≤ t ∧ t < 62) : B (without m t) = B m &&& ~~~ BitVec.twoPow 64 t.toNat := by
  unfold without; rw [if_pos h, B_toInt]
theorem has_eq (m : Int) {t : Int} (h : 0 ≤ t ∧ t < 62) : has m t = (B m).getLsbD t.toNat := by
  unfold has; rw [decide_eq_true h, Bool.true_and]
theorem has_with_same (m : Int) {x : Int} (h : 0 ≤ x ∧ x < 62) : has (withT m x) x = true := by
  rw [has_eq _ h, B_with m h, BitVec.getLsbD_or, BitVec.getLsbD_twoPow]
  have : x.toNat < 64 := by omega
  simp [this]
theorem has_with_other (m : Int) {x y : Int} (h : 0 ≤ x ∧ x < 62) (hy : 0 ≤ y ∧ y < 62) (hne : x ≠ y) : has (withT m x) y = has m y := by
  rw [has_eq _ hy, has_eq _ hy, B_with m h, BitVec.getLsbD_or, BitVec.getLsbD_twoPow]
  have : ¬ x.toNat = y.toNat := by omega
  simp [this]
theorem has_without_same (m : Int) {x : Int} (h : 0 ≤ x ∧ x < 62) : has (without m x) x = false := by
  rw [has_eq _ h, B_without m h, BitVec.getLsbD_and, BitVec.getLsbD_not, BitVec.getLsbD_twoPow]
  simp
theorem has_without_other (m : Int) {x y : Int} (h : 0 ≤ x ∧ x < 62) (hy : 0 ≤ y ∧ y < 62) (hne : x ≠ y) : has (without m x) y = has m y := by
  rw [has_eq _ hy, has_eq _ hy, B_without m h, BitVec.getLsbD_and, BitVec.getLsbD_not, BitVec.getLsbD_twoPow]
  have : ¬ x.toNat = y.toNat := by omega
  have h64 : y.toNat < 64 := by omega
  simp [this, h64]
theorem with_toInt (m : Int) {t : Int} (h : 0 ≤ t ∧ t < 62) : withT m t = (B m ||| BitVec.twoPow 64 t.toNat).toInt := if_pos h
theorem without_toInt (m : Int) {t : Int} (h : 0 ≤ t ∧ t < 62) : without m t = (B m &&& ~~~ BitVec.twoPow 64 t.toNat).toInt := if_pos h
theorem with_with (m : Int) {x : Int} (h : 0 ≤ x ∧ x < 62) : withT (withT m x) x = withT m x := by
  rw [with_toInt (withT m x) h, B_with m h, with_toInt m h]
  congr 1
  rw [BitVec.or_assoc, BitVec.or_self]
theorem without_without (m : Int) {x : Int} (h : 0 ≤ x ∧ x < 62) : without (without m x) x = without m x := by
  rw [without_toInt (without m x) h, B_without m h, without_toInt m h]
  congr 1
  rw [BitVec.and_assoc, BitVec.and_self]
theorem with_comm (m : Int) {x y : Int} (h : 0 ≤ x ∧ x < 62) (hy : 0 ≤ y ∧ y < 62) : withT (withT m x) y = withT (withT m y) x := by
  rw [with_toInt (withT m x) hy, B_with m h, with_toInt (withT m y) h, B_with m hy]
  congr 1
  rw [BitVec.or_assoc, BitVec.or_assoc, BitVec.or_comm (BitVec.twoPow 64 x.toNat)]
theorem without_with (m : Int) {x : Int} (h : 0 ≤ x ∧ x < 62) : without (withT m x) x = without m x := by
  rw [without_toInt (withT m x) h, B_with m h, without_toInt m h]
  congr 1
  apply BitVec.eq_of_getLsbD_eq
  intro i hi
  simp only [BitVec.getLsbD_and, BitVec.getLsbD_or, BitVec.getLsbD_not]
  cases (B m).getLsbD i <;> cases (BitVec.twoPow 64 x.toNat).getLsbD i <;> simp
theorem without_in {m : Int} (hm : In64 m) (t : Int) : In64 (without m t) := by
  unfold without; split
  · exact In64_toInt _
  · exact hm

/-- The threads below k in a mask. -/
def bl (m : Int) (k : Nat) : List Int := ((List.range k).map Int.ofNat).filter (has m)
theorem bl_zero (m : Int) : bl m 0 = [] := rfl
theorem bl_yes {m : Int} {k : Nat} (h : has m k = true) : bl m (k + 1) = bl m k ++ [(k : Int)] := by
  unfold bl; rw [List.range_succ, List.map_append, List.filter_append]; simp [h]
theorem bl_no {m : Int} {k : Nat} (h : has m k = false) : bl m (k + 1) = bl m k := by
  unfold bl; rw [List.range_succ, List.map_append, List.filter_append]; simp [h]
theorem bl_le (m : Int) (k : Nat) : (bl m k).length ≤ k := by
  unfold bl
  exact Nat.le_trans (List.length_filter_le _ _) (by simp)
theorem bl_mem {m x : Int} {k : Nat} (h : x ∈ bl m k) : 0 ≤ x ∧ x < k ∧ has m x = true := by
  unfold bl at h
  obtain ⟨h1, h2⟩ := List.mem_filter.1 h
  obtain ⟨i, hi, rfl⟩ := List.mem_map.1 h1
  have := List.mem_range.1 hi
  exact ⟨by show (0 : Int) ≤ (i : Int); omega, by show (i : Int) < (k : Int); omega, h2⟩
theorem bl_sorted (m : Int) (k : Nat) : (bl m k).Pairwise (· < ·) := by
  unfold bl
  refine List.Pairwise.filter _ ?_
  rw [List.pairwise_map]
  refine List.Pairwise.imp ?_ List.pairwise_lt_range
  intro a b h
  show (a : Int) < (b : Int)
  omega
def made (l : List Int) : Int := l.foldl withT 0
theorem made_snoc (l : List Int) (x : Int) : made (l ++ [x]) = withT (made l) x := by unfold made; rw [List.foldl_append]; rfl
theorem made_in (l : List Int) : In64 (made l) := by
  unfold made
  have : ∀ (l : List Int) (m : Int), In64 m → In64 (l.foldl withT m) := by
    intro l
    induction l with
    | nil => intro m h; exact h
    | cons a l ih => intro m h; exact ih _ (with_in h a)
  exact this l 0 (by unfold In64; omega)
theorem made_bits (m : Int) (n : Nat) (hn : n ≤ 62) (i : Nat) : (B (made (bl m n))).getLsbD i = (decide (i < n) && (B m).getLsbD i) := by
  induction n with
  | zero =>
    rw [bl_zero]
    simp [made]
  | succ n ih =>
    have ih := ih (by omega)
    have hr : (0 : Int) ≤ (n : Int) ∧ (n : Int) < 62 := by omega
    have hn64 : n < 64 := by omega
    cases hh : has m n
    · rw [bl_no hh, ih]
      rw [has_eq _ hr] at hh
      simp only [Int.toNat_natCast] at hh
      by_cases e : i = n
      · subst e; simp [hh]
      · have : (i < n + 1) = (i < n) := by simp; omega
        simp only [this]
    · rw [bl_yes hh, made_snoc, B_with _ hr, BitVec.getLsbD_or, ih, BitVec.getLsbD_twoPow]
      rw [has_eq _ hr] at hh
      simp only [Int.toNat_natCast] at hh ⊢
      by_cases e : i = n
      · subst e; simp [hh, hn64]
      · have h1 : (i < n + 1) = (i < n) := by simp; omega
        have h2 : ¬ n = i := fun h => e h.symm
        simp only [h1, h2]
        simp
theorem made_all {m : Int} (h0 : 0 ≤ m) (h1 : m < 4611686018427387904) : made (bl m 62) = m := by
  have hm : In64 m := by unfold In64; omega
  suffices e : B (made (bl m 62)) = B m by
    have e1 := B_of (made_in (bl m 62))
    have e2 := B_of hm
    rw [← e1, e, e2]
  apply BitVec.eq_of_getLsbD_eq
  intro i hi
  rw [made_bits m 62 (by omega)]
  by_cases h : i < 62
  · simp [h]
  · have e : (B m).getLsbD i = false := by
      unfold BitVec.getLsbD
      apply Nat.testBit_lt_two_pow
      rw [B_nat]
      have : 2 ^ 62 ≤ 2 ^ i := Nat.pow_le_pow_right (by omega) (by omega)
      omega
    rw [e]; simp
end Go.Proofs.Ytdcdloojojmihaa
