import Derived.Test.YtcjlbmggkjnbhaaSame
namespace Go.Proofs.Ytcjlbmggkjnbhaa
open Go.RowKit
set_option linter.unusedVariables false

/-- What Get hands back. -/
def getR (b : List Int) : Int × Int × Int := match get b with | some (n, m) => (n, (m : Int), 0) | none => (0, 0, 3)
def Ret3 (r : Int × Int × Int) : Ending := .returned (.tuple #[.int .i64 r.1, .int .i64 r.2.1, .int .i64 r.2.2])
/-- 128 ^ k -/
def p7 (k : Nat) : Int := 128 ^ k
def GetRel (b : List Int) (u i : Value) : Prop :=
  ∃ (k : Nat) (x : Int), k ≤ b.length ∧ k ≤ 9 ∧ i = .int .i64 k ∧ u = .int .u64 x ∧ 0 ≤ x ∧ x < p7 k ∧ dec 9 0 b = (dec (9 - k) k (b.drop k)).map fun r => (x + p7 k * r.1, k + r.2)
theorem byte_at {b : List Int} (hb : Bytes b) {k : Nat} (hk : k < b.length) : 0 ≤ b.getD k 0 ∧ b.getD k 0 ≤ 255 := by
  rw [List.getD_eq_getElem?_getD, List.getElem?_eq_getElem hk]
  exact hb _ (List.getElem_mem hk)
theorem drop_at {b : List Int} {k : Nat} (hk : k < b.length) : b.drop k = b.getD k 0 :: b.drop (k + 1) := by
  rw [List.getD_eq_getElem?_getD, List.getElem?_eq_getElem hk]
  exact List.drop_eq_getElem_cons hk

theorem p7_zero : p7 0 = 1 := rfl
theorem p7_succ (k : Nat) : p7 (k + 1) = 128 * p7 k := by unfold p7; rw [Int.pow_succ]; omega
theorem p7_pos (k : Nat) : 0 < p7 k := Int.pow_pos (by decide)
theorem p7_two (k : Nat) : (2 : Int) ^ (7 * k) = p7 k := by unfold p7; rw [Int.pow_mul]; rfl
theorem p7_le {k : Nat} (h : k ≤ 9) : p7 k ≤ 9223372036854775808 := by
  have : ∀ j : Fin 10, p7 j.val ≤ 9223372036854775808 := by decide
  exact this ⟨k, by omega⟩
theorem p7_le8 {k : Nat} (h : k < 9) : p7 k ≤ 72057594037927936 := by
  have : ∀ j : Fin 9, p7 j.val ≤ 72057594037927936 := by decide
  exact this ⟨k, h⟩
theorem clear_top {x : Int} (h0 : 0 ≤ x) (h1 : x ≤ 255) : bits .andNot .u8 x 128 = x % 128 := by
  have e : x = (x.toNat : Int) := by omega
  have e3 : x.toNat &&& (255 - 128) = x.toNat % 128 := nat_mask7 _
  rw [e, show (128 : Int) = ((128 : Nat) : Int) from rfl, u8_andNot_nat _ _ (by omega) (by omega), e3]
  omega
theorem or_group {acc x : Int} {k : Nat} (ha0 : 0 ≤ acc) (ha1 : acc < p7 k) (hk : k ≤ 9) (hx0 : 0 ≤ x) (hx1 : x ≤ 255) (h9 : k = 9 → x ≤ 1) :
    bits .or .u64 acc (IntKind.u64.wrap (IntKind.u64.wrap (bits .andNot .u8 x 128) * 2 ^ (7 * k))) = acc + p7 k * (x % 128) ∧ acc + p7 k * (x % 128) ≤ 18446744073709551615 := by
  have hp := p7_pos k
  have hq := p7_le hk
  have hm : 0 ≤ p7 k * (x % 128) ∧ p7 k * (x % 128) + p7 k ≤ 18446744073709551616 := by
    refine ⟨Int.mul_nonneg (by omega) (by omega), ?_⟩
    by_cases h : k = 9
    · have := h9 h
      have e : x % 128 = x := by omega
      rw [e]
      rcases (show x = 0 ∨ x = 1 by omega) with rfl | rfl <;> omega
    · have h8 := p7_le8 (k := k) (by omega)
      have := Int.mul_le_mul_of_nonneg_left (show x % 128 ≤ 127 by omega) (show 0 ≤ p7 k by omega)
      omega
  have hn : p7 k = ((2 ^ (7 * k) : Nat) : Int) := by rw [← p7_two]; simp
  rw [clear_top hx0 hx1, IntWalk.u64_in (x % 128) ⟨by omega, by omega⟩, p7_two, Int.mul_comm (x % 128), IntWalk.u64_in (p7 k * (x % 128)) ⟨by omega, by omega⟩]
  refine ⟨?_, by omega⟩
  have e1 : acc = (acc.toNat : Int) := by omega
  have e2 : p7 k * (x % 128) = ((2 ^ (7 * k) * (x % 128).toNat : Nat) : Int) := by
    rw [Int.natCast_mul, ← hn]
    congr 1
    omega
  have h3 : acc.toNat < 2 ^ (7 * k) := by omega
  have h4 : 2 ^ (7 * k) * (x % 128).toNat < 18446744073709551616 := by omega
  rw [e2, e1, u64_or_nat _ _ (by omega) h4, Nat.or_comm, nat_join (7 * k) _ _ (Nat.mul_mod_right _ _) h3]
  omega
theorem xor_unzig {y : Int} (h0 : 0 ≤ y) (h1 : y ≤ 18446744073709551615) : bits .xor .i64 (y / 2) (wrap64 (-wrap64 (bits .and .u64 y 1))) = unzig y := by
  rw [Lib.u64_and1 y h0 (by omega), IntWalk.wrap64_in (y % 2) ⟨by omega, by omega⟩, IntWalk.wrap64_in (-(y % 2)) ⟨by omega, by omega⟩]
  unfold unzig
  have e : y / 2 = ((y / 2).toNat : Int) := by omega
  rcases (show y % 2 = 0 ∨ y % 2 = 1 by omega) with h | h
  · rw [h, if_pos rfl, e]
    show IntKind.i64.wrap ((BitVec.ofInt 64 ((y / 2).toNat : Int) ^^^ BitVec.ofInt 64 0).toNat : Int) = _
    rw [show BitVec.ofInt 64 0 = 0#64 from by decide, BitVec.xor_zero, BitVec.ofInt_natCast, BitVec.toNat_ofNat, IntKind.wrap_i64]
    omega
  · rw [h, if_neg (by omega), e]
    have hc : bits .xor .i64 ((y / 2).toNat : Int) (-1) = bits .xor .i64 (-1) ((y / 2).toNat : Int) := by
      show IntKind.i64.wrap ((BitVec.ofInt 64 ((y / 2).toNat : Int) ^^^ BitVec.ofInt 64 (-1)).toNat : Int) = IntKind.i64.wrap ((BitVec.ofInt 64 (-1) ^^^ BitVec.ofInt 64 ((y / 2).toNat : Int)).toNat : Int)
      rw [BitVec.xor_comm]
    rw [hc, Lib.i64_not _ (by omega)]

theorem dec_nil (f k : Nat) : dec f k [] = none := by cases f <;> rfl
theorem dec_stop {k : Nat} {x : Int} {r : List Int} (hk : k ≤ 9) (hx : x < 128) (h0 : x = 0 → k = 0) (h9 : k = 9 → x ≤ 1) : dec (9 - k) k (x :: r) = some (x, 1) := by
  rcases (show k = 9 ∨ k < 9 by omega) with h | h
  · subst h
    have := h9 rfl
    simp only [Nat.sub_self, dec]
    rw [if_neg (by omega)]
  · obtain ⟨f, hf⟩ : ∃ f, 9 - k = f + 1 := ⟨8 - k, by omega⟩
    rw [hf]
    simp only [dec]
    rw [if_pos hx, if_neg (by omega)]
theorem dec_zero {k : Nat} {r : List Int} (hk : 0 < k) : dec (9 - k) k (0 :: r) = none := by
  rcases (show 9 - k = 0 ∨ 0 < 9 - k by omega) with h | h
  · rw [h]
    simp only [dec]
    rw [if_pos (Or.inl ⟨trivial, hk⟩)]
  · obtain ⟨f, hf⟩ : ∃ f, 9 - k = f + 1 := ⟨8 - k, by omega⟩
    rw [hf]
    simp only [dec]
    rw [if_pos (by decide), if_pos ⟨trivial, hk⟩]
theorem dec_over {k : Nat} {x : Int} {r : List Int} (hk : k = 9) (hx : 1 < x) : dec (9 - k) k (x :: r) = none := by
  subst hk
  simp only [Nat.sub_self, dec]
  rw [if_pos (by omega)]
theorem dec_more {k : Nat} {x : Int} {r : List Int} (hk : k < 9) (hx : 128 ≤ x) : dec (9 - k) k (x :: r) = (dec (9 - (k + 1)) (k + 1) r).map fun q => (x - 128 + 128 * q.1, q.2 + 1) := by
  obtain ⟨f, hf⟩ : ∃ f, 9 - k = f + 1 := ⟨8 - k, by omega⟩
  have hf2 : 9 - (k + 1) = f := by omega
  rw [hf, hf2]
  simp only [dec]
  rw [if_neg (by omega)]
theorem getR_none {b : List Int} {acc : Int} {k : Nat} {l : List Int} (hd : dec 9 0 b = (dec (9 - k) k l).map fun r => (acc + p7 k * r.1, k + r.2)) (h : dec (9 - k) k l = none) : getR b = (0, 0, 3) := by
  unfold getR get
  rw [hd, h]; rfl
theorem getR_some {b : List Int} {acc x : Int} {k : Nat} {l : List Int} (hd : dec 9 0 b = (dec (9 - k) k l).map fun r => (acc + p7 k * r.1, k + r.2)) (h : dec (9 - k) k l = some (x, 1)) : getR b = (unzig (acc + p7 k * x), (k : Int) + 1, 0) := by
  unfold getR get
  rw [hd, h]; rfl
theorem ret3 {r : Int × Int × Int} {a b c : Int} (h : r = (a, b, c)) : Ending.returned (.tuple #[.int .i64 a, .int .i64 b, .int .i64 c]) = Ret3 r := by
  rw [h]; rfl

theorem get_any {B : Nat} (A : Option Addr) (n c : Nat) (b : List Int) (w : World) (e1 : b.length = n) (m1 : n ≤ maxLen) (hb : Bytes b) (h1 : Sees w B A (b.map (.int .u8))) :
    Calls Try.prog 18 #[.slice A n c] w fun e w' => e = Ret3 (getR b) ∧ w = w' := by
  unfold maxLen at m1
  have E1 := Lib.hid e1
  have HB := Lib.hid hb
  clear e1 hb
  go_enter Try.func18, Try.ntmps18
  go_wp2
  go_loop [5, 10] (GetRel b) (fun _ i => n - (intOf i).toNat)
  case atStart => exact ⟨0, 0, by omega, by omega, rfl, rfl, by omega, by decide, by simp [p7]⟩
  case round =>
    obtain ⟨k, acc, hk, hk9, rfl, rfl, ha0, ha1, hd⟩ := hrel
    have HD := Lib.hid hd
    have HA := Lib.hid ha1
    clear hd ha1
    by_cases hlt : k < n
    · have hlt' : k < b.length := by rw [E1.out]; exact hlt
      obtain ⟨b1, o1, rfl, _, g1⟩ := h1.at_ (k := k) (by rw [List.length_map]; exact hlt')
      have f1 := g1 k _ (getElem?_ints hlt')
      have hx := byte_at HB.out hlt'
      have HR := Lib.hid (drop_at hlt')
      generalize b.getD k 0 = x at f1 hx HR
      obtain ⟨hx0, hx1⟩ := hx
      clear g1 h1
      by_cases hover : k = 9 ∧ 1 < x
      · obtain ⟨hk', hx'⟩ := hover
        have h9' : ((k : Int) == 9) = true := by simp; omega
        have HN := Lib.hid (getR_none (by rw [← HR.out]; exact HD.out) (dec_over (r := b.drop (k + 1)) hk' hx'))
        clear hk'
        go_wp2
        go_ret3
        exact ⟨ret3 HN.out, rfl⟩
      have h9x : k = 9 → x ≤ 1 := fun h => by
        rcases Int.lt_or_le 1 x with h' | h'
        · exact absurd ⟨h, h'⟩ hover
        · exact h'
      have hg : (((k : Int) == 9) && decide (1 < x)) = false := by
        rw [Bool.and_eq_false_iff]
        rcases Nat.lt_or_ge k 9 with h | h
        · left; simp; omega
        · right; simp; exact h9x (by omega)
      clear hover
      obtain ⟨HU, hu⟩ := or_group ha0 HA.out hk9 hx0 hx1 h9x
      have hy0 : 0 ≤ acc + p7 k * (x % 128) := by have := Int.mul_nonneg (show 0 ≤ p7 k by have := p7_pos k; omega) (show 0 ≤ x % 128 by omega); omega
      have HX9 := Lib.hid h9x
      clear h9x
      generalize hy : acc + p7 k * (x % 128) = y at HU hu hy0
      have HY := Lib.hid hy
      clear hy
      have HZ := Lib.hid (xor_unzig hy0 hu)
      by_cases hbig : 128 ≤ x
      · have hk8 : k < 9 := by
          rcases Nat.lt_or_ge k 9 with h | h
          · exact h
          · have := HX9.out (by omega); omega
        have h9' : ((k : Int) == 9) = false := by simp; omega
        have HM := Lib.hid (dec_more (r := b.drop (k + 1)) hk8 hbig)
        clear hg
        go_wp2
        go_round
        case rel =>
          refine ⟨k + 1, y, hlt', by omega, by go_num, rfl, hy0, ?_, ?_⟩
          · have := HY.out
            have h2 := HA.out
            rw [p7_succ]
            have h3 := Int.mul_le_mul_of_nonneg_left (show x % 128 ≤ 127 by omega) (show 0 ≤ p7 k by have := p7_pos k; omega)
            omega
          · rw [HD.out, HR.out, HM.out, Option.map_map]
            congr 1
            funext q
            simp only [Function.comp]
            congr 1
            · rw [← HY.out, p7_succ]
              have e : x % 128 = x - 128 := by omega
              rw [e, Int.mul_add, ← Int.mul_assoc, Int.mul_comm (p7 k) 128]
              omega
            · omega
        case measure => simp [intOf]; omega
      · by_cases h0 : x = 0 ∧ 0 < k
        · obtain ⟨rfl, hk0⟩ := h0
          have HN := Lib.hid (getR_none (by rw [← HR.out]; exact HD.out) (dec_zero (r := b.drop (k + 1)) hk0))
          have h9' : decide ((1 : Int) < 0) = false := by decide
          clear hg
          by_cases hk9' : k = 9
          · have h9' : ((k : Int) == 9) = true := by simp; omega
            clear hk9'
            go_wp2
            go_ret3
            exact ⟨ret3 HN.out, rfl⟩
          · have h9' : ((k : Int) == 9) = false := by simp; omega
            clear hk9'
            go_wp2
            go_ret3
            exact ⟨ret3 HN.out, rfl⟩
        · have HS := Lib.hid (getR_some (by rw [← HR.out]; exact HD.out) (dec_stop (r := b.drop (k + 1)) hk9 (by omega) (fun h => by
            rcases Nat.eq_zero_or_pos k with h' | h'
            · exact h'
            · exact absurd ⟨h, h'⟩ h0) HX9.out))
          have HY2 : Hid (acc + p7 k * x = y) := Lib.hid (by
            have := HY.out
            rwa [show x % 128 = x by omega] at this)
          have hfin : Hid (getR b = (unzig y, (k : Int) + 1, 0)) := Lib.hid (by rw [HS.out, HY2.out])
          by_cases hx00 : x = 0
          · have hk0 : k = 0 := by
              rcases Nat.eq_zero_or_pos k with h' | h'
              · exact h'
              · exact absurd ⟨hx00, h'⟩ h0
            have h00 : (x == 0) = true := by simpa using hx00
            have hkd : decide (0 < k) = false := by simp; omega
            have h9' : ((k : Int) == 9) = false := by simp; omega
            clear hx00 h0 hk0 hg
            go_wp2
            go_ret3
            exact ⟨ret3 (by rw [hfin.out, HZ.out]), rfl⟩
          · have h00 : (x == 0) = false := by simpa using hx00
            clear h0
            by_cases hk9' : k = 9
            · have h9' : ((k : Int) == 9) = true := by simp; omega
              have h1x : x ≤ 1 := HX9.out hk9'
              clear hk9' hg hx00
              go_wp2
              go_ret3
              exact ⟨ret3 (by rw [hfin.out, HZ.out]), rfl⟩
            · have h9' : ((k : Int) == 9) = false := by simp; omega
              clear hk9' hg hx00
              go_wp2
              go_ret3
              exact ⟨ret3 (by rw [hfin.out, HZ.out]), rfl⟩
    · obtain rfl : k = n := by have := E1.out; omega
      have HN := Lib.hid (getR_none HD.out (by rw [List.drop_eq_nil_of_le (by rw [E1.out]; exact Nat.le_refl _), dec_nil]))
      go_wp2
      go_ret3
      exact ⟨ret3 HN.out, rfl⟩
end Go.Proofs.Ytcjlbmggkjnbhaa
