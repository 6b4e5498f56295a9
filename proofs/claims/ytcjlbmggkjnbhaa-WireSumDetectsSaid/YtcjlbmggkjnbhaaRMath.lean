/- The reference's way to decode: the groups are counted first, then read from the last to the first, and the number is encoded again. Plain laws. -/
import Derived.Test.YtcjlbmggkjnbhaaMath
namespace Go.Proofs.Ytcjlbmggkjnbhaa

/-- The groups of a list of bytes as a number, modulo 2 ^ 64. -/
def val : List Int → Int
  | [] => 0
  | x :: l => (128 * val l + x % 128) % 18446744073709551616
theorem val_rng (l : List Int) : 0 ≤ val l ∧ val l ≤ 18446744073709551615 := by
  cases l with
  | nil => exact ⟨by decide, by decide⟩
  | cons x l => simp only [val]; omega
theorem val_enc (f : Nat) : ∀ u, 0 ≤ u → u < top f → u ≤ 18446744073709551615 → val (enc f u) = u := by
  induction f with
  | zero => intro u h0 h1 h2; simp only [top] at h1; simp only [enc, val]; omega
  | succ f ih =>
    intro u h0 h1 h2
    simp only [top] at h1
    unfold enc
    split
    · simp only [val]; omega
    · simp only [val]
      rw [ih (u / 128) (by omega) (by omega) (by omega)]
      omega
/-- An encoding: all bytes but the last have the top bit. -/
theorem enc_shape (f : Nat) : ∀ u, 0 ≤ u → u < top f → ∀ i, i < (enc f u).length → (128 ≤ (enc f u).getD i 0 ↔ i + 1 < (enc f u).length) := by
  induction f with
  | zero =>
    intro u h0 h1 i hi
    simp only [top] at h1
    simp only [enc, List.length_cons, List.length_nil] at hi ⊢
    obtain rfl : i = 0 := by omega
    simp; omega
  | succ f ih =>
    intro u h0 h1 i hi
    simp only [top] at h1
    unfold enc at hi ⊢
    split at hi
    · rename_i h
      rw [if_pos h]
      simp only [List.length_cons, List.length_nil] at hi ⊢
      obtain rfl : i = 0 := by omega
      simp; omega
    · rename_i h
      rw [if_neg h]
      cases i with
      | zero =>
        have := enc_length_pos f (u / 128)
        simp only [List.length_cons, List.getD_cons_zero]
        omega
      | succ i =>
        simp only [List.length_cons, List.getD_cons_succ] at hi ⊢
        have := ih (u / 128) (by omega) (by omega) i (by omega)
        omega
theorem put_shape {n : Int} (h : In64 n) (i : Nat) (hi : i < (putL n).length) : 128 ≤ (putL n).getD i 0 ↔ i + 1 < (putL n).length := by
  have := zig_rng h
  exact enc_shape 9 (zig n) (by omega) (by rw [top_9]; omega) i hi
theorem getD_app_left {a b : List Int} {i : Nat} (h : i < a.length) : (a ++ b).getD i 0 = a.getD i 0 := by
  rw [List.getD_eq_getElem?_getD, List.getD_eq_getElem?_getD, List.getElem?_append_left h]
/-- Where a number can be decoded, the first byte without the top bit is its last. -/
theorem get_first {b : List Int} (hb : Bytes b) {n : Int} {m : Nat} (h : get b = some (n, m)) : (∀ i, i + 1 < m → 128 ≤ b.getD i 0) ∧ b.getD (m - 1) 0 < 128 := by
  obtain ⟨a1, a2, a3⟩ := get_some hb h
  have hp := put_pos n
  constructor
  · intro i hi
    rw [a3, getD_app_left (by omega)]
    exact (put_shape a1 i (by omega)).2 (by omega)
  · rw [a3, getD_app_left (by omega)]
    rcases Int.lt_or_le ((putL n).getD (m - 1) 0) 128 with h' | h'
    · exact h'
    · have := (put_shape a1 (m - 1) (by omega)).1 h'
      omega
theorem get_no {b : List Int} (hb : Bytes b) {k : Nat} (hk : k = b.length ∨ k = 10) (ha : ∀ i, i < k → 128 ≤ b.getD i 0) : get b = none := by
  cases h : get b with
  | none => rfl
  | some r =>
    obtain ⟨n, m⟩ := r
    have hl := get_len hb h
    have h2 := (get_first hb h).2
    have := ha (m - 1) (by omega)
    omega
theorem get_ref {b : List Int} (hb : Bytes b) {k : Nat} (hk : k < b.length) (ha : ∀ i, i < k → 128 ≤ b.getD i 0) (hl : b.getD k 0 < 128) :
    get b = if putL (unzig (val (b.take (k + 1)))) = b.take (k + 1) then some (unzig (val (b.take (k + 1))), k + 1) else none := by
  have hv := val_rng (b.take (k + 1))
  have hlen : (b.take (k + 1)).length = k + 1 := by rw [List.length_take]; omega
  split
  · rename_i h
    have h2 := get_put (unzig_in hv) (b.drop (k + 1))
    rw [h, List.take_append_drop, hlen] at h2
    exact h2
  · rename_i hne
    cases h : get b with
    | none => rfl
    | some r =>
      exfalso
      obtain ⟨n, m⟩ := r
      obtain ⟨a1, a2, a3⟩ := get_some hb h
      have hll := get_len hb h
      obtain ⟨f1, f2⟩ := get_first hb h
      have hm : m = k + 1 := by
        rcases Nat.lt_trichotomy (m - 1) k with h' | h' | h'
        · have := ha (m - 1) h'; omega
        · omega
        · have := f1 k (by omega); omega
      subst hm
      have ht : b.take (k + 1) = putL n := by
        rw [a3]
        rw [List.take_append_of_le_length (by omega), a2, List.take_length]
      have hz := zig_rng a1
      apply hne
      rw [ht]
      unfold putL
      rw [val_enc 9 (zig n) (by omega) (by rw [top_9]; omega) (by omega), unzig_zig]
end Go.Proofs.Ytcjlbmggkjnbhaa
