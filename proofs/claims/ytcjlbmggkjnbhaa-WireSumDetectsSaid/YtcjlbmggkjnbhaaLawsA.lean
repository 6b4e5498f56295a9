import Derived.Test.YtcjlbmggkjnbhaaSanity
import Derived.OpenShut
namespace Go.Proofs.Ytcjlbmggkjnbhaa
open Go.RowKit
set_option linter.unusedVariables false

/-- A slice of integers that came in, as the rows' shells say it. -/
def Row (k : IntKind) (w : World) (a : Option Addr) (len cap : Nat) (zs : List Int) : Prop :=
  (a = none ∧ len = 0 ∧ cap = 0 ∧ zs = []) ∨
  ∃ x, a = some x ∧ len ≤ cap ∧ cap ≤ maxLen ∧ zs.length = cap ∧ (∀ i, i < zs.length → w.cell? (x.add i) = some (.int k (zs.getD i 0))) ∧ ∀ n ∈ zs, (Lit.int k n).wf = true
theorem Row.len {k : IntKind} {w : World} {a : Option Addr} {len cap : Nat} {zs : List Int} (h : Row k w a len cap zs) : (zs.take len).length = len ∧ len ≤ cap ∧ len ≤ maxLen ∧ ∀ n ∈ zs.take len, (Lit.int k n).wf = true := by
  rcases h with ⟨rfl, rfl, rfl, rfl⟩ | ⟨x, rfl, hl, hm, hz, hc, hw⟩
  · exact ⟨rfl, Nat.le_refl _, Nat.zero_le _, fun n hn => by simp at hn⟩
  · exact ⟨by rw [List.length_take]; omega, hl, by omega, fun n hn => hw n (List.mem_of_mem_take hn)⟩
theorem Row.sees {k : IntKind} {w : World} {a : Option Addr} {len cap : Nat} {zs : List Int} (h : Row k w a len cap zs) : Sees w w.heap.size a ((zs.take len).map (Value.int k)) := by
  rcases h with ⟨rfl, rfl, rfl, rfl⟩ | ⟨x, rfl, hl, hm, hz, hc, hw⟩
  · exact .inl rfl
  · rcases Nat.eq_zero_or_pos zs.length with h0 | h0
    · left
      have : zs = [] := List.eq_nil_of_length_eq_zero h0
      subst this
      simp
    · obtain ⟨b, off, spot⟩ := x
      have h1 := hc 0 h0
      have hspot : spot = none := by simpa [Addr.add] using World.cell?_spot h1
      subst hspot
      refine .inr ⟨b, off, rfl, World.block_lt_of_cell? w _ h1, fun j u hu => ?_⟩
      have hj : j < zs.length := by
        have := (List.getElem?_eq_some_iff.1 hu).1
        rw [List.length_map, List.length_take] at this
        omega
      have h2 := hc j hj
      rw [Addr.add_lit] at h2
      rw [h2]
      rw [List.getElem?_map, List.getElem?_take] at hu
      split at hu
      · rw [List.getElem?_eq_getElem hj] at hu
        rw [← hu]
        simp [List.getD_eq_getElem?_getD, List.getElem?_eq_getElem hj]
      · cases hu
theorem Row.bytes {w : World} {a : Option Addr} {len cap : Nat} {zs : List Int} (h : Row .u8 w a len cap zs) : Bytes (zs.take len) := fun n hn => bounds_u8 (h.len.2.2.2 n hn)
theorem Row.ints {w : World} {a : Option Addr} {len cap : Nat} {zs : List Int} (h : Row .i64 w a len cap zs) : AllIn (zs.take len) := fun n hn => by
  have := bounds_i64 (h.len.2.2.2 n hn)
  unfold In64; omega
theorem in_wf {n : Int} (h : (Lit.int .i64 n).wf = true) : In64 n := by
  have := bounds_i64 h
  unfold In64; omega

/-- A statement whose input is too large says no more than the examples. -/
theorem put_walk (n : Int) (w0 : (Lit.int .i64 n).wf = true) (w : World) : Calls Try.prog 3 #[.int .i64 n] w (Sane w) := by
  have H := Lib.hid (in_wf w0)
  have HP : Hid ((putL n).length ≤ maxLen) := Lib.hid (by have := put_le n; unfold maxLen; omega)
  clear w0
  go_enter Try.func3, Try.ntmps3
  go_wp2_with fail
  refine (sanity_any _).mono ?_
  rintro e w1 ⟨rfl, hb1⟩
  go_wp2_with fail
  refine (put_any n H.out _).mono ?_
  rintro e w2 ⟨v2, rfl, ho2, hb2⟩
  obtain ⟨A2, c2, rfl, _, hs2⟩ := own_form ho2
  have hb02 := hb1.trans (hb2.mono hb1.size)
  clear ho2 hb1 hb2
  go_wp2_with fail
  refine (rput_any n H.out _).mono ?_
  rintro e w3 ⟨v3, rfl, ho3, hb3⟩
  obtain ⟨A3, c3, rfl, _, hs3⟩ := own_form ho3
  have hs23 := (hs2.below hb3)
  have hb03 := hb02.trans (hb3.mono hb02.size)
  clear ho3 hb3 hb02 hs2
  go_wp2_with fail
  refine (same_any A2 A3 _ _ c2 c3 (putL n) (putL n) _ rfl rfl HP.out HP.out hs23 hs3).mono ?_
  rw [decide_eq_true rfl]
  rintro e w4 ⟨rfl, d, rfl⟩
  go_wp2
  go_ret
  exact ⟨rfl, below_drewN hb03 _⟩

theorem inj_len {m n : Int} (h : (0 ≤ m ∧ m ≤ n) ∨ (m < 0 ∧ n ≤ m)) : (putL m).length ≤ (putL n).length := by
  have hz : zig m ≤ zig n ∧ 0 ≤ zig m := by
    unfold zig
    rcases h with h | h
    · rw [if_pos h.1, if_pos (by omega)]; omega
    · rw [if_neg (by omega), if_neg (by omega)]; omega
  unfold putL
  have : ∀ f x y, 0 ≤ x → x ≤ y → (enc f x).length ≤ (enc f y).length := by
    intro f
    induction f with
    | zero => intro x y _ _; simp [enc]
    | succ f ih =>
      intro x y h0 h1
      rw [enc, enc]
      split
      · split
        · simp
        · simp
      · rw [if_neg (by omega)]
        simp only [List.length_cons]
        have := ih (x / 128) (y / 128) (by omega) (by omega)
        omega
  exact this 9 _ _ hz.2 hz.1
theorem inj_same {m n : Int} (hm : In64 m) (hn : In64 n) : (putL m = putL n) ↔ m = n := by
  constructor
  · intro h
    exact put_unique (r := []) (s := []) hm hn (by rw [h])
  · rintro rfl; rfl
end Go.Proofs.Ytcjlbmggkjnbhaa
