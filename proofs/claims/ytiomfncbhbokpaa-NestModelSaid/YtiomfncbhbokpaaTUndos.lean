/- Two equal rows of compensations compare as equal. -/
import Derived.Test.YtiomfncbhbokpaaTValue
namespace Go.Proofs.Ytiomfncbhbokpaa
open Go.RowKit
set_option linter.unusedVariables false

theorem Sees.at5 {w : World} {B : Nat} {A : Option Addr} {xs : List Und} {k : Nat} {x : Und} (h : Sees w B A (xs.flatMap undC)) (hk : xs[k]? = some x) :
    ∃ b off, A = some ⟨b, off, none⟩ ∧ b < B ∧ w.cell? ⟨b, off + k * 5, none⟩ = some (.int .i64 x.kind) ∧ w.cell? ⟨b, off + k * 5 + 1, none⟩ = some (.int .i64 x.n) ∧ w.cell? ⟨b, off + k * 5 + 2, none⟩ = some (.int .i64 x.m) ∧
      w.cell? ⟨b, off + k * 5 + 3, none⟩ = some (.slice x.A x.len x.cap) ∧ w.cell? ⟨b, off + k * 5 + 4, none⟩ = some (.int .i64 x.lock) := by
  have h0 := flat_get (f := undC) und_len xs k 0 x hk (by omega)
  have h1 := flat_get (f := undC) und_len xs k 1 x hk (by omega)
  have h2 := flat_get (f := undC) und_len xs k 2 x hk (by omega)
  have h3 := flat_get (f := undC) und_len xs k 3 x hk (by omega)
  have h4 := flat_get (f := undC) und_len xs k 4 x hk (by omega)
  rcases h with h | ⟨b, off, hA, hb, -, hc⟩
  · rw [h] at h0
    simp [undC] at h0
  · exact ⟨b, off, hA, hb, hc _ _ ((show _ = _ from h0).trans rfl),
      by have := hc _ _ (show _ = some (Value.int .i64 x.n) by rw [h1]; rfl); rw [← Nat.add_assoc] at this; exact this,
      by have := hc _ _ (show _ = some (Value.int .i64 x.m) by rw [h2]; rfl); rw [← Nat.add_assoc] at this; exact this,
      by have := hc _ _ (show _ = some (Value.slice x.A x.len x.cap) by rw [h3]; rfl); rw [← Nat.add_assoc] at this; exact this,
      by have := hc _ _ (show _ = some (Value.int .i64 x.lock) by rw [h4]; rfl); rw [← Nat.add_assoc] at this; exact this⟩
/-- Every value is a tree. -/
def Trees (w : World) (us : List Und) : Prop := ∀ u ∈ us, ∃ d, u.len ≤ maxLen ∧ VT w w.heap.size d u.A u.len
theorem Trees.below {w w' : World} {us : List Und} (h : Trees w us) (hb : Below w.heap.size w w') : Trees w' us := fun u hu => by
  obtain ⟨d, h1, h2⟩ := h u hu
  exact ⟨d, h1, (h2.below hb).more hb.size⟩

set_option maxRecDepth 100000 in
set_option maxHeartbeats 1000000 in
theorem undosSame_any (A : Option Addr) (n c : Nat) (A' : Option Addr) (c' : Nat) (us : List Und) (w : World) (e1 : us.length = n) (m1 : n ≤ maxLen) (hs : Sees w w.heap.size A (us.flatMap undC)) (hs' : Sees w w.heap.size A' (us.flatMap undC)) (ht : Trees w us) :
    Calls Try.prog 25 #[.slice A n c, .slice A' n c'] w (TrueBelow w) := by
  unfold maxLen at m1
  have E1 := Lib.hid e1
  have HS := Lib.hid hs
  have HS' := Lib.hid hs'
  have HT := Lib.hid ht
  clear e1 hs hs' ht
  go_enter Try.func25, Try.ntmps25
  go_wp2
  go_loopw [5] (fun i wr => ∃ k : Nat, k ≤ n ∧ i = .int .i64 k ∧ Hid (Below w.heap.size w wr)) (fun i _ => n - (intOf i).toNat)
  case atStart => exact ⟨0, by omega, rfl, Lib.hid (Below.refl _ _)⟩
  case round =>
    obtain ⟨k, hk, rfl, HB⟩ := hrel
    by_cases hlt : k < n
    · have hx : us[k]? = some (us[k]'(by rw [E1.out]; exact hlt)) := List.getElem?_eq_getElem _
      generalize us[k]'(by rw [E1.out]; exact hlt) = x at hx
      obtain ⟨b, off, rfl, hb, c0, c1, c2, c3, c4⟩ := (HS.out.below HB.out).at5 hx
      obtain ⟨b', off', rfl, hb', d0, d1, d2, d3, d4⟩ := (HS'.out.below HB.out).at5 hx
      obtain ⟨dep, hmx, hvt⟩ := HT.out x (List.mem_of_getElem? hx)
      have HCV := Lib.hid (value_any dep x.kind x.n x.m x.A x.len x.cap wr.drew (((hvt.below HB.out).more HB.out.size).below (Below.refl _ _).drew) hmx)
      have HC4 := Lib.hid c4
      have HD4 := Lib.hid d4
      have HLB := Lib.hid hb
      have HLB' := Lib.hid hb'
      clear hx hb hb' hmx hvt c4 d4
      go_wp2
      go_region_with (
        go_at_call 52
        refine HCV.out.mono ?_
        rintro e w2 ⟨rfl, b2⟩
        have b3 := below_of_drew b2
        have B2 := Lib.hid (HB.out.trans (b3.mono HB.out.size))
        have f4 := (b3.cell (p := ⟨b, _, none⟩) (Nat.lt_of_lt_of_le HLB.out HB.out.size)).trans HC4.out
        have g4 := (b3.cell (p := ⟨b', _, none⟩) (Nat.lt_of_lt_of_le HLB'.out HB.out.size)).trans HD4.out
        clear b2 b3)
      all_goals
        go_wp2
        go_quiet (fail)
        go_wp2
        go_roundw
        case rel => exact ⟨k + 1, by omega, by go_num, Lib.hid (below_drewN B2.out _)⟩
        case measure => simp [intOf]; omega
    · have hkn : k = n := by omega
      subst hkn
      go_wp2
      go_ret
      exact ⟨rfl, HB.out⟩
end Go.Proofs.Ytiomfncbhbokpaa
