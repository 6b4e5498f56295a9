import Derived.Test.YtiomfncbhbokpaaTEnd
namespace Go.Proofs.Ytiomfncbhbokpaa
open Go.RowKit
set_option linter.unusedVariables false

theorem flat_set5 (ws : List Und) (k : Nat) (x : Und) : (((((ws.flatMap undC).set (k * 5) (.int .i64 x.kind)).set (k * 5 + 1) (.int .i64 x.n)).set (k * 5 + 2) (.int .i64 x.m)).set (k * 5 + 3) (.slice x.A x.len x.cap)).set (k * 5 + 4) (.int .i64 x.lock) = (ws.set k x).flatMap undC := by
  induction ws generalizing k with
  | nil => simp
  | cons y r ih =>
    cases k with
    | zero => simp [undC]
    | succ k =>
      rw [List.set_cons_succ, List.flatMap_cons, List.flatMap_cons, ← ih, show (k + 1) * 5 = k * 5 + 5 by omega]
      simp [undC]
/-- The first k and the last k have changed places. -/
def RevAt (us ys : List Und) (k : Nat) : Prop := ys.length = us.length ∧ ∀ p, p < us.length → ys[p]? = if p < k ∨ us.length < p + 1 + k then us[us.length - 1 - p]? else us[p]?
theorem RevAt.zero (us : List Und) : RevAt us us 0 := ⟨rfl, fun p hp => by rw [if_neg (by omega)]⟩
theorem RevAt.next {us ys : List Und} {k q : Nat} {x y : Und} (h : RevAt us ys k) (hq : k + q + 1 = us.length) (hlt : k < q) (hx : ys[k]? = some x) (hy : ys[q]? = some y) : RevAt us ((ys.set k y).set q x) (k + 1) := by
  obtain ⟨h1, h2⟩ := h
  refine ⟨by simp [h1], fun p hp => ?_⟩
  have hk := h2 k (by omega)
  have hqq := h2 q (by omega)
  rw [hx, if_neg (by omega)] at hk
  rw [hy, if_neg (by omega)] at hqq
  rw [List.getElem?_set, List.getElem?_set]
  by_cases e1 : q = p
  · subst e1
    rw [if_pos rfl, if_pos (by simp [h1]; omega), if_pos (by omega), hk]
    congr 1; omega
  · rw [if_neg e1]
    by_cases e2 : k = p
    · subst e2
      rw [if_pos rfl, if_pos (by omega), if_pos (by omega), hqq]
      congr 1; omega
    · rw [if_neg e2, h2 p hp]
      by_cases e3 : p < k ∨ us.length < p + 1 + k
      · rw [if_pos e3, if_pos (by omega)]
      · rw [if_neg e3, if_neg (by omega)]
theorem RevAt.done {us ys : List Und} {k : Nat} (h : RevAt us ys k) (hk : us.length ≤ 2 * k + 1) : ys = us.reverse := by
  obtain ⟨h1, h2⟩ := h
  apply List.ext_getElem?
  intro p
  by_cases hp : p < us.length
  · rw [h2 p hp, List.getElem?_reverse hp]
    split
    · rfl
    · rename_i hn
      congr 1; omega
  · rw [List.getElem?_eq_none (by omega), List.getElem?_eq_none (by simp; omega)]
def set5 (w : World) (g k : Nat) (y : Und) : World :=
  ((((w.setCell ⟨g, k * 5, none⟩ (.int .i64 y.kind)).setCell ⟨g, k * 5 + 1, none⟩ (.int .i64 y.n)).setCell ⟨g, k * 5 + 2, none⟩ (.int .i64 y.m)).setCell ⟨g, k * 5 + 3, none⟩ (.slice y.A y.len y.cap)).setCell ⟨g, k * 5 + 4, none⟩ (.int .i64 y.lock)
theorem own_set5 {w : World} {base g n c : Nat} {ys : List Und} (h : w.ownsRow base 50 5 (.slice (some ⟨g, 0, none⟩) n c) n (ys.flatMap undC)) (k : Nat) (y : Und) : (set5 w g k y).ownsRow base 50 5 (.slice (some ⟨g, 0, none⟩) n c) n ((ys.set k y).flatMap undC) := by
  rw [← flat_set5]
  exact (((((h.stored (k * 5) (.int .i64 y.kind)).1.stored (k * 5 + 1) (.int .i64 y.n)).1.stored (k * 5 + 2) (.int .i64 y.m)).1.stored (k * 5 + 3) (.slice y.A y.len y.cap)).1.stored (k * 5 + 4) (.int .i64 y.lock)).1
theorem below_set5 {B g : Nat} {a w : World} (h : Below B a w) (hg : B ≤ g) (k : Nat) (y : Und) : Below B a (set5 w g k y) := ((((h.setCell hg _).setCell hg _).setCell hg _).setCell hg _).setCell hg _
def RevRel (base : Nat) (A : Option Addr) (n c : Nat) (us : List Und) (w : World) (i j : Value) (wr : World) : Prop :=
  ∃ (k : Nat) (z : Int) (ys : List Und), 2 * k ≤ n ∧ i = .int .i64 k ∧ j = .int .i64 z ∧ z = (n : Int) - 1 - k ∧ wr.ownsRow base 50 5 (.slice A n c) n (ys.flatMap undC) ∧ RevAt us ys k ∧ Below base w wr

set_option maxRecDepth 100000 in
set_option maxHeartbeats 600000 in
theorem reverse_any (base : Nat) (A : Option Addr) (n c : Nat) (us : List Und) (w : World) (e1 : us.length = n) (m : n ≤ 100000) (hbs : base ≤ w.heap.size) (ho : w.ownsRow base 50 5 (.slice A n c) n (us.flatMap undC)) :
    Calls Try.prog 44 #[.slice A n c] w fun e w' => e = .returned (.tuple #[]) ∧ w'.ownsRow base 50 5 (.slice A n c) n (us.reverse.flatMap undC) ∧ Below base w w' := by
  have E1 := Lib.hid e1
  have HO := Lib.hid ho
  have HBS := Lib.hid hbs
  clear e1 ho hbs
  go_enter Try.func44, Try.ntmps44
  go_wp2
  go_loopw [2, 3] (fun i j wr => RevRel base A n c us w i j wr) (fun i _ _ => n - (intOf i).toNat)
  case atStart => exact ⟨0, _, us, by omega, by go_num, rfl, by omega, HO.out, .zero us, Below.refl _ _⟩
  case round =>
    obtain ⟨k, z, ys, hk, rfl, rfl, hz, hown, hrev, hb⟩ := hrel
    have HW := Lib.hid hown
    have HR := Lib.hid hrev
    have HB := Lib.hid hb
    by_cases hlt : (k : Int) < z
    · obtain ⟨q, rfl⟩ : ∃ q : Nat, z = q := ⟨z.toNat, by omega⟩
      have hkq : k < q := by omega
      have hq : k + q + 1 = n := by omega
      have hyl : ys.length = n := by rw [hrev.1, E1.out]
      have hx : ys[k]? = some ys[k] := List.getElem?_eq_getElem (by omega)
      have hy : ys[q]? = some ys[q] := List.getElem?_eq_getElem (by omega)
      generalize ys[k] = x at hx
      generalize ys[q] = y at hy
      obtain ⟨g, rfl⟩ : ∃ g, A = some ⟨g, 0, none⟩ := by
        rcases hown.2 with ⟨h8, h9⟩ | ⟨b9, cap, cur, h8, _⟩
        · omega
        · exact ⟨b9, by injection h8⟩
      have hfl : (ys.flatMap undC).length = n * 5 := by rw [flat_length und_len, hyl]
      have a0 : wr.cell? ⟨g, k * 5, none⟩ = some (.int .i64 x.kind) := (hown.cellAt (k * 5) (by omega)).trans ((flat_get und_len ys k 0 x hx (by omega)).trans rfl)
      have a1 : wr.cell? ⟨g, k * 5 + 1, none⟩ = some (.int .i64 x.n) := (hown.cellAt (k * 5 + 1) (by omega)).trans ((flat_get und_len ys k 1 x hx (by omega)).trans rfl)
      have a2 : wr.cell? ⟨g, k * 5 + 2, none⟩ = some (.int .i64 x.m) := (hown.cellAt (k * 5 + 2) (by omega)).trans ((flat_get und_len ys k 2 x hx (by omega)).trans rfl)
      have a3 : wr.cell? ⟨g, k * 5 + 3, none⟩ = some (.slice x.A x.len x.cap) := (hown.cellAt (k * 5 + 3) (by omega)).trans ((flat_get und_len ys k 3 x hx (by omega)).trans rfl)
      have a4 : wr.cell? ⟨g, k * 5 + 4, none⟩ = some (.int .i64 x.lock) := (hown.cellAt (k * 5 + 4) (by omega)).trans ((flat_get und_len ys k 4 x hx (by omega)).trans rfl)
      have b0 : wr.cell? ⟨g, q * 5, none⟩ = some (.int .i64 y.kind) := (hown.cellAt (q * 5) (by omega)).trans ((flat_get und_len ys q 0 y hy (by omega)).trans rfl)
      have b1 : wr.cell? ⟨g, q * 5 + 1, none⟩ = some (.int .i64 y.n) := (hown.cellAt (q * 5 + 1) (by omega)).trans ((flat_get und_len ys q 1 y hy (by omega)).trans rfl)
      have b2 : wr.cell? ⟨g, q * 5 + 2, none⟩ = some (.int .i64 y.m) := (hown.cellAt (q * 5 + 2) (by omega)).trans ((flat_get und_len ys q 2 y hy (by omega)).trans rfl)
      have b3 : wr.cell? ⟨g, q * 5 + 3, none⟩ = some (.slice y.A y.len y.cap) := (hown.cellAt (q * 5 + 3) (by omega)).trans ((flat_get und_len ys q 3 y hy (by omega)).trans rfl)
      have b4 : wr.cell? ⟨g, q * 5 + 4, none⟩ = some (.int .i64 y.lock) := (hown.cellAt (q * 5 + 4) (by omega)).trans ((flat_get und_len ys q 4 y hy (by omega)).trans rfl)
      have hf : ∀ j, wr.frozen? ⟨g, j, none⟩ = false := hown.frozenAt
      have HN : Hid (RevAt us ((ys.set k y).set q x) (k + 1)) := Lib.hid (hrev.next (by rw [E1.out]; exact hq) hkq hx hy)
      have hg := Lib.hid ((hown.lt g rfl).1)
      have hqn : q < n := by omega
      have hkn : k < n := by omega
      have h9 := (own_set5 (own_set5 hown k y) q x).drew
      have h8 := (below_set5 (below_set5 hb hg.out k y) hg.out q x).drew
      unfold set5 at h9 h8
      have HST := Lib.hid h9
      have HBT := Lib.hid h8
      clear h8 h9
      have hq1 : (q : Int) - 1 = (n : Int) - 1 - ((k + 1 : Nat) : Int) := by omega
      have HQ1 := Lib.hid hq1
      clear hown hrev hb hx hy hfl hyl hz hq1
      go_wp2
      go_region_law (fail)
      all_goals
        go_wp2
        go_roundw
        case rel => exact ⟨k + 1, _, _, by omega, by go_num, rfl, HQ1.out, HST.out, HN.out, HBT.out⟩
        case measure => simp [intOf]; omega
    · have HD : Hid (ys = us.reverse) := Lib.hid (hrev.done (by rw [E1.out]; omega))
      clear hown hrev hb hz
      go_wp2
      go_end0
      exact ⟨rfl, by rw [← HD.out]; exact HW.out, HB.out⟩
end Go.Proofs.Ytiomfncbhbokpaa
