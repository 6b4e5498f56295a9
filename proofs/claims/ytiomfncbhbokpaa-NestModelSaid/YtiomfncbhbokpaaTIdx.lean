import Derived.Test.YtiomfncbhbokpaaTClone
namespace Go.Proofs.Ytiomfncbhbokpaa
open Go.RowKit
set_option linter.unusedVariables false

theorem ret_int {k : IntKind} {a b : Int} (h : a = b) : Ending.returned (.int k a) = .returned (.int k b) := by rw [h]
theorem ret_bool {a b : Bool} (h : a = b) : Ending.returned (.bool a) = .returned (.bool b) := by rw [h]
theorem seenSame_any (s : Seen) (g : Nat) (l : Int) (w : World) (hg : g < w.heap.size) (h : w.cell? ⟨g, 0, none⟩ = some (.int .i64 l)) :
    Calls Try.prog 55 #[.agg #[.int .i64 s.loc, .int .i64 s.ver, .int .i64 s.val], .pointer (some ⟨g, 0, none⟩)] w fun e w' => e = .returned (.bool (s.loc == l)) ∧ Below w.heap.size w w' := by
  go_enter Try.func55, Try.ntmps55
  go_wp2
  go_ret
  exact ⟨rfl, (Below.refl _ _).alloc (Nat.le_refl _) _⟩
theorem wrSame_any (s : Wr) (g : Nat) (l : Int) (w : World) (hg : g < w.heap.size) (h : w.cell? ⟨g, 0, none⟩ = some (.int .i64 l)) :
    Calls Try.prog 58 #[.agg #[.int .i64 s.loc, .int .i64 s.val], .pointer (some ⟨g, 0, none⟩)] w fun e w' => e = .returned (.bool (s.loc == l)) ∧ Below w.heap.size w w' := by
  go_enter Try.func58, Try.ntmps58
  go_wp2
  go_ret
  exact ⟨rfl, (Below.refl _ _).alloc (Nat.le_refl _) _⟩
theorem wrMore_any (s : Wr) (g : Nat) (l : Int) (w : World) (hg : g < w.heap.size) (h : w.cell? ⟨g, 0, none⟩ = some (.int .i64 l)) :
    Calls Try.prog 59 #[.agg #[.int .i64 s.loc, .int .i64 s.val], .pointer (some ⟨g, 0, none⟩)] w fun e w' => e = .returned (.bool (decide (l < s.loc))) ∧ Below w.heap.size w w' := by
  go_enter Try.func59, Try.ntmps59
  go_wp2
  go_ret
  exact ⟨ret_bool (by first | rfl | simp), (Below.refl _ _).alloc (Nat.le_refl _) _⟩

/-- A row of structs, seen: the cells of one of its elements. -/
theorem Sees.at3 {w : World} {B : Nat} {A : Option Addr} {xs : List Seen} {k : Nat} {x : Seen} (h : Sees w B A (xs.flatMap seenC)) (hk : xs[k]? = some x) :
    ∃ b off, A = some ⟨b, off, none⟩ ∧ b < B ∧ w.cell? ⟨b, off + k * 3, none⟩ = some (.int .i64 x.loc) ∧ w.cell? ⟨b, off + k * 3 + 1, none⟩ = some (.int .i64 x.ver) ∧ w.cell? ⟨b, off + k * 3 + 2, none⟩ = some (.int .i64 x.val) := by
  have h0 := flat_get (f := seenC) seen_len xs k 0 x hk (by omega)
  have h1 := flat_get (f := seenC) seen_len xs k 1 x hk (by omega)
  have h2 := flat_get (f := seenC) seen_len xs k 2 x hk (by omega)
  rcases h with h | ⟨b, off, hA, hb, -, hc⟩
  · rw [h] at h0
    simp [seenC] at h0
  · exact ⟨b, off, hA, hb, hc _ _ ((show _ = _ from h0).trans rfl), by have := hc _ _ (show _ = some (Value.int .i64 x.ver) by rw [h1]; rfl); rw [← Nat.add_assoc] at this; exact this, by have := hc _ _ (show _ = some (Value.int .i64 x.val) by rw [h2]; rfl); rw [← Nat.add_assoc] at this; exact this⟩
theorem Sees.at2 {w : World} {B : Nat} {A : Option Addr} {xs : List Wr} {k : Nat} {x : Wr} (h : Sees w B A (xs.flatMap wrC)) (hk : xs[k]? = some x) :
    ∃ b off, A = some ⟨b, off, none⟩ ∧ b < B ∧ w.cell? ⟨b, off + k * 2, none⟩ = some (.int .i64 x.loc) ∧ w.cell? ⟨b, off + k * 2 + 1, none⟩ = some (.int .i64 x.val) := by
  have h0 := flat_get (f := wrC) wr_len xs k 0 x hk (by omega)
  have h1 := flat_get (f := wrC) wr_len xs k 1 x hk (by omega)
  rcases h with h | ⟨b, off, hA, hb, -, hc⟩
  · rw [h] at h0
    simp [wrC] at h0
  · exact ⟨b, off, hA, hb, hc _ _ ((show _ = _ from h0).trans rfl), by have := hc _ _ (show _ = some (Value.int .i64 x.val) by rw [h1]; rfl); rw [← Nat.add_assoc] at this; exact this⟩

/-- The place of the first element that p holds of; -1 where there is none. -/
def idxOf {α : Type} (p : α → Bool) (xs : List α) : Int := if xs.findIdx p < xs.length then (xs.findIdx p : Int) else -1

def IntBelow (i : Int) (w : World) (e : Ending) (w' : World) : Prop := e = .returned (.int .i64 i) ∧ Below w.heap.size w w'
theorem idx_hit {α : Type} {p : α → Bool} {xs : List α} {k : Nat} {x : α} (hx : xs[k]? = some x) (hno : ∀ j s, j < k → xs[j]? = some s → p s = false) (hp : p x = true) : idxOf p xs = k := by
  have hlt : k < xs.length := (List.getElem?_eq_some_iff.1 hx).1
  have e : xs.findIdx p = k := by
    rw [List.findIdx_eq hlt]
    refine ⟨?_, fun j hj => ?_⟩
    · rw [List.getElem?_eq_getElem hlt] at hx
      injection hx with hx
      rw [hx]
      exact hp
    · exact hno j _ hj (List.getElem?_eq_getElem (by omega))
  unfold idxOf
  rw [e, if_pos hlt]
theorem idx_next {α : Type} {p : α → Bool} {xs : List α} {k : Nat} {x : α} (hx : xs[k]? = some x) (hno : ∀ j s, j < k → xs[j]? = some s → p s = false) (hp : p x = false) : ∀ j s, j < k + 1 → xs[j]? = some s → p s = false := by
  intro j s hj hs
  rcases Nat.lt_succ_iff_lt_or_eq.1 hj with h | h
  · exact hno j s h hs
  · subst h
    rw [hx] at hs
    injection hs with hs
    rw [← hs]
    exact hp
theorem idx_none {α : Type} {p : α → Bool} {xs : List α} {k : Nat} (hk : xs.length ≤ k) (hno : ∀ j s, j < k → xs[j]? = some s → p s = false) : idxOf p xs = -1 := by
  unfold idxOf
  rw [if_neg]
  rw [List.findIdx_lt_length]
  rintro ⟨x, hx, hp⟩
  obtain ⟨j, hj, e⟩ := List.mem_iff_getElem.1 hx
  have := hno j x (by omega) (by rw [List.getElem?_eq_getElem hj, e])
  rw [this] at hp
  cases hp
theorem idx_any {α : Type} {p : α → Bool} (xs : List α) : decide (0 ≤ idxOf p xs) = xs.any p := by
  rw [Bool.eq_iff_iff]
  unfold idxOf
  rw [List.any_eq_true, decide_eq_true_iff, ← List.findIdx_lt_length]
  split <;> constructor <;> intro h <;> first | omega | assumption
set_option maxRecDepth 100000 in
theorem indexS_any (A : Option Addr) (n c : Nat) (xs : List Seen) (g : Nat) (l : Int) (w : World) (e1 : xs.length = n) (m1 : n ≤ 1000000) (hs : Sees w w.heap.size A (xs.flatMap seenC)) (hg : g < w.heap.size) (h : w.cell? ⟨g, 0, none⟩ = some (.int .i64 l)) :
    Calls Try.prog 63 #[.slice A n c, .func (.func 55) #[] #[.pointer (some ⟨g, 0, none⟩)]] w (IntBelow (idxOf (fun s => s.loc == l) xs) w) := by
  have E1 := Lib.hid e1
  have HS := Lib.hid hs
  have HG := Lib.hid h
  clear e1 hs h
  go_enter Try.func63, Try.ntmps63
  go_wp2
  go_loopw [8] (fun i wr => ∃ k : Nat, k ≤ n ∧ i = .int .i64 k ∧ Hid (∀ j s, j < k → xs[j]? = some s → (s.loc == l) = false) ∧ Below w.heap.size w wr) (fun i _ => n - (intOf i).toNat)
  case atStart => exact ⟨0, by omega, rfl, Lib.hid (fun j s hj => by omega), Below.refl _ _⟩
  case round =>
    obtain ⟨k, hk, rfl, HNO, hb⟩ := hrel
    have HB := Lib.hid hb
    by_cases hlt : k < n
    · have hx : xs[k]? = some (xs[k]'(by rw [E1.out]; exact hlt)) := List.getElem?_eq_getElem _
      generalize xs[k]'(by rw [E1.out]; exact hlt) = x at hx
      obtain ⟨b, off, rfl, hbB, k1, k2, k3⟩ := (HS.out.below hb).at3 hx
      have HX := Lib.hid hx
      have hgw : Hid (wr.cell? ⟨g, 0, none⟩ = some (.int .i64 l)) := Lib.hid ((hb.cell (p := ⟨g, 0, none⟩) hg).trans HG.out)
      clear hx hb
      go_wp2_with fail
      refine (seenSame_any x g l wr (Nat.lt_of_lt_of_le hg HB.out.size) hgw.out).mono ?_
      rintro e w1 ⟨rfl, b1⟩
      have HB1 := Lib.hid (HB.out.trans (b1.mono HB.out.size))
      clear b1
      by_cases hp : (x.loc == l) = true
      · have HR := Lib.hid (idx_hit (p := fun s => s.loc == l) HX.out HNO.out hp)
        go_wp2
        go_ret
        exact ⟨ret_int HR.out.symm, HB1.out⟩
      · have hp' : (x.loc == l) = false := by simpa using hp
        have HP := Lib.hid (idx_next (p := fun s => s.loc == l) HX.out HNO.out hp')
        clear hp
        go_wp2
        go_roundw
        case rel => exact ⟨k + 1, by omega, by go_num, HP, HB1.out⟩
        case measure => simp [intOf]; omega
    · have HR := Lib.hid (idx_none (p := fun s => s.loc == l) (xs := xs) (k := k) (by rw [E1.out]; omega) HNO.out)
      have hkn : k = n := by omega
      subst hkn
      clear hb
      go_wp2
      go_ret
      exact ⟨ret_int HR.out.symm, HB.out⟩
set_option maxRecDepth 100000 in
theorem indexW_any (A : Option Addr) (n c : Nat) (xs : List Wr) (g : Nat) (l : Int) (w : World) (e1 : xs.length = n) (m1 : n ≤ 1000000) (hs : Sees w w.heap.size A (xs.flatMap wrC)) (hg : g < w.heap.size) (h : w.cell? ⟨g, 0, none⟩ = some (.int .i64 l)) :
    Calls Try.prog 57 #[.slice A n c, .func (.func 58) #[] #[.pointer (some ⟨g, 0, none⟩)]] w (IntBelow (idxOf (fun s => s.loc == l) xs) w) := by
  have E1 := Lib.hid e1
  have HS := Lib.hid hs
  have HG := Lib.hid h
  clear e1 hs h
  go_enter Try.func57, Try.ntmps57
  go_wp2
  go_loopw [8] (fun i wr => ∃ k : Nat, k ≤ n ∧ i = .int .i64 k ∧ Hid (∀ j s, j < k → xs[j]? = some s → (s.loc == l) = false) ∧ Below w.heap.size w wr) (fun i _ => n - (intOf i).toNat)
  case atStart => exact ⟨0, by omega, rfl, Lib.hid (fun j s hj => by omega), Below.refl _ _⟩
  case round =>
    obtain ⟨k, hk, rfl, HNO, hb⟩ := hrel
    have HB := Lib.hid hb
    by_cases hlt : k < n
    · have hx : xs[k]? = some (xs[k]'(by rw [E1.out]; exact hlt)) := List.getElem?_eq_getElem _
      generalize xs[k]'(by rw [E1.out]; exact hlt) = x at hx
      obtain ⟨b, off, rfl, hbB, k1, k2⟩ := (HS.out.below hb).at2 hx
      have HX := Lib.hid hx
      have hgw : Hid (wr.cell? ⟨g, 0, none⟩ = some (.int .i64 l)) := Lib.hid ((hb.cell (p := ⟨g, 0, none⟩) hg).trans HG.out)
      clear hx hb
      go_wp2_with fail
      refine (wrSame_any x g l wr (Nat.lt_of_lt_of_le hg HB.out.size) hgw.out).mono ?_
      rintro e w1 ⟨rfl, b1⟩
      have HB1 := Lib.hid (HB.out.trans (b1.mono HB.out.size))
      clear b1
      by_cases hp : (x.loc == l) = true
      · have HR := Lib.hid (idx_hit (p := fun s => s.loc == l) HX.out HNO.out hp)
        go_wp2
        go_ret
        exact ⟨ret_int HR.out.symm, HB1.out⟩
      · have hp' : (x.loc == l) = false := by simpa using hp
        have HP := Lib.hid (idx_next (p := fun s => s.loc == l) HX.out HNO.out hp')
        clear hp
        go_wp2
        go_roundw
        case rel => exact ⟨k + 1, by omega, by go_num, HP, HB1.out⟩
        case measure => simp [intOf]; omega
    · have HR := Lib.hid (idx_none (p := fun s => s.loc == l) (xs := xs) (k := k) (by rw [E1.out]; omega) HNO.out)
      have hkn : k = n := by omega
      subst hkn
      clear hb
      go_wp2
      go_ret
      exact ⟨ret_int HR.out.symm, HB.out⟩
set_option maxRecDepth 100000 in
theorem indexM_any (A : Option Addr) (n c : Nat) (xs : List Wr) (g : Nat) (l : Int) (w : World) (e1 : xs.length = n) (m1 : n ≤ 1000000) (hs : Sees w w.heap.size A (xs.flatMap wrC)) (hg : g < w.heap.size) (h : w.cell? ⟨g, 0, none⟩ = some (.int .i64 l)) :
    Calls Try.prog 57 #[.slice A n c, .func (.func 59) #[] #[.pointer (some ⟨g, 0, none⟩)]] w (IntBelow (idxOf (fun s => decide (l < s.loc)) xs) w) := by
  have E1 := Lib.hid e1
  have HS := Lib.hid hs
  have HG := Lib.hid h
  clear e1 hs h
  go_enter Try.func57, Try.ntmps57
  go_wp2
  go_loopw [8] (fun i wr => ∃ k : Nat, k ≤ n ∧ i = .int .i64 k ∧ Hid (∀ j s, j < k → xs[j]? = some s → (decide (l < s.loc)) = false) ∧ Below w.heap.size w wr) (fun i _ => n - (intOf i).toNat)
  case atStart => exact ⟨0, by omega, rfl, Lib.hid (fun j s hj => by omega), Below.refl _ _⟩
  case round =>
    obtain ⟨k, hk, rfl, HNO, hb⟩ := hrel
    have HB := Lib.hid hb
    by_cases hlt : k < n
    · have hx : xs[k]? = some (xs[k]'(by rw [E1.out]; exact hlt)) := List.getElem?_eq_getElem _
      generalize xs[k]'(by rw [E1.out]; exact hlt) = x at hx
      obtain ⟨b, off, rfl, hbB, k1, k2⟩ := (HS.out.below hb).at2 hx
      have HX := Lib.hid hx
      have hgw : Hid (wr.cell? ⟨g, 0, none⟩ = some (.int .i64 l)) := Lib.hid ((hb.cell (p := ⟨g, 0, none⟩) hg).trans HG.out)
      clear hx hb
      go_wp2_with fail
      refine (wrMore_any x g l wr (Nat.lt_of_lt_of_le hg HB.out.size) hgw.out).mono ?_
      rintro e w1 ⟨rfl, b1⟩
      have HB1 := Lib.hid (HB.out.trans (b1.mono HB.out.size))
      clear b1
      by_cases hp : (decide (l < x.loc)) = true
      · have HR := Lib.hid (idx_hit (p := fun s => decide (l < s.loc)) HX.out HNO.out hp)
        go_wp2
        go_ret
        exact ⟨ret_int HR.out.symm, HB1.out⟩
      · have hp' : (decide (l < x.loc)) = false := by simpa using hp
        have HP := Lib.hid (idx_next (p := fun s => decide (l < s.loc)) HX.out HNO.out hp')
        clear hp
        go_wp2
        go_roundw
        case rel => exact ⟨k + 1, by omega, by go_num, HP, HB1.out⟩
        case measure => simp [intOf]; omega
    · have HR := Lib.hid (idx_none (p := fun s => decide (l < s.loc)) (xs := xs) (k := k) (by rw [E1.out]; omega) HNO.out)
      have hkn : k = n := by omega
      subst hkn
      clear hb
      go_wp2
      go_ret
      exact ⟨ret_int HR.out.symm, HB.out⟩
set_option maxRecDepth 100000 in
/-- slices.ContainsFunc at the reads. -/
theorem containsS_any (A : Option Addr) (n c : Nat) (xs : List Seen) (g : Nat) (l : Int) (w : World) (e1 : xs.length = n) (m1 : n ≤ 1000000) (hs : Sees w w.heap.size A (xs.flatMap seenC)) (hg : g < w.heap.size) (h : w.cell? ⟨g, 0, none⟩ = some (.int .i64 l)) :
    Calls Try.prog 54 #[.slice A n c, .func (.func 55) #[] #[.pointer (some ⟨g, 0, none⟩)]] w fun e w' => e = .returned (.bool (xs.any fun s => s.loc == l)) ∧ Below w.heap.size w w' := by
  have C := Lib.hid (indexS_any A n c xs g l w e1 m1 hs hg h)
  have HA := Lib.hid (idx_any (p := fun s : Seen => s.loc == l) xs)
  clear e1 hs h
  go_enter Try.func54, Try.ntmps54
  go_wp2_with fail
  refine C.out.mono ?_
  rintro e w1 ⟨rfl, b1⟩
  generalize idxOf (fun s : Seen => s.loc == l) xs = i at HA
  go_wp2
  go_ret
  exact ⟨ret_bool HA.out, b1⟩
end Go.Proofs.Ytiomfncbhbokpaa
