/- What Drop leaves to be found: plain law. -/
import Derived.Test.YtiomfncbhbokpaaPlain
import Derived.Test.YtiomfncbhbokpaaLast2
namespace Go.Proofs.Ytiomfncbhbokpaa
open Go.RowKit
set_option linter.unusedVariables false

/-- The level inside, behind k rounds. -/
def inL (rs : List Seen) (ws : List Wr) (k : Nat) : Lv := ⟨(rs.take k).foldl readL [], (ws.take k).foldl putW [], []⟩
theorem inL_zero (rs : List Seen) (ws : List Wr) : inL rs ws 0 = zeroLv := by unfold inL; rw [List.take_zero, List.take_zero]; rfl
theorem fold_take {α β : Type} (f : β → α → β) (b : β) (xs : List α) (k : Nat) : (xs.take (k + 1)).foldl f b = match xs[k]? with
    | some x => f ((xs.take k).foldl f b) x
    | none => (xs.take k).foldl f b := by
  cases h : xs[k]? with
  | some x => exact take_next h b
  | none =>
    have := List.getElem?_eq_none_iff.1 h
    rw [List.take_of_length_le (by omega), List.take_of_length_le (by omega)]
theorem inL_next (rs : List Seen) (ws : List Wr) (k : Nat) : inL rs ws (k + 1) = ⟨match rs[k]? with
    | some x => readL (inL rs ws k).reads x
    | none => (inL rs ws k).reads, match ws[k]? with
    | some x => putW (inL rs ws k).writes x
    | none => (inL rs ws k).writes, []⟩ := by
  unfold inL
  rw [fold_take, fold_take]
  cases rs[k]? <;> cases ws[k]? <;> rfl
theorem joinR_undo (v0 : Lv) (X : Lv) : (joinR v0 X).writes = v0.writes := rfl
theorem wHit_joinR (v0 X : Lv) (l : Int) : wHit l (joinR v0 X) = wHit l v0 := rfl
theorem rHit_joinR (v0 X : Lv) (l : Int) : rHit l (joinR v0 X) = (rHit l v0).or (rHit l X) := rLook_reads X.reads v0.reads l
/-- What a lookup finds ahead of the level and behind its Drop. -/
theorem find_drop (init : List Lv) (v0 : Lv) (rs : List Seen) (X : Lv) (hX : X.reads = rs.foldl readL []) (l : Int) : ∃ a v h b w t, findL (init ++ [v0]) l = (a, v, h) ∧ findL (init ++ [joinR v0 X]) l = (b, w, t) ∧
    ((h = 1 ∧ t = 1 ∧ a = b) ∨ (h = 0 ∧ hasL rs l = true ∧ t = 2) ∨ (h = 0 ∧ hasL rs l = false ∧ t = 0) ∨ (h = 2 ∧ t = 2 ∧ hasL rs l = true) ∨ (h = 2 ∧ t = 2 ∧ hasL rs l = false ∧ a = b ∧ v = w)) := by
  have hw : (init ++ [joinR v0 X]).reverse.findSome? (wHit l) = (init ++ [v0]).reverse.findSome? (wHit l) := by rw [find_rev, find_rev, wHit_joinR]
  have hr : (init ++ [joinR v0 X]).reverse.findSome? (rHit l) = (rHit l v0).or ((rHit l X).or (init.reverse.findSome? (rHit l))) := by rw [find_rev, rHit_joinR, Option.or_assoc]
  have hr0 : (init ++ [v0]).reverse.findSome? (rHit l) = (rHit l v0).or (init.reverse.findSome? (rHit l)) := find_rev _ _ _
  have hXs : (rHit l X).isSome = hasL rs l := by
    show (rLook X.reads l).isSome = _
    rw [rLook_has, hX, has_readsL]
    rfl
  cases h1 : (init ++ [v0]).reverse.findSome? (wHit l) with
  | some y => exact ⟨_, _, _, _, _, _, findL_w h1, findL_w (hw.trans h1), .inl ⟨rfl, rfl, rfl⟩⟩
  | none =>
    have hw1 := hw.trans h1
    cases hv : rHit l v0 with
    | some s =>
      rw [hv, Option.some_or] at hr hr0
      cases hm : hasL rs l with
      | true => exact ⟨_, _, _, _, _, _, findL_r h1 hr0, findL_r hw1 hr, .inr (.inr (.inr (.inl ⟨rfl, rfl, rfl⟩)))⟩
      | false => exact ⟨_, _, _, _, _, _, findL_r h1 hr0, findL_r hw1 hr, .inr (.inr (.inr (.inr ⟨rfl, rfl, rfl, rfl, rfl⟩)))⟩
    | none =>
      rw [hv, Option.none_or] at hr hr0
      cases hx : rHit l X with
      | some s =>
        rw [hx] at hXs hr
        rw [Option.some_or] at hr
        cases hi : init.reverse.findSome? (rHit l) with
        | some q => exact ⟨_, _, _, _, _, _, findL_r h1 (hr0.trans hi), findL_r hw1 hr, .inr (.inr (.inr (.inl ⟨rfl, rfl, hXs.symm⟩)))⟩
        | none => exact ⟨_, _, _, _, _, _, findL_n h1 (hr0.trans hi), findL_r hw1 hr, .inr (.inl ⟨rfl, hXs.symm, rfl⟩)⟩
      | none =>
        rw [hx] at hXs hr
        rw [Option.none_or] at hr
        cases hi : init.reverse.findSome? (rHit l) with
        | some q => exact ⟨_, _, _, _, _, _, findL_r h1 (hr0.trans hi), findL_r hw1 (hr.trans hi), .inr (.inr (.inr (.inr ⟨rfl, rfl, hXs.symm, rfl, rfl⟩)))⟩
        | none => exact ⟨_, _, _, _, _, _, findL_n h1 (hr0.trans hi), findL_n hw1 (hr.trans hi), .inr (.inr (.inl ⟨rfl, hXs.symm, rfl⟩))⟩
end Go.Proofs.Ytiomfncbhbokpaa
