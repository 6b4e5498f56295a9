/- A level whose three cells lie in a block g, its rows elsewhere; what a function leaves that turns it. -/
import Derived.Test.YtiomfncbhbokpaaTWrite
namespace Go.Proofs.Ytiomfncbhbokpaa
open Go.RowKit
set_option linter.unusedVariables false

structure LevX (w : World) (g : Nat) (l : LC) (v : Lv) : Prop where
  e1 : v.reads.length = l.n1
  e2 : v.writes.length = l.n2
  e3 : v.undo.length = l.n3
  m1 : l.n1 ≤ l.c1
  m2 : l.n2 ≤ l.c2
  m3 : l.n3 ≤ l.c3
  s1 : SeesX w g l.A1 (v.reads.flatMap seenC)
  s2 : SeesX w g l.A2 (v.writes.flatMap wrC)
  s3 : SeesX w g l.A3 (v.undo.flatMap undC)
theorem LevX.aside {w w' : World} {g : Nat} {l : LC} {v : Lv} (h : LevX w g l v) (ha : Aside g w w') : LevX w' g l v :=
  ⟨h.e1, h.e2, h.e3, h.m1, h.m2, h.m3, h.s1.aside ha, h.s2.aside ha, h.s3.aside ha⟩
theorem LevX.lev {w : World} {g : Nat} {l : LC} {v : Lv} (h : LevX w g l v) : Lev w w.heap.size l v :=
  ⟨h.e1, h.e2, h.e3, h.m1, h.m2, h.m3, h.s1.sees, h.s2.sees, h.s3.sees⟩
theorem LevX.of {w : World} {B g : Nat} {l : LC} {v : Lv} (h : Lev w B l v) (hB : B ≤ w.heap.size) (hg : B ≤ g) : LevX w g l v :=
  ⟨h.e1, h.e2, h.e3, h.m1, h.m2, h.m3, .of h.s1 hB hg, .of h.s2 hB hg, .of h.s3 hB hg⟩

def putLev (w : World) (g o : Nat) (l : LC) : World :=
  ((w.setCell ⟨g, o, none⟩ (.slice l.A1 l.n1 l.c1)).setCell ⟨g, o + 1, none⟩ (.slice l.A2 l.n2 l.c2)).setCell ⟨g, o + 2, none⟩ (.slice l.A3 l.n3 l.c3)
def MutPost (g o : Nat) (v : Lv) (w : World) (e : Ending) (w' : World) : Prop :=
  e = .returned (.tuple #[]) ∧ ∃ l, LevX w' g l v ∧ Below w.heap.size (putLev w g o l) w'

theorem setCell_self {w : World} {a : Addr} {v : Value} (h : w.cell? a = some v) : w.setCell a v = w := by
  have h2 : (w.setCell a v).heap = w.heap := by
    rw [heap_setCell]
    apply Array.ext_getElem?
    intro i
    rw [Array.getElem?_modify]
    split
    · rename_i he
      subst he
      unfold World.cell? at h
      cases hb : w.heap[a.block]? with
      | none => rfl
      | some ob =>
        rw [hb] at h
        cases ob with
        | cells c t fz =>
          simp [cellMod]
          intro hs
          simp [hs] at h
          apply Array.ext_getElem?
          intro j
          rw [Array.getElem?_setIfInBounds]
          split
          · rename_i hj
            subst hj
            split
            · exact h.symm
            · rename_i hn
              rw [Array.getElem?_eq_none (by omega)] at h
              cases h
          · rfl
        | _ => rfl
    · rfl
  have e : ∀ a b : World, a.heap = b.heap → a.tape = b.tape → a.drawn = b.drawn → a.os = b.os → a.output = b.output → a = b := by
    intro a b h1 h2 h3 h4 h5
    cases a; cases b
    simp_all
  exact e _ _ h2 rfl rfl rfl rfl
theorem cell_set_off (w : World) (g o p : Nat) (v : Value) (h : o ≠ p) : (w.setCell ⟨g, o, none⟩ v).cell? ⟨g, p, none⟩ = w.cell? ⟨g, p, none⟩ :=
  World.cell?_setCell_other w _ _ v (fun e => h (by injection e))
theorem LevAt.put {w : World} {g o : Nat} {l : LC} (h : LevAt w g o l) (l' : LC) : LevAt (putLev w g o l') g o l' := by
  unfold putLev
  refine ⟨?_, ?_, ?_, ?_, ?_, ?_⟩
  · rw [cell_set_off _ _ _ _ _ (by omega), cell_set_off _ _ _ _ _ (by omega)]
    exact World.cell?_setCell_same (h := h.c1) ..
  · rw [cell_set_off _ _ _ _ _ (by omega)]
    exact World.cell?_setCell_same (h := (cell_set_off _ _ _ _ _ (by omega)).trans h.c2) ..
  · exact World.cell?_setCell_same (h := (cell_set_off _ _ _ _ _ (by omega)).trans ((cell_set_off _ _ _ _ _ (by omega)).trans h.c3)) ..
  · simp only [World.frozen?_setCell]; exact h.f1
  · simp only [World.frozen?_setCell]; exact h.f2
  · simp only [World.frozen?_setCell]; exact h.f3
theorem LevAt.below {w w' : World} {g o B : Nat} {l : LC} (h : LevAt w g o l) (hb : Below B w w') (hg : g < B) : LevAt w' g o l :=
  ⟨(hb.cell (p := ⟨g, o, none⟩) hg).trans h.c1, (hb.cell (p := ⟨g, o + 1, none⟩) hg).trans h.c2, (hb.cell (p := ⟨g, o + 2, none⟩) hg).trans h.c3,
    (hb.frozen (p := ⟨g, o, none⟩) hg).trans h.f1, (hb.frozen (p := ⟨g, o + 1, none⟩) hg).trans h.f2, (hb.frozen (p := ⟨g, o + 2, none⟩) hg).trans h.f3⟩
theorem putLev_size (w : World) (g o : Nat) (l : LC) : (putLev w g o l).heap.size = w.heap.size := by unfold putLev; rw [setCell_size, setCell_size, setCell_size]
theorem aside_put {g o : Nat} {l : LC} {w w' : World} (h : Below w.heap.size (putLev w g o l) w') : Aside g w w' := by
  have h0 : Aside g w (putLev w g o l) := ((Aside.set w g o _).trans (Aside.set _ g (o + 1) _)).trans (Aside.set _ g (o + 2) _)
  exact h0.trans ⟨h.os, h.tape, h.output, h.size, fun k hk _ => h.block k (by rwa [putLev_size] at hk)⟩

/-- After each of the three. -/
theorem mut1 {w w' : World} {g o : Nat} {l : LC} {v : Lv} {n : Nat} {rs : List Seen} {e : Ending} (ha : LevAt w g o l) (hx : LevX w g l v) (hg : g < w.heap.size) (h : SetOne g o 30 3 (rs.flatMap seenC) n w e w') (hn : rs.length = n) :
    MutPost g o { v with reads := rs } w e w' := by
  obtain ⟨rfl, v1, o1, b1⟩ := h
  obtain ⟨A, c, rfl, hc, -⟩ := own_form o1
  refine ⟨rfl, { l with A1 := A, n1 := n, c1 := c }, ?_, ?_⟩
  · have h2 := hx.aside (aside_set_below b1)
    exact ⟨hn, h2.e2, h2.e3, hc, h2.m2, h2.m3, .of_own o1 hg, h2.s2, h2.s3⟩
  · unfold putLev
    rw [setCell_self (a := ⟨g, o + 1, none⟩) ((cell_set_off _ _ _ _ _ (by omega)).trans ha.c2), setCell_self (a := ⟨g, o + 2, none⟩) ((cell_set_off _ _ _ _ _ (by omega)).trans ha.c3)]
    exact b1
theorem mut2 {w w' : World} {g o : Nat} {l : LC} {v : Lv} {n : Nat} {ws : List Wr} {e : Ending} (ha : LevAt w g o l) (hx : LevX w g l v) (hg : g < w.heap.size) (h : SetOne g (o + 1) 33 2 (ws.flatMap wrC) n w e w') (hn : ws.length = n) :
    MutPost g o { v with writes := ws } w e w' := by
  obtain ⟨rfl, v1, o1, b1⟩ := h
  obtain ⟨A, c, rfl, hc, -⟩ := own_form o1
  refine ⟨rfl, { l with A2 := A, n2 := n, c2 := c }, ?_, ?_⟩
  · have h2 := hx.aside (aside_set_below b1)
    exact ⟨h2.e1, hn, h2.e3, h2.m1, hc, h2.m3, h2.s1, .of_own o1 hg, h2.s3⟩
  · unfold putLev
    rw [setCell_self ha.c1, setCell_self (a := ⟨g, o + 2, none⟩) ((cell_set_off _ _ _ _ _ (by omega)).trans ha.c3)]
    exact b1
theorem mut3 {w w' : World} {g o : Nat} {l : LC} {v : Lv} {n : Nat} {us : List Und} {e : Ending} (ha : LevAt w g o l) (hx : LevX w g l v) (hg : g < w.heap.size) (h : SetOne g (o + 2) 50 5 (us.flatMap undC) n w e w') (hn : us.length = n) :
    MutPost g o { v with undo := us } w e w' := by
  obtain ⟨rfl, v1, o1, b1⟩ := h
  obtain ⟨A, c, rfl, hc, -⟩ := own_form o1
  refine ⟨rfl, { l with A3 := A, n3 := n, c3 := c }, ?_, ?_⟩
  · have h2 := hx.aside (aside_set_below b1)
    exact ⟨h2.e1, h2.e2, hn, h2.m1, h2.m2, hc, h2.s1, h2.s2, .of_own o1 hg⟩
  · unfold putLev
    rw [setCell_self ha.c1, setCell_self ha.c2]
    exact b1
theorem putLev_both {B : Nat} {a w : World} (h : Below B a w) (g o : Nat) (l : LC) : Below B (putLev a g o l) (putLev w g o l) := below_both (below_both (below_both h _ _) _ _) _ _
/-- Laid one after the other the later level stands. -/
theorem setCell_swap (w : World) (g o p : Nat) (u v : Value) (h : o ≠ p) : (w.setCell ⟨g, o, none⟩ u).setCell ⟨g, p, none⟩ v = (w.setCell ⟨g, p, none⟩ v).setCell ⟨g, o, none⟩ u := by
  have e : ∀ a b : World, a.heap = b.heap → a.tape = b.tape → a.drawn = b.drawn → a.os = b.os → a.output = b.output → a = b := by
    intro a b h1 h2 h3 h4 h5
    cases a; cases b
    simp_all
  refine e _ _ ?_ rfl rfl rfl rfl
  apply Array.ext_getElem?
  intro i
  rw [heap_setCell_at, heap_setCell_at, heap_setCell_at, heap_setCell_at]
  split
  · cases w.heap[i]? with
    | none => rfl
    | some ob =>
      cases ob <;> simp [cellMod]
      rw [Array.setIfInBounds_comm _ _ h]
  · rfl
theorem putLev_twice (w : World) (g o : Nat) (l l' : LC) : putLev (putLev w g o l) g o l' = putLev w g o l' := by
  unfold putLev
  rw [setCell_swap _ g (o + 2) o _ _ (by omega), setCell_swap _ g (o + 1) o _ _ (by omega), setCell_twice, setCell_swap _ g (o + 2) (o + 1) _ _ (by omega), setCell_twice, setCell_twice]
/-- Two turns, one behind the other. -/
theorem MutPost.next {w w1 w2 : World} {g o : Nat} {l1 : LC} {v2 : Lv} {e : Ending} (h1 : Below w.heap.size (putLev w g o l1) w1) (h2 : MutPost g o v2 w1 e w2) : MutPost g o v2 w e w2 := by
  obtain ⟨he, l2, hx, hb⟩ := h2
  refine ⟨he, l2, hx, ?_⟩
  have h3 := putLev_both h1 g o l2
  rw [putLev_twice] at h3
  exact h3.trans (hb.mono (by have := h1.size; rwa [putLev_size] at this))
end Go.Proofs.Ytiomfncbhbokpaa
