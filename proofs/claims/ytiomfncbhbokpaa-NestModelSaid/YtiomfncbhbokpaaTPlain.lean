/- Plain facts on levels. No program is in sight. -/
import Derived.Test.YtiomfncbhbokpaaTUndos
namespace Go.Proofs.Ytiomfncbhbokpaa
open Go.RowKit
set_option linter.unusedVariables false

theorem SmallV.up {k k' : Nat} {v : Lv} (h : SmallV k v) (hk : k ≤ k') : SmallV k' v := ⟨by have := h.1; omega, by have := h.2.1; omega, by have := h.2.2; omega⟩
theorem joinL_small {a b : Nat} {v f : Lv} (h1 : SmallV a v) (h2 : SmallV b f) : SmallV (a + b) (joinL v f) := by
  refine ⟨?_, ?_, ?_⟩
  · have := readsL_le f.reads v.reads; have := h1.1; have := h2.1; show (f.reads.foldl readL v.reads).length ≤ _; omega
  · have := putsW_le f.writes v.writes; have := h1.2.1; have := h2.2.1; show (f.writes.foldl putW v.writes).length ≤ _; omega
  · have := h1.2.2; have := h2.2.2; show (v.undo ++ f.undo).length ≤ _; rw [List.length_append]; omega
theorem joinR_small {a b : Nat} {v f : Lv} (h1 : SmallV a v) (h2 : SmallV b f) : SmallV (a + b) (joinR v f) := by
  refine ⟨?_, ?_, ?_⟩
  · have := readsL_le f.reads v.reads; have := h1.1; have := h2.1; show (f.reads.foldl readL v.reads).length ≤ _; omega
  · have := h1.2.1; show v.writes.length ≤ _; omega
  · have := h1.2.2; show v.undo.length ≤ _; omega
theorem addW_small {k : Nat} (s : Wr) {v : Lv} (h : SmallV k v) : SmallV (k + 1) (addW s v) := ⟨by have := h.1; show v.reads.length ≤ _; omega, by have := putW_le v.writes s; have := h.2.1; show (putW v.writes s).length ≤ _; omega, by have := h.2.2; show v.undo.length ≤ _; omega⟩
theorem addU_small {k : Nat} (s : Und) {v : Lv} (h : SmallV k v) : SmallV (k + 1) (addU s v) := ⟨by have := h.1; show v.reads.length ≤ _; omega, by have := h.2.1; show v.writes.length ≤ _; omega, by have := h.2.2; show (v.undo ++ [s]).length ≤ _; rw [List.length_append]; simp; omega⟩
def hitsW (ws : List Wr) (l : Int) : Bool := ws.any fun y => y.loc == l
theorem hitW_lt (ws : List Wr) (l : Int) : hitW ws l < ws.length ↔ hitsW ws l = true := by
  unfold hitW hitsW
  rw [List.findIdx_lt_length, List.any_eq_true]
theorem hitW_cons (y : Wr) (r : List Wr) (l : Int) : hitW (y :: r) l = if y.loc == l then 0 else hitW r l + 1 := by
  unfold hitW
  rw [List.findIdx_cons]
  cases y.loc == l <;> rfl
theorem moreW_cons (y : Wr) (r : List Wr) (l : Int) : moreW (y :: r) l = if l < y.loc then 0 else moreW r l + 1 := by
  unfold moreW
  rw [List.findIdx_cons]
  by_cases h : l < y.loc
  · simp [h]
  · simp [h]
theorem putW_nil (x : Wr) : putW [] x = [x] := rfl
/-- putW, an element at a time. -/
theorem putW_cons (y : Wr) (r : List Wr) (x : Wr) : putW (y :: r) x = if y.loc == x.loc then x :: r else if hitsW r x.loc = false ∧ x.loc < y.loc then x :: y :: r else y :: putW r x := by
  unfold putW
  rw [hitW_cons, moreW_cons]
  by_cases h1 : (y.loc == x.loc) = true
  · rw [if_pos h1, if_pos h1, if_pos (by simp)]
    rfl
  · rw [if_neg h1, if_neg h1]
    cases h2 : hitsW r x.loc with
    | true =>
      have h3 := (hitW_lt r x.loc).2 h2
      rw [if_pos (by simpa using h3), if_neg (by simp), if_pos h3]
      rfl
    | false =>
      have h3 : ¬ hitW r x.loc < r.length := fun h => by rw [(hitW_lt r x.loc).1 h] at h2; cases h2
      rw [if_neg (by simpa using h3), if_neg h3]
      by_cases h4 : x.loc < y.loc
      · rw [if_pos h4, if_pos ⟨rfl, h4⟩]; rfl
      · rw [if_neg h4, if_neg (fun h => h4 h.2)]; rfl
def wLook (ws : List Wr) (l : Int) : Option Wr := ws.find? fun y => y.loc == l
theorem wLook_cons (y : Wr) (r : List Wr) (l : Int) : wLook (y :: r) l = if y.loc == l then some y else wLook r l := by
  unfold wLook
  rw [List.find?_cons]
  cases y.loc == l <;> rfl
theorem wLook_hits (ws : List Wr) (l : Int) : (wLook ws l).isSome = hitsW ws l := by
  unfold wLook hitsW
  rw [List.isSome_find?]
theorem wLook_put (ws : List Wr) (x : Wr) (l : Int) : wLook (putW ws x) l = if x.loc == l then some x else wLook ws l := by
  induction ws with
  | nil => rw [putW_nil, wLook_cons]
  | cons y r ih =>
    rw [putW_cons]
    by_cases h1 : (y.loc == x.loc) = true
    · rw [if_pos h1, wLook_cons, wLook_cons]
      have e : y.loc = x.loc := by simpa using h1
      rw [e]
      cases x.loc == l <;> rfl
    · rw [if_neg h1]
      split
      · rename_i h2
        rw [wLook_cons]
      · rw [wLook_cons, ih, wLook_cons]
        by_cases h3 : (y.loc == l) = true
        · rw [if_pos h3, if_pos h3, if_neg]
          intro h4
          have e1 : y.loc = l := by simpa using h3
          have e2 : x.loc = l := by simpa using h4
          rw [e1, e2] at h1
          simp at h1
        · rw [if_neg h3, if_neg h3]
/-- The last write of a location in a row. -/
def lastHit (ws : List Wr) (l : Int) : Option Wr := wLook ws.reverse l
theorem wLook_app (a b : List Wr) (l : Int) : wLook (a ++ b) l = (wLook a l).or (wLook b l) := by
  unfold wLook
  rw [List.find?_append]
theorem lastHit_cons (x : Wr) (r : List Wr) (l : Int) : lastHit (x :: r) l = (lastHit r l).or (if x.loc == l then some x else none) := by
  unfold lastHit
  rw [List.reverse_cons, wLook_app, wLook_cons]
  rfl
theorem wLook_puts (f : List Wr) : ∀ (a : List Wr) (l : Int), wLook (f.foldl putW a) l = (lastHit f l).or (wLook a l) := by
  induction f with
  | nil => intro a l; rfl
  | cons x r ih =>
    intro a l
    rw [List.foldl_cons, ih, wLook_put, lastHit_cons]
    cases lastHit r l with
    | some y => rfl
    | none =>
      by_cases h : (x.loc == l) = true
      · rw [if_pos h, if_pos h]; rfl
      · rw [if_neg h, if_neg h]; rfl
/-- No location twice. -/
def OnceW (ws : List Wr) : Prop := ws.Pairwise fun a b => a.loc ≠ b.loc
theorem wLook_none {ws : List Wr} {l : Int} (h : ∀ y ∈ ws, y.loc ≠ l) : wLook ws l = none := by
  unfold wLook
  rw [List.find?_eq_none]
  intro y hy
  have := h y hy
  simpa using this
theorem lastHit_once {ws : List Wr} (h : OnceW ws) (l : Int) : lastHit ws l = wLook ws l := by
  induction ws with
  | nil => rfl
  | cons x r ih =>
    obtain ⟨h1, h2⟩ := List.pairwise_cons.1 h
    rw [lastHit_cons, ih h2, wLook_cons]
    by_cases hx : (x.loc == l) = true
    · have e : x.loc = l := by simpa using hx
      rw [if_pos hx, if_pos hx, wLook_none (fun y hy => by have := h1 y hy; omega)]
      rfl
    · rw [if_neg hx, if_neg hx]
      cases wLook r l <;> rfl
theorem mem_putW {ws : List Wr} {x y : Wr} (h : y ∈ putW ws x) : y = x ∨ y ∈ ws := by
  induction ws with
  | nil => rw [putW_nil] at h; simpa using h
  | cons z r ih =>
    rw [putW_cons] at h
    split at h
    · rcases List.mem_cons.1 h with h | h
      · exact .inl h
      · exact .inr (by simp [h])
    · split at h
      · rcases List.mem_cons.1 h with h | h
        · exact .inl h
        · exact .inr h
      · rcases List.mem_cons.1 h with h | h
        · exact .inr (by simp [h])
        · rcases ih h with h | h
          · exact .inl h
          · exact .inr (by simp [h])
theorem hits_false {r : List Wr} {l : Int} (h : hitsW r l = false) : ∀ y ∈ r, y.loc ≠ l := fun y hy => by
  unfold hitsW at h
  rw [List.any_eq_false] at h
  have := h y hy
  simpa using this
theorem hits_true {r : List Wr} {l : Int} (h : hitsW r l = true) : ∃ y ∈ r, y.loc = l := by
  unfold hitsW at h
  rw [List.any_eq_true] at h
  obtain ⟨y, hy, e⟩ := h
  exact ⟨y, hy, by simpa using e⟩
theorem once_put {ws : List Wr} (h : OnceW ws) (x : Wr) : OnceW (putW ws x) := by
  induction ws with
  | nil => rw [putW_nil]; exact List.pairwise_singleton _ _
  | cons z r ih =>
    obtain ⟨h1, h2⟩ := List.pairwise_cons.1 h
    rw [putW_cons]
    by_cases hz : (z.loc == x.loc) = true
    · rw [if_pos hz]
      have e : z.loc = x.loc := by simpa using hz
      exact List.pairwise_cons.2 ⟨fun y hy => by have := h1 y hy; omega, h2⟩
    · rw [if_neg hz]
      have hz' : z.loc ≠ x.loc := by simpa using hz
      split
      · rename_i hc
        exact List.pairwise_cons.2 ⟨fun y hy => by
          rcases List.mem_cons.1 hy with rfl | hy
          · omega
          · have := hits_false hc.1 y hy; omega, h⟩
      · refine List.pairwise_cons.2 ⟨fun y hy => ?_, ih h2⟩
        rcases mem_putW hy with rfl | hy
        · exact hz'
        · exact h1 y hy
theorem once_puts (f : List Wr) : ∀ {ws : List Wr}, OnceW ws → OnceW (f.foldl putW ws) := by
  induction f with
  | nil => intro ws h; exact h
  | cons x r ih => intro ws h; rw [List.foldl_cons]; exact ih (once_put h x)
theorem find_rev {β : Type} (g : Lv → Option β) (init : List Lv) (x : Lv) : (init ++ [x]).reverse.findSome? g = (g x).or (init.reverse.findSome? g) := by
  rw [List.reverse_append, List.reverse_singleton, List.singleton_append, List.findSome?_cons]
  cases g x <;> rfl
theorem wHit_join {v0 f : Lv} (h : OnceW f.writes) (l : Int) : wHit l (joinL v0 f) = (wHit l f).or (wHit l v0) := by
  show wLook (f.writes.foldl putW v0.writes) l = (wLook f.writes l).or (wLook v0.writes l)
  rw [wLook_puts, lastHit_once h]
/-- A box of five cells. -/
structure Box5 (w : World) (b : Nat) (x y z u v : Value) : Prop where
  c0 : w.cell? ⟨b, 0, none⟩ = some x
  c1 : w.cell? ⟨b, 1, none⟩ = some y
  c2 : w.cell? ⟨b, 2, none⟩ = some z
  c3 : w.cell? ⟨b, 3, none⟩ = some u
  c4 : w.cell? ⟨b, 4, none⟩ = some v
theorem Box5.new (w : World) (x y z u v : Value) (t : TypeId) : Box5 (w.alloc (.cells #[x, y, z, u, v] t)) w.heap.size x y z u v :=
  ⟨by rw [World.cell?_alloc_at _ _ _ _ rfl]; rfl, by rw [World.cell?_alloc_at _ _ _ _ rfl]; rfl, by rw [World.cell?_alloc_at _ _ _ _ rfl]; rfl, by rw [World.cell?_alloc_at _ _ _ _ rfl]; rfl, by rw [World.cell?_alloc_at _ _ _ _ rfl]; rfl⟩
theorem Box5.below {w w' : World} {b n : Nat} {x y z u v : Value} (h : Box5 w b x y z u v) (hb : Below n w w') (hlt : b < n) : Box5 w' b x y z u v :=
  ⟨(hb.cell (p := ⟨b, 0, none⟩) hlt).trans h.c0, (hb.cell (p := ⟨b, 1, none⟩) hlt).trans h.c1, (hb.cell (p := ⟨b, 2, none⟩) hlt).trans h.c2, (hb.cell (p := ⟨b, 3, none⟩) hlt).trans h.c3, (hb.cell (p := ⟨b, 4, none⟩) hlt).trans h.c4⟩
end Go.Proofs.Ytiomfncbhbokpaa
