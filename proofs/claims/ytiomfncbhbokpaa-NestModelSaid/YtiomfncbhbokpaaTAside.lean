/- Worlds that differ in one block and in new blocks. -/
import Derived.Test.YtiomfncbhbokpaaTIdx
namespace Go.Proofs.Ytiomfncbhbokpaa
open Go.RowKit
set_option linter.unusedVariables false

structure Aside (g : Nat) (w w' : World) : Prop where
  os : w'.os = w.os
  tape : w'.tape = w.tape
  output : w'.output = w.output
  size : w.heap.size ≤ w'.heap.size
  block : ∀ k, k < w.heap.size → k ≠ g → w'.heap[k]? = w.heap[k]?
theorem Aside.refl (g : Nat) (w : World) : Aside g w w := ⟨rfl, rfl, rfl, Nat.le_refl _, fun _ _ _ => rfl⟩
theorem Aside.trans {g : Nat} {a b c : World} (h : Aside g a b) (k : Aside g b c) : Aside g a c :=
  ⟨k.os.trans h.os, k.tape.trans h.tape, k.output.trans h.output, Nat.le_trans h.size k.size, fun i hi hg => (k.block i (Nat.lt_of_lt_of_le hi h.size) hg).trans (h.block i hi hg)⟩
theorem Aside.of_below {g : Nat} {w w' : World} (h : Below w.heap.size w w') : Aside g w w' := ⟨h.os, h.tape, h.output, h.size, fun k hk _ => h.block k hk⟩
theorem setCell_size (w : World) (p : Addr) (v : Value) : (w.setCell p v).heap.size = w.heap.size := by simp [World.setCell]
theorem Aside.set (w : World) (g o : Nat) (v : Value) : Aside g w (w.setCell ⟨g, o, none⟩ v) :=
  ⟨rfl, rfl, rfl, by rw [setCell_size]; exact Nat.le_refl _, fun k hk hg => Below.heap_setCell _ _ _ _ hg⟩
theorem Aside.cell {g : Nat} {w w' : World} (h : Aside g w w') {p : Addr} (hp : p.block < w.heap.size) (hg : p.block ≠ g) : w'.cell? p = w.cell? p := World.cell?_of_block (w := w) (h.block p.block hp hg)
theorem Aside.frozen {g : Nat} {w w' : World} (h : Aside g w w') {p : Addr} (hp : p.block < w.heap.size) (hg : p.block ≠ g) : w'.frozen? p = w.frozen? p := World.frozen?_of_block (w := w) (h.block p.block hp hg)
theorem Aside.below {g B : Nat} {w w' : World} (h : Aside g w w') (hB : B ≤ w.heap.size) (hg : B ≤ g) : Below B w w' := ⟨h.os, h.tape, h.output, h.size, fun k hk => h.block k (by omega) (by omega)⟩
theorem aside_set_below {g o : Nat} {v : Value} {w w' : World} (h : Below w.heap.size (w.setCell ⟨g, o, none⟩ v) w') : Aside g w w' :=
  (Aside.set w g o v).trans ⟨h.os, h.tape, h.output, h.size, fun k hk _ => h.block k (by rwa [setCell_size] at hk)⟩

/-- A slice seen in a block other than g. -/
def SeesX (w : World) (g : Nat) (A : Option Addr) (xs : List Value) : Prop :=
  xs = [] ∨ ∃ b off, A = some ⟨b, off, none⟩ ∧ b < w.heap.size ∧ b ≠ g ∧ HasTag w b ∧ ∀ j u, xs[j]? = some u → w.cell? ⟨b, off + j, none⟩ = some u
theorem SeesX.aside {g : Nat} {w w' : World} {A : Option Addr} {xs : List Value} (h : SeesX w g A xs) (ha : Aside g w w') : SeesX w' g A xs := by
  rcases h with h | ⟨b, off, hA, hb, hg, ht, hc⟩
  · exact .inl h
  · exact .inr ⟨b, off, hA, Nat.lt_of_lt_of_le hb ha.size, hg, ht.keep (ha.block b hb hg), fun j u hj => (ha.cell (p := ⟨b, off + j, none⟩) hb hg).trans (hc j u hj)⟩
theorem SeesX.sees {g : Nat} {w : World} {A : Option Addr} {xs : List Value} (h : SeesX w g A xs) : Sees w w.heap.size A xs := by
  rcases h with h | ⟨b, off, hA, hb, hg, ht, hc⟩
  · exact .inl h
  · exact .inr ⟨b, off, hA, hb, ht, hc⟩
theorem SeesX.of {g B : Nat} {w : World} {A : Option Addr} {xs : List Value} (h : Sees w B A xs) (hB : B ≤ w.heap.size) (hg : B ≤ g) : SeesX w g A xs := by
  rcases h with h | ⟨b, off, hA, hb, ht, hc⟩
  · exact .inl h
  · exact .inr ⟨b, off, hA, by omega, by omega, ht, hc⟩
theorem SeesX.of_own {g base n c size : Nat} {e : TypeId} {w : World} {A : Option Addr} {xs : List Value} (h : w.ownsRow base e size (.slice A n c) n xs) (hg : g < base) (he : Fine e := by decide) : SeesX w g A xs := by
  have hs := Sees.of_own h he
  have hb := own_back h
  rcases hs with h | ⟨b, off, hA, hbb, ht, hc⟩
  · exact .inl h
  · subst hA
    have := h.lt b (by
      rcases h.2 with ⟨h', _⟩ | ⟨g', cap', cur, h', _⟩
      · cases h'
      · cases h'; rfl)
    exact .inr ⟨b, off, rfl, hbb, by omega, ht, hc⟩

def cellMod (p : Addr) (v : Value) : Obj → Obj
  | .cells c elem frozen => .cells (if p.spot.isSome then c else c.setIfInBounds p.off v) elem frozen
  | o => o
theorem heap_setCell (w : World) (p : Addr) (v : Value) : (w.setCell p v).heap = w.heap.modify p.block (cellMod p v) := by
  unfold World.setCell
  simp only
  congr 1
theorem heap_setCell_at (w : World) (p : Addr) (v : Value) (k : Nat) : (w.setCell p v).heap[k]? = if p.block = k then (w.heap[k]?).map (cellMod p v) else w.heap[k]? := by
  rw [heap_setCell, Array.getElem?_modify]
theorem cellMod_twice (p : Addr) (u v : Value) (o : Obj) : cellMod p v (cellMod p u o) = cellMod p v o := by
  cases o <;> simp [cellMod]
  split <;> simp
/-- The same store on both sides. -/
theorem below_both {B : Nat} {a w : World} (h : Below B a w) (p : Addr) (v : Value) : Below B (a.setCell p v) (w.setCell p v) := by
  refine ⟨h.os, h.tape, h.output, by rw [setCell_size, setCell_size]; exact h.size, fun k hk => ?_⟩
  rw [heap_setCell_at, heap_setCell_at, h.block k hk]
theorem setCell_twice (w : World) (p : Addr) (u v : Value) : (w.setCell p u).setCell p v = w.setCell p v := by
  have h : ((w.setCell p u).setCell p v).heap = (w.setCell p v).heap := by
    apply Array.ext_getElem?
    intro i
    rw [heap_setCell_at, heap_setCell_at, heap_setCell_at]
    split
    · cases w.heap[i]? with
      | none => rfl
      | some o => simp [cellMod_twice]
    · rfl
  have e : ∀ a b : World, a.heap = b.heap → a.tape = b.tape → a.drawn = b.drawn → a.os = b.os → a.output = b.output → a = b := by
    intro a b h1 h2 h3 h4 h5
    cases a; cases b
    simp_all
  exact e _ _ h rfl rfl rfl rfl
/-- Store anew what was stored: the world with the later value alone. -/
theorem below_again {B : Nat} {w wr : World} {p : Addr} {u : Value} (h : Below B (w.setCell p u) wr) (v : Value) : Below B (w.setCell p v) (wr.setCell p v) := by
  have := below_both h p v
  rwa [setCell_twice] at this

/-- What a function has done that turned one cell of a level to a new row of its own. -/
def SetOne (g o E size : Nat) (xs : List Value) (n : Nat) (w : World) (e : Ending) (w' : World) : Prop :=
  e = .returned (.tuple #[]) ∧ ∃ v, w'.ownsRow w.heap.size E size v n xs ∧ Below w.heap.size (w.setCell ⟨g, o, none⟩ v) w'
end Go.Proofs.Ytiomfncbhbokpaa
