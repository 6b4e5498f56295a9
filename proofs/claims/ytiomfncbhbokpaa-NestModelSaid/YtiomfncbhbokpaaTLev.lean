/- The levels of layer 13 as lists, and how they lie in memory. -/
import Derived.Test.YtiomfncbhbokpaaRows
import Derived.Test.YtiomfncbhbokpaaTMem
import Derived.WalkSpells
import Derived.WalkLawsBesides
import Derived.Lib.Hide
import Derived.Handy
import Derived.Deep.QuietTactic
import Derived.Deep.AppendLies
import Derived.BigQuiet
namespace Go.Proofs.Ytiomfncbhbokpaa
open Go.RowKit
set_option linter.unusedVariables false

structure Seen where
  loc : Int
  ver : Int
  val : Int
deriving DecidableEq
structure Wr where
  loc : Int
  val : Int
deriving DecidableEq
/-- A compensation: the four cells of its value (the fourth is a slice), and the lock. -/
structure Und where
  kind : Int
  n : Int
  m : Int
  A : Option Addr
  len : Nat
  cap : Nat
  lock : Int
deriving DecidableEq
structure Lv where
  reads : List Seen
  writes : List Wr
  undo : List Und
deriving DecidableEq

def seenC (s : Seen) : List Value := [.int .i64 s.loc, .int .i64 s.ver, .int .i64 s.val]
def wrC (x : Wr) : List Value := [.int .i64 x.loc, .int .i64 x.val]
def undC (u : Und) : List Value := [.int .i64 u.kind, .int .i64 u.n, .int .i64 u.m, .slice u.A u.len u.cap, .int .i64 u.lock]
/-- The three cells of a level. -/
structure LC where
  A1 : Option Addr
  n1 : Nat
  c1 : Nat
  A2 : Option Addr
  n2 : Nat
  c2 : Nat
  A3 : Option Addr
  n3 : Nat
  c3 : Nat
def lvC (l : LC) : List Value := [.slice l.A1 l.n1 l.c1, .slice l.A2 l.n2 l.c2, .slice l.A3 l.n3 l.c3]

theorem flat_length {α : Type} {f : α → List Value} {k : Nat} (hf : ∀ x, (f x).length = k) : ∀ xs : List α, (xs.flatMap f).length = xs.length * k
  | [] => by simp
  | x :: r => by rw [List.flatMap_cons, List.length_append, hf, flat_length hf r, List.length_cons, Nat.add_mul]; omega
theorem flat_get {α : Type} {f : α → List Value} {k : Nat} (hf : ∀ x, (f x).length = k) : ∀ (xs : List α) (i j : Nat) (x : α), xs[i]? = some x → j < k → (xs.flatMap f)[i * k + j]? = (f x)[j]?
  | [], i, j, x, h, _ => by simp at h
  | y :: r, 0, j, x, h, hj => by
    simp at h
    subst h
    rw [List.flatMap_cons, List.getElem?_append_left (by rw [hf]; omega), Nat.zero_mul, Nat.zero_add]
  | y :: r, i + 1, j, x, h, hj => by
    rw [List.flatMap_cons, List.getElem?_append_right (by rw [hf, Nat.add_mul]; omega), hf]
    have := flat_get hf r i j x (by simpa using h) hj
    rw [← this]
    congr 1
    rw [Nat.add_mul]
    omega
theorem flat_one {α : Type} {f : α → List Value} (h : ∀ x, ∀ u ∈ f x, u.oneCell' = true) (xs : List α) : ∀ u ∈ xs.flatMap f, u.oneCell' = true := fun u hu => by
  obtain ⟨x, _, hx⟩ := List.mem_flatMap.1 hu
  exact h x u hx
theorem seen_len (s : Seen) : (seenC s).length = 3 := rfl
theorem wr_len (s : Wr) : (wrC s).length = 2 := rfl
theorem und_len (s : Und) : (undC s).length = 5 := rfl
theorem lv_len (s : LC) : (lvC s).length = 3 := rfl
theorem seen_one (s : Seen) : ∀ u ∈ seenC s, u.oneCell' = true := fun u hu => by
  simp [seenC] at hu
  rcases hu with rfl | rfl | rfl <;> rfl
theorem wr_one (s : Wr) : ∀ u ∈ wrC s, u.oneCell' = true := fun u hu => by
  simp [wrC] at hu
  rcases hu with rfl | rfl <;> rfl
theorem und_one (s : Und) : ∀ u ∈ undC s, u.oneCell' = true := fun u hu => by
  simp [undC] at hu
  rcases hu with rfl | rfl | rfl | rfl | rfl <;> rfl
theorem lv_one (s : LC) : ∀ u ∈ lvC s, u.oneCell' = true := fun u hu => by
  simp [lvC] at hu
  rcases hu with rfl | rfl | rfl <;> rfl

/-- Three slices that read as a level. -/
structure Lev (w : World) (B : Nat) (l : LC) (v : Lv) : Prop where
  e1 : v.reads.length = l.n1
  e2 : v.writes.length = l.n2
  e3 : v.undo.length = l.n3
  m1 : l.n1 ≤ l.c1
  m2 : l.n2 ≤ l.c2
  m3 : l.n3 ≤ l.c3
  s1 : Sees w B l.A1 (v.reads.flatMap seenC)
  s2 : Sees w B l.A2 (v.writes.flatMap wrC)
  s3 : Sees w B l.A3 (v.undo.flatMap undC)
theorem Lev.below {w w' : World} {B : Nat} {l : LC} {v : Lv} (h : Lev w B l v) (hb : Below B w w') : Lev w' B l v :=
  ⟨h.e1, h.e2, h.e3, h.m1, h.m2, h.m3, h.s1.below hb, h.s2.below hb, h.s3.below hb⟩
theorem Lev.more {w : World} {B B' : Nat} {l : LC} {v : Lv} (h : Lev w B l v) (hB : B ≤ B') : Lev w B' l v :=
  ⟨h.e1, h.e2, h.e3, h.m1, h.m2, h.m3, h.s1.more hB, h.s2.more hB, h.s3.more hB⟩
theorem Lev.drewN {w : World} {B : Nat} {l : LC} {v : Lv} (h : Lev w B l v) (k : Nat) : Lev (w.drewN k) B l v := ⟨h.e1, h.e2, h.e3, h.m1, h.m2, h.m3, h.s1, h.s2, h.s3⟩

/-- Rows of levels. -/
inductive Levs (w : World) (B : Nat) : List LC → List Lv → Prop
  | nil : Levs w B [] []
  | cons {l : LC} {v : Lv} {ls : List LC} {vs : List Lv} : Lev w B l v → Levs w B ls vs → Levs w B (l :: ls) (v :: vs)
theorem Levs.kept {w w' : World} {B : Nat} {ls : List LC} {vs : List Lv} (h : Levs w B ls vs) (hb : Below B w w') : Levs w' B ls vs := by
  induction h with
  | nil => exact .nil
  | cons h _ ih => exact .cons (h.below hb) ih
theorem Levs.more {w : World} {B B' : Nat} {ls : List LC} {vs : List Lv} (h : Levs w B ls vs) (hB : B ≤ B') : Levs w B' ls vs := by
  induction h with
  | nil => exact .nil
  | cons h _ ih => exact .cons (h.more hB) ih
theorem Levs.length {w : World} {B : Nat} {ls : List LC} {vs : List Lv} (h : Levs w B ls vs) : ls.length = vs.length := by
  induction h with
  | nil => rfl
  | cons h _ ih => simp [ih]
theorem Levs.get {w : World} {B : Nat} {ls : List LC} {vs : List Lv} (h : Levs w B ls vs) : ∀ (i : Nat) (v : Lv), vs[i]? = some v → ∃ l, ls[i]? = some l ∧ Lev w B l v := by
  induction h with
  | nil => intro i v hv; simp at hv
  | cons h _ ih =>
    intro i v hv
    cases i with
    | zero => simp at hv; subst hv; exact ⟨_, rfl, h⟩
    | succ i => simpa using ih i v (by simpa using hv)
theorem Levs.app {w : World} {B : Nat} {ls ls' : List LC} {vs vs' : List Lv} (h : Levs w B ls vs) (h' : Levs w B ls' vs') : Levs w B (ls ++ ls') (vs ++ vs') := by
  induction h with
  | nil => exact h'
  | cons h _ ih => exact .cons h ih
theorem Levs.take {w : World} {B : Nat} {ls : List LC} {vs : List Lv} (h : Levs w B ls vs) : ∀ k, Levs w B (ls.take k) (vs.take k) := by
  induction h with
  | nil => intro k; simpa using .nil
  | cons h _ ih =>
    intro k
    cases k with
    | zero => exact .nil
    | succ k => exact .cons h (ih k)

/-- A value that reads as a list of levels. -/
def IsLs (w : World) (v : Value) (vs : List Lv) : Prop :=
  ∃ A c ls, v = .slice A vs.length c ∧ vs.length ≤ c ∧ Sees w w.heap.size A (ls.flatMap lvC) ∧ Levs w w.heap.size ls vs
theorem IsLs.below {w w' : World} {v : Value} {vs : List Lv} (h : IsLs w v vs) (hb : Below w.heap.size w w') : IsLs w' v vs := by
  obtain ⟨A, c, ls, rfl, hc, hs, hl⟩ := h
  exact ⟨A, c, ls, rfl, hc, (hs.below hb).more hb.size, (hl.kept hb).more hb.size⟩
theorem IsLs.nil (w : World) : IsLs w (.slice none 0 0) [] := ⟨none, 0, [], rfl, Nat.le_refl _, .nil, .nil⟩

/-- A call that returns a row of its own. -/
def IsRowOf (E size n : Nat) (xs : List Value) (w : World) (e : Ending) (w' : World) : Prop :=
  ∃ v, e = .returned v ∧ w'.ownsRow w.heap.size E size v n xs ∧ Below w.heap.size w w'
theorem own_none (w : World) (E size : Nat) : (w.alloc (.cells #[] E)).ownsRow w.heap.size E size (.slice (some ⟨w.heap.size, 0, none⟩) 0 0) 0 [] :=
  ⟨by simp, .inr ⟨w.heap.size, 0, #[], rfl, Nat.le_refl _, heap_alloc_new w _, Nat.le_refl _, Nat.zero_le _, by simp, by simp⟩⟩

/-- A level's three cells lie from g, off on, and can be written. -/
structure LevAt (w : World) (g off : Nat) (l : LC) : Prop where
  c1 : w.cell? ⟨g, off, none⟩ = some (.slice l.A1 l.n1 l.c1)
  c2 : w.cell? ⟨g, off + 1, none⟩ = some (.slice l.A2 l.n2 l.c2)
  c3 : w.cell? ⟨g, off + 2, none⟩ = some (.slice l.A3 l.n3 l.c3)
  f1 : w.frozen? ⟨g, off, none⟩ = false
  f2 : w.frozen? ⟨g, off + 1, none⟩ = false
  f3 : w.frozen? ⟨g, off + 2, none⟩ = false
end Go.Proofs.Ytiomfncbhbokpaa
