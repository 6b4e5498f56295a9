/- The plain law of NestModel: what the levels say at four locations, and a model's copies of it. No program is in sight. -/
import Derived.Test.YtiomfncbhbokpaaTSide
namespace Go.Proofs.Ytiomfncbhbokpaa
open Go.RowKit
set_option linter.unusedVariables false

def wVal : Option Wr → Int
  | some x => x.val
  | none => 0
def hitL (ls : List Lv) (k : Int) : Option Wr := ls.reverse.findSome? (wHit k)
theorem hitL_snoc (init : List Lv) (x : Lv) (k : Int) : hitL (init ++ [x]) k = (wHit k x).or (hitL init k) := find_rev (wHit k) init x
/-- What stands written at each of the four locations. -/
def rowV (ls : List Lv) : List Int := [wVal (hitL ls 0), wVal (hitL ls 1), wVal (hitL ls 2), wVal (hitL ls 3)]
theorem rowV_len (ls : List Lv) : (rowV ls).length = 4 := rfl
theorem rowV_get (ls : List Lv) (k : Nat) (hk : k < 4) : (rowV ls)[k]? = some (wVal (hitL ls k)) := by
  rcases (by omega : k = 0 ∨ k = 1 ∨ k = 2 ∨ k = 3) with rfl | rfl | rfl | rfl <;> rfl
theorem rowV_ext {a b : List Lv} (h : ∀ k, hitL a k = hitL b k) : rowV a = rowV b := by unfold rowV; rw [h, h, h, h]
/-- The copies: one a level. -/
def copiesL (ls : List Lv) : List (List Int) := (List.range ls.length).map fun j => rowV (ls.take (j + 1))
theorem copiesL_length (ls : List Lv) : (copiesL ls).length = ls.length := by simp [copiesL]
theorem copiesL_snoc (init : List Lv) (f : Lv) : copiesL (init ++ [f]) = copiesL init ++ [rowV (init ++ [f])] := by
  unfold copiesL
  rw [List.length_append, List.length_singleton, List.range_succ, List.map_append, List.map_singleton]
  congr 1
  · refine List.map_congr_left fun j hj => ?_
    have := List.mem_range.1 hj
    rw [List.take_append_of_le_length (by omega)]
  · rw [List.take_of_length_le (by simp)]
theorem row_begin (ls : List Lv) : rowV (ls ++ [zeroLv]) = rowV ls := rowV_ext fun k => by rw [hitL_snoc]; rfl
theorem row_end (init : List Lv) (v0 f : Lv) (h : OnceW f.writes) : rowV (init ++ [joinL v0 f]) = rowV ((init ++ [v0]) ++ [f]) := rowV_ext fun k => by rw [hitL_snoc, hitL_snoc, hitL_snoc, wHit_join h, Option.or_assoc]
theorem row_drop (init : List Lv) (v0 f : Lv) : rowV (init ++ [joinR v0 f]) = rowV (init ++ [v0]) := rowV_ext fun k => by rw [hitL_snoc, hitL_snoc]; rfl
theorem hit_put (init : List Lv) (v0 : Lv) (x : Wr) (k : Int) : hitL (init ++ [addW x v0]) k = if x.loc = k then some x else hitL (init ++ [v0]) k := by
  rw [hitL_snoc, hitL_snoc]
  have : wHit k (addW x v0) = if x.loc == k then some x else wHit k v0 := wLook_put v0.writes x k
  rw [this]
  by_cases h : x.loc = k
  · simp [h]
  · simp [h]
theorem row_put (init : List Lv) (v0 : Lv) (loc : Nat) (val : Int) (hl : loc < 4) : rowV (init ++ [addW ⟨loc, val⟩ v0]) = (rowV (init ++ [v0])).set loc val := by
  unfold rowV
  rw [hit_put, hit_put, hit_put, hit_put]
  rcases (by omega : loc = 0 ∨ loc = 1 ∨ loc = 2 ∨ loc = 3) with rfl | rfl | rfl | rfl <;> simp [wVal]

/-- Levels as NestModel makes them, with m writes at most. -/
def sumW (ls : List Lv) : Nat := (ls.map fun v => v.writes.length).sum
structure Made (m : Nat) (ls : List Lv) : Prop where
  reads : ∀ v ∈ ls, v.reads = []
  undo : ∀ v ∈ ls, v.undo = []
  once : ∀ v ∈ ls, OnceW v.writes
  vals : ∀ v ∈ ls, ∀ x ∈ v.writes, x.val ≠ 0
  sum : sumW ls ≤ m
theorem sumW_snoc (init : List Lv) (x : Lv) : sumW (init ++ [x]) = sumW init + x.writes.length := by simp [sumW]
theorem sumW_mem {ls : List Lv} {v : Lv} (h : v ∈ ls) : v.writes.length ≤ sumW ls := by
  induction ls with
  | nil => cases h
  | cons y r ih =>
    have e : sumW (y :: r) = y.writes.length + sumW r := by simp [sumW]
    rw [e]
    rcases List.mem_cons.1 h with rfl | h
    · omega
    · have := ih h; omega
theorem Made.small {m : Nat} {ls : List Lv} (h : Made m ls) : ∀ v ∈ ls, SmallV m v := fun v hv =>
  ⟨by rw [h.reads v hv]; exact Nat.zero_le _, Nat.le_trans (sumW_mem hv) h.sum, by rw [h.undo v hv]; exact Nat.zero_le _⟩
theorem Made.up {m m' : Nat} {ls : List Lv} (h : Made m ls) (hm : m ≤ m') : Made m' ls := ⟨h.reads, h.undo, h.once, h.vals, Nat.le_trans h.sum hm⟩
theorem made_one : Made 0 [zeroLv] := by
  refine ⟨?_, ?_, ?_, ?_, by decide⟩ <;> intro v hv <;> obtain rfl := List.mem_singleton.1 hv
  · rfl
  · rfl
  · exact List.Pairwise.nil
  · intro x hx; cases hx
theorem Made.part {m : Nat} {init r : List Lv} (h : Made m (init ++ r)) : Made m init := by
  refine ⟨fun v hv => h.reads v (by simp [hv]), fun v hv => h.undo v (by simp [hv]), fun v hv => h.once v (by simp [hv]), fun v hv => h.vals v (by simp [hv]), ?_⟩
  have := h.sum
  have e : sumW (init ++ r) = sumW init + sumW r := by simp [sumW]
  omega
theorem Made.snoc {m m' : Nat} {init : List Lv} {x : Lv} (h : Made m init) (h1 : x.reads = []) (h2 : x.undo = []) (h3 : OnceW x.writes) (h4 : ∀ y ∈ x.writes, y.val ≠ 0) (h5 : sumW init + x.writes.length ≤ m') : Made m' (init ++ [x]) := by
  refine ⟨fun v hv => ?_, fun v hv => ?_, fun v hv => ?_, fun v hv => ?_, by rw [sumW_snoc]; exact h5⟩ <;> rcases List.mem_append.1 hv with hv | hv
  · exact h.reads v hv
  · obtain rfl := List.mem_singleton.1 hv; exact h1
  · exact h.undo v hv
  · obtain rfl := List.mem_singleton.1 hv; exact h2
  · exact h.once v hv
  · obtain rfl := List.mem_singleton.1 hv; exact h3
  · exact h.vals v hv
  · obtain rfl := List.mem_singleton.1 hv; exact h4
theorem Made.begin {m : Nat} {ls : List Lv} (h : Made m ls) : Made m (ls ++ [zeroLv]) := h.snoc rfl rfl List.Pairwise.nil (fun y hy => by cases hy) (by have := h.sum; simpa [zeroLv] using this)
theorem vals_puts (f : List Wr) : ∀ {ws : List Wr}, (∀ x ∈ ws, x.val ≠ 0) → (∀ x ∈ f, x.val ≠ 0) → ∀ x ∈ f.foldl putW ws, x.val ≠ 0 := by
  induction f with
  | nil => intro ws h _; exact h
  | cons y r ih =>
    intro ws h1 h2
    rw [List.foldl_cons]
    refine ih (fun x hx => ?_) (fun x hx => h2 x (List.mem_cons_of_mem _ hx))
    rcases mem_putW hx with rfl | hx
    · exact h2 _ List.mem_cons_self
    · exact h1 x hx
theorem Made.fin {m : Nat} {init : List Lv} {v0 f : Lv} (h : Made m ((init ++ [v0]) ++ [f])) : Made m (init ++ [joinL v0 f]) := by
  have hs := h.sum
  rw [sumW_snoc, sumW_snoc] at hs
  have hf : f ∈ (init ++ [v0]) ++ [f] := by simp
  have h0 : v0 ∈ (init ++ [v0]) ++ [f] := by simp
  refine h.part.part.snoc ?_ ?_ ?_ ?_ ?_
  · show f.reads.foldl readL v0.reads = []
    rw [h.reads f hf, h.reads v0 h0]; rfl
  · show v0.undo ++ f.undo = []
    rw [h.undo f hf, h.undo v0 h0]; rfl
  · exact once_puts _ (h.once v0 h0)
  · exact vals_puts _ (h.vals v0 h0) (h.vals f hf)
  · have := putsW_le f.writes v0.writes
    show _ + (f.writes.foldl putW v0.writes).length ≤ _
    omega
theorem Made.drop {m : Nat} {init : List Lv} {v0 f : Lv} (h : Made m ((init ++ [v0]) ++ [f])) : Made m (init ++ [joinR v0 f]) := by
  have hs := h.sum
  rw [sumW_snoc, sumW_snoc] at hs
  have hf : f ∈ (init ++ [v0]) ++ [f] := by simp
  have h0 : v0 ∈ (init ++ [v0]) ++ [f] := by simp
  refine h.part.part.snoc ?_ (h.undo v0 h0) (h.once v0 h0) (h.vals v0 h0) ?_
  · show f.reads.foldl readL v0.reads = []
    rw [h.reads f hf, h.reads v0 h0]; rfl
  · show _ + v0.writes.length ≤ _
    omega
theorem Made.put {m : Nat} {init : List Lv} {v0 : Lv} {x : Wr} (h : Made m (init ++ [v0])) (hx : x.val ≠ 0) : Made (m + 1) (init ++ [addW x v0]) := by
  have hs := h.sum
  rw [sumW_snoc] at hs
  have h0 : v0 ∈ init ++ [v0] := by simp
  refine h.part.snoc (h.reads v0 h0) (h.undo v0 h0) (once_put (h.once v0 h0) x) (fun y hy => ?_) ?_
  · rcases mem_putW hy with rfl | hy
    · exact hx
    · exact h.vals v0 h0 y hy
  · have := putW_le v0.writes x
    show _ + (putW v0.writes x).length ≤ _
    omega
theorem findSome_none {α β : Type} {f : α → Option β} : ∀ {xs : List α}, (∀ x ∈ xs, f x = none) → xs.findSome? f = none
  | [], _ => rfl
  | x :: r, h => by rw [List.findSome?_cons, h x List.mem_cons_self]; exact findSome_none fun y hy => h y (List.mem_cons_of_mem _ hy)
theorem look_mem0 {k : Int} {v : Lv} {y : Wr} (h : wHit k v = some y) : y ∈ v.writes := List.mem_of_find?_eq_some h
/-- What a lookup answers. -/
theorem Made.find {m : Nat} {ls : List Lv} (h : Made m ls) (k : Int) : ∃ v how, findL ls k = (v, 0, how) ∧ v = wVal (hitL ls k) ∧ ((how = 1 ∧ v ≠ 0) ∨ (how = 0 ∧ v = 0)) := by
  cases hh : hitL ls k with
  | some y =>
    refine ⟨y.val, 1, findL_w hh, rfl, .inl ⟨rfl, ?_⟩⟩
    obtain ⟨v, hv, he⟩ := List.exists_of_findSome?_eq_some hh
    exact h.vals v (List.mem_reverse.1 hv) y (look_mem0 he)
  | none =>
    refine ⟨0, 0, findL_n hh (findSome_none fun v hv => ?_), rfl, .inr ⟨rfl, rfl⟩⟩
    unfold rHit
    rw [h.reads v (List.mem_reverse.1 hv)]
    rfl

/-! ### the copies as cells -/
def rowC (r : List Int) : List Value := r.map (Value.int .i64)
theorem copies_len {ls : List Lv} : ∀ r ∈ copiesL ls, r.length = 4 := fun r hr => by
  obtain ⟨j, _, rfl⟩ := List.mem_map.1 hr
  rfl
theorem rows_length : ∀ {rs : List (List Int)}, (∀ r ∈ rs, r.length = 4) → (rs.flatMap rowC).length = rs.length * 4
  | [], _ => rfl
  | r :: rs, h => by
    rw [List.flatMap_cons, List.length_append, rows_length fun x hx => h x (List.mem_cons_of_mem _ hx), List.length_cons, Nat.add_mul]
    have := h r List.mem_cons_self
    simp [rowC, this]
    omega
theorem rows_get : ∀ {rs : List (List Int)}, (∀ r ∈ rs, r.length = 4) → ∀ {i j : Nat} {r : List Int} {z : Int}, rs[i]? = some r → r[j]? = some z → (rs.flatMap rowC)[i * 4 + j]? = some (.int .i64 z)
  | [], _, i, j, r, z, hi, _ => by simp at hi
  | x :: rs, h, 0, j, r, z, hi, hj => by
    simp at hi
    subst hi
    have hx : (rowC x).length = 4 := by have := h x List.mem_cons_self; simp [rowC, this]
    have hj4 : j < x.length := (List.getElem?_eq_some_iff.1 hj).1
    rw [List.flatMap_cons, Nat.zero_mul, Nat.zero_add, List.getElem?_append_left (by have := h x List.mem_cons_self; omega)]
    unfold rowC
    rw [List.getElem?_map, hj]; rfl
  | x :: rs, h, i + 1, j, r, z, hi, hj => by
    have hx : (rowC x).length = 4 := by have := h x List.mem_cons_self; simp [rowC, this]
    rw [List.flatMap_cons, List.getElem?_append_right (by rw [hx]; omega), hx, show (i + 1) * 4 + j - 4 = i * 4 + j by omega]
    exact rows_get (fun y hy => h y (List.mem_cons_of_mem _ hy)) (by simpa using hi) hj
/-- One cell turned. -/
theorem rows_set1 (init : List (List Int)) (r : List Int) (h : ∀ x ∈ init, x.length = 4) (N j : Nat) (hN : init.length = N) (z : Int) : (((init ++ [r]).flatMap rowC).set (N * 4 + j) (.int .i64 z)) = (init ++ [r.set j z]).flatMap rowC := by
  rw [List.flatMap_append, List.flatMap_append, List.set_append_right _ _ (by rw [rows_length h, hN]; omega), rows_length h, hN, Nat.add_sub_cancel_left]
  simp [rowC, List.map_set]
theorem set4 (a : Value) (b : Value) (c : Value) (d : Value) (p q r s : Value) : ((([p, q, r, s].set 0 a).set 1 b).set 2 c).set 3 d = [a, b, c, d] := rfl
theorem own_upto {w : World} {base e size n n' g c : Nat} {xs : List Value} (h : w.ownsRow base e size (.slice (some ⟨g, 0, none⟩) n c) n xs) (hn : n' ≤ n) : w.ownsRow base e size (.slice (some ⟨g, 0, none⟩) n' c) n' (xs.take (n' * size)) := by
  obtain ⟨hl, ⟨h1, _⟩ | ⟨g', cap, cur, h1, hb, hh, hc, hm, hs, ht⟩⟩ := h
  · cases h1
  · have hg : g = g' := by injection h1 with h1; injection h1 with h1; injection h1
    have hcap : c = cap := by injection h1
    subst hg hcap
    have hle : n' * size ≤ n * size := Nat.mul_le_mul_right _ hn
    refine ⟨by rw [List.length_take, hl]; omega, .inr ⟨g, c, cur, rfl, hb, hh, by omega, hm, hs, ?_⟩⟩
    rw [← ht, List.take_take, Nat.min_eq_left hle]
/-- The law's own row of copies. -/
def Own (w0 : Nat) (w : World) (cp : Value) (ls : List Lv) (N : Nat) : Prop := w.ownsRow w0 42 4 cp (N + 1) ((copiesL ls).flatMap rowC)
section
variable {w0 N g c : Nat} {w w' : World} {cp : Value} {ls : List Lv}
theorem Own.row (h : Own w0 w cp ls N) : w.ownsRow w0 42 4 cp (N + 1) ((copiesL ls).flatMap rowC) := h
theorem Own.below (h : Own w0 w cp ls N) (hb : Below w.heap.size w w') : Own w0 w' cp ls N := own_below h.row hb
theorem Own.form (h : Own w0 w cp ls N) : ∃ g c, cp = .slice (some ⟨g, 0, none⟩) (N + 1) c ∧ N + 1 ≤ c ∧ w0 ≤ g ∧ g < w.heap.size := by
  rcases h.2 with ⟨_, h0⟩ | ⟨g, cap, cur, h1, h2, h3, h4, _⟩
  · omega
  · exact ⟨g, cap, h1, h4, h2, (Array.getElem?_eq_some_iff.1 h3).1⟩
theorem Own.has (h : Own w0 w (.slice (some ⟨g, 0, none⟩) (N + 1) c) ls N) (j : Nat) (hj : j < (N + 1) * 4) : ∃ u, w.cell? ⟨g, j, none⟩ = some u := by
  rw [h.row.cellAt j hj]
  exact ⟨_, List.getElem?_eq_getElem (by rw [h.row.1]; exact hj)⟩
theorem Own.free (h : Own w0 w (.slice (some ⟨g, 0, none⟩) (N + 1) c) ls N) (j : Nat) : w.frozen? ⟨g, j, none⟩ = false := h.row.frozenAt j
end
section
variable {w0 N NN g c : Nat} {w : World} {init : List Lv} {f v0 : Lv}
/-- The last copy's four cells. -/
theorem Own.last (h : Own w0 w (.slice (some ⟨g, 0, none⟩) (N + 1) c) (init ++ [f]) N) (hN : init.length = N) (j : Nat) (hj : j < 4) :
    w.cell? ⟨g, N * 4 + j, none⟩ = some (.int .i64 (wVal (hitL (init ++ [f]) j))) := by
  rw [h.row.cellAt (N * 4 + j) (by omega)]
  refine rows_get copies_len ?_ (rowV_get (init ++ [f]) j hj)
  rw [copiesL_snoc, List.getElem?_append_right (by rw [copiesL_length]; omega), copiesL_length, hN, Nat.sub_self]
  rfl
theorem copies_upto (hN : init.length = NN) : ((copiesL ((init ++ [v0]) ++ [f])).flatMap rowC).take ((NN + 1) * 4) = (copiesL init ++ [rowV (init ++ [v0])]).flatMap rowC := by
  rw [copiesL_snoc, List.flatMap_append, List.take_append_of_le_length, copiesL_snoc, List.take_of_length_le]
  · rw [← copiesL_snoc, rows_length copies_len, copiesL_length]; simp [hN]
  · rw [rows_length copies_len, copiesL_length]; simp [hN]
theorem Own.put (h : Own w0 w (.slice (some ⟨g, 0, none⟩) (N + 1) c) (init ++ [f]) N) (hN : init.length = N) (loc : Nat) (val : Int) (hl : loc < 4) :
    Own w0 (w.setCell ⟨g, N * 4 + loc, none⟩ (.int .i64 val)) (.slice (some ⟨g, 0, none⟩) (N + 1) c) (init ++ [addW ⟨loc, val⟩ f]) N := by
  have h1 := (h.row.stored (N * 4 + loc) (.int .i64 val)).1
  rw [copiesL_snoc, rows_set1 (copiesL init) _ copies_len N loc (by rw [copiesL_length, hN]) val] at h1
  unfold Own
  rw [copiesL_snoc, row_put init f loc val hl]
  exact h1
theorem Own.drop (h : Own w0 w (.slice (some ⟨g, 0, none⟩) (N + 1) c) ((init ++ [v0]) ++ [f]) N) (hNN : N = NN + 1) (hN : init.length = NN) :
    Own w0 w (.slice (some ⟨g, 0, none⟩) (NN + 1) c) (init ++ [joinR v0 f]) NN := by
  have h1 := own_upto h.row (n' := NN + 1) (by omega)
  rw [copies_upto hN] at h1
  unfold Own
  rw [copiesL_snoc, row_drop]
  exact h1
theorem Own.fin (h : Own w0 w (.slice (some ⟨g, 0, none⟩) (N + 1) c) ((init ++ [v0]) ++ [f]) N) (hNN : N = NN + 1) (hN : init.length = NN) (ho : OnceW f.writes) {r0 r1 r2 r3 : Int} (hr : rowV ((init ++ [v0]) ++ [f]) = [r0, r1, r2, r3]) :
    Own w0 ((((w.setCell ⟨g, NN * 4, none⟩ (.int .i64 r0)).setCell ⟨g, NN * 4 + 1, none⟩ (.int .i64 r1)).setCell ⟨g, NN * 4 + 2, none⟩ (.int .i64 r2)).setCell ⟨g, NN * 4 + 3, none⟩ (.int .i64 r3)) (.slice (some ⟨g, 0, none⟩) (NN + 1) c) (init ++ [joinL v0 f]) NN := by
  have h1 := own_upto h.row (n' := NN + 1) (by omega)
  rw [copies_upto hN] at h1
  have h2 := (h1.stored (NN * 4 + 0) (.int .i64 r0)).1
  rw [rows_set1 (copiesL init) _ copies_len NN 0 (by rw [copiesL_length, hN]) r0] at h2
  have h3 := (h2.stored (NN * 4 + 1) (.int .i64 r1)).1
  rw [rows_set1 (copiesL init) _ copies_len NN 1 (by rw [copiesL_length, hN]) r1] at h3
  have h4 := (h3.stored (NN * 4 + 2) (.int .i64 r2)).1
  rw [rows_set1 (copiesL init) _ copies_len NN 2 (by rw [copiesL_length, hN]) r2] at h4
  have h5 := (h4.stored (NN * 4 + 3) (.int .i64 r3)).1
  rw [rows_set1 (copiesL init) _ copies_len NN 3 (by rw [copiesL_length, hN]) r3] at h5
  unfold Own
  rw [copiesL_snoc, row_end init v0 f ho, hr]
  exact h5
theorem Own.begin {vb : Value} (ho : w.ownsRow w0 42 4 vb (N + 1 + 1) ((copiesL (init ++ [f])).flatMap rowC ++ rowC (rowV (init ++ [f])))) (hNN : NN = N + 1) : Own w0 w vb ((init ++ [f]) ++ [zeroLv]) NN := by
  subst hNN
  unfold Own
  rw [copiesL_snoc, row_begin, List.flatMap_append]
  simpa using ho
end
theorem IsLs.stored4 {w : World} {g c n w0 o1 o2 o3 o4 : Nat} {x u1 u2 u3 u4 : Value} {xs : List Value} {ls : List Lv} (h : IsLs w x ls) (ho : w.ownsRow w0 42 4 (.slice (some ⟨g, 0, none⟩) n c) n xs) :
    IsLs ((((w.setCell ⟨g, o1, none⟩ u1).setCell ⟨g, o2, none⟩ u2).setCell ⟨g, o3, none⟩ u3).setCell ⟨g, o4, none⟩ u4) x ls := by
  have p1 := (ho.stored o1 u1).1
  have p2 := (p1.stored o2 u2).1
  have p3 := (p2.stored o3 u3).1
  have i1 := h.stored (o := o1) (u := u1) ho (by decide)
  have i2 := i1.stored (o := o2) (u := u2) p1 (by decide)
  have i3 := i2.stored (o := o3) (u := u3) p2 (by decide)
  exact i3.stored (o := o4) (u := u4) p3 (by decide)
theorem below_stored4 {B : Nat} {a w : World} {g o1 o2 o3 o4 : Nat} {u1 u2 u3 u4 : Value} (h : Below B a w) (hg : B ≤ g) :
    Below B a ((((w.setCell ⟨g, o1, none⟩ u1).setCell ⟨g, o2, none⟩ u2).setCell ⟨g, o3, none⟩ u3).setCell ⟨g, o4, none⟩ u4) :=
  (((h.setCell (p := ⟨g, o1, none⟩) hg _).setCell (p := ⟨g, o2, none⟩) hg _).setCell (p := ⟨g, o3, none⟩) hg _).setCell (p := ⟨g, o4, none⟩) hg _
end Go.Proofs.Ytiomfncbhbokpaa
