/- Read, Put and Keep at whatever levels, in the program and in the reference. -/
import Derived.Test.YtiomfncbhbokpaaRKeep
import Derived.Test.YtiomfncbhbokpaaSame
import Derived.Test.YtiomfncbhbokpaaRFind
namespace Go.Proofs.Ytiomfncbhbokpaa
open Go.RowKit
set_option linter.unusedVariables false

def onLast (f : Lv → Lv) (ls : List Lv) : List Lv := if ls.length = 0 then [] else ls.dropLast ++ [f (lastD ls)]
theorem onLast_snoc (f : Lv → Lv) (init : List Lv) (v0 : Lv) : onLast f (init ++ [v0]) = init ++ [f v0] := by
  unfold onLast lastD
  rw [if_neg (by simp)]
  simp
theorem ls_snoc (ls : List Lv) : ls = [] ∨ ∃ init v0, ls = init ++ [v0] := by
  rcases List.eq_nil_or_concat ls with h | ⟨i, f, h⟩
  · exact .inl h
  · exact .inr ⟨i, f, by rw [h, List.concat_eq_append]⟩
theorem onLast_all {f : Lv → Lv} {ls : List Lv} {p : Lv → Prop} (h : ∀ x ∈ ls, p x) (hf : ∀ x, p x → p (f x)) : ∀ x ∈ onLast f ls, p x := by
  rcases ls_snoc ls with rfl | ⟨init, v0, rfl⟩
  · intro x hx; cases hx
  · rw [onLast_snoc]
    intro x hx
    rcases List.mem_append.1 hx with hx | hx
    · exact h x (by simp [hx])
    · obtain rfl := List.mem_singleton.1 hx
      exact hf v0 (h v0 (by simp))
theorem onLast_length (f : Lv → Lv) (ls : List Lv) : (onLast f ls).length = ls.length := by
  rcases ls_snoc ls with rfl | ⟨init, v0, rfl⟩
  · rfl
  · rw [onLast_snoc]; simp
theorem retLs_same {v : Value} {w : World} {e : Ending} {w' : World} (h : IsLs w v []) (h2 : SameBelow v w e w') : RetLs [] w e w' := ⟨v, h2.1, h.below h2.2, h2.2⟩
set_option maxRecDepth 100000 in
theorem rread_none (v : Value) (s : Seen) (w : World) (h : IsLs w v []) : Calls Try.prog 21 #[v, .agg #[.int .i64 s.loc, .int .i64 s.ver, .int .i64 s.val]] w (SameBelow v w) := by
  obtain ⟨A, c, lcs, rfl, -⟩ := h
  go_enter Try.func21, Try.ntmps21
  go_wp2
  go_ret
  exact ⟨rfl, (Below.refl _ _).alloc (Nat.le_refl _) _⟩
set_option maxRecDepth 100000 in
theorem rput_none (v : Value) (s : Wr) (w : World) (h : IsLs w v []) : Calls Try.prog 22 #[v, .agg #[.int .i64 s.loc, .int .i64 s.val]] w (SameBelow v w) := by
  obtain ⟨A, c, lcs, rfl, -⟩ := h
  go_enter Try.func22, Try.ntmps22
  go_wp2
  go_ret
  exact ⟨rfl, (Below.refl _ _).alloc (Nat.le_refl _) _⟩
set_option maxRecDepth 100000 in
theorem rkeep_none (v : Value) (s : Und) (w : World) (h : IsLs w v []) : Calls Try.prog 24 #[v, .agg #[.int .i64 s.kind, .int .i64 s.n, .int .i64 s.m, .slice s.A s.len s.cap, .int .i64 s.lock]] w (SameBelow v w) := by
  obtain ⟨A, c, lcs, rfl, -⟩ := h
  go_enter Try.func24, Try.ntmps24
  go_wp2
  go_ret
  exact ⟨rfl, (Below.refl _ _).alloc (Nat.le_refl _) _⟩
section
variable (v : Value) (ls : List Lv) (w : World) (h : IsLs w v ls) (hm : ls.length ≤ 1000) (hs : ∀ x ∈ ls, SmallV 40000 x)
include h hm hs
theorem nread_ls (s : Seen) : Calls Try.prog 13 #[v, .agg #[.int .i64 s.loc, .int .i64 s.ver, .int .i64 s.val]] w (RetLs (onLast (addR s) ls) w) := by
  rcases ls_snoc ls with rfl | ⟨init, v0, rfl⟩
  · exact (nread_none v s w h).mono fun e w' h2 => retLs_same h h2
  · rw [onLast_snoc]
    exact nread_any v init v0 s w h (by simp at hm; omega) (by have := (hs v0 (by simp)).1; omega)
theorem rread_ls (s : Seen) : Calls Try.prog 21 #[v, .agg #[.int .i64 s.loc, .int .i64 s.ver, .int .i64 s.val]] w (RetLs (onLast (addR s) ls) w) := by
  rcases ls_snoc ls with rfl | ⟨init, v0, rfl⟩
  · exact (rread_none v s w h).mono fun e w' h2 => retLs_same h h2
  · rw [onLast_snoc]
    exact rread_any v init v0 s w h (by simp at hm; omega) (by have := (hs v0 (by simp)).1; omega)
theorem nput_ls (s : Wr) : Calls Try.prog 14 #[v, .agg #[.int .i64 s.loc, .int .i64 s.val]] w (RetLs (onLast (addW s) ls) w) := by
  rcases ls_snoc ls with rfl | ⟨init, v0, rfl⟩
  · exact (nput_none v s w h).mono fun e w' h2 => retLs_same h h2
  · rw [onLast_snoc]
    exact nput_any v init v0 s w h (by simp at hm; omega) (by have := (hs v0 (by simp)).2.1; omega)
theorem rput_ls (s : Wr) : Calls Try.prog 22 #[v, .agg #[.int .i64 s.loc, .int .i64 s.val]] w (RetLs (onLast (addW s) ls) w) := by
  rcases ls_snoc ls with rfl | ⟨init, v0, rfl⟩
  · exact (rput_none v s w h).mono fun e w' h2 => retLs_same h h2
  · rw [onLast_snoc]
    exact rput_any v init v0 s w h (by simp at hm; omega) (by have := (hs v0 (by simp)).2.1; omega)
theorem nkeep_ls (s : Und) : Calls Try.prog 23 #[v, .agg #[.int .i64 s.kind, .int .i64 s.n, .int .i64 s.m, .slice s.A s.len s.cap, .int .i64 s.lock]] w (RetLs (onLast (addU s) ls) w) := by
  rcases ls_snoc ls with rfl | ⟨init, v0, rfl⟩
  · exact (nkeep_none v s w h).mono fun e w' h2 => retLs_same h h2
  · rw [onLast_snoc]
    exact nkeep_any v init v0 s w h (by simp at hm; omega) (by have := (hs v0 (by simp)).2.2; omega)
theorem rkeep_ls (s : Und) : Calls Try.prog 24 #[v, .agg #[.int .i64 s.kind, .int .i64 s.n, .int .i64 s.m, .slice s.A s.len s.cap, .int .i64 s.lock]] w (RetLs (onLast (addU s) ls) w) := by
  rcases ls_snoc ls with rfl | ⟨init, v0, rfl⟩
  · exact (rkeep_none v s w h).mono fun e w' h2 => retLs_same h h2
  · rw [onLast_snoc]
    exact rkeep_any v init v0 s w h (by simp at hm; omega) (by have := (hs v0 (by simp)).2.2; omega)
end
theorem addR_small {k : Nat} (s : Seen) {v : Lv} (h : SmallV k v) : SmallV (k + 1) (addR s v) := ⟨by have := readL_le v.reads s; have := h.1; show (readL v.reads s).length ≤ _; omega, by have := h.2.1; show v.writes.length ≤ _; omega, by have := h.2.2; show v.undo.length ≤ _; omega⟩
theorem addW_small {k : Nat} (s : Wr) {v : Lv} (h : SmallV k v) : SmallV (k + 1) (addW s v) := ⟨by have := h.1; show v.reads.length ≤ _; omega, by have := putW_le v.writes s; have := h.2.1; show (putW v.writes s).length ≤ _; omega, by have := h.2.2; show v.undo.length ≤ _; omega⟩
theorem addU_small {k : Nat} (s : Und) {v : Lv} (h : SmallV k v) : SmallV (k + 1) (addU s v) := ⟨by have := h.1; show v.reads.length ≤ _; omega, by have := h.2.1; show v.writes.length ≤ _; omega, by have := h.2.2; show (v.undo ++ [s]).length ≤ _; rw [List.length_append]; simp; omega⟩
theorem onLast_small {f : Lv → Lv} {ls : List Lv} {k : Nat} (h : ∀ x ∈ ls, SmallV k x) (hf : ∀ x, SmallV k x → SmallV (k + 1) (f x)) : ∀ x ∈ onLast f ls, SmallV (k + 1) x := by
  rcases ls_snoc ls with rfl | ⟨init, v0, rfl⟩
  · intro x hx; cases hx
  · rw [onLast_snoc]
    intro x hx
    rcases List.mem_append.1 hx with hx | hx
    · exact (h x (by simp [hx])).up (by omega)
    · obtain rfl := List.mem_singleton.1 hx
      exact hf v0 (h v0 (by simp))
/-- Every level's compensations are trees. -/
def TreesL (w : World) (ls : List Lv) : Prop := ∀ x ∈ ls, Trees w x.undo
theorem TreesL.below {w w' : World} {ls : List Lv} (h : TreesL w ls) (hb : Below w.heap.size w w') : TreesL w' ls := fun x hx => (h x hx).below hb
theorem TreesL.begin {w : World} {ls : List Lv} (h : TreesL w ls) : TreesL w (ls ++ [zeroLv]) := fun x hx => by
  rcases List.mem_append.1 hx with hx | hx
  · exact h x hx
  · obtain rfl := List.mem_singleton.1 hx
    intro u hu
    cases hu
theorem TreesL.keep {w : World} {ls : List Lv} (h : TreesL w ls) (lock : Int) : TreesL w (onLast (addU ⟨0, 0, 0, none, 0, 0, lock⟩) ls) := onLast_all h fun x hx u hu => by
  rcases List.mem_append.1 (show u ∈ x.undo ++ [⟨0, 0, 0, none, 0, 0, lock⟩] from hu) with hu | hu
  · exact hx u hu
  · obtain rfl := List.mem_singleton.1 hu
    exact ⟨0, Nat.zero_le _, rfl⟩
end Go.Proofs.Ytiomfncbhbokpaa
