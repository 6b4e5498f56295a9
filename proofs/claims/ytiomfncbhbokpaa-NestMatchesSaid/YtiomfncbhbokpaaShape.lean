/- End and Drop at whatever levels; what is small stays small; the combined reads. -/
import Derived.Test.YtiomfncbhbokpaaOpen
namespace Go.Proofs.Ytiomfncbhbokpaa
open Go.RowKit
set_option linter.unusedVariables false

theorem ls_cases (ls : List Lv) : ls = [] ∨ (∃ f, ls = [f]) ∨ ∃ init v0 f, ls = (init ++ [v0]) ++ [f] := by
  rcases List.eq_nil_or_concat ls with h | ⟨i, f, h⟩
  · exact .inl h
  · rw [List.concat_eq_append] at h
    rcases List.eq_nil_or_concat i with h2 | ⟨i2, v0, h2⟩
    · subst h2
      exact .inr (.inl ⟨f, h⟩)
    · rw [List.concat_eq_append] at h2
      subst h2
      exact .inr (.inr ⟨i2, v0, f, h⟩)
def lastD (ls : List Lv) : Lv := ls.getLast?.getD ⟨[], [], []⟩
def endL (ls : List Lv) : List Lv := if ls.length < 2 then ls else ls.dropLast.dropLast ++ [joinL (lastD ls.dropLast) (lastD ls)]
def dropL (ls : List Lv) : List Lv := if ls.length < 2 then ls.map (fun f => ⟨f.reads, [], []⟩) else ls.dropLast.dropLast ++ [joinR (lastD ls.dropLast) (lastD ls)]
def dropU (ls : List Lv) : List Und := (lastD ls).undo.reverse
theorem endL_many (init : List Lv) (v0 f : Lv) : endL ((init ++ [v0]) ++ [f]) = init ++ [joinL v0 f] := by
  unfold endL lastD
  rw [if_neg (by simp)]
  simp
theorem dropL_many (init : List Lv) (v0 f : Lv) : dropL ((init ++ [v0]) ++ [f]) = init ++ [joinR v0 f] := by
  unfold dropL lastD
  rw [if_neg (by simp)]
  simp
theorem dropU_many (init : List Lv) (f : Lv) : dropU (init ++ [f]) = f.undo.reverse := by
  unfold dropU lastD
  simp
theorem SmallV.up {k k' : Nat} {v : Lv} (h : SmallV k v) (hk : k ≤ k') : SmallV k' v := ⟨by have := h.1; omega, by have := h.2.1; omega, by have := h.2.2; omega⟩
theorem joinL_small {a b : Nat} {v f : Lv} (h1 : SmallV a v) (h2 : SmallV b f) : SmallV (a + b) (joinL v f) := by
  refine ⟨?_, ?_, ?_⟩
  · have := readsL_le f.reads v.reads; have := h1.1; have := h2.1; show (f.reads.foldl readL v.reads).length ≤ _; omega
  · have := putsW_le f.writes v.writes; have := h1.2.1; have := h2.2.1; show (f.writes.foldl putW v.writes).length ≤ _; omega
  · have := h1.2.2; have := h2.2.2; show (v.undo ++ f.undo).length ≤ _; rw [List.length_append]; omega
theorem joinR_small {a b : Nat} {v f : Lv} (h1 : SmallV a v) (h2 : SmallV b f) : SmallV (a + b) (joinR v f) := by
  refine ⟨?_, ?_, ?_⟩
  · have := readsL_le f.reads v.reads; have := h1.1; have := h2.1; show (f.reads.foldl readL v.reads).length ≤ _; omega
  · have := h1.2.1; show v.writes.length ≤ _; omega
  · have := h1.2.2; show v.undo.length ≤ _; omega
theorem joinRW_small {a b : Nat} {v f : Lv} (h1 : SmallV a v) (h2 : SmallV b f) : SmallV (a + b) (joinRW v f) := by
  refine ⟨?_, ?_, ?_⟩
  · have := readsL_le f.reads v.reads; have := h1.1; have := h2.1; show (f.reads.foldl readL v.reads).length ≤ _; omega
  · have := putsW_le f.writes v.writes; have := h1.2.1; have := h2.2.1; show (f.writes.foldl putW v.writes).length ≤ _; omega
  · have := h1.2.2; show v.undo.length ≤ _; omega
theorem endL_small {ls : List Lv} {k : Nat} (h : ∀ x ∈ ls, SmallV k x) : ∀ x ∈ endL ls, SmallV (k + k) x := by
  rcases ls_cases ls with rfl | ⟨f, rfl⟩ | ⟨init, v0, f, rfl⟩
  · intro x hx; cases hx
  · intro x hx; exact (h x hx).up (by omega)
  · rw [endL_many]
    intro x hx
    rcases List.mem_append.1 hx with hx | hx
    · exact (h x (by simp [hx])).up (by omega)
    · obtain rfl := List.mem_singleton.1 hx
      exact joinL_small (h v0 (by simp)) (h f (by simp))
theorem dropL_small {ls : List Lv} {k : Nat} (h : ∀ x ∈ ls, SmallV k x) : ∀ x ∈ dropL ls, SmallV (k + k) x := by
  rcases ls_cases ls with rfl | ⟨f, rfl⟩ | ⟨init, v0, f, rfl⟩
  · intro x hx; cases hx
  · intro x hx
    obtain rfl := List.mem_singleton.1 hx
    have := h f (by simp)
    exact ⟨by show f.reads.length ≤ _; have := this.1; omega, Nat.zero_le _, Nat.zero_le _⟩
  · rw [dropL_many]
    intro x hx
    rcases List.mem_append.1 hx with hx | hx
    · exact (h x (by simp [hx])).up (by omega)
    · obtain rfl := List.mem_singleton.1 hx
      exact joinR_small (h v0 (by simp)) (h f (by simp))
theorem endL_length (ls : List Lv) : (endL ls).length ≤ ls.length := by
  rcases ls_cases ls with rfl | ⟨f, rfl⟩ | ⟨init, v0, f, rfl⟩
  · exact Nat.le_refl _
  · exact Nat.le_refl _
  · rw [endL_many]; simp
theorem dropL_length (ls : List Lv) : (dropL ls).length ≤ ls.length := by
  rcases ls_cases ls with rfl | ⟨f, rfl⟩ | ⟨init, v0, f, rfl⟩
  · exact Nat.le_refl _
  · exact Nat.le_refl _
  · rw [dropL_many]; simp
theorem end_ls (v : Value) (ls : List Lv) (w : World) (h : IsLs w v ls) (hm : ls.length ≤ 1000) (hs : ∀ x ∈ ls, SmallV 40000 x) : Calls Try.prog 15 #[v] w (RetLs (endL ls) w) := by
  rcases ls_cases ls with rfl | ⟨f, rfl⟩ | ⟨init, v0, f, rfl⟩
  · exact (end_short v [] w h (by simp)).mono fun e w' ⟨h1, h2⟩ => ⟨v, h1, by rw [← h2]; exact h, by rw [← h2]; exact Below.refl _ _⟩
  · exact (end_short v [f] w h (by simp)).mono fun e w' ⟨h1, h2⟩ => ⟨v, h1, by rw [← h2]; exact h, by rw [← h2]; exact Below.refl _ _⟩
  · rw [endL_many]
    exact end_any v init v0 f w h (by simp at hm; omega) (hs v0 (by simp)) (hs f (by simp))
theorem drop_ls (v : Value) (ls : List Lv) (w : World) (h : IsLs w v ls) (hm : ls.length ≤ 1000) (hs : ∀ x ∈ ls, SmallV 40000 x) : Calls Try.prog 16 #[v] w (RetDrop (dropL ls) (dropU ls) w) := by
  rcases ls_cases ls with rfl | ⟨f, rfl⟩ | ⟨init, v0, f, rfl⟩
  · exact (drop_none v w h).mono fun e w' ⟨h1, h2⟩ => ⟨v, _, h1, by rw [← h2]; exact h, ⟨none, 0, rfl, Nat.le_refl _, .nil⟩, by rw [← h2]; exact Below.refl _ _⟩
  · exact drop_one v f w h (hs f (by simp))
  · rw [dropL_many, dropU_many]
    exact drop_many v init v0 f w h (by simp at hm; omega) (hs v0 (by simp)) (hs f (by simp))
theorem few_small {ls : List Lv} (h : fewL ls = true) : ls.length ≤ 12 ∧ ∀ x ∈ ls, SmallV 20 x := by
  unfold fewL at h
  rw [Bool.and_eq_true, List.all_eq_true] at h
  refine ⟨of_decide_eq_true h.1, fun x hx => ?_⟩
  have := h.2 x hx
  unfold okV at this
  simp only [Bool.and_eq_true, decide_eq_true_eq] at this
  exact ⟨this.1.1, this.1.2, this.2⟩
theorem fold_small {k : Nat} : ∀ {ls : List Lv} {a : Nat} {z : Lv}, SmallV a z → (∀ x ∈ ls, SmallV k x) → SmallV (a + ls.length * k) (ls.foldl joinRW z)
  | [], a, z, hz, _ => by simpa using hz
  | x :: r, a, z, hz, h => by
    have h1 := fold_small (ls := r) (joinRW_small hz (h x (by simp))) (fun y hy => h y (by simp [hy]))
    rw [List.foldl_cons]
    exact h1.up (by rw [List.length_cons, Nat.add_mul]; omega)
theorem all_small {ls : List Lv} {k : Nat} (hl : ls.length ≤ 12) (hk : k ≤ 100) (h : ∀ x ∈ ls, SmallV k x) : ∀ j, SmallV 40000 (allL (ls.take j)) := fun j => by
  have h1 := fold_small (a := 0) (z := zeroLv) (k := k) (ls := ls.take j) ⟨Nat.le_refl _, Nat.le_refl _, Nat.le_refl _⟩ (fun x hx => h x (List.mem_of_mem_take hx))
  refine SmallV.up h1 ?_
  have h2 : (ls.take j).length ≤ 12 := by rw [List.length_take]; omega
  have h3 := Nat.mul_le_mul h2 hk
  omega
theorem all_ls {k : Nat} (v : Value) (ls : List Lv) (w : World) (h : IsLs w v ls) (hl : ls.length ≤ 12) (hk : k ≤ 100) (hs : ∀ x ∈ ls, SmallV k x) : Calls Try.prog 27 #[v] w (RetAll (allL ls) w) :=
  all_any v ls w h (by omega) (all_small hl hk hs) (fun x hx => (hs x hx).up (by omega))

/-! ### the combined reads -/
def allR (ls : List Lv) : List Seen := ls.foldl (fun a v => v.reads.foldl readL a) []
theorem fold_reads (ls : List Lv) (z : Lv) : (ls.foldl joinRW z).reads = ls.foldl (fun a v => v.reads.foldl readL a) z.reads := by
  induction ls generalizing z with
  | nil => rfl
  | cons x r ih => rw [List.foldl_cons, List.foldl_cons, ih]; rfl
theorem allL_reads (ls : List Lv) : (allL ls).reads = allR ls := fold_reads ls zeroLv
theorem has_readL (rs : List Seen) (s : Seen) (l : Int) : hasL (readL rs s) l = (hasL rs l || s.loc == l) := by
  unfold readL
  split
  · rename_i h
    by_cases hs : (s.loc == l) = true
    · have e : s.loc = l := by simpa using hs
      rw [hs, Bool.or_true]
      unfold hasL
      rw [← e]; exact h
    · simp only [Bool.not_eq_true] at hs
      rw [hs, Bool.or_false]
  · unfold hasL
    simp
theorem has_readsL (more : List Seen) : ∀ (rs : List Seen) (l : Int), hasL (more.foldl readL rs) l = (hasL rs l || hasL more l) := by
  induction more with
  | nil => intro rs l; simp [hasL]
  | cons s r ih =>
    intro rs l
    rw [List.foldl_cons, ih, has_readL]
    simp only [hasL, List.any_cons, Bool.or_assoc]
theorem readL_hit {rs : List Seen} {s : Seen} (h : hasL rs s.loc = true) : readL rs s = rs := by
  unfold hasL at h
  unfold readL
  rw [if_pos h]
theorem readL_miss {rs : List Seen} {s : Seen} (h : hasL rs s.loc = false) : readL rs s = rs ++ [s] := by
  unfold readL
  rw [if_neg (by unfold hasL at h; rw [h]; simp)]
theorem readL_fold (v0 acc : List Seen) (s : Seen) : (readL v0 s).foldl readL acc = readL (v0.foldl readL acc) s := by
  cases h : hasL v0 s.loc with
  | true =>
    rw [readL_hit h, readL_hit]
    rw [has_readsL, h, Bool.or_true]
  | false => rw [readL_miss h, List.foldl_append]; rfl
/-- What was joined to an enclosing level adds to a row as if it had been added behind that level. -/
theorem reads_join (f : List Seen) : ∀ (v0 acc : List Seen), (f.foldl readL v0).foldl readL acc = f.foldl readL (v0.foldl readL acc) := by
  induction f with
  | nil => intro v0 acc; rfl
  | cons s r ih => intro v0 acc; rw [List.foldl_cons, ih, readL_fold]; rfl
theorem allR_app (a b : List Lv) : allR (a ++ b) = b.foldl (fun a v => v.reads.foldl readL a) (allR a) := by unfold allR; rw [List.foldl_append]
theorem allR_end (ls : List Lv) : allR (endL ls) = allR ls := by
  rcases ls_cases ls with rfl | ⟨f, rfl⟩ | ⟨init, v0, f, rfl⟩
  · rfl
  · rfl
  · rw [endL_many, allR_app, List.append_assoc, allR_app]
    exact reads_join f.reads v0.reads _
theorem allR_drop (ls : List Lv) : allR (dropL ls) = allR ls := by
  rcases ls_cases ls with rfl | ⟨f, rfl⟩ | ⟨init, v0, f, rfl⟩
  · rfl
  · rfl
  · rw [dropL_many, allR_app, List.append_assoc, allR_app]
    exact reads_join f.reads v0.reads _
theorem has_fold (ls : List Lv) (l : Int) : ∀ a : List Seen, hasL (ls.foldl (fun a v => v.reads.foldl readL a) a) l = (hasL a l || ls.any fun v => hasL v.reads l) := by
  induction ls with
  | nil => intro a; simp
  | cons x r ih => intro a; rw [List.foldl_cons, ih, has_readsL, List.any_cons, Bool.or_assoc]
theorem has_allR (ls : List Lv) (l : Int) : hasL (allR ls) l = ls.any fun v => hasL v.reads l := by
  unfold allR
  rw [has_fold]
  rfl
end Go.Proofs.Ytiomfncbhbokpaa
