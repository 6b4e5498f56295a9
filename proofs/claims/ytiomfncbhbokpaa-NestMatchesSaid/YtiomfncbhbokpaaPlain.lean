/- Plain laws on rows of writes and reads: what is found, what is sorted. No program is in sight. -/
import Derived.Test.YtiomfncbhbokpaaShape
namespace Go.Proofs.Ytiomfncbhbokpaa
open Go.RowKit
set_option linter.unusedVariables false

def hitsW (ws : List Wr) (l : Int) : Bool := ws.any fun y => y.loc == l
theorem hitW_lt (ws : List Wr) (l : Int) : hitW ws l < ws.length ↔ hitsW ws l = true := by
  unfold hitW hitsW
  rw [List.findIdx_lt_length, List.any_eq_true]
theorem hitW_cons (y : Wr) (r : List Wr) (l : Int) : hitW (y :: r) l = if y.loc == l then 0 else hitW r l + 1 := by
  unfold hitW
  rw [List.findIdx_cons]
  cases y.loc == l <;> rfl
theorem moreW_cons (y : Wr) (r : List Wr) (l : Int) : moreW (y :: r) l = if l < y.loc then 0 else moreW r l + 1 := by
  unfold moreW
  rw [List.findIdx_cons]
  by_cases h : l < y.loc
  · simp [h]
  · simp [h]
theorem putW_nil (x : Wr) : putW [] x = [x] := rfl
/-- putW, an element at a time. -/
theorem putW_cons (y : Wr) (r : List Wr) (x : Wr) : putW (y :: r) x = if y.loc == x.loc then x :: r else if hitsW r x.loc = false ∧ x.loc < y.loc then x :: y :: r else y :: putW r x := by
  unfold putW
  rw [hitW_cons, moreW_cons]
  by_cases h1 : (y.loc == x.loc) = true
  · rw [if_pos h1, if_pos h1, if_pos (by simp)]
    rfl
  · rw [if_neg h1, if_neg h1]
    cases h2 : hitsW r x.loc with
    | true =>
      have h3 := (hitW_lt r x.loc).2 h2
      rw [if_pos (by simpa using h3), if_neg (by simp), if_pos h3]
      rfl
    | false =>
      have h3 : ¬ hitW r x.loc < r.length := fun h => by rw [(hitW_lt r x.loc).1 h] at h2; cases h2
      rw [if_neg (by simpa using h3), if_neg h3]
      by_cases h4 : x.loc < y.loc
      · rw [if_pos h4, if_pos ⟨rfl, h4⟩]; rfl
      · rw [if_neg h4, if_neg (fun h => h4 h.2)]; rfl
def wLook (ws : List Wr) (l : Int) : Option Wr := ws.find? fun y => y.loc == l
theorem wLook_cons (y : Wr) (r : List Wr) (l : Int) : wLook (y :: r) l = if y.loc == l then some y else wLook r l := by
  unfold wLook
  rw [List.find?_cons]
  cases y.loc == l <;> rfl
theorem wLook_hits (ws : List Wr) (l : Int) : (wLook ws l).isSome = hitsW ws l := by
  unfold wLook hitsW
  rw [List.isSome_find?]
theorem wLook_put (ws : List Wr) (x : Wr) (l : Int) : wLook (putW ws x) l = if x.loc == l then some x else wLook ws l := by
  induction ws with
  | nil => rw [putW_nil, wLook_cons]
  | cons y r ih =>
    rw [putW_cons]
    by_cases h1 : (y.loc == x.loc) = true
    · rw [if_pos h1, wLook_cons, wLook_cons]
      have e : y.loc = x.loc := by simpa using h1
      rw [e]
      cases x.loc == l <;> rfl
    · rw [if_neg h1]
      split
      · rename_i h2
        rw [wLook_cons]
      · rw [wLook_cons, ih, wLook_cons]
        by_cases h3 : (y.loc == l) = true
        · rw [if_pos h3, if_pos h3, if_neg]
          intro h4
          have e1 : y.loc = l := by simpa using h3
          have e2 : x.loc = l := by simpa using h4
          rw [e1, e2] at h1
          simp at h1
        · rw [if_neg h3, if_neg h3]
/-- The last write of a location in a row. -/
def lastHit (ws : List Wr) (l : Int) : Option Wr := wLook ws.reverse l
theorem wLook_app (a b : List Wr) (l : Int) : wLook (a ++ b) l = (wLook a l).or (wLook b l) := by
  unfold wLook
  rw [List.find?_append]
theorem lastHit_cons (x : Wr) (r : List Wr) (l : Int) : lastHit (x :: r) l = (lastHit r l).or (if x.loc == l then some x else none) := by
  unfold lastHit
  rw [List.reverse_cons, wLook_app, wLook_cons]
  rfl
theorem wLook_puts (f : List Wr) : ∀ (a : List Wr) (l : Int), wLook (f.foldl putW a) l = (lastHit f l).or (wLook a l) := by
  induction f with
  | nil => intro a l; rfl
  | cons x r ih =>
    intro a l
    rw [List.foldl_cons, ih, wLook_put, lastHit_cons]
    cases lastHit r l with
    | some y => rfl
    | none =>
      by_cases h : (x.loc == l) = true
      · rw [if_pos h, if_pos h]; rfl
      · rw [if_neg h, if_neg h]; rfl
/-- No location twice. -/
def OnceW (ws : List Wr) : Prop := ws.Pairwise fun a b => a.loc ≠ b.loc
theorem wLook_none {ws : List Wr} {l : Int} (h : ∀ y ∈ ws, y.loc ≠ l) : wLook ws l = none := by
  unfold wLook
  rw [List.find?_eq_none]
  intro y hy
  have := h y hy
  simpa using this
theorem lastHit_once {ws : List Wr} (h : OnceW ws) (l : Int) : lastHit ws l = wLook ws l := by
  induction ws with
  | nil => rfl
  | cons x r ih =>
    obtain ⟨h1, h2⟩ := List.pairwise_cons.1 h
    rw [lastHit_cons, ih h2, wLook_cons]
    by_cases hx : (x.loc == l) = true
    · have e : x.loc = l := by simpa using hx
      rw [if_pos hx, if_pos hx, wLook_none (fun y hy => by have := h1 y hy; omega)]
      rfl
    · rw [if_neg hx, if_neg hx]
      cases wLook r l <;> rfl
theorem mem_putW {ws : List Wr} {x y : Wr} (h : y ∈ putW ws x) : y = x ∨ y ∈ ws := by
  induction ws with
  | nil => rw [putW_nil] at h; simpa using h
  | cons z r ih =>
    rw [putW_cons] at h
    split at h
    · rcases List.mem_cons.1 h with h | h
      · exact .inl h
      · exact .inr (by simp [h])
    · split at h
      · rcases List.mem_cons.1 h with h | h
        · exact .inl h
        · exact .inr h
      · rcases List.mem_cons.1 h with h | h
        · exact .inr (by simp [h])
        · rcases ih h with h | h
          · exact .inl h
          · exact .inr (by simp [h])
theorem hits_false {r : List Wr} {l : Int} (h : hitsW r l = false) : ∀ y ∈ r, y.loc ≠ l := fun y hy => by
  unfold hitsW at h
  rw [List.any_eq_false] at h
  have := h y hy
  simpa using this
theorem hits_true {r : List Wr} {l : Int} (h : hitsW r l = true) : ∃ y ∈ r, y.loc = l := by
  unfold hitsW at h
  rw [List.any_eq_true] at h
  obtain ⟨y, hy, e⟩ := h
  exact ⟨y, hy, by simpa using e⟩
theorem once_put {ws : List Wr} (h : OnceW ws) (x : Wr) : OnceW (putW ws x) := by
  induction ws with
  | nil => rw [putW_nil]; exact List.pairwise_singleton _ _
  | cons z r ih =>
    obtain ⟨h1, h2⟩ := List.pairwise_cons.1 h
    rw [putW_cons]
    by_cases hz : (z.loc == x.loc) = true
    · rw [if_pos hz]
      have e : z.loc = x.loc := by simpa using hz
      exact List.pairwise_cons.2 ⟨fun y hy => by have := h1 y hy; omega, h2⟩
    · rw [if_neg hz]
      have hz' : z.loc ≠ x.loc := by simpa using hz
      split
      · rename_i hc
        exact List.pairwise_cons.2 ⟨fun y hy => by
          rcases List.mem_cons.1 hy with rfl | hy
          · omega
          · have := hits_false hc.1 y hy; omega, h⟩
      · refine List.pairwise_cons.2 ⟨fun y hy => ?_, ih h2⟩
        rcases mem_putW hy with rfl | hy
        · exact hz'
        · exact h1 y hy
theorem once_puts (f : List Wr) : ∀ {ws : List Wr}, OnceW ws → OnceW (f.foldl putW ws) := by
  induction f with
  | nil => intro ws h; exact h
  | cons x r ih => intro ws h; rw [List.foldl_cons]; exact ih (once_put h x)
def SortW (ws : List Wr) : Prop := ws.Pairwise fun a b => a.loc < b.loc
theorem sort_put {ws : List Wr} (h : SortW ws) (x : Wr) : SortW (putW ws x) := by
  induction ws with
  | nil => rw [putW_nil]; exact List.pairwise_singleton _ _
  | cons z r ih =>
    obtain ⟨h1, h2⟩ := List.pairwise_cons.1 h
    rw [putW_cons]
    by_cases hz : (z.loc == x.loc) = true
    · rw [if_pos hz]
      have e : z.loc = x.loc := by simpa using hz
      exact List.pairwise_cons.2 ⟨fun y hy => by have := h1 y hy; omega, h2⟩
    · rw [if_neg hz]
      have hz' : z.loc ≠ x.loc := by simpa using hz
      split
      · rename_i hc
        exact List.pairwise_cons.2 ⟨fun y hy => by
          rcases List.mem_cons.1 hy with rfl | hy
          · exact hc.2
          · have := h1 y hy; have := hc.2; omega, h⟩
      · rename_i hc
        refine List.pairwise_cons.2 ⟨fun y hy => ?_, ih h2⟩
        rcases mem_putW hy with rfl | hy
        · cases hh : hitsW r y.loc with
          | true =>
            obtain ⟨u, hu, e⟩ := hits_true hh
            have := h1 u hu
            omega
          | false =>
            have : ¬ y.loc < z.loc := fun h9 => hc ⟨hh, h9⟩
            omega
        · exact h1 y hy
theorem sort_puts (f : List Wr) : ∀ {ws : List Wr}, SortW ws → SortW (f.foldl putW ws) := by
  induction f with
  | nil => intro ws h; exact h
  | cons x r ih => intro ws h; rw [List.foldl_cons]; exact ih (sort_put h x)
theorem look_mem {ws : List Wr} {l : Int} {y : Wr} (h : wLook ws l = some y) : y ∈ ws ∧ y.loc = l := by
  unfold wLook at h
  refine ⟨List.mem_of_find?_eq_some h, ?_⟩
  have := List.find?_some h
  simpa using this
/-- Two sorted rows in which the same is found are one. -/
theorem sort_ext : ∀ {a b : List Wr}, SortW a → SortW b → (∀ l, wLook a l = wLook b l) → a = b
  | [], [], _, _, _ => rfl
  | [], y :: s, _, _, h => by
    have := h y.loc
    rw [wLook_cons, if_pos (by simp)] at this
    cases this
  | x :: r, [], _, _, h => by
    have := h x.loc
    rw [wLook_cons, if_pos (by simp)] at this
    cases this
  | x :: r, y :: s, ha, hb, h => by
    obtain ⟨a1, a2⟩ := List.pairwise_cons.1 ha
    obtain ⟨b1, b2⟩ := List.pairwise_cons.1 hb
    have hx := h x.loc
    rw [wLook_cons, if_pos (by simp)] at hx
    have hy := h y.loc
    rw [wLook_cons (y := y), if_pos (by simp)] at hy
    obtain ⟨mx, _⟩ := look_mem hx.symm
    obtain ⟨my, _⟩ := look_mem hy
    have e : x = y := by
      rcases List.mem_cons.1 mx with e | e
      · exact e
      · rcases List.mem_cons.1 my with e2 | e2
        · exact e2.symm
        · have := b1 x e
          have := a1 y e2
          omega
    subst e
    refine congrArg (x :: ·) (sort_ext a2 b2 fun l => ?_)
    have hl := h l
    rw [wLook_cons, wLook_cons] at hl
    by_cases hc : (x.loc == l) = true
    · have e : x.loc = l := by simpa using hc
      rw [wLook_none (fun y hy => by have := a1 y hy; omega), wLook_none (fun y hy => by have := b1 y hy; omega)]
    · rwa [if_neg hc, if_neg hc] at hl

/-! ### the combined writes -/
def allW (ls : List Lv) : List Wr := ls.foldl (fun a v => v.writes.foldl putW a) []
theorem fold_writes (ls : List Lv) (z : Lv) : (ls.foldl joinRW z).writes = ls.foldl (fun a v => v.writes.foldl putW a) z.writes := by
  induction ls generalizing z with
  | nil => rfl
  | cons x r ih => rw [List.foldl_cons, List.foldl_cons, ih]; rfl
theorem allL_writes (ls : List Lv) : (allL ls).writes = allW ls := fold_writes ls zeroLv
theorem allW_app (a b : List Lv) : allW (a ++ b) = b.foldl (fun a v => v.writes.foldl putW a) (allW a) := by unfold allW; rw [List.foldl_append]
theorem sort_fold (ls : List Lv) : ∀ {a : List Wr}, SortW a → SortW (ls.foldl (fun a v => v.writes.foldl putW a) a) := by
  induction ls with
  | nil => intro a h; exact h
  | cons x r ih => intro a h; rw [List.foldl_cons]; exact ih (sort_puts _ h)
theorem sort_allW (ls : List Lv) : SortW (allW ls) := sort_fold ls List.Pairwise.nil
theorem writes_join {acc v0 f : List Wr} (ha : SortW acc) (h0 : OnceW v0) : (f.foldl putW v0).foldl putW acc = f.foldl putW (v0.foldl putW acc) := by
  refine sort_ext (sort_puts _ ha) (sort_puts _ (sort_puts _ ha)) fun l => ?_
  rw [wLook_puts, wLook_puts, wLook_puts, lastHit_once (once_puts f h0), wLook_puts, lastHit_once h0, Option.or_assoc]
theorem allW_end {ls : List Lv} (h : ∀ v ∈ ls, OnceW v.writes) : allW (endL ls) = allW ls := by
  rcases ls_cases ls with rfl | ⟨f, rfl⟩ | ⟨init, v0, f, rfl⟩
  · rfl
  · rfl
  · rw [endL_many, allW_app, List.append_assoc, allW_app]
    exact writes_join (sort_allW init) (h v0 (by simp))

/-! ### what is found -/
def rLook (rs : List Seen) (l : Int) : Option Seen := rs.find? fun y => y.loc == l
theorem rLook_has (rs : List Seen) (l : Int) : (rLook rs l).isSome = hasL rs l := by
  unfold rLook hasL
  rw [List.isSome_find?]
theorem rLook_app (a b : List Seen) (l : Int) : rLook (a ++ b) l = (rLook a l).or (rLook b l) := by
  unfold rLook
  rw [List.find?_append]
theorem rLook_cons (y : Seen) (r : List Seen) (l : Int) : rLook (y :: r) l = (if y.loc == l then some y else none).or (rLook r l) := by
  unfold rLook
  rw [List.find?_cons]
  cases y.loc == l <;> rfl
theorem rLook_read (rs : List Seen) (s : Seen) (l : Int) : rLook (readL rs s) l = (rLook rs l).or (if s.loc == l then some s else none) := by
  cases h : hasL rs s.loc with
  | true =>
    rw [readL_hit h]
    by_cases hs : (s.loc == l) = true
    · have e : s.loc = l := by simpa using hs
      rw [e, ← rLook_has] at h
      obtain ⟨y, hy⟩ := Option.isSome_iff_exists.1 h
      rw [hy]; rfl
    · rw [if_neg hs]
      cases rLook rs l <;> rfl
  | false =>
    rw [readL_miss h, rLook_app, rLook_cons]
    congr 1
    cases s.loc == l <;> rfl
theorem rLook_reads (f : List Seen) : ∀ (a : List Seen) (l : Int), rLook (f.foldl readL a) l = (rLook a l).or (rLook f l) := by
  induction f with
  | nil =>
    intro a l
    show rLook a l = (rLook a l).or none
    cases rLook a l <;> rfl
  | cons x r ih => intro a l; rw [List.foldl_cons, ih, rLook_read, rLook_cons, Option.or_assoc]
theorem find_rev {β : Type} (g : Lv → Option β) (init : List Lv) (x : Lv) : (init ++ [x]).reverse.findSome? g = (g x).or (init.reverse.findSome? g) := by
  rw [List.reverse_append, List.reverse_singleton, List.singleton_append, List.findSome?_cons]
  cases g x <;> rfl
theorem wHit_join {v0 f : Lv} (h : OnceW f.writes) (l : Int) : wHit l (joinL v0 f) = (wHit l f).or (wHit l v0) := by
  show wLook (f.writes.foldl putW v0.writes) l = (wLook f.writes l).or (wLook v0.writes l)
  rw [wLook_puts, lastHit_once h]
theorem rHit_join (v0 f : Lv) (l : Int) : rHit l (joinL v0 f) = (rHit l v0).or (rHit l f) := rLook_reads f.reads v0.reads l
/-- End changes neither how a location is found nor its value, but for a location that both merged levels read. -/
theorem find_end {init : List Lv} {v0 f : Lv} (h : OnceW f.writes) (l : Int) : (findL ((init ++ [v0]) ++ [f]) l).2.2 = (findL (init ++ [joinL v0 f]) l).2.2 ∧
    ((findL ((init ++ [v0]) ++ [f]) l).2.2 = 2 ∧ hasL v0.reads l = true ∨ (findL ((init ++ [v0]) ++ [f]) l).1 = (findL (init ++ [joinL v0 f]) l).1) := by
  have hw : ((init ++ [v0]) ++ [f]).reverse.findSome? (wHit l) = (init ++ [joinL v0 f]).reverse.findSome? (wHit l) := by
    rw [find_rev, find_rev, find_rev, wHit_join h, Option.or_assoc]
  cases hx : (init ++ [joinL v0 f]).reverse.findSome? (wHit l) with
  | some y =>
    rw [findL_w (hw.trans hx), findL_w hx]
    exact ⟨rfl, .inr rfl⟩
  | none =>
    have h1 : ((init ++ [v0]) ++ [f]).reverse.findSome? (rHit l) = (rHit l f).or ((rHit l v0).or (init.reverse.findSome? (rHit l))) := by rw [find_rev, find_rev]
    have h2 : (init ++ [joinL v0 f]).reverse.findSome? (rHit l) = (rHit l v0).or ((rHit l f).or (init.reverse.findSome? (rHit l))) := by rw [find_rev, rHit_join, Option.or_assoc]
    have hh : (rHit l v0).isSome = hasL v0.reads l := rLook_has v0.reads l
    cases a : rHit l v0 with
    | none =>
      rw [a, Option.none_or] at h1 h2
      rw [← h2] at h1
      cases z : (init ++ [joinL v0 f]).reverse.findSome? (rHit l) with
      | none => rw [findL_n (hw.trans hx) (h1.trans z), findL_n hx z]; exact ⟨rfl, .inr rfl⟩
      | some s => rw [findL_r (hw.trans hx) (h1.trans z), findL_r hx z]; exact ⟨rfl, .inr rfl⟩
    | some s =>
      rw [a] at hh h1 h2
      rw [Option.some_or] at h2
      obtain ⟨s', z⟩ : ∃ s', ((init ++ [v0]) ++ [f]).reverse.findSome? (rHit l) = some s' := by
        rw [h1]
        cases rHit l f with
        | none => exact ⟨_, rfl⟩
        | some q => exact ⟨_, rfl⟩
      rw [findL_r (hw.trans hx) z, findL_r hx h2]
      exact ⟨rfl, .inl ⟨rfl, by rw [← hh]; rfl⟩⟩
end Go.Proofs.Ytiomfncbhbokpaa
