/- nest.Find walked: two loops over slices.Backward, each with a loop of its own in its body. -/
import Derived.Test.YtiomfncbhbokpaaTBack
namespace Go.Proofs.Ytiomfncbhbokpaa
open Go.RowKit Go.Shelf
set_option linter.unusedVariables false
attribute [local go_sem] Oper.semAt_some

def wHit (l : Int) (v : Lv) : Option Wr := v.writes.find? fun x => x.loc == l
def rHit (l : Int) (v : Lv) : Option Seen := v.reads.find? fun x => x.loc == l
/-- The answer: value, version, how. -/
def findL (ls : List Lv) (l : Int) : Int × Int × Int :=
  match ls.reverse.findSome? (wHit l) with
  | some x => (x.val, 0, 1)
  | none => match ls.reverse.findSome? (rHit l) with
    | some s => (s.val, s.ver, 2)
    | none => (0, 0, 0)

theorem find_hit {α : Type} {p : α → Bool} : ∀ {xs : List α} {k : Nat} {x : α} (hx : xs[k]? = some x) (h : ∀ j s, j < k → xs[j]? = some s → p s = false) (hp : p x = true), xs.find? p = some x
  | [], k, x, hx, _, _ => by simp at hx
  | y :: r, 0, x, hx, _, hp => by
    simp at hx
    subst hx
    simp [hp]
  | y :: r, k + 1, x, hx, h, hp => by
    have h0 := h 0 y (by omega) rfl
    rw [List.find?_cons, h0]
    exact find_hit (by simpa using hx) (fun j s hj hs => h (j + 1) s (by omega) (by simpa using hs)) hp
theorem find_none {α : Type} {p : α → Bool} {xs : List α} {k : Nat} (hk : xs.length ≤ k) (h : ∀ j s, j < k → xs[j]? = some s → p s = false) : xs.find? p = none := by
  rw [List.find?_eq_none]
  intro s hs
  obtain ⟨j, hj, e⟩ := List.mem_iff_getElem.1 hs
  have := h j s (by omega) (by rw [List.getElem?_eq_getElem hj, e])
  simp [this]
/-- The loop over the writes was left at y. -/
def WStop {w : World} {B : Nat} (l : Int) (pre : List (LvAt w B)) (y : Wr) : Prop := ∃ pre' x, pre = pre' ++ [x] ∧ (∀ x ∈ pre', wHit l x.lv = none) ∧ wHit l x.lv = some y
def RStop {w : World} {B : Nat} (l : Int) (pre : List (LvAt w B)) (y : Seen) : Prop := ∃ pre' x, pre = pre' ++ [x] ∧ (∀ x ∈ pre', rHit l x.lv = none) ∧ rHit l x.lv = some y
theorem some_prefix {α β : Type} {f : α → Option β} {pre l : List α} {y : β} (hp : pre <+: l) (h : pre.findSome? f = some y) : l.findSome? f = some y := by
  obtain ⟨r, rfl⟩ := hp
  rw [List.findSome?_append, h]
  rfl
theorem some_none {α β γ : Type} {f : α → Option β} {g : γ → α} {pre : List γ} (h : ∀ x ∈ pre, f (g x) = none) : (pre.map g).findSome? f = none := by
  rw [List.findSome?_eq_none_iff]
  intro x hx
  obtain ⟨z, hz, rfl⟩ := List.mem_map.1 hx
  exact h z hz
theorem some_stop {α β γ : Type} {f : α → Option β} {g : γ → α} {pre : List γ} {x : γ} {y : β} (h : ∀ x ∈ pre, f (g x) = none) (hx : f (g x) = some y) : ((pre ++ [x]).map g).findSome? f = some y := by
  rw [List.map_append, List.findSome?_append, some_none h]
  simp [hx]
theorem findL_w {ls : List Lv} {l : Int} {y : Wr} (h : ls.reverse.findSome? (wHit l) = some y) : findL ls l = (y.val, 0, 1) := by unfold findL; rw [h]
theorem findL_r {ls : List Lv} {l : Int} {y : Seen} (h0 : ls.reverse.findSome? (wHit l) = none) (h : ls.reverse.findSome? (rHit l) = some y) : findL ls l = (y.val, y.ver, 2) := by unfold findL; rw [h0]; dsimp only; rw [h]
theorem findL_n {ls : List Lv} {l : Int} (h0 : ls.reverse.findSome? (wHit l) = none) (h : ls.reverse.findSome? (rHit l) = none) : findL ls l = (0, 0, 0) := by unfold findL; rw [h0]; dsimp only; rw [h]
theorem WStop.find {w : World} {B : Nat} {l : Int} {pre : List (LvAt w B)} {y : Wr} {ls : List Lv} (h : WStop l pre y) (hp : pre.map LvAt.lv <+: ls.reverse) : findL ls l = (y.val, 0, 1) := by
  obtain ⟨pre', x, rfl, h1, h2⟩ := h
  exact findL_w (some_prefix hp (some_stop (g := LvAt.lv) h1 h2))
theorem RStop.find {w : World} {B : Nat} {l : Int} {pre : List (LvAt w B)} {y : Seen} {ls : List Lv} (h0 : ls.reverse.findSome? (wHit l) = none) (h : RStop l pre y) (hp : pre.map LvAt.lv <+: ls.reverse) : findL ls l = (y.val, y.ver, 2) := by
  obtain ⟨pre', x, rfl, h1, h2⟩ := h
  exact findL_r h0 (some_prefix hp (some_stop (g := LvAt.lv) h1 h2))
/-- The box of a level. -/
structure LBox (W : World) (B : Nat) (l : LC) : Prop where
  c1 : W.cell? ⟨B, 0, none⟩ = some (.slice l.A1 l.n1 l.c1)
  c2 : W.cell? ⟨B, 1, none⟩ = some (.slice l.A2 l.n2 l.c2)
theorem LBox.new (W : World) (l : LC) : LBox (W.alloc (.cells #[.slice l.A1 l.n1 l.c1, .slice l.A2 l.n2 l.c2, .slice l.A3 l.n3 l.c3] 62)) W.heap.size l :=
  ⟨by rw [World.cell?_alloc_at _ _ _ _ rfl]; rfl, by rw [World.cell?_alloc_at _ _ _ _ rfl]; rfl⟩
theorem LBox.own {β : Type} (B : Nat) (l : LC) : Own (fun (_ : β) W => LBox W B l) := fun s X Y row h hg hr => ⟨cell_kept h.c1 hg hr, cell_kept h.c2 hg hr⟩
theorem LBox.below {W W' : World} {B n : Nat} {l : LC} (h : LBox W B l) (hb : Below n W W') (hB : B < n) : LBox W' B l :=
  ⟨(hb.cell (p := ⟨B, 0, none⟩) hB).trans h.c1, (hb.cell (p := ⟨B, 1, none⟩) hB).trans h.c2⟩
/-- The four boxes of Find. -/
structure FBox (w : World) (loc : Int) (W : World) : Prop where
  b0 : Boxed W w.heap.size 3 (.int .i64 loc)
  b1 : Boxed W (w.heap.size + 1) 3 (.int .i64 0)
  b2 : Boxed W (w.heap.size + 1 + 1) 3 (.int .i64 0)
  b3 : Boxed W (w.heap.size + 1 + 1 + 1) 3 (.int .i64 0)
  bl : Below w.heap.size w W
theorem ownFrom_obj {β : Type} {B D : Nat} {o : Obj} (h : D < B) : OwnFrom B (fun (_ : β) W => W.heap[D]? = some o) := fun _ W W' row hs hg hr =>
  (hg.block D (Array.getElem?_eq_some_iff.1 hs).1 (fun e => by have := (hr D e.symm).1; omega)).trans hs
theorem FBox.own {β : Type} {w : World} {loc : Int} {B : Nat} (hB : w.heap.size ≤ B) : OwnFrom B (fun (_ : β) W => FBox w loc W) := fun s X Y row h hg hr =>
  ⟨(Own.from (boxed_own (β := β) _ _ (fun _ => _)) B) s X Y row h.b0 hg hr, (Own.from (boxed_own (β := β) _ _ (fun _ => _)) B) s X Y row h.b1 hg hr, (Own.from (boxed_own (β := β) _ _ (fun _ => _)) B) s X Y row h.b2 hg hr, (Own.from (boxed_own (β := β) _ _ (fun _ => _)) B) s X Y row h.b3 hg hr,
    (ownFrom_below (β := β) (Nat.le_refl _) hB) s X Y row h.bl hg hr⟩
theorem FBox.alloc {w W : World} {loc : Int} (h : FBox w loc W) (o : Obj) : FBox w loc (W.alloc o) := ⟨h.b0.alloc o, h.b1.alloc o, h.b2.alloc o, h.b3.alloc o, h.bl.alloc h.bl.size o⟩
def FRes (w : World) (a b c : Int) (W : World) : Prop :=
  (Boxed W (w.heap.size + 1) 3 (.int .i64 a) ∧ Boxed W (w.heap.size + 1 + 1) 3 (.int .i64 b) ∧ Boxed W (w.heap.size + 1 + 1 + 1) 3 (.int .i64 c)) ∧ Below w.heap.size w W
theorem FBox.new (w : World) (loc : Int) : FBox w loc ((((w.alloc (.cells #[.int .i64 loc] 3)).alloc (.cells #[.int .i64 0] 3)).alloc (.cells #[.int .i64 0] 3)).alloc (.cells #[.int .i64 0] 3)) := by
  have b0 := (((Boxed.new w 3 (.int .i64 loc)).alloc (.cells #[.int .i64 0] 3)).alloc (.cells #[.int .i64 0] 3)).alloc (.cells #[.int .i64 0] 3)
  have b1 := ((Boxed.new (w.alloc (.cells #[.int .i64 loc] 3)) 3 (.int .i64 0)).alloc (.cells #[.int .i64 0] 3)).alloc (.cells #[.int .i64 0] 3)
  have b2 := (Boxed.new ((w.alloc (.cells #[.int .i64 loc] 3)).alloc (.cells #[.int .i64 0] 3)) 3 (.int .i64 0)).alloc (.cells #[.int .i64 0] 3)
  have b3 := Boxed.new (((w.alloc (.cells #[.int .i64 loc] 3)).alloc (.cells #[.int .i64 0] 3)).alloc (.cells #[.int .i64 0] 3)) 3 (.int .i64 0)
  simp only [World.size_alloc] at b1 b2 b3
  exact ⟨b0, b1, b2, b3, ((((Below.refl _ w).alloc (Nat.le_refl _) _).alloc (by simp) _).alloc (by simp; omega) _).alloc (by simp; omega) _⟩
theorem FBox.res {w W : World} {loc : Int} (h : FBox w loc W) (a b c : Int) : FRes w a b c (((W.setCell ⟨w.heap.size + 1, 0, none⟩ (.int .i64 a)).setCell ⟨w.heap.size + 1 + 1, 0, none⟩ (.int .i64 b)).setCell ⟨w.heap.size + 1 + 1 + 1, 0, none⟩ (.int .i64 c)) :=
  ⟨⟨((h.b1.set _).other (by omega) _).other (by omega) _, ((h.b2.other (by omega) _).set _).other (by omega) _, ((h.b3.other (by omega) _).other (by omega) _).set _⟩,
    ((h.bl.setCell (p := ⟨w.heap.size + 1, 0, none⟩) (by simp) _).setCell (p := ⟨w.heap.size + 1 + 1, 0, none⟩) (by simp; omega) _).setCell (p := ⟨w.heap.size + 1 + 1 + 1, 0, none⟩) (by simp; omega) _⟩
theorem FRes.drew {w W : World} {a b c : Int} (h : FRes w a b c W) : FRes w a b c W.drew := ⟨h.1, ⟨h.2.os, h.2.tape, h.2.output, h.2.size, h.2.block⟩⟩
theorem FRes.own {β : Type} {w : World} {a b c : Int} {B : Nat} (hB : w.heap.size ≤ B) : OwnFrom B (fun (_ : β) W => FRes w a b c W) := fun s X Y row h hg hr =>
  ⟨⟨(Own.from (boxed_own (β := β) _ _ (fun _ => _)) B) s X Y row h.1.1 hg hr, (Own.from (boxed_own (β := β) _ _ (fun _ => _)) B) s X Y row h.1.2.1 hg hr, (Own.from (boxed_own (β := β) _ _ (fun _ => _)) B) s X Y row h.1.2.2 hg hr⟩,
    (ownFrom_below (β := β) (Nat.le_refl _) hB) s X Y row h.2 hg hr⟩
theorem FRes.ownIx {β γ : Type} {w : World} {B : Nat} {R : β → γ → Prop} {ra rb : γ → Int} {rc : Int} {cp : Prop} (hB : w.heap.size ≤ B) : OwnFrom B (fun (s : β) W => cp ∧ ∃ y, R s y ∧ FRes w (ra y) (rb y) rc W) := fun s X Y row h hg hr => by
  obtain ⟨h0, y, h1, h2⟩ := h
  exact ⟨h0, y, h1, FRes.own (β := β) hB s X Y row h2 hg hr⟩
theorem LBox.ownAx {β : Type} (B n : Nat) (l : LC) (p : Nat → Prop) : OwnFrom B (fun (_ : β) W => ∃ Bx, n ≤ Bx ∧ LBox W Bx l ∧ p Bx) := fun s X Y row h hg hr => by
  obtain ⟨b, h1, h2, h3⟩ := h
  exact ⟨b, h1, (LBox.own (β := β) b l).from B s X Y row h2 hg hr, h3⟩
theorem FBox.lt {w W : World} {loc : Int} (h : FBox w loc W) : w.heap.size + 3 < W.heap.size := by have := h.b3.lt; omega

theorem putObj_other {W : World} {D E : Nat} {o o' : Obj} (h : W.heap[D]? = some o) (hne : D ≠ E) : (W.putObj E o').heap[D]? = some o := (World.putObj_heap_other (fun e => hne e)).trans h
set_option maxRecDepth 100000 in
/-- Both loops' deferred calls are taken (there are none), and the results are read. -/
theorem find_leave_two {F : Fence} {n : Nat} {w W' : World} {tmps : Array Value} {D D2 B B2 : Nat} {a b c : Int} {x : Int × Int × Int} (hB : w.heap.size ≤ B) (hB2 : B ≤ B2) (hD : B ≤ D) (hD2 : B2 ≤ D2) (hlt : D < B2)
    (h4 : tmps[4]? = some (.pointer (some ⟨w.heap.size + 1, 0, none⟩))) (h5 : tmps[5]? = some (.pointer (some ⟨w.heap.size + 1 + 1, 0, none⟩))) (h6 : tmps[6]? = some (.pointer (some ⟨w.heap.size + 1 + 1 + 1, 0, none⟩)))
    (hK : W'.heap[D]? = some (.deferred (some []))) (hK2 : W'.heap[D2]? = some (.deferred (some []))) (hR : FRes w a b c W') (hF : x = (a, b, c)) :
    LeavesInM F n Try.prog Try.f17 tmps (fun e W' => e = .returned (.tuple #[.int .i64 x.1, .int .i64 x.2.1, .int .i64 x.2.2]) ∧ Below w.heap.size w W') [{ target := .collected D2, args := #[] }, { target := .collected D, args := #[] }] .returning W' := by
  have hR2 := (FRes.own (β := Unit) (w := w) (a := a) (b := b) (c := c) (B := B) hB).putObj (s := ()) (.deferred none) hR (Nat.le_trans hB2 hD2) hK2 rfl
  have hK' := putObj_other (E := D2) (o' := .deferred none) hK (by omega)
  have hR3 := (FRes.own (β := Unit) (w := w) (a := a) (b := b) (c := c) (B := B) hB).putObj (s := ()) (.deferred none) hR2 hD hK' rfl
  refine ⟨by simp, .inl ⟨_, _, rfl, run_takeDeferred hK2, ?_⟩⟩
  refine ⟨by simp, .inl ⟨_, _, rfl, run_takeDeferred hK', ?_⟩⟩
  have r1 := hR3.1.1.cell
  have r2 := hR3.1.2.1.cell
  have r3 := hR3.1.2.2.cell
  refine ⟨.tuple #[.int .i64 a, .int .i64 b, .int .i64 c], ?_, by rw [hF], hR3.2⟩
  simp [results, Try.f17, go_sem, r1, r2, r3, h4, h5, h6]

set_option maxRecDepth 100000 in
set_option maxHeartbeats 4000000 in
theorem find_in (F : Fence) (n : Nat) (h17 : F.fn 17) (h46 : F.fn 46) (h62 : F.fn 62) (hro : F.round = none) (hn : 3 ≤ n) (v : Value) (ls : List Lv) (loc : Int) (w : World) (h : IsLs w v ls) (hm : ls.length ≤ 1000) (hsv : ∀ x ∈ ls, SmallV 80000 x) :
    CallsIn F n Try.prog 17 #[v, .int .i64 loc] w fun e W' => e = .returned (.tuple #[.int .i64 (findL ls loc).1, .int .i64 (findL ls loc).2.1, .int .i64 (findL ls loc).2.2]) ∧ Below w.heap.size w W' := by
  have h1 : 1 ≤ n := by omega
  obtain ⟨A, c, lcs, rfl, hc, hs, hl⟩ := h
  refine callsIn_of_wp_marks Try.func17 rfl h17 ?_ hro
  simp only [Try.ntmps17, List.size_toArray, List.length_cons, List.length_nil, Nat.reduceAdd, Nat.reduceSub, Array.replicate_succ, Array.replicate_zero, List.push_toArray, List.append_toArray, List.nil_append, List.cons_append]
  gi_wp2_with (gi_at_call 46; refine (backward_in F (n - 1) h46 hro _ _ _ _).mono ?_; rintro e w' ⟨rfl, rfl⟩)
  have f0 : FBox w loc ((((w.alloc (.cells #[.int .i64 loc] 3)).alloc (.cells #[.int .i64 0] 3)).alloc (.cells #[.int .i64 0] 3)).alloc (.cells #[.int .i64 0] 3)) := FBox.new w loc
  have c5 := (Boxed.new ((((w.alloc (.cells #[.int .i64 loc] 3)).alloc (.cells #[.int .i64 0] 3)).alloc (.cells #[.int .i64 0] 3)).alloc (.cells #[.int .i64 0] 3)) 22 (.slice A ls.length c)).cell
  have f1 := f0.alloc (.cells #[.slice A ls.length c] 22)
  simp only [World.size_alloc] at c5
  obtain ⟨W0, hW0⟩ : ∃ W0, ((((w.alloc (.cells #[.int .i64 loc] 3)).alloc (.cells #[.int .i64 0] 3)).alloc (.cells #[.int .i64 0] 3)).alloc (.cells #[.int .i64 0] 3)).alloc (.cells #[.slice A ls.length c] 22) = W0 := ⟨_, rfl⟩
  have hsz : W0.heap.size = w.heap.size + 5 := by rw [← hW0]; simp
  rw [hW0] at c5 f1 ⊢
  clear hW0 f0
  refine wpIn_rangeFunc_ownH hro h1 (gf := 62) (lb := #[.pointer (some ⟨w.heap.size + 1 + 1 + 1 + 1, 0, none⟩)]) rfl h62 (enters_of Try.func62 (by kernel_rfl) rfl)
    (back_stops F (n - 1) h62 hro (by omega) (w.heap.size + 1 + 1 + 1 + 1) W0.heap.size A c lcs ls W0 ((hl.kept f1.bl).more f1.bl.size) hsv hm W0 (by omega) (Nat.le_refl _) c5 ((hs.below f1.bl).more f1.bl.size)) belowK_t (belowK_b (Nat.le_refl _)) (Below.refl _ _) (fun _ => rfl)
    (fun pre W => (FBox w loc W ∧ Below W0.heap.size W0 W) ∧ ∀ x ∈ pre, wHit loc x.lv = none)
    (fun cc pre W => (cc = .ret ∧ ∃ y, WStop loc pre y ∧ FRes w y.val 0 1 W))
    ?hI ?hIx ⟨⟨f1, Below.refl _ _⟩, by simp⟩
    (fun x a' W => ∃ Bx, W0.heap.size ≤ Bx ∧ LBox W Bx x.lc ∧ a' = { tmps := #[Value.slice A ls.length c, Value.int IntKind.i64 loc, undef, Value.pointer (some { block := w.heap.size, off := 0 }), Value.pointer (some { block := w.heap.size + 1, off := 0 }), Value.pointer (some { block := w.heap.size + 1 + 1, off := 0 }), Value.pointer (some { block := w.heap.size + 1 + 1 + 1, off := 0 }), undef, Value.pointer (some ⟨Bx, 0, none⟩), undef, undef, undef, undef, undef, undef, Value.slice A ls.length c, Value.func (Fn.func 62) #[] #[Value.pointer (some { block := w.heap.size + 1 + 1 + 1 + 1, off := 0 })], .int .i64 (x.val.1 : Int), .agg #[.slice x.lc.A1 x.lc.n1 x.lc.c1, .slice x.lc.A2 x.lc.n2 x.lc.c2, .slice x.lc.A3 x.lc.n3 x.lc.c3], undef, undef, undef, undef, undef, undef, undef, undef, undef, undef, undef, undef, undef, undef, undef, undef, undef, undef, undef, undef, undef, undef, undef, undef, undef, undef, undef, undef, undef, undef, undef, undef, undef, undef], defers := [] })
    ?hAx ?assign ?body ?done ?stop
  case hI => exact OwnFrom.and (OwnFrom.and (FBox.own f1.bl.size) (ownFrom_below (Nat.le_refl _) (Nat.le_refl _))) (ownFrom_pure _ _)
  case hIx => exact fun cc => FRes.ownIx (by omega)
  case hAx => exact fun x a' => LBox.ownAx _ _ _ _
  case assign =>
    rintro l pre x W K ⟨⟨g0, g1⟩, g2⟩ hK
    dsimp only [LvAt.enc]
    gi_wp2
    exact hK _ _ ((KeepsOthers.alloc _ _).from _) ((Below.refl _ W).alloc g1.size _) ⟨⟨g0.alloc _, g1.alloc g1.size _⟩, g2⟩ ⟨W.heap.size, g1.size, LBox.new W x.lc, rfl⟩
  case body =>
    rintro l pre x a' W hl ⟨r, hr⟩ ⟨⟨g0, g1⟩, g2⟩ ⟨Bx, hBx, bX, rfl⟩ hlt
    have HX := Lib.hid x.ok
    have HSM := Lib.hid x.small
    have d2 := bX.c2
    have HE := Lib.hid x.ok.e2
    have hs2 := x.ok.s2.below g1
    obtain ⟨A2, hA2⟩ : ∃ A2, x.lc.A2 = A2 := ⟨_, rfl⟩
    obtain ⟨n2, hn2⟩ : ∃ n2, x.lc.n2 = n2 := ⟨_, rfl⟩
    obtain ⟨c2, hc2⟩ : ∃ c2, x.lc.c2 = c2 := ⟨_, rfl⟩
    have hm2 : n2 ≤ 80000 := by rw [← hn2, ← HE.out]; exact HSM.out.2.1
    rw [hA2, hn2, hc2] at d2
    rw [hn2] at HE
    rw [hA2] at hs2
    rw [hA2, hn2, hc2]
    have HS2 := Lib.hid hs2
    have HG0 := Lib.hid g0
    have HG1 := Lib.hid g1
    have HG2 := Lib.hid g2
    clear hs2 bX hr hA2 hn2 hc2 g2
    gi_wp2
    gi_loopw [22] (fun i wr => ∃ k : Nat, k ≤ n2 ∧ i = .int .i64 k ∧ Hid (∀ j s, j < k → x.lv.writes[j]? = some s → (s.loc == loc) = false) ∧ FBox w loc wr ∧ Hid (Below W0.heap.size W wr) ∧ Hid (KeepsFrom W0.heap.size W wr)) (fun i _ => n2 - (intOf i).toNat)
    case atStart => exact ⟨0, Nat.zero_le _, rfl, Lib.hid (fun j s hj => by omega), HG0.out, Lib.hid (Below.refl _ _), Lib.hid (KeepsFrom.refl _ _)⟩
    case round =>
      obtain ⟨k, hk, rfl, HK, gw, HB, HF⟩ := hrel
      have e0 := gw.b0.cell
      have HGW := Lib.hid gw
      by_cases hlt : k < n2
      · have hx : x.lv.writes[k]? = some (x.lv.writes[k]'(by rw [HE.out]; exact hlt)) := List.getElem?_eq_getElem _
        generalize x.lv.writes[k]'(by rw [HE.out]; exact hlt) = y at hx
        have hw1 := HS2.out.below HB.out
        obtain ⟨b, off, rfl, -, q0, q1⟩ := hw1.at2 hx
        have HX1 := Lib.hid hx
        have gn := gw.alloc (.cells #[.int .i64 y.loc, .int .i64 y.val] 33)
        have r0 := gn.b0.cell
        have HGN := Lib.hid gn
        have HBN := Lib.hid (HB.out.alloc (Nat.le_trans (HG1.out.size) HB.out.size) (.cells #[.int .i64 y.loc, .int .i64 y.val] 33))
        have HFN : Hid (KeepsFrom W0.heap.size W (wr.alloc (.cells #[.int .i64 y.loc, .int .i64 y.val] 33))) := Lib.hid (HF.out.trans ((KeepsOthers.alloc _ _).from _))
        have k0 : (wr.alloc (.cells #[.int .i64 y.loc, .int .i64 y.val] 33)).cell? ⟨wr.heap.size, 0, none⟩ = some (.int .i64 y.loc) := by rw [World.cell?_alloc_at _ _ _ _ rfl]; rfl
        have k1 : (wr.alloc (.cells #[.int .i64 y.loc, .int .i64 y.val] 33)).cell? ⟨wr.heap.size, 1, none⟩ = some (.int .i64 y.val) := by rw [World.cell?_alloc_at _ _ _ _ rfl]; rfl
        clear hw1 hx gw gn
        by_cases hp : (y.loc == loc) = true
        · have e1 := HGN.out.b1.cell
          have e2 := HGN.out.b2.cell
          have e3 := HGN.out.b3.cell
          have p1 := HGN.out.b1.frozen
          have p2 := HGN.out.b2.frozen
          have p3 := HGN.out.b3.frozen
          have HR := Lib.hid (HGN.out.res y.val 0 1)
          have HW := Lib.hid (find_hit (p := fun s : Wr => s.loc == loc) HX1.out HK.out hp)
          gi_wp2
          exact ⟨HFN.out.trans (((KeepsOthers.setCell _ _ _).from _).trans (((KeepsOthers.setCell _ _ _).from _).trans ((KeepsOthers.setCell _ _ _).from _))), rfl, y, ⟨pre, x, rfl, HG2.out, HW.out⟩, HR.out⟩
        · have hp' : (y.loc == loc) = false := by simpa using hp
          have HP := Lib.hid (idx_next (p := fun s : Wr => s.loc == loc) HX1.out HK.out hp')
          clear hp
          gi_wp2
          go_roundw
          case rel => exact ⟨k + 1, by omega, by go_num, HP, HGN.out, HBN, HFN⟩
          case measure => simp [intOf]; omega
      · have HW := Lib.hid (find_none (p := fun s : Wr => s.loc == loc) (xs := x.lv.writes) (k := k) (by rw [HE.out]; omega) HK.out)
        gi_wp2
        refine ⟨HF.out, HB.out, ⟨HGW.out, HG1.out.trans HB.out⟩, fun z hz => ?_⟩
        rcases List.mem_append.1 hz with hz | hz
        · exact HG2.out z hz
        · simp at hz
          subst hz
          exact HW.out
  case done =>
    rintro D ys W hD hys ⟨⟨g0, g1⟩, g2⟩ hK
    gi_wp2_with (gi_at_call 46; refine (backward_in F (n - 1) h46 hro _ _ _ _).mono ?_; rintro e w' ⟨rfl, rfl⟩)
    have hw0 : ls.reverse.findSome? (wHit loc) = none := by rw [← hys]; exact some_none g2
    have HW0 := Lib.hid hw0
    have c5' := (Boxed.new W 22 (.slice A ls.length c)).cell
    have f2 := g0.alloc (.cells #[.slice A ls.length c] 22)
    have hK2 : (W.alloc (.cells #[.slice A ls.length c] 22)).heap[D]? = some (.deferred (some [])) := (Below.heap_alloc W _ D (Array.getElem?_eq_some_iff.1 hK).1).trans hK
    have hDW := (Array.getElem?_eq_some_iff.1 hK).1
    have hsz2 : (W.alloc (.cells #[.slice A ls.length c] 22)).heap.size = W.heap.size + 1 := by simp
    have hWs := g0.lt
    obtain ⟨W2, hW2⟩ : ∃ W2, W.alloc (.cells #[.slice A ls.length c] 22) = W2 := ⟨_, rfl⟩
    rw [hW2] at c5' f2 hK2 hsz2 ⊢
    have hWn : W.heap.size < W2.heap.size := by omega
    have hDn : D < W2.heap.size := by omega
    clear hW2 c5 f1 hK g0 g1 g2 hys hw0
    refine wpIn_rangeFunc_ownH hro h1 (gf := 62) (lb := #[.pointer (some ⟨W.heap.size, 0, none⟩)]) rfl h62 (enters_of Try.func62 (by kernel_rfl) rfl)
      (back_stops F (n - 1) h62 hro (by omega) W.heap.size W2.heap.size A c lcs ls W2 ((hl.kept f2.bl).more f2.bl.size) hsv hm W2 hWn (Nat.le_refl _) c5' ((hs.below f2.bl).more f2.bl.size)) belowK_t (belowK_b (Nat.le_refl _)) (Below.refl _ _) (fun _ => rfl)
      (fun pre W' => (FBox w loc W' ∧ Below W2.heap.size W2 W') ∧ ∀ x ∈ pre, rHit loc x.lv = none)
      (fun cc pre W' => (cc = .ret ∧ ∃ y, RStop loc pre y ∧ FRes w y.val y.ver 2 W') ∧ W'.heap[D]? = some (.deferred (some [])))
      ?hI2 ?hIx2 ⟨⟨f2, Below.refl _ _⟩, by simp⟩
      (fun x a' W' => ∃ Bx, W2.heap.size ≤ Bx ∧ LBox W' Bx x.lc ∧ a' = { tmps := #[Value.slice A ls.length c, Value.int IntKind.i64 loc, undef, Value.pointer (some { block := w.heap.size, off := 0 }), Value.pointer (some { block := w.heap.size + 1, off := 0 }), Value.pointer (some { block := w.heap.size + 1 + 1, off := 0 }), Value.pointer (some { block := w.heap.size + 1 + 1 + 1, off := 0 }), undef, undef, undef, undef, undef, Value.pointer (some ⟨Bx, 0, none⟩), undef, undef, Value.slice A ls.length c, Value.func (Fn.func 62) #[] #[Value.pointer (some { block := w.heap.size + 1 + 1 + 1 + 1, off := 0 })], undef, undef, undef, undef, undef, undef, undef, undef, undef, undef, undef, undef, undef, undef, undef, undef, Value.slice A ls.length c, Value.func (Fn.func 62) #[] #[Value.pointer (some { block := W.heap.size, off := 0 })], .int .i64 (x.val.1 : Int), .agg #[.slice x.lc.A1 x.lc.n1 x.lc.c1, .slice x.lc.A2 x.lc.n2 x.lc.c2, .slice x.lc.A3 x.lc.n3 x.lc.c3], undef, undef, undef, undef, undef, undef, undef, undef, undef, undef, undef, undef, undef, undef, undef, undef], defers := [] })
      ?hAx2 ?assign2 ?body2 ?done2 ?stop2
    case hI2 => exact OwnFrom.and (OwnFrom.and (FBox.own f2.bl.size) (ownFrom_below (Nat.le_refl _) (Nat.le_refl _))) (ownFrom_pure _ _)
    case hIx2 => exact fun cc => OwnFrom.and (FRes.ownIx f2.bl.size) (ownFrom_obj hDn)
    case hAx2 => exact fun x a' => LBox.ownAx _ _ _ _
    case assign2 =>
      rintro l pre x W' K ⟨⟨g0, g1⟩, g2⟩ hK
      dsimp only [LvAt.enc]
      gi_wp2
      exact hK _ _ ((KeepsOthers.alloc _ _).from _) ((Below.refl _ W').alloc g1.size _) ⟨⟨g0.alloc _, g1.alloc g1.size _⟩, g2⟩ ⟨W'.heap.size, g1.size, LBox.new W' x.lc, rfl⟩
    case body2 =>
      rintro l pre x a' W' hlw ⟨r, hr⟩ ⟨⟨g0, g1⟩, g2⟩ ⟨Bx, hBx, bX, rfl⟩ hlt
      have HSM := Lib.hid x.small
      have d1 := bX.c1
      have HE := Lib.hid x.ok.e1
      have hs2 := x.ok.s1.below g1
      obtain ⟨A1, hA1⟩ : ∃ A1, x.lc.A1 = A1 := ⟨_, rfl⟩
      obtain ⟨n1, hn1⟩ : ∃ n1, x.lc.n1 = n1 := ⟨_, rfl⟩
      obtain ⟨c1, hc1⟩ : ∃ c1, x.lc.c1 = c1 := ⟨_, rfl⟩
      have hm1 : n1 ≤ 80000 := by rw [← hn1, ← HE.out]; exact HSM.out.1
      rw [hA1, hn1, hc1] at d1
      rw [hn1] at HE
      rw [hA1] at hs2
      rw [hA1, hn1, hc1]
      have HS2 := Lib.hid hs2
      have HG0 := Lib.hid g0
      have HG1 := Lib.hid g1
      have HG2 := Lib.hid g2
      have HDJ : Hid (W'.heap[D]? = some (.deferred (some []))) := Lib.hid ((g1.block D hDn).trans hK2)
      clear hs2 bX hr hA1 hn1 hc1 g2
      gi_wp2
      gi_loopw [40] (fun i wr => ∃ k : Nat, k ≤ n1 ∧ i = .int .i64 k ∧ Hid (∀ j s, j < k → x.lv.reads[j]? = some s → (s.loc == loc) = false) ∧ FBox w loc wr ∧ Hid (Below W2.heap.size W' wr) ∧ Hid (KeepsFrom W2.heap.size W' wr)) (fun i _ => n1 - (intOf i).toNat)
      case atStart => exact ⟨0, Nat.zero_le _, rfl, Lib.hid (fun j s hj => by omega), HG0.out, Lib.hid (Below.refl _ _), Lib.hid (KeepsFrom.refl _ _)⟩
      case round =>
        obtain ⟨k, hk, rfl, HK, gw, HB, HF⟩ := hrel
        have HGW := Lib.hid gw
        by_cases hlt : k < n1
        · have hx : x.lv.reads[k]? = some (x.lv.reads[k]'(by rw [HE.out]; exact hlt)) := List.getElem?_eq_getElem _
          generalize x.lv.reads[k]'(by rw [HE.out]; exact hlt) = y at hx
          have hw1 := HS2.out.below HB.out
          obtain ⟨b, off, rfl, -, q0, q1, q2⟩ := hw1.at3 hx
          have HX1 := Lib.hid hx
          have gn := gw.alloc (.cells #[.int .i64 y.loc, .int .i64 y.ver, .int .i64 y.val] 30)
          have r0 := gn.b0.cell
          have HGN := Lib.hid gn
          have HBN := Lib.hid (HB.out.alloc (Nat.le_trans (HG1.out.size) HB.out.size) (.cells #[.int .i64 y.loc, .int .i64 y.ver, .int .i64 y.val] 30))
          have HFN : Hid (KeepsFrom W2.heap.size W' (wr.alloc (.cells #[.int .i64 y.loc, .int .i64 y.ver, .int .i64 y.val] 30))) := Lib.hid (HF.out.trans ((KeepsOthers.alloc _ _).from _))
          have k0 : (wr.alloc (.cells #[.int .i64 y.loc, .int .i64 y.ver, .int .i64 y.val] 30)).cell? ⟨wr.heap.size, 0, none⟩ = some (.int .i64 y.loc) := by rw [World.cell?_alloc_at _ _ _ _ rfl]; rfl
          have k1 : (wr.alloc (.cells #[.int .i64 y.loc, .int .i64 y.ver, .int .i64 y.val] 30)).cell? ⟨wr.heap.size, 1, none⟩ = some (.int .i64 y.ver) := by rw [World.cell?_alloc_at _ _ _ _ rfl]; rfl
          have k2 : (wr.alloc (.cells #[.int .i64 y.loc, .int .i64 y.ver, .int .i64 y.val] 30)).cell? ⟨wr.heap.size, 2, none⟩ = some (.int .i64 y.val) := by rw [World.cell?_alloc_at _ _ _ _ rfl]; rfl
          clear hw1 hx gw gn
          by_cases hp : (y.loc == loc) = true
          · have e1 := HGN.out.b1.cell
            have e2 := HGN.out.b2.cell
            have e3 := HGN.out.b3.cell
            have p1 := HGN.out.b1.frozen
            have p2 := HGN.out.b2.frozen
            have p3 := HGN.out.b3.frozen
            have HR := Lib.hid (HGN.out.res y.val y.ver 2)
            have HDJW : Hid ((((((wr.alloc (.cells #[.int .i64 y.loc, .int .i64 y.ver, .int .i64 y.val] 30)).setCell ⟨w.heap.size + 1, 0, none⟩ (.int .i64 y.val)).setCell ⟨w.heap.size + 1 + 1, 0, none⟩ (.int .i64 y.ver)).setCell ⟨w.heap.size + 1 + 1 + 1, 0, none⟩ (.int .i64 2)).drew).heap[D]? = some (.deferred (some []))) :=
              Lib.hid (((KeepsOthers.setCell _ _ _).trans ((KeepsOthers.setCell _ _ _).trans (KeepsOthers.setCell _ _ _))).same _ _ ((HBN.out.block D hDn).trans HDJ.out) rfl)
            have HW := Lib.hid (find_hit (p := fun s : Seen => s.loc == loc) HX1.out HK.out hp)
            gi_wp2
            gi_region
            all_goals
              gi_wp2
              exact ⟨HFN.out.trans (((KeepsOthers.setCell _ _ _).from _).trans (((KeepsOthers.setCell _ _ _).from _).trans (((KeepsOthers.setCell _ _ _).from _).trans ((KeepsOthers.drew _).from _)))), ⟨rfl, y, ⟨pre, x, rfl, HG2.out, HW.out⟩, HR.out.drew⟩, HDJW.out⟩
          · have hp' : (y.loc == loc) = false := by simpa using hp
            have HP := Lib.hid (idx_next (p := fun s : Seen => s.loc == loc) HX1.out HK.out hp')
            clear hp
            gi_wp2
            go_roundw
            case rel => exact ⟨k + 1, by omega, by go_num, HP, HGN.out, HBN, HFN⟩
            case measure => simp [intOf]; omega
        · have HW := Lib.hid (find_none (p := fun s : Seen => s.loc == loc) (xs := x.lv.reads) (k := k) (by rw [HE.out]; omega) HK.out)
          gi_wp2
          refine ⟨HF.out, HB.out, ⟨HGW.out, HG1.out.trans HB.out⟩, fun z hz => ?_⟩
          rcases List.mem_append.1 hz with hz | hz
          · exact HG2.out z hz
          · simp at hz
            subst hz
            exact HW.out
    case done2 =>
      rintro D2 ys W' hD2 hys ⟨⟨g0, g1⟩, g2⟩ hK3
      have hr0 : ls.reverse.findSome? (rHit loc) = none := by rw [← hys]; exact some_none g2
      have HF := Lib.hid (findL_n HW0.out hr0)
      have HR := Lib.hid (g0.res 0 0 0)
      have hKD : W'.heap[D]? = some (.deferred (some [])) := (g1.block D hDn).trans hK2
      have HKD := Lib.hid hKD
      have HK3 := Lib.hid hK3
      have e1 := g0.b1.cell
      have e2 := g0.b2.cell
      have e3 := g0.b3.cell
      have p1 := g0.b1.frozen
      have p2 := g0.b2.frozen
      have p3 := g0.b3.frozen
      clear hr0 hKD hK3 g0 g1 g2
      have HT := Lib.hid (((KeepsOthers.setCell W' ⟨w.heap.size + 1, 0, none⟩ (.int .i64 0)).trans (KeepsOthers.setCell _ ⟨w.heap.size + 1 + 1, 0, none⟩ (.int .i64 0))).trans (KeepsOthers.setCell _ ⟨w.heap.size + 1 + 1 + 1, 0, none⟩ (.int .i64 0)))
      gi_wp2
      exact find_leave_two (B := W0.heap.size) (B2 := W2.heap.size) (by omega) (by omega) hD hD2 hDn rfl rfl rfl (HT.out.same _ _ HKD.out rfl) (HT.out.same _ _ HK3.out rfl) HR.out HF.out
    case stop2 =>
      rintro D2 c pre W' hD2 hpre ⟨⟨rfl, y, hy, hR⟩, hKD⟩ hK3
      have HF := Lib.hid (hy.find HW0.out hpre)
      gi_wp2
      exact find_leave_two (B := W0.heap.size) (B2 := W2.heap.size) (by omega) (by omega) hD hD2 hDn rfl rfl rfl hKD hK3 hR HF.out
  case stop =>
    rintro D c pre W hD hpre ⟨rfl, y, hy, hR⟩ hK
    have HF := Lib.hid (hy.find hpre)
    gi_wp2
    refine ⟨by simp, .inl ⟨_, _, rfl, run_takeDeferred hK, ?_⟩⟩
    have hR2 := (FRes.own (β := Unit) (w := w) (a := y.val) (b := 0) (c := 1) (B := W0.heap.size) f1.bl.size).putObj (s := ()) (.deferred none) hR hD hK rfl
    have r1 := hR2.1.1.cell
    have r2 := hR2.1.2.1.cell
    have r3 := hR2.1.2.2.cell
    refine ⟨.tuple #[.int .i64 y.val, .int .i64 0, .int .i64 1], ?_, by rw [HF.out], hR2.2⟩
    simp [results, Try.f17, go_sem, r1, r2, r3]
/-- What Find hands back. -/
def RetFind (ls : List Lv) (loc : Int) (w : World) (e : Ending) (w' : World) : Prop :=
  e = .returned (.tuple #[.int .i64 (findL ls loc).1, .int .i64 (findL ls loc).2.1, .int .i64 (findL ls loc).2.2]) ∧ Below w.heap.size w w'
theorem find_any (v : Value) (ls : List Lv) (loc : Int) (w : World) (h : IsLs w v ls) (hm : ls.length ≤ 1000) (hsv : ∀ x ∈ ls, SmallV 80000 x) : Calls Try.prog 17 #[v, .int .i64 loc] w (RetFind ls loc w) :=
  (callsIn_wide (n := 3)).1 (find_in Fence.wide 3 trivial trivial trivial rfl (by omega) v ls loc w h hm hsv)
end Go.Proofs.Ytiomfncbhbokpaa
