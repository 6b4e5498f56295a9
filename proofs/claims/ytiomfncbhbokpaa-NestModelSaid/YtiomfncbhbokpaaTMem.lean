/- Plain facts on memory: a slice that is read as a list of cells, and how that reading outlives new blocks, draws and stores elsewhere. No program is in sight. -/
import Derived.WalkKit
import Derived.Deep.Draws
import Derived.Lib.AppendStr
import Derived.Lib.BufferRead
namespace Go.Proofs.Ytiomfncbhbokpaa
open Go.RowKit

/-- The element types of the levels' blocks. -/
abbrev Fine (e : Nat) : Prop := e ≠ 3 ∧ e ≠ 42
def HasTag (w : World) (b : Nat) : Prop := ∃ c e f, w.heap[b]? = some (.cells c e f) ∧ Fine e
theorem HasTag.keep {w w' : World} {b : Nat} (h : HasTag w b) (hk : w'.heap[b]? = w.heap[b]?) : HasTag w' b := by
  obtain ⟨c, e, f, h1, h2⟩ := h
  exact ⟨c, e, f, hk.trans h1, h2⟩
/-- What lies from A on reads as the cells xs, all in a block below B. (Where xs is empty A may be anything.) -/
def Sees (w : World) (B : Nat) (A : Option Addr) (xs : List Value) : Prop :=
  xs = [] ∨ ∃ b off, A = some ⟨b, off, none⟩ ∧ b < B ∧ HasTag w b ∧ ∀ j u, xs[j]? = some u → w.cell? ⟨b, off + j, none⟩ = some u

section
variable {w w' : World} {B B' : Nat} {A : Option Addr} {xs : List Value}
theorem Sees.nil : Sees w B A [] := .inl rfl
theorem Sees.at_ {k : Nat} (h : Sees w B A xs) (hk : k < xs.length) : ∃ b off, A = some ⟨b, off, none⟩ ∧ b < B ∧ HasTag w b ∧ ∀ j u, xs[j]? = some u → w.cell? ⟨b, off + j, none⟩ = some u := by
  rcases h with rfl | h
  · simp at hk
  · exact h
theorem Sees.keep (h : Sees w B A xs) (hk : ∀ b, b < B → w'.heap[b]? = w.heap[b]?) : Sees w' B A xs := by
  rcases h with rfl | ⟨b, off, rfl, hb, ht, hc⟩
  · exact .inl rfl
  · exact .inr ⟨b, off, rfl, hb, ht.keep (hk _ hb), fun j u hu => (World.cell?_of_block (w := w) (hk b hb)).trans (hc j u hu)⟩
theorem Sees.more (h : Sees w B A xs) (hB : B ≤ B') : Sees w B' A xs := by
  rcases h with rfl | ⟨b, off, rfl, hb, ht, hc⟩
  · exact .inl rfl
  · exact .inr ⟨b, off, rfl, by omega, ht, hc⟩
theorem Sees.below (h : Sees w B A xs) (hb : Below B w w') : Sees w' B A xs := h.keep fun _ hp => hb.block _ hp
theorem Sees.drewN (h : Sees w B A xs) (k : Nat) : Sees (w.drewN k) B A xs := h
theorem Sees.alloc (h : Sees w B A xs) (hB : B ≤ w.heap.size) (o : Obj) : Sees (w.alloc o) B A xs := h.below ((Below.refl _ _).alloc hB o)
theorem Sees.grown (h : Sees w B A xs) {row : Option Nat} (hg : w.grownBy w' row) (hB : B ≤ w.heap.size) (hr : ∀ g, row = some g → B ≤ g) : Sees w' B A xs :=
  h.below ((Below.refl _ _).grown hg hB hr)
theorem Sees.of_own {base : Nat} {e : TypeId} {n c size : Nat} (h : w.ownsRow base e size (.slice A n c) n xs) (he : Fine e := by decide) : Sees w w.heap.size A xs := by
  rcases xs with _ | ⟨x, xs⟩
  · exact .inl rfl
  · obtain ⟨hl, h0 | ⟨g, cap, cur, hv, _, hh, _⟩⟩ := id h
    · simp [h0.2] at hl
    · simp only [Value.slice.injEq] at hv
      obtain ⟨rfl, _, _⟩ := hv
      have hlt := (h.lt g rfl).2
      refine .inr ⟨g, 0, rfl, hlt, ⟨_, _, _, hh, he⟩, fun j u hu => ?_⟩
      have := h.cells (g := g) rfl j u hu
      rwa [show (⟨g, 0, none⟩ : Addr).add j = ⟨g, 0 + j, none⟩ by simp [Addr.add]; intro h; exact h.symm] at this
/-- A new block is seen. -/
theorem Sees.new (w : World) (xs : List Value) (t : TypeId) (ht : Fine t := by decide) : Sees (w.alloc (.cells xs.toArray t)) (w.heap.size + 1) (some ⟨w.heap.size, 0, none⟩) xs :=
  .inr ⟨_, 0, rfl, by omega, ⟨_, _, _, heap_alloc_new w _, ht⟩, fun j u hu => by
    rw [World.cell?_alloc_at _ _ _ _ rfl]
    simpa using hu⟩
end
/-- A row of the call's own is a slice. -/
theorem own_form {w : World} {base : Nat} {e : TypeId} {n size : Nat} {v : Value} {xs : List Value} (h : w.ownsRow base e size v n xs) (he : Fine e := by decide) : ∃ A c, v = .slice A n c ∧ n ≤ c ∧ Sees w w.heap.size A xs := by
  obtain ⟨hl, ⟨rfl, rfl⟩ | ⟨g, cap, cur, rfl, _, hh, hn, _⟩⟩ := id h
  · exact ⟨none, 0, rfl, Nat.le_refl _, Sees.of_own h he⟩
  · exact ⟨_, cap, rfl, hn, Sees.of_own h he⟩
theorem own_back {w : World} {base : Nat} {e : TypeId} {n size : Nat} {v : Value} {xs : List Value} (h : w.ownsRow base e size v n xs) : ∀ g, v.ownBlock = some g → base ≤ g := fun g hg => (h.lt g hg).1
theorem getElem?_ints {k : IntKind} {zs : List Int} {j : Nat} (h : j < zs.length) : (zs.map (Value.int k))[j]? = some (.int k (zs.getD j 0)) := by
  simp [List.getElem?_map, List.getElem?_eq_getElem h, List.getD]
theorem cells_ints {k : IntKind} {w : World} {b off : Nat} {zs : List Int} (h : ∀ j u, (zs.map (Value.int k))[j]? = some u → w.cell? ⟨b, off + j, none⟩ = some u) :
    ∀ j, j < zs.length → w.cell? ⟨b, off + j, none⟩ = some (.int k (zs.getD j 0)) := fun j hj => h j _ (getElem?_ints hj)
theorem ints_one {k : IntKind} {zs : List Int} : ∀ u ∈ zs.map (Value.int k), u.oneCell' = true := by
  intro u hu
  obtain ⟨n, _, rfl⟩ := List.mem_map.1 hu
  rfl
theorem below_drewN {B : Nat} {a w : World} (h : Below B a w) (n : Nat) : Below B a (w.drewN n) := ⟨h.os, h.tape, h.output, h.size, h.block⟩

/-- An append of a block that was just laid ('append(out, x)'): the row grows by its cells; nothing below 'base' turns. -/
theorem wpList_push {P : Program} {w : World} {ops : Array Oper} {rest : List Oper} {o : Oper} {a : Act} {Q : Exit → Act → World → Prop} (hgd : o.guard = none) (s x : Operand) (t : TypeId)
    (ho : o.op = .call { callee := .builtin .append, args := #[s, x], argTypes := #[t, t] })
    (base : Nat) (e : TypeId) (i : TypeInfo) (z : Value) (size bytes : Nat) (ht : P.underlying t = some (.slice e)) (hi : P.info? e = some i) (hz : i.zero = some z)
    (hsize : i.size = size) (hby : i.bytes = bytes) (hzs : z.cells.size = size) (hsz : 0 < size)
    {v : Value} {n : Nat} {xs : List Value} (hown : w.ownsRow base e size v n xs) {us : Array Value} {T : TypeId} {m c : Nat} (hs : a.eval s = v) (hx : a.eval x = .slice (some ⟨w.heap.size, 0, none⟩) m c) (hl : us.size = m * size) (h1 : us.toList.all Value.oneCell' = true)
    (h63 : n + m ≤ maxLen) (hbytes : (n + m) * bytes ≤ 140737488355328) (hbase : base ≤ w.heap.size)
    (h : ∀ v' w', w'.ownsRow base e size v' (n + m) (xs ++ us.toList) → Below base w w' → wpList P ops Q rest (a.put o.dst v') w') : wpList P ops Q (o :: rest) a (w.alloc (.cells us T)) := by
  refine wpList_append_own _ hgd s x t ho base e i z size bytes ht hi hz hsize hby hzs hsz v n xs hs (hown.alloc (.cells us T)) ⟨w.heap.size, 0, none⟩ m c us.toList hx (by simpa using hl) ?_ (List.all_eq_true.1 h1) h63 hbytes (by simp; omega) ?_
  · intro j u hu
    have : (⟨w.heap.size, 0, none⟩ : Addr).add j = ⟨w.heap.size, j, none⟩ := by
      unfold Addr.add
      by_cases hj : j = 0
      · subst hj; simp
      · simp [hj]
    rw [this, World.cell?_alloc_at _ _ _ _ rfl]
    simpa using hu
  · intro v' w' h2 h3 _
    exact h v' w' h2 (((Below.refl _ _).alloc hbase _).grown h3 (by simp; omega) fun k hk => (hown.lt k hk).1)
/-- A callee that draws nothing, met inside a region that draws. -/
theorem quiet_left {P : Program} {f : FuncId} {args : Array Value} {w : World} {n : Nat} {v : Value}
    (h : Calls P f args (w.drewN n) fun e w' => e = .returned v ∧ w.drewN n = w') : Calls P f args (w.drewN n) fun e w'' => e = .returned v ∧ ∃ m, w'' = w.drewN m :=
  h.mono fun _ _ ⟨he, hm⟩ => ⟨he, n, hm.symm⟩

theorem Sees.cut {w : World} {B : Nat} {A : Option Addr} {xs : List Value} (h : Sees w B A xs) {k cap : Nat} (hc : xs.length ≤ cap) : Sees w B (if cap = k then A else A.map (·.add (k * 1))) (xs.drop k) := by
  rcases Nat.lt_or_ge k xs.length with hk | hk
  · obtain ⟨b, off, rfl, hb, ht, hcell⟩ := h.at_ (k := k) hk
    rw [if_neg (by omega)]
    refine .inr ⟨b, off + k, ?_, hb, ht, fun j u hu => ?_⟩
    · simp only [Option.map_some, Nat.mul_one, Addr.add]
      by_cases h0 : k = 0
      · simp [h0]
      · simp [h0]
    · rw [Nat.add_assoc]
      exact hcell _ u (by rw [← hu, List.getElem?_drop])
  · rw [List.drop_eq_nil_of_le hk]; exact .inl rfl
theorem Sees.take {w : World} {B : Nat} {A : Option Addr} {xs : List Value} (h : Sees w B A xs) (k : Nat) : Sees w B A (xs.take k) := by
  rcases h with rfl | ⟨b, off, rfl, hb, ht, hc⟩
  · exact .inl (by simp)
  · refine .inr ⟨b, off, rfl, hb, ht, fun j u hu => hc j u ?_⟩
    rw [List.getElem?_take] at hu
    split at hu
    · exact hu
    · cases hu

/-- Where a cut begins: a name for the address, so that no walk parts on it. -/
def cutA (A : Option Addr) (k cap : Nat) : Option Addr := if cap = k then A else A.map (·.add (k * 1))
theorem Sees.cutA {w : World} {B : Nat} {A : Option Addr} {xs : List Value} (h : Sees w B A xs) (k : Nat) {cap : Nat} (hc : xs.length ≤ cap) : Sees w B (cutA A k cap) (xs.drop k) := h.cut hc
theorem map_add_zero (A : Option Addr) : A.map (·.add 0) = A := by
  cases A with
  | none => rfl
  | some a => simp [Addr.add]
section
variable {P : Program} {t : TypeId} (ht : P.underlying t = some (.slice (P.elem t))) (hs : ∀ w : World, (sizeOf (P.elem t)).run P w = .ok 1 w)
include ht hs
/-- 'b[:h]' -/
theorem slice_hi (A : Option Addr) (n c h : Nat) (z : Int) (hz : z = h) (hh : h ≤ c) (w : World) : (Instr.slice t (.slice A n c) none (some (.int .i64 z)) none).run P w = .ok (.slice A h c) w := by
  subst hz
  rw [run_slice_h w t A n c ht .i64 (h : Int) (by omega) (by omega), hs w]
  simp [Result.andThen, sliced, map_add_zero]
/-- 'b[l:]' -/
theorem slice_lo (A : Option Addr) (n c l : Nat) (z : Int) (hz : z = l) (hl : l ≤ n) (w : World) : (Instr.slice t (.slice A n c) (some (.int .i64 z)) none none).run P w = .ok (.slice (cutA A l c) (n - l) (c - l)) w := by
  subst hz
  rw [run_slice_l w t A n c ht .i64 (l : Int) (by omega) (by omega), hs w]
  simp [Result.andThen, sliced, Go.Proofs.Ytiomfncbhbokpaa.cutA]
/-- 'b[l:h]' -/
theorem slice_lh (A : Option Addr) (n c l h : Nat) (y z : Int) (hy : y = l) (hz : z = h) (hl : l ≤ h) (hh : h ≤ c) (w : World) : (Instr.slice t (.slice A n c) (some (.int .i64 y)) (some (.int .i64 z)) none).run P w = .ok (.slice (cutA A l c) (h - l) (c - l)) w := by
  subst hy hz
  rw [run_slice_lh w t A n c ht .i64 .i64 (l : Int) (h : Int) (by omega) (by omega) (by omega), hs w]
  simp [Result.andThen, sliced, Go.Proofs.Ytiomfncbhbokpaa.cutA]
/-- 'b[:h:m]' -/
theorem slice_hm (A : Option Addr) (n c h m : Nat) (y z : Int) (hy : y = h) (hz : z = m) (hl : h ≤ m) (hh : m ≤ c) (w : World) : (Instr.slice t (.slice A n c) none (some (.int .i64 y)) (some (.int .i64 z))).run P w = .ok (.slice A h m) w := by
  subst hy hz
  rw [run_slice_hm w t A n c ht .i64 .i64 (h : Int) (m : Int) (by omega) (by omega) (by omega), hs w]
  simp [Result.andThen, sliced, map_add_zero]
end
theorem below_of_drew {w w1 : World} (h : Below w.drew.heap.size w.drew w1) : Below w.heap.size w w1 := ⟨h.os, h.tape, h.output, h.size, h.block⟩
theorem below_of_drewN {w w1 : World} {n : Nat} (h : Below (w.drewN n).heap.size (w.drewN n) w1) : Below w.heap.size w w1 := ⟨h.os, h.tape, h.output, h.size, h.block⟩

/-! ### append -/
theorem sees_add {w : World} {B : Nat} {A : Option Addr} {ys : List Value} (h : Sees w B A ys) (a : Addr) (ha : A = some a) : ∀ j u, ys[j]? = some u → w.cell? (a.add j) = some u := by
  intro j u hu
  rcases h with rfl | ⟨b, off, hA, _, _, hc⟩
  · simp at hu
  · rw [ha] at hA
    injection hA with hA
    subst hA
    rw [Addr.add_lit]
    exact hc j u hu
theorem run_app_nil {P : Program} (w : World) (base : Nat) (t ty e : TypeId) (i : TypeInfo) (size : Nat) (ht : P.underlying t = some (.slice e)) (hi : P.info? e = some i)
    (v : Value) (n : Nat) (xs : List Value) (hown : w.ownsRow base e size v n xs) (c : Nat) : (Builtin.append_ #[t, t] ty #[v, .slice none 0 c]).run P w = .ok v w := by
  rcases hown.2 with ⟨rfl, rfl⟩ | ⟨g, cap, cur, rfl, _, _, hnc, _⟩
  · simp [Builtin.append_, run_underlying ht, sizeOf, typeInfo, hi, Builtin.lenOf, Builtin.firstCells]
  · simp [Builtin.append_, run_underlying ht, sizeOf, typeInfo, hi, Builtin.lenOf, Builtin.firstCells, hnc, storeCells]
/-- 'append(out, xs...)', out the call's own row, xs whatever slice is seen. -/
theorem wpList_app {P : Program} {w : World} {ops : Array Oper} {rest : List Oper} {o : Oper} {a : Act} {Q : Exit → Act → World → Prop} (hgd : o.guard = none) (s x : Operand) (t : TypeId)
    (ho : o.op = .call { callee := .builtin .append, args := #[s, x], argTypes := #[t, t] })
    (base : Nat) (e : TypeId) (i : TypeInfo) (z : Value) (size bytes : Nat) (ht : P.underlying t = some (.slice e)) (hi : P.info? e = some i) (hz : i.zero = some z)
    (hsize : i.size = size) (hby : i.bytes = bytes) (hzs : z.cells.size = size) (hsz : 0 < size)
    {v : Value} {n : Nat} {xs : List Value} (hown : w.ownsRow base e size v n xs) {B : Nat} {A : Option Addr} {m c : Nat} {ys : List Value} (hr : Sees w B A ys) (hl : ys.length = m * size) (h1 : ∀ u ∈ ys, u.oneCell' = true)
    (hs : a.eval s = v) (hx : a.eval x = .slice A m c)
    (h63 : n + m ≤ maxLen) (hbytes : (n + m) * bytes ≤ 140737488355328) (hbase : base ≤ w.heap.size)
    (h : ∀ v' w', w'.ownsRow base e size v' (n + m) (xs ++ ys) → Below base w w' → wpList P ops Q rest (a.put o.dst v') w') : wpList P ops Q (o :: rest) a w := by
  rcases A with _ | ad
  · obtain rfl : ys = [] := by
      rcases hr with rfl | ⟨b, off, hA, _⟩
      · rfl
      · cases hA
    have hm : m = 0 := by
      rcases Nat.eq_zero_or_pos m with h0 | h0
      · exact h0
      · have := Nat.mul_pos h0 hsz
        simp at hl
        omega
    subst hm
    refine wpList_plain hgd fun K hK => ?_
    have hrun := run_app_nil (P := P) w base t o.type e i size ht hi v n xs hown c
    unfold Oper.wp
    simp [execOp, ho, resolve, invoke, builtin, hs, hx, hrun, Result.andThen]
    exact hK _ _ (h v w (by simpa using hown) (Below.refl _ _))
  · refine wpList_append_own _ hgd s x t ho base e i z size bytes ht hi hz hsize hby hzs hsz v n xs hs hown ad m c ys hx hl (sees_add hr ad rfl) h1 h63 hbytes hbase ?_
    intro v' w' h2 h3 _
    exact h v' w' h2 ((Below.refl _ _).grown h3 hbase fun k hk => (hown.lt k hk).1)
end Go.Proofs.Ytiomfncbhbokpaa
