/- Rows that a law keeps beside its levels: of ints and of [4]int. What turns in them turns no level. -/
import Derived.Test.YtiomfncbhbokpaaTPlain
import Derived.OpenShut
namespace Go.Proofs.Ytiomfncbhbokpaa
open Go.RowKit
set_option linter.unusedVariables false

/-- Block g is no block of levels. -/
def Alien (w : World) (g : Nat) : Prop := ∃ c e f, w.heap[g]? = some (.cells c e f) ∧ ¬ Fine e
theorem Sees.aside {w w' : World} {g B : Nat} {A : Option Addr} {xs : List Value} (h : Sees w B A xs) (ha : Aside g w w') (hB : B ≤ w.heap.size) (hg : Alien w g) : Sees w' B A xs := by
  rcases h with h | ⟨b, off, rfl, hb, ht, hc⟩
  · exact .inl h
  · have hne : b ≠ g := by
      rintro rfl
      obtain ⟨c1, e1, f1, h1, h2⟩ := ht
      obtain ⟨c2, e2, f2, h3, h4⟩ := hg
      rw [h1] at h3
      injection h3 with h3
      injection h3 with _ h5 _
      exact h4 (h5 ▸ h2)
    have hk := ha.block b (by omega) hne
    exact .inr ⟨b, off, rfl, hb, ht.keep hk, fun j u hj => (World.cell?_of_block (w := w) hk).trans (hc j u hj)⟩
theorem Lev.aside {w w' : World} {g B : Nat} {l : LC} {v : Lv} (h : Lev w B l v) (ha : Aside g w w') (hB : B ≤ w.heap.size) (hg : Alien w g) : Lev w' B l v :=
  ⟨h.e1, h.e2, h.e3, h.m1, h.m2, h.m3, h.s1.aside ha hB hg, h.s2.aside ha hB hg, h.s3.aside ha hB hg⟩
theorem Levs.aside {w w' : World} {g B : Nat} {ls : List LC} {vs : List Lv} (h : Levs w B ls vs) (ha : Aside g w w') (hB : B ≤ w.heap.size) (hg : Alien w g) : Levs w' B ls vs := by
  induction h with
  | nil => exact .nil
  | cons h _ ih => exact .cons (h.aside ha hB hg) ih
theorem IsLs.aside {w w' : World} {g : Nat} {v : Value} {ls : List Lv} (h : IsLs w v ls) (ha : Aside g w w') (hg : Alien w g) : IsLs w' v ls := by
  obtain ⟨A, c, lcs, rfl, hc, hs, hl⟩ := h
  exact ⟨A, c, lcs, rfl, hc, (hs.aside ha (Nat.le_refl _) hg).more ha.size, (hl.aside ha (Nat.le_refl _) hg).more ha.size⟩
theorem alien_own {w : World} {base e size n g c : Nat} {xs : List Value} (h : w.ownsRow base e size (.slice (some ⟨g, 0, none⟩) n c) n xs) (he : ¬ Fine e) : Alien w g := by
  rcases h.2 with ⟨h1, _⟩ | ⟨g', cap, cur, h1, _, hh, _⟩
  · cases h1
  · have hg : g = g' := by injection h1 with h1; injection h1 with h1; injection h1
    subst hg
    exact ⟨_, _, _, hh, he⟩
/-- Behind a growth of the law's own row the levels read as before. -/
theorem IsLs.grown {w w' : World} {base e size n : Nat} {v x : Value} {xs : List Value} {ls : List Lv} (h : IsLs w x ls) (ho : w.ownsRow base e size v n xs) (he : ¬ Fine e) (hg : w.grownBy w' v.ownBlock) : IsLs w' x ls := by
  rcases ho.2 with ⟨rfl, _⟩ | ⟨g, cap, cur, rfl, _, hh, _⟩
  · exact h.below ⟨hg.os, hg.tape, hg.output, hg.size, fun k hk => hg.block k hk (by simp [Value.ownBlock])⟩
  · exact h.aside (g := g) ⟨hg.os, hg.tape, hg.output, hg.size, fun k hk hne => hg.block k hk (by simp only [Value.ownBlock]; intro e; injection e with e; exact hne e)⟩ ⟨_, _, _, hh, he⟩
/-- A store into the law's own row. -/
theorem IsLs.stored {w : World} {base e size n g c o : Nat} {x u : Value} {xs : List Value} {ls : List Lv} (h : IsLs w x ls) (ho : w.ownsRow base e size (.slice (some ⟨g, 0, none⟩) n c) n xs) (he : ¬ Fine e) : IsLs (w.setCell ⟨g, o, none⟩ u) x ls :=
  h.aside (Aside.set w g o u) (alien_own ho he)

/-- What a row of the law's own looks like, whatever its block's elements. -/
theorem own_form0 {w : World} {base : Nat} {e : TypeId} {n size : Nat} {v : Value} {xs : List Value} (h : w.ownsRow base e size v n xs) : ∃ A c, v = .slice A n c ∧ n ≤ c ∧ ∀ j u, xs[j]? = some u → ∃ b, A = some ⟨b, 0, none⟩ ∧ b < w.heap.size ∧ w.cell? ⟨b, j, none⟩ = some u := by
  obtain ⟨hl, ⟨rfl, rfl⟩ | ⟨g, cap, cur, rfl, hb, hh, hn, hr⟩⟩ := id h
  · refine ⟨none, 0, rfl, Nat.le_refl _, fun j u hj => ?_⟩
    have := (List.getElem?_eq_some_iff.1 hj).1
    omega
  · refine ⟨_, cap, rfl, hn, fun j u hj => ⟨g, rfl, (h.lt g rfl).2, ?_⟩⟩
    have hlt := (List.getElem?_eq_some_iff.1 hj).1
    rw [h.cellAt j (by omega), hj]

/-- 'append(out, x)': what it leaves is told besides. -/
theorem wpList_push2 {P : Program} {w : World} {ops : Array Oper} {rest : List Oper} {o : Oper} {a : Act} {Q : Exit → Act → World → Prop} (hgd : o.guard = none) (s x : Operand) (t : TypeId)
    (ho : o.op = .call { callee := .builtin .append, args := #[s, x], argTypes := #[t, t] })
    (base : Nat) (e : TypeId) (i : TypeInfo) (z : Value) (size bytes : Nat) (ht : P.underlying t = some (.slice e)) (hi : P.info? e = some i) (hz : i.zero = some z)
    (hsize : i.size = size) (hby : i.bytes = bytes) (hzs : z.cells.size = size) (hsz : 0 < size)
    {v : Value} {n : Nat} {xs : List Value} (hown : w.ownsRow base e size v n xs) {us : Array Value} {T : TypeId} {m c : Nat} (hs : a.eval s = v) (hx : a.eval x = .slice (some ⟨w.heap.size, 0, none⟩) m c) (hl : us.size = m * size) (h1 : us.toList.all Value.oneCell' = true)
    (h63 : n + m ≤ maxLen) (hbytes : (n + m) * bytes ≤ 140737488355328) (hbase : base ≤ w.heap.size)
    (h : ∀ v' w', w'.ownsRow base e size v' (n + m) (xs ++ us.toList) → w.grownBy w' v.ownBlock → Below base w w' → wpList P ops Q rest (a.put o.dst v') w') : wpList P ops Q (o :: rest) a (w.alloc (.cells us T)) := by
  refine wpList_append_own _ hgd s x t ho base e i z size bytes ht hi hz hsize hby hzs hsz v n xs hs (hown.alloc (.cells us T)) ⟨w.heap.size, 0, none⟩ m c us.toList hx (by simpa using hl) ?_ (List.all_eq_true.1 h1) h63 hbytes (by simp; omega) ?_
  · intro j u hu
    have : (⟨w.heap.size, 0, none⟩ : Addr).add j = ⟨w.heap.size, j, none⟩ := by
      unfold Addr.add
      by_cases hj : j = 0
      · subst hj; simp
      · simp [hj]
    rw [this, World.cell?_alloc_at _ _ _ _ rfl]
    simpa using hu
  · intro v' w' h2 h3 _
    have hal : Below w.heap.size w (w.alloc (.cells us T)) := (Below.refl _ _).alloc (Nat.le_refl _) _
    refine h v' w' h2 ⟨h3.os.trans hal.os, h3.tape.trans hal.tape, h3.output.trans hal.output, Nat.le_trans hal.size h3.size, fun k hk hne => ?_⟩ (((Below.refl _ _).alloc hbase _).grown h3 (by simp; omega) fun k hk => (hown.lt k hk).1)
    exact (h3.block k (Nat.lt_of_lt_of_le hk hal.size) hne).trans (hal.block k hk)

/-! ### numbers that came in -/
def Row (k : IntKind) (w : World) (a : Option Addr) (len cap : Nat) (zs : List Int) : Prop :=
  (a = none ∧ len = 0 ∧ cap = 0 ∧ zs = []) ∨
  ∃ x, a = some x ∧ len ≤ cap ∧ cap ≤ maxLen ∧ zs.length = cap ∧ (∀ i, i < zs.length → w.cell? (x.add i) = some (.int k (zs.getD i 0))) ∧ ∀ n ∈ zs, (Lit.int k n).wf = true
theorem Row.len {k : IntKind} {w : World} {a : Option Addr} {len cap : Nat} {zs : List Int} (h : Row k w a len cap zs) : (zs.take len).length = len ∧ len ≤ cap ∧ len ≤ maxLen ∧ ∀ n ∈ zs.take len, (Lit.int k n).wf = true := by
  rcases h with ⟨rfl, rfl, rfl, rfl⟩ | ⟨x, rfl, hl, hm, hz, hc, hw⟩
  · exact ⟨rfl, Nat.le_refl _, Nat.zero_le _, fun n hn => by simp at hn⟩
  · exact ⟨by rw [List.length_take]; omega, hl, by omega, fun n hn => hw n (List.mem_of_mem_take hn)⟩
/-- Numbers that are read, whatever their block. -/
def SeesN (k : IntKind) (w : World) (B : Nat) (A : Option Addr) (zs : List Int) : Prop :=
  zs = [] ∨ ∃ b off, A = some ⟨b, off, none⟩ ∧ b < B ∧ ∀ j z, zs[j]? = some z → w.cell? ⟨b, off + j, none⟩ = some (.int k z)
theorem SeesN.below {k : IntKind} {w w' : World} {B : Nat} {A : Option Addr} {zs : List Int} (h : SeesN k w B A zs) (hb : Below B w w') : SeesN k w' B A zs := by
  rcases h with h | ⟨b, off, rfl, hB, hc⟩
  · exact .inl h
  · exact .inr ⟨b, off, rfl, hB, fun j z hj => (hb.cell (p := ⟨b, off + j, none⟩) hB).trans (hc j z hj)⟩
theorem SeesN.at1 {k : IntKind} {w : World} {B : Nat} {A : Option Addr} {zs : List Int} {j : Nat} {z : Int} (h : SeesN k w B A zs) (hj : zs[j]? = some z) : ∃ b off, A = some ⟨b, off, none⟩ ∧ b < B ∧ w.cell? ⟨b, off + j, none⟩ = some (.int k z) := by
  rcases h with h | ⟨b, off, hA, hB, hc⟩
  · rw [h] at hj; simp at hj
  · exact ⟨b, off, hA, hB, hc j z hj⟩
theorem Row.sees {k : IntKind} {w : World} {a : Option Addr} {len cap : Nat} {zs : List Int} (h : Row k w a len cap zs) : SeesN k w w.heap.size a (zs.take len) := by
  rcases h with ⟨rfl, rfl, rfl, rfl⟩ | ⟨x, rfl, hl, hm, hz, hc, hw⟩
  · exact .inl rfl
  · rcases Nat.eq_zero_or_pos zs.length with h0 | h0
    · left
      have : zs = [] := List.eq_nil_of_length_eq_zero h0
      subst this
      simp
    · obtain ⟨b, off, spot⟩ := x
      have h1 := hc 0 h0
      have hspot : spot = none := by simpa [Addr.add] using World.cell?_spot h1
      subst hspot
      refine .inr ⟨b, off, rfl, World.block_lt_of_cell? w _ h1, fun j u hu => ?_⟩
      rw [List.getElem?_take] at hu
      split at hu
      · have hj := (List.getElem?_eq_some_iff.1 hu).1
        have h2 := hc j hj
        rw [Addr.add_lit] at h2
        rw [h2]
        have hv := (List.getElem?_eq_some_iff.1 hu).2
        rw [List.getD_eq_getElem?_getD, hu]
        rfl
      · cases hu
end Go.Proofs.Ytiomfncbhbokpaa
