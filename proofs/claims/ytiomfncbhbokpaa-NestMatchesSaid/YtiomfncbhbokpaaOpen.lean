/- The levels that come in, opened: a slice of levels reads as a list, and every value in it is a tree. -/
import Derived.Test.YtiomfncbhbokpaaUndos
import Derived.Deep.Slices
import Derived.OpenShut
namespace Go.Proofs.Ytiomfncbhbokpaa
open Go.RowKit Go.ChangeShapes Go.WideShapes Go.Deep
set_option linter.unusedVariables false

section
variable {H : Type} {enc : TypeId × Value → H} {P : Program} {w : World} {base : Nat} {spare : Nat → Bool} {held : Bool}
/-- The fields of a struct: where each lies, and its type. -/
def fieldsOf (P : Program) (t : TypeId) : Option (List (Nat × Nat)) := match P.underlying t with
  | some (.struct fs) => some (fs.toList.map fun f => (f.offset, f.type))
  | _ => none
theorem trod_fields {t : TypeId} {L : List (Nat × Nat)} (hL : fieldsOf P t = some L) {fuel : Nat} {cs : List Value} {x : DataW H × List MemPlace} (h : DataW.trod enc P w base spare held fuel t cs = some x) :
    ∃ n, fuel = n + 1 ∧ cs.length = P.cellsOf t ∧ ∀ i o ty : Nat, L[i]? = some (o, ty) → ∃ y, DataW.trod enc P w base spare held n ty ((cs.drop o).take (P.cellsOf ty)) = some y := by
  unfold fieldsOf at hL
  split at hL
  · rename_i fs hs
    cases hL
    obtain ⟨xs, n, hf, _, hl, hlen, hg⟩ := DataW.trod_struct hs h
    refine ⟨n, hf, hl, fun i o ty hi => ?_⟩
    rw [List.getElem?_map] at hi
    cases hfi : fs.toList[i]? with
    | none => rw [hfi] at hi; cases hi
    | some f =>
      rw [hfi] at hi
      simp only [Option.map_some, Option.some.injEq, Prod.mk.injEq] at hi
      obtain ⟨rfl, rfl⟩ := hi
      have hfi' : fs[i]? = some f := by rw [← hfi, Array.getElem?_toList]
      have hlt : i < xs.length := by rw [hlen]; exact (Array.getElem?_eq_some_iff.1 hfi').1
      exact ⟨xs[i], (hg i f hfi').trans (List.getElem?_eq_getElem hlt)⟩
  · cases hL
/-- A slice's elements, each a list of cells that reads. -/
theorem open_rows {t e : TypeId} (ht : P.underlying t = some (.slice e)) {k : Nat} (hk : P.cellsOf e = k) (hk0 : 0 < k) {fuel : Nat} {A : Option Addr} {len cap : Nat} {x : DataW H × List MemPlace} (h : DataW.trod enc P w base spare held fuel t [.slice A len cap] = some x) :
    len ≤ cap ∧ cap ≤ maxLen ∧ ∃ n, (0 < len → n < fuel) ∧ ∀ i, i < len → ∃ b off cs y, A = some ⟨b, off, none⟩ ∧ b < w.heap.size ∧ cs.length = k ∧ (∀ j, j < k → w.cell? ⟨b, off + (i * k + j), none⟩ = cs[j]?) ∧ DataW.trod enc P w base spare held n e cs = some y := by
  rcases DataW.trod_slice ht h with ⟨hcs, _⟩ | ⟨a, len', cap', elems, rest, n, hfu, hcs, hx, hb, hl, hm, hel, hi, _⟩
  · simp only [List.cons.injEq, Value.slice.injEq, and_true] at hcs
    obtain ⟨rfl, rfl, rfl⟩ := hcs
    exact ⟨Nat.le_refl _, Nat.zero_le _, 0, fun h => by omega, fun i hi => by omega⟩
  · simp only [List.cons.injEq, Value.slice.injEq, and_true] at hcs
    obtain ⟨rfl, rfl, rfl⟩ := hcs
    refine ⟨hl, hm, n, fun _ => by omega, fun i hlt => ?_⟩
    have key : ∀ i, i < len → ∃ cs y, w.cells? base (a.add (i * k)) k = some cs ∧ DataW.trod enc P w base spare held n e cs = some y := fun i hlt => by
      have h1 := hi i hlt
      rw [hk, List.getElem?_eq_getElem (by omega), Option.bind_eq_some_iff] at h1
      obtain ⟨cs, h2, h3⟩ := h1
      exact ⟨cs, _, h2, h3⟩
    have hsp : a.spot = none := by
      obtain ⟨cs0, y, hc, _⟩ := key 0 (by omega)
      obtain ⟨_, hcl, hat⟩ := World.cells?_some hc
      have hc0 := hat 0 hk0
      rw [List.getElem?_eq_getElem (by omega)] at hc0
      simpa [Addr.add] using World.cell?_spot hc0
    obtain ⟨b, off, spot⟩ := a
    obtain rfl : spot = none := hsp
    obtain ⟨cs', y, hc, ht'⟩ := key i hlt
    obtain ⟨_, hcl, hat⟩ := World.cells?_some hc
    have hc0 := hat 0 hk0
    rw [List.getElem?_eq_getElem (by omega), add_add] at hc0
    refine ⟨b, off, cs', _, rfl, ?_, hcl, fun j hj => ?_, ht'⟩
    · have := World.block_lt_of_cell? w _ hc0
      rwa [Addr.add_lit] at this
    · have := hat j hj
      rwa [add_add, Addr.add_lit] at this
/-- Elements that each spell as a list of cells of one length make a list that is seen. -/
theorem sees_of {α : Type} [Inhabited α] {f : α → List Value} {k : Nat} (hf : ∀ x, (f x).length = k) (hk0 : 0 < k) {A : Option Addr} {len : Nat} {p : α → Prop}
    (h : ∀ i, i < len → ∃ b off, A = some ⟨b, off, none⟩ ∧ b < w.heap.size ∧ ∃ x, p x ∧ ∀ j, j < k → w.cell? ⟨b, off + (i * k + j), none⟩ = (f x)[j]?) :
    ∃ xs : List α, xs.length = len ∧ Sees w w.heap.size A (xs.flatMap f) ∧ ∀ x ∈ xs, p x := by
  obtain ⟨g, hg⟩ := choose_lt (p := fun i x => ∃ b off, A = some ⟨b, off, none⟩ ∧ b < w.heap.size ∧ p x ∧ ∀ j, j < k → w.cell? ⟨b, off + (i * k + j), none⟩ = (f x)[j]?) (fun i hi => by
    obtain ⟨b, off, h1, h2, x, h3, h4⟩ := h i hi
    exact ⟨x, b, off, h1, h2, h3, h4⟩)
  refine ⟨(List.range len).map g, by simp, ?_, fun x hx => ?_⟩
  · rcases Nat.eq_zero_or_pos len with h0 | h0
    · subst h0; exact .inl rfl
    · obtain ⟨b, off, hA, hb, _⟩ := hg 0 h0
      refine .inr ⟨b, off, hA, hb, fun j u hu => ?_⟩
      have hj := (List.getElem?_eq_some_iff.1 hu).1
      rw [flat_length hf, List.length_map, List.length_range] at hj
      have hi : j / k < len := Nat.div_lt_of_lt_mul (by rw [Nat.mul_comm]; exact hj)
      have hj' : j % k < k := Nat.mod_lt _ hk0
      have he : j / k * k + j % k = j := by rw [Nat.mul_comm]; exact Nat.div_add_mod j k
      obtain ⟨b', off', hA', _, _, h4⟩ := hg _ hi
      rw [hA] at hA'
      cases hA'
      have h5 := h4 _ hj'
      have h6 := flat_get hf ((List.range len).map g) (j / k) (j % k) (g (j / k)) (by rw [List.getElem?_map, List.getElem?_range hi]; rfl) hj'
      rw [he] at h5 h6
      rw [h5, ← h6, hu]
  · obtain ⟨i, hi, rfl⟩ := List.mem_map.1 hx
    obtain ⟨_, _, _, _, h3, _⟩ := hg i (List.mem_range.1 hi)
    exact h3
end
theorem fields30 : fieldsOf Try.prog 30 = some [(0, 3), (1, 3), (2, 3)] := by kernel_rfl
theorem fields33 : fieldsOf Try.prog 33 = some [(0, 3), (1, 3)] := by kernel_rfl
theorem fields48 : fieldsOf Try.prog 48 = some [(0, 3), (1, 3), (2, 3), (3, 46)] := by kernel_rfl
theorem fields50 : fieldsOf Try.prog 50 = some [(0, 48), (4, 3)] := by kernel_rfl
theorem fields62 : fieldsOf Try.prog 62 = some [(0, 23), (1, 24), (2, 34)] := by kernel_rfl
theorem cells3 : Try.prog.cellsOf 3 = 1 := by kernel_rfl
theorem cells23 : Try.prog.cellsOf 23 = 1 := by kernel_rfl
theorem cells24 : Try.prog.cellsOf 24 = 1 := by kernel_rfl
theorem cells34 : Try.prog.cellsOf 34 = 1 := by kernel_rfl
theorem cells46 : Try.prog.cellsOf 46 = 1 := by kernel_rfl
theorem cells30 : Try.prog.cellsOf 30 = 3 := by kernel_rfl
theorem cells33 : Try.prog.cellsOf 33 = 2 := by kernel_rfl
theorem cells48 : Try.prog.cellsOf 48 = 4 := by kernel_rfl
theorem cells50 : Try.prog.cellsOf 50 = 5 := by kernel_rfl
theorem cells62 : Try.prog.cellsOf 62 = 3 := by kernel_rfl
theorem under46 : Try.prog.underlying 46 = some (.slice 48) := by kernel_rfl
theorem under23 : Try.prog.underlying 23 = some (.slice 30) := by kernel_rfl
theorem under24 : Try.prog.underlying 24 = some (.slice 33) := by kernel_rfl
theorem under34 : Try.prog.underlying 34 = some (.slice 50) := by kernel_rfl
theorem under22 : Try.prog.underlying 22 = some (.slice 62) := by kernel_rfl
section
variable {H : Type} {enc : TypeId × Value → H} {w : World} {base : Nat} {spare : Nat → Bool} {held : Bool}
theorem trod_slice_form {t e : TypeId} (ht : Try.prog.underlying t = some (.slice e)) {fuel : Nat} {c : Value} {x : DataW H × List MemPlace} (h : DataW.trod enc Try.prog w base spare held fuel t [c] = some x) : ∃ A len cap, c = .slice A len cap := by
  rcases open_slice ht h with ⟨hcs, _⟩ | ⟨a, len', cap', m, n, D, Pl, hcs, _⟩
  · simp only [List.cons.injEq, and_true] at hcs
    exact ⟨_, _, _, hcs⟩
  · simp only [List.cons.injEq, and_true] at hcs
    exact ⟨_, _, _, hcs⟩
theorem int_form {fuel : Nat} {c : Value} {x : DataW H × List MemPlace} (h : DataW.trod enc Try.prog w base spare held fuel 3 [c] = some x) : ∃ z, c = .int .i64 z := by
  obtain ⟨z, hz, _⟩ := DataW.trod_int Try.underlying3 h
  simp only [List.cons.injEq, and_true] at hz
  exact ⟨z, hz⟩
theorem seen_form {fuel : Nat} {cs : List Value} {x : DataW H × List MemPlace} (h : DataW.trod enc Try.prog w base spare held fuel 30 cs = some x) : ∃ s, cs = seenC s := by
  obtain ⟨n, _, hl, hf⟩ := trod_fields fields30 h
  rw [cells30] at hl
  obtain ⟨y0, h0⟩ := hf 0 0 3 rfl
  obtain ⟨y1, h1⟩ := hf 1 1 3 rfl
  obtain ⟨y2, h2⟩ := hf 2 2 3 rfl
  rw [cells3] at h0 h1 h2
  match cs, hl with
  | [a, b, c], _ =>
    obtain ⟨z0, rfl⟩ := int_form h0
    obtain ⟨z1, rfl⟩ := int_form h1
    obtain ⟨z2, rfl⟩ := int_form h2
    exact ⟨⟨z0, z1, z2⟩, rfl⟩
theorem wr_form {fuel : Nat} {cs : List Value} {x : DataW H × List MemPlace} (h : DataW.trod enc Try.prog w base spare held fuel 33 cs = some x) : ∃ s, cs = wrC s := by
  obtain ⟨n, _, hl, hf⟩ := trod_fields fields33 h
  rw [cells33] at hl
  obtain ⟨y0, h0⟩ := hf 0 0 3 rfl
  obtain ⟨y1, h1⟩ := hf 1 1 3 rfl
  rw [cells3] at h0 h1
  match cs, hl with
  | [a, b], _ =>
    obtain ⟨z0, rfl⟩ := int_form h0
    obtain ⟨z1, rfl⟩ := int_form h1
    exact ⟨⟨z0, z1⟩, rfl⟩
/-- A value's four cells; its reading's fuel. -/
theorem value_form {fuel : Nat} {cs : List Value} {x : DataW H × List MemPlace} (h : DataW.trod enc Try.prog w base spare held fuel 48 cs = some x) :
    ∃ k m n A len cap f y, fuel = f + 1 ∧ cs = [.int .i64 k, .int .i64 m, .int .i64 n, .slice A len cap] ∧ DataW.trod enc Try.prog w base spare held f 46 [.slice A len cap] = some y := by
  obtain ⟨n, hn, hl, hf⟩ := trod_fields fields48 h
  rw [cells48] at hl
  obtain ⟨y0, h0⟩ := hf 0 0 3 rfl
  obtain ⟨y1, h1⟩ := hf 1 1 3 rfl
  obtain ⟨y2, h2⟩ := hf 2 2 3 rfl
  obtain ⟨y3, h3⟩ := hf 3 3 46 rfl
  rw [cells3] at h0 h1 h2
  rw [cells46] at h3
  match cs, hl with
  | [a, b, c, d], _ =>
    obtain ⟨z0, rfl⟩ := int_form h0
    obtain ⟨z1, rfl⟩ := int_form h1
    obtain ⟨z2, rfl⟩ := int_form h2
    obtain ⟨A, len, cap, rfl⟩ := trod_slice_form under46 h3
    exact ⟨z0, z1, z2, A, len, cap, n, y3, hn, rfl, h3⟩
end
theorem VT.succ {w : World} {B : Nat} : ∀ {d : Nat} {A : Option Addr} {len : Nat}, VT w B d A len → VT w B (d + 1) A len
  | 0, _, _, h => fun i hi => by
    have : _ = 0 := h
    omega
  | d + 1, A, len, h => fun i hi => by
    obtain ⟨b, off, k, n, m, A', len', cap', hA, hb, h0, h1, h2, h3, h4, h5⟩ := h i hi
    exact ⟨b, off, k, n, m, A', len', cap', hA, hb, h0, h1, h2, h3, h4, h5.succ⟩
theorem VT.up {w : World} {B d e : Nat} {A : Option Addr} {len : Nat} (h : VT w B d A len) (hde : d ≤ e) : VT w B e A len := by
  obtain ⟨k, rfl⟩ := Nat.exists_eq_add_of_le hde
  clear hde
  induction k with
  | zero => exact h
  | succ k ih => exact ih.succ
section
variable {H : Type} {enc : TypeId × Value → H} {w : World} {base : Nat} {spare : Nat → Bool} {held : Bool}
/-- A row of values that reads is a row of trees. -/
theorem tree_form : ∀ (fuel : Nat) (A : Option Addr) (len cap : Nat) (x : DataW H × List MemPlace), DataW.trod enc Try.prog w base spare held fuel 46 [.slice A len cap] = some x → VT w w.heap.size (fuel + 1) A len ∧ len ≤ maxLen := by
  intro fuel
  induction fuel using Nat.strongRecOn with
  | ind fuel ih =>
    intro A len cap x h
    obtain ⟨hl, hm, n, hn, hi⟩ := open_rows under46 cells48 (by decide) h
    refine ⟨fun i hlt => ?_, by omega⟩
    obtain ⟨b, off, cs, y, hA, hb, hc, hj, ht⟩ := hi i hlt
    obtain ⟨k, p, q, A', len', cap', f, z, hf, rfl, hz⟩ := value_form ht
    have hnf := hn (by omega)
    obtain ⟨t1, t2⟩ := ih f (by omega) A' len' cap' z hz
    exact ⟨b, off, k, p, q, A', len', cap', hA, hb, hj 0 (by omega), hj 1 (by omega), hj 2 (by omega), hj 3 (by omega), t2, t1.up (by omega)⟩
instance : Inhabited Seen := ⟨⟨0, 0, 0⟩⟩
instance : Inhabited Wr := ⟨⟨0, 0⟩⟩
instance : Inhabited Und := ⟨⟨0, 0, 0, none, 0, 0, 0⟩⟩
instance : Inhabited LC := ⟨⟨none, 0, 0, none, 0, 0, none, 0, 0⟩⟩
instance : Inhabited Lv := ⟨⟨[], [], []⟩⟩
theorem seens_form {fuel : Nat} {A : Option Addr} {len cap : Nat} {x : DataW H × List MemPlace} (h : DataW.trod enc Try.prog w base spare held fuel 23 [.slice A len cap] = some x) :
    len ≤ cap ∧ cap ≤ maxLen ∧ ∃ rs : List Seen, rs.length = len ∧ Sees w w.heap.size A (rs.flatMap seenC) := by
  obtain ⟨hl, hm, n, -, hi⟩ := open_rows under23 cells30 (by decide) h
  obtain ⟨rs, h1, h2, -⟩ := sees_of (p := fun _ => True) seen_len (by decide) (fun i hlt => by
    obtain ⟨b, off, cs, y, hA, hb, hc, hj, ht⟩ := hi i hlt
    obtain ⟨s, rfl⟩ := seen_form ht
    exact ⟨b, off, hA, hb, s, trivial, hj⟩)
  exact ⟨hl, hm, rs, h1, h2⟩
theorem wrs_form {fuel : Nat} {A : Option Addr} {len cap : Nat} {x : DataW H × List MemPlace} (h : DataW.trod enc Try.prog w base spare held fuel 24 [.slice A len cap] = some x) :
    len ≤ cap ∧ cap ≤ maxLen ∧ ∃ rs : List Wr, rs.length = len ∧ Sees w w.heap.size A (rs.flatMap wrC) := by
  obtain ⟨hl, hm, n, -, hi⟩ := open_rows under24 cells33 (by decide) h
  obtain ⟨rs, h1, h2, -⟩ := sees_of (p := fun _ => True) wr_len (by decide) (fun i hlt => by
    obtain ⟨b, off, cs, y, hA, hb, hc, hj, ht⟩ := hi i hlt
    obtain ⟨s, rfl⟩ := wr_form ht
    exact ⟨b, off, hA, hb, s, trivial, hj⟩)
  exact ⟨hl, hm, rs, h1, h2⟩
theorem und_form {fuel : Nat} {cs : List Value} {x : DataW H × List MemPlace} (h : DataW.trod enc Try.prog w base spare held fuel 50 cs = some x) : ∃ u, cs = undC u ∧ ∃ d, u.len ≤ maxLen ∧ VT w w.heap.size d u.A u.len := by
  obtain ⟨n, _, hl, hf⟩ := trod_fields fields50 h
  rw [cells50] at hl
  obtain ⟨y0, h0⟩ := hf 0 0 48 rfl
  obtain ⟨y1, h1⟩ := hf 1 4 3 rfl
  rw [cells48] at h0
  rw [cells3] at h1
  match cs, hl with
  | [a, b, c, d, e], _ =>
    obtain ⟨k, p, q, A, len, cap, f, z, -, he, hz⟩ := value_form h0
    obtain ⟨t1, t2⟩ := tree_form f A len cap z hz
    obtain ⟨l, rfl⟩ := int_form h1
    simp only [List.drop_zero, List.take_succ_cons, List.take_zero, List.cons.injEq, and_true] at he
    obtain ⟨rfl, rfl, rfl, rfl⟩ := he
    exact ⟨⟨k, p, q, A, len, cap, l⟩, rfl, _, t2, t1⟩
theorem unds_form {fuel : Nat} {A : Option Addr} {len cap : Nat} {x : DataW H × List MemPlace} (h : DataW.trod enc Try.prog w base spare held fuel 34 [.slice A len cap] = some x) :
    len ≤ cap ∧ cap ≤ maxLen ∧ ∃ us : List Und, us.length = len ∧ Sees w w.heap.size A (us.flatMap undC) ∧ Trees w us := by
  obtain ⟨hl, hm, n, -, hi⟩ := open_rows under34 cells50 (by decide) h
  obtain ⟨rs, h1, h2, h3⟩ := sees_of (p := fun u : Und => ∃ d, u.len ≤ maxLen ∧ VT w w.heap.size d u.A u.len) und_len (by decide) (fun i hlt => by
    obtain ⟨b, off, cs, y, hA, hb, hc, hj, ht⟩ := hi i hlt
    obtain ⟨s, rfl, ht2⟩ := und_form ht
    exact ⟨b, off, hA, hb, s, ht2, hj⟩)
  exact ⟨hl, hm, rs, h1, h2, h3⟩
/-- A level's three cells read as a level. -/
theorem lev_form {fuel : Nat} {cs : List Value} {x : DataW H × List MemPlace} (h : DataW.trod enc Try.prog w base spare held fuel 62 cs = some x) : ∃ l v, cs = lvC l ∧ Lev w w.heap.size l v ∧ Trees w v.undo := by
  obtain ⟨n, _, hl, hf⟩ := trod_fields fields62 h
  rw [cells62] at hl
  obtain ⟨y0, h0⟩ := hf 0 0 23 rfl
  obtain ⟨y1, h1⟩ := hf 1 1 24 rfl
  obtain ⟨y2, h2⟩ := hf 2 2 34 rfl
  rw [cells23] at h0
  rw [cells24] at h1
  rw [cells34] at h2
  match cs, hl with
  | [a, b, c], _ =>
    obtain ⟨A1, n1, c1, rfl⟩ := trod_slice_form under23 h0
    obtain ⟨A2, n2, c2, rfl⟩ := trod_slice_form under24 h1
    obtain ⟨A3, n3, c3, rfl⟩ := trod_slice_form under34 h2
    obtain ⟨m1, _, rs, e1, s1⟩ := seens_form h0
    obtain ⟨m2, _, ws, e2, s2⟩ := wrs_form h1
    obtain ⟨m3, _, us, e3, s3, ht⟩ := unds_form h2
    exact ⟨⟨A1, n1, c1, A2, n2, c2, A3, n3, c3⟩, ⟨rs, ws, us⟩, rfl, ⟨e1, e2, e3, m1, m2, m3, s1, s2, s3⟩, ht⟩
theorem levs_of {lcs : List LC} (h : ∀ l ∈ lcs, ∃ v, Lev w w.heap.size l v ∧ Trees w v.undo) : ∃ vs, Levs w w.heap.size lcs vs ∧ ∀ v ∈ vs, Trees w v.undo := by
  induction lcs with
  | nil => exact ⟨[], .nil, fun v hv => by cases hv⟩
  | cons l r ih =>
    obtain ⟨v, h1, h2⟩ := h l (List.mem_cons_self ..)
    obtain ⟨vs, h3, h4⟩ := ih (fun l hl => h l (List.mem_cons_of_mem _ hl))
    refine ⟨v :: vs, .cons h1 h3, fun u hu => ?_⟩
    rcases List.mem_cons.1 hu with rfl | hu
    · exact h2
    · exact h4 u hu
/-- The levels that came in. -/
theorem levels_form {v : Value} {d : DataW H} {p : List MemPlace} {A : Option Addr} {len cap : Nat} (hv : v = .slice A len cap) (h : DataW.Trod enc Try.prog w base spare held 22 v d p) :
    ∃ ls, IsLs w v ls ∧ ∀ x ∈ ls, Trees w x.undo := by
  subst hv
  obtain ⟨fuel, hf⟩ := h
  obtain ⟨hl, hm, n, -, hi⟩ := open_rows under22 cells62 (by decide) hf
  obtain ⟨lcs, h1, h2, h3⟩ := sees_of (p := fun l : LC => ∃ v, Lev w w.heap.size l v ∧ Trees w v.undo) lv_len (by decide) (fun i hlt => by
    obtain ⟨b, off, cs, y, hA, hb, hc, hj, ht⟩ := hi i hlt
    obtain ⟨l, v, rfl, ht2, ht3⟩ := lev_form ht
    exact ⟨b, off, hA, hb, l, ⟨v, ht2, ht3⟩, hj⟩)
  obtain ⟨vs, h4, h5⟩ := levs_of h3
  have hlen : vs.length = len := by rw [← h4.length, h1]
  exact ⟨vs, ⟨A, cap, lcs, by rw [hlen], by rw [hlen]; exact hl, h2, h4⟩, h5⟩
end
end Go.Proofs.Ytiomfncbhbokpaa
