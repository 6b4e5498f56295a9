/- The plain laws of layer 3: zigzag varints, strings, lists and the checksum, as functions on lists of numbers. No program is in sight. -/
namespace Go.Proofs.Ytcjlbmggkjnbhaa

def In64 (m : Int) : Prop := -9223372036854775808 ≤ m ∧ m ≤ 9223372036854775807
def Bytes (l : List Int) : Prop := ∀ x ∈ l, 0 ≤ x ∧ x ≤ 255
def zig (n : Int) : Int := if 0 ≤ n then 2 * n else -2 * n - 1
def unzig (u : Int) : Int := if u % 2 = 0 then u / 2 else -(u / 2) - 1

theorem zig_rng {n : Int} (h : In64 n) : 0 ≤ zig n ∧ zig n ≤ 18446744073709551615 := by
  unfold In64 at h; unfold zig; split <;> omega
theorem unzig_zig (n : Int) : unzig (zig n) = n := by
  unfold zig unzig; split <;> split <;> omega
theorem zig_unzig {u : Int} (h : 0 ≤ u) : zig (unzig u) = u := by
  unfold zig unzig; split <;> split <;> omega
theorem unzig_in {u : Int} (h : 0 ≤ u ∧ u ≤ 18446744073709551615) : In64 (unzig u) := by
  unfold In64 unzig; split <;> omega

/-- The groups of seven bits, the least first; at most f + 1 of them. -/
def enc : Nat → Int → List Int
  | 0, u => [u]
  | f + 1, u => if u < 128 then [u] else (u % 128 + 128) :: enc f (u / 128)
def putL (n : Int) : List Int := enc 9 (zig n)

/-- Decoding from byte number k on, k + f = 9. -/
def dec : Nat → Nat → List Int → Option (Int × Nat)
  | _, _, [] => none
  | 0, k, x :: _ => if x = 0 ∧ 0 < k ∨ 1 < x then none else some (x, 1)
  | f + 1, k, x :: b => if x < 128 then (if x = 0 ∧ 0 < k then none else some (x, 1)) else (dec f (k + 1) b).map fun r => (x - 128 + 128 * r.1, r.2 + 1)
def get (b : List Int) : Option (Int × Nat) := (dec 9 0 b).map fun r => (unzig r.1, r.2)

/-- 2 * 128 ^ f -/
def top : Nat → Int
  | 0 => 2
  | f + 1 => 128 * top f
theorem top_pos (f : Nat) : 2 ≤ top f := by
  induction f with
  | zero => exact Int.le_refl _
  | succ f ih => unfold top; omega
theorem top_9 : top 9 = 18446744073709551616 := by decide

theorem enc_length_pos (f : Nat) (u : Int) : 1 ≤ (enc f u).length := by
  cases f with
  | zero => simp [enc]
  | succ f => unfold enc; split <;> simp
theorem enc_length_le (f : Nat) : ∀ u, (enc f u).length ≤ f + 1 := by
  induction f with
  | zero => intro u; simp [enc]
  | succ f ih =>
    intro u
    unfold enc; split
    · simp
    · have := ih (u / 128); simp; omega
theorem enc_bytes (f : Nat) : ∀ u, 0 ≤ u → u < top f → Bytes (enc f u) := by
  induction f with
  | zero => intro u h0 h1 x hx; simp [enc] at hx; subst hx; simp only [top] at h1; omega
  | succ f ih =>
    intro u h0 h1 x hx
    unfold enc at hx
    simp only [top] at h1
    split at hx
    · simp at hx; subst hx; omega
    · rcases List.mem_cons.1 hx with rfl | hx
      · omega
      · exact ih (u / 128) (by omega) (by omega) x hx

theorem dec_enc (f : Nat) : ∀ (k : Nat) (u : Int) (r : List Int), 0 ≤ u → u < top f → (0 < k → 0 < u) → dec f k (enc f u ++ r) = some (u, (enc f u).length) := by
  induction f with
  | zero =>
    intro k u r h0 h1 hk
    simp only [top] at h1
    simp only [enc, List.cons_append, List.nil_append, dec]
    rw [if_neg (by omega)]; rfl
  | succ f ih =>
    intro k u r h0 h1 hk
    simp only [top] at h1
    unfold enc
    split
    · simp only [List.cons_append, List.nil_append, dec]
      rw [if_pos (by omega), if_neg (by omega)]; rfl
    · simp only [List.cons_append, dec]
      rw [if_neg (by omega), ih (k + 1) (u / 128) r (by omega) (by omega) (by omega)]
      simp only [Option.map_some, List.length_cons]
      congr 2
      omega

theorem dec_some (f : Nat) : ∀ (k : Nat) (b : List Int) (u : Int) (m : Nat), Bytes b → dec f k b = some (u, m) →
    0 ≤ u ∧ u < top f ∧ (0 < k → 0 < u) ∧ m = (enc f u).length ∧ b = enc f u ++ b.drop m := by
  induction f with
  | zero =>
    intro k b u m hb h
    cases b with
    | nil => simp [dec] at h
    | cons x b =>
      have hx := hb x (by simp)
      simp only [dec] at h
      split at h
      · cases h
      · simp only [Option.some.injEq, Prod.mk.injEq] at h
        obtain ⟨rfl, rfl⟩ := h
        simp only [top, enc]
        refine ⟨by omega, by omega, by omega, rfl, by simp⟩
  | succ f ih =>
    intro k b u m hb h
    cases b with
    | nil => simp [dec] at h
    | cons x b =>
      have hx := hb x (by simp)
      have ht := top_pos f
      simp only [dec] at h
      split at h
      · split at h
        · cases h
        · simp only [Option.some.injEq, Prod.mk.injEq] at h
          obtain ⟨rfl, rfl⟩ := h
          have he : enc (f + 1) x = [x] := by unfold enc; rw [if_pos (by omega)]
          rw [he]
          simp only [top]
          refine ⟨by omega, by omega, by omega, rfl, by simp⟩
      · obtain ⟨r, hr, he⟩ := Option.map_eq_some_iff.1 h
        obtain ⟨u', m'⟩ := r
        simp only [Prod.mk.injEq] at he
        obtain ⟨rfl, rfl⟩ := he
        obtain ⟨a1, a2, a3, a4, a5⟩ := ih (k + 1) b u' m' (fun y hy => hb y (List.mem_cons_of_mem _ hy)) hr
        have hp := a3 (by omega)
        have he : enc (f + 1) (x - 128 + 128 * u') = x :: enc f u' := by
          rw [enc, if_neg (by omega)]
          congr 1
          · omega
          · congr 1; omega
        rw [he]
        simp only [top]
        refine ⟨by omega, by omega, by omega, by simp [a4], ?_⟩
        simp only [List.drop_succ_cons, List.cons_append]
        rw [← a5]

theorem put_bytes {n : Int} (h : In64 n) : Bytes (putL n) := by
  have := zig_rng h
  exact enc_bytes 9 _ (by omega) (by rw [top_9]; omega)
theorem put_pos (n : Int) : 1 ≤ (putL n).length := enc_length_pos _ _
theorem put_le (n : Int) : (putL n).length ≤ 10 := enc_length_le _ _

theorem get_put {n : Int} (h : In64 n) (r : List Int) : get (putL n ++ r) = some (n, (putL n).length) := by
  have := zig_rng h
  unfold get putL
  rw [dec_enc 9 0 (zig n) r (by omega) (by rw [top_9]; omega) (by omega)]
  simp [unzig_zig]
theorem get_some {b : List Int} (hb : Bytes b) {n : Int} {m : Nat} (h : get b = some (n, m)) : In64 n ∧ m = (putL n).length ∧ b = putL n ++ b.drop m := by
  unfold get at h
  obtain ⟨⟨u, k⟩, hr, he⟩ := Option.map_eq_some_iff.1 h
  simp only [Prod.mk.injEq] at he
  obtain ⟨rfl, rfl⟩ := he
  obtain ⟨a1, a2, _, a4, a5⟩ := dec_some 9 0 b u k hb hr
  rw [top_9] at a2
  have e : putL (unzig u) = enc 9 u := by unfold putL; rw [zig_unzig a1]
  rw [e]
  exact ⟨unzig_in ⟨a1, by omega⟩, a4, a5⟩
theorem get_len {b : List Int} (hb : Bytes b) {n : Int} {m : Nat} (h : get b = some (n, m)) : 1 ≤ m ∧ m ≤ b.length ∧ m ≤ 10 := by
  obtain ⟨_, h2, h3⟩ := get_some hb h
  have h4 : b.length = (putL n).length + (b.drop m).length := by rw [← List.length_append, ← h3]
  have := put_pos n
  have := put_le n
  omega
theorem Bytes.drop {b : List Int} (h : Bytes b) (k : Nat) : Bytes (b.drop k) := fun x hx => h x (List.mem_of_mem_drop hx)
theorem Bytes.take {b : List Int} (h : Bytes b) (k : Nat) : Bytes (b.take k) := fun x hx => h x (List.mem_of_mem_take hx)
theorem Bytes.app {a b : List Int} (h : Bytes a) (k : Bytes b) : Bytes (a ++ b) := fun x hx => by
  rcases List.mem_append.1 hx with hx | hx
  · exact h x hx
  · exact k x hx
theorem Bytes.nil : Bytes [] := fun _ h => by cases h
theorem Bytes.left {a b : List Int} (h : Bytes (a ++ b)) : Bytes a := fun x hx => h x (List.mem_append_left _ hx)

/-- No two encodings begin one sequence of bytes. -/
theorem put_unique {m n : Int} (hm : In64 m) (hn : In64 n) {r s : List Int} (h : putL m ++ r = putL n ++ s) : m = n := by
  have h1 := get_put hm r
  rw [h, get_put hn s] at h1
  simp only [Option.some.injEq, Prod.mk.injEq] at h1
  exact h1.1.symm
/-- No proper prefix of what is decoded can be decoded. -/
theorem get_prefix {b : List Int} (hb : Bytes b) {n : Int} {m : Nat} (h : get b = some (n, m)) {k : Nat} (hk : k < m) : get (b.take k) = none := by
  cases hg : get (b.take k) with
  | none => rfl
  | some r =>
    obtain ⟨n', m'⟩ := r
    obtain ⟨a1, a2, a3⟩ := get_some (hb.take k) hg
    obtain ⟨b1, b2, b3⟩ := get_some hb h
    have e : b = putL n' ++ ((b.take k).drop m' ++ b.drop k) := by
      rw [← List.append_assoc, ← a3, List.take_append_drop]
    have : n' = n := put_unique a1 b1 (by rw [← e, ← b3])
    subst this
    have h4 := get_len (hb.take k) hg
    have h5 : (b.take k).length ≤ k := List.length_take_le _ _
    omega
theorem get_app {b : List Int} (hb : Bytes b) {n : Int} {m : Nat} (h : get b = some (n, m)) (r : List Int) : get (b ++ r) = some (n, m) := by
  obtain ⟨a1, a2, a3⟩ := get_some hb h
  rw [a3, List.append_assoc, get_put a1, a2]

/-! ### strings -/
def textL (s : List Int) : List Int := putL s.length ++ s
def getText (b : List Int) : Option (List Int × Nat) :=
  match get b with
  | some (n, m) => if 0 ≤ n ∧ n ≤ (b.length : Int) - m then some ((b.drop m).take n.toNat, m + n.toNat) else none
  | none => none
theorem len_in {n : Nat} (h : n ≤ 9223372036854775807) : In64 (n : Int) := by unfold In64; omega
theorem getText_text {s : List Int} (h : s.length ≤ 9223372036854775807) (r : List Int) : getText (textL s ++ r) = some (s, (textL s).length) := by
  unfold getText textL
  rw [List.append_assoc, get_put (len_in h)]
  simp only
  rw [if_pos (by simp only [List.length_append]; omega), List.drop_append_of_le_length (by simp), List.drop_length, List.nil_append, Int.toNat_natCast, List.take_append_of_le_length (by simp), List.take_length, List.length_append]
theorem getText_some {b s : List Int} (hb : Bytes b) {m : Nat} (h : getText b = some (s, m)) : m = (textL s).length ∧ b = textL s ++ b.drop m ∧ s.length ≤ b.length ∧ m ≤ b.length := by
  unfold getText at h
  cases hg : get b with
  | none => rw [hg] at h; simp at h
  | some r =>
    obtain ⟨n, k⟩ := r
    rw [hg] at h
    simp only at h
    split at h
    · rename_i hn
      simp only [Option.some.injEq, Prod.mk.injEq] at h
      obtain ⟨rfl, rfl⟩ := h
      obtain ⟨a1, a2, a3⟩ := get_some hb hg
      have hk := get_len hb hg
      have hl : ((b.drop k).take n.toNat).length = n.toNat := by
        rw [List.length_take, List.length_drop]; omega
      unfold textL
      rw [hl]
      have e : ((n.toNat : Nat) : Int) = n := by omega
      rw [e, List.length_append, ← a2, hl]
      refine ⟨rfl, ?_, by omega, by omega⟩
      rw [← List.drop_drop, List.append_assoc, List.take_append_drop]
      exact a3
    · cases h
theorem getText_short {b s : List Int} (hb : Bytes b) {m : Nat} (h : getText b = some (s, m)) {k : Nat} (hk : k < m) : getText (b.take k) = none := by
  cases hg : getText (b.take k) with
  | none => rfl
  | some r =>
    obtain ⟨s', m'⟩ := r
    obtain ⟨a1, a2, a3, a4⟩ := getText_some (hb.take k) hg
    obtain ⟨b1, b2, b3, b4⟩ := getText_some hb h
    have h5 : (b.take k).length ≤ k := List.length_take_le _ _
    have hs' : s'.length ≤ 9223372036854775807 := by
      have := congrArg List.length a2
      unfold textL at this
      simp only [List.length_append] at this
      have := congrArg List.length b2
      unfold textL at this
      simp only [List.length_append] at this
      have hp := put_le s.length
      have hd : (b.drop m).length = b.length - m := List.length_drop
      rcases Nat.lt_or_ge 9223372036854775807 s'.length with hbig | hsm
      · exfalso
        -- a length beyond the range is no In64 number: but it was decoded
        unfold getText at hg
        cases hgg : get (b.take k) with
        | none => rw [hgg] at hg; simp at hg
        | some q =>
          obtain ⟨n, j⟩ := q
          rw [hgg] at hg
          simp only at hg
          split at hg
          · simp only [Option.some.injEq, Prod.mk.injEq] at hg
            obtain ⟨rfl, _⟩ := hg
            have hin := (get_some (hb.take k) hgg).1
            unfold In64 at hin
            have : ((List.drop j (b.take k)).take n.toNat).length ≤ n.toNat := List.length_take_le _ _
            omega
          · cases hg
      · exact hsm
    have e : b = textL s' ++ ((b.take k).drop m' ++ b.drop k) := by
      rw [← List.append_assoc, ← a2, List.take_append_drop]
    have e1 := getText_text hs' ((b.take k).drop m' ++ b.drop k)
    rw [← e, h] at e1
    simp only [Option.some.injEq, Prod.mk.injEq] at e1
    omega

/-! ### lists of numbers -/
def catL : List Int → List Int
  | [] => []
  | n :: l => putL n ++ catL l
def numsL (l : List Int) : List Int := putL l.length ++ catL l
def getList : Nat → List Int → Option (List Int × Nat)
  | 0, _ => some ([], 0)
  | c + 1, b =>
    match get b with
    | some (n, m) => (getList c (b.drop m)).map fun r => (n :: r.1, m + r.2)
    | none => none
def getNums (b : List Int) : Option (List Int × Nat) :=
  match get b with
  | some (c, m) => if 0 ≤ c then (getList c.toNat (b.drop m)).map fun r => (r.1, m + r.2) else none
  | none => none
def AllIn (l : List Int) : Prop := ∀ n ∈ l, In64 n
theorem catL_app (l m : List Int) : catL (l ++ m) = catL l ++ catL m := by
  induction l with
  | nil => rfl
  | cons n l ih => simp only [List.cons_append, catL, ih, List.append_assoc]
theorem catL_le (l : List Int) : (catL l).length ≤ 10 * l.length := by
  induction l with
  | nil => simp [catL]
  | cons n l ih => have := put_le n; simp only [catL, List.length_append, List.length_cons]; omega
theorem catL_bytes {l : List Int} (h : AllIn l) : Bytes (catL l) := by
  induction l with
  | nil => exact Bytes.nil
  | cons n l ih => exact (put_bytes (h n (by simp))).app (ih fun x hx => h x (List.mem_cons_of_mem _ hx))
theorem getList_cat {l : List Int} (h : AllIn l) (r : List Int) : getList l.length (catL l ++ r) = some (l, (catL l).length) := by
  induction l with
  | nil => rfl
  | cons n l ih =>
    simp only [List.length_cons, getList, catL]
    rw [List.append_assoc, get_put (h n (by simp))]
    simp only
    rw [List.drop_append_of_le_length (by simp), List.drop_length, List.nil_append, ih fun x hx => h x (List.mem_cons_of_mem _ hx)]
    simp [List.length_append]
theorem getList_some (c : Nat) : ∀ (b : List Int) (l : List Int) (m : Nat), Bytes b → getList c b = some (l, m) → AllIn l ∧ l.length = c ∧ m = (catL l).length ∧ b = catL l ++ b.drop m ∧ c ≤ m ∧ m ≤ b.length := by
  induction c with
  | zero =>
    intro b l m hb h
    simp only [getList, Option.some.injEq, Prod.mk.injEq] at h
    obtain ⟨rfl, rfl⟩ := h
    exact ⟨(fun _ h => by cases h), rfl, rfl, by simp [catL], by omega, by omega⟩
  | succ c ih =>
    intro b l m hb h
    simp only [getList] at h
    cases hg : get b with
    | none => rw [hg] at h; simp at h
    | some r =>
      obtain ⟨n, k⟩ := r
      rw [hg] at h
      simp only at h
      obtain ⟨⟨l', m'⟩, hr, he⟩ := Option.map_eq_some_iff.1 h
      simp only [Prod.mk.injEq] at he
      obtain ⟨rfl, rfl⟩ := he
      obtain ⟨a1, a2, a3⟩ := get_some hb hg
      obtain ⟨i1, i2, i3, i4, i5, i6⟩ := ih (b.drop k) l' m' (hb.drop k) hr
      have hk := get_len hb hg
      rw [List.length_drop] at i6
      refine ⟨fun x hx => ?_, by simp [i2], by simp only [catL, List.length_append]; omega, ?_, by omega, by omega⟩
      · rcases List.mem_cons.1 hx with rfl | hx
        · exact a1
        · exact i1 x hx
      · simp only [catL]
        rw [← List.drop_drop, List.append_assoc, ← i4]
        exact a3
theorem getNums_nums {l : List Int} (h : AllIn l) (hl : l.length ≤ 9223372036854775807) (r : List Int) : getNums (numsL l ++ r) = some (l, (numsL l).length) := by
  unfold getNums numsL
  rw [List.append_assoc, get_put (len_in hl)]
  simp only
  rw [if_pos (by omega), List.drop_append_of_le_length (by simp), List.drop_length, List.nil_append, Int.toNat_natCast, getList_cat h]
  simp [List.length_append]
theorem getNums_some {b l : List Int} (hb : Bytes b) {m : Nat} (h : getNums b = some (l, m)) : AllIn l ∧ m = (numsL l).length ∧ b = numsL l ++ b.drop m ∧ m ≤ b.length ∧ In64 l.length := by
  unfold getNums at h
  cases hg : get b with
  | none => rw [hg] at h; simp at h
  | some r =>
    obtain ⟨c, k⟩ := r
    rw [hg] at h
    simp only at h
    split at h
    · rename_i hc
      obtain ⟨⟨l', m'⟩, hr, he⟩ := Option.map_eq_some_iff.1 h
      simp only [Prod.mk.injEq] at he
      obtain ⟨rfl, rfl⟩ := he
      obtain ⟨a1, a2, a3⟩ := get_some hb hg
      obtain ⟨i1, i2, i3, i4, i5, i6⟩ := getList_some c.toNat (b.drop k) l' m' (hb.drop k) hr
      have hk := get_len hb hg
      rw [List.length_drop] at i6
      have e : (l'.length : Int) = c := by omega
      unfold numsL
      rw [e, List.length_append, ← a2, ← i3]
      refine ⟨i1, rfl, ?_, by omega, a1⟩
      rw [← List.drop_drop, List.append_assoc, ← i4]
      exact a3
    · cases h
theorem getNums_short {b l : List Int} (hb : Bytes b) {m : Nat} (h : getNums b = some (l, m)) {k : Nat} (hk : k < m) : getNums (b.take k) = none := by
  cases hg : getNums (b.take k) with
  | none => rfl
  | some r =>
    obtain ⟨l', m'⟩ := r
    obtain ⟨a1, a2, a3, a4, a5⟩ := getNums_some (hb.take k) hg
    have h5 : (b.take k).length ≤ k := List.length_take_le _ _
    have e : b = numsL l' ++ ((b.take k).drop m' ++ b.drop k) := by
      rw [← List.append_assoc, ← a3, List.take_append_drop]
    have e1 := getNums_nums a1 (by unfold In64 at a5; omega) ((b.take k).drop m' ++ b.drop k)
    rw [← e, h] at e1
    simp only [Option.some.injEq, Prod.mk.injEq] at e1
    omega

/-! ### the checksum -/
def sumsL : List Int → Int × Int → Int × Int
  | [], p => p
  | c :: b, (x, y) => sumsL b ((x + c) % 65521, (y + (x + c) % 65521) % 65521)
def sumL (b : List Int) : Int := 65536 * (sumsL b (1, 0)).2 + (sumsL b (1, 0)).1
def sealL (b : List Int) : List Int := textL b ++ putL (sumL b)
def openL (b : List Int) : Option (List Int × Nat) :=
  match getText b with
  | some (s, m) =>
    match get (b.drop m) with
    | some (c, k) => if c = sumL s then some (s, m + k) else none
    | none => none
  | none => none
theorem sumsL_rng (b : List Int) : ∀ x y, 0 ≤ x ∧ x < 65521 → 0 ≤ y ∧ y < 65521 → (0 ≤ (sumsL b (x, y)).1 ∧ (sumsL b (x, y)).1 < 65521) ∧ (0 ≤ (sumsL b (x, y)).2 ∧ (sumsL b (x, y)).2 < 65521) := by
  induction b with
  | nil => intro x y hx hy; exact ⟨hx, hy⟩
  | cons c b ih => intro x y hx hy; exact ih _ _ (by omega) (by omega)
theorem sumL_in (b : List Int) : 0 ≤ sumL b ∧ sumL b < 4294967296 := by
  have := sumsL_rng b 1 0 (by omega) (by omega)
  unfold sumL; omega
theorem sumL_in64 (b : List Int) : In64 (sumL b) := by
  have := sumL_in b
  unfold In64; omega
theorem sumsL_app (a b : List Int) : ∀ p, sumsL (a ++ b) p = sumsL b (sumsL a p) := by
  induction a with
  | nil => intro p; rfl
  | cons c a ih => intro p; exact ih _
/-- What the two sums are: the first counts the bytes' sum, the second counts each byte as often as there are bytes from it on. -/
def total : List Int → Int
  | [] => 0
  | c :: b => c + total b
def weigh : List Int → Int
  | [] => 0
  | c :: b => (b.length + 1) * c + weigh b
theorem total_app (a b : List Int) : total (a ++ b) = total a + total b := by
  induction a with
  | nil => simp [total]
  | cons c a ih => simp only [List.cons_append, total, ih]; omega
theorem sumsL_eq (b : List Int) : ∀ x y, sumsL b (x, y) = if b = [] then (x, y) else ((x + total b) % 65521, (y + b.length * x + weigh b) % 65521) := by
  induction b with
  | nil => intro x y; rfl
  | cons c b ih =>
    intro x y
    rw [if_neg (by simp)]
    simp only [sumsL]
    rw [ih]
    by_cases hb : b = []
    · subst hb
      rw [if_pos rfl]
      simp only [total, weigh, List.length_cons, List.length_nil]
      congr 1 <;> omega
    · rw [if_neg hb]
      simp only [total, weigh, List.length_cons]
      congr 1
      · omega
      · have e1 : ((b.length : Int) * ((x + c) % 65521)) % 65521 = ((b.length : Int) * (x + c)) % 65521 := by
          rw [Int.mul_emod, Int.emod_emod_of_dvd _ (by omega), ← Int.mul_emod]
        have e2 : (((b.length + 1 : Nat) : Int)) * x = (b.length : Int) * x + x := by
          rw [Int.natCast_add, Int.add_mul]; omega
        have e3 : ((b.length : Int) + 1) * c = (b.length : Int) * c + c := by rw [Int.add_mul]; omega
        have e4 : (b.length : Int) * (x + c) = (b.length : Int) * x + (b.length : Int) * c := Int.mul_add _ _ _
        rw [e2, e3]
        rw [e4] at e1
        omega
theorem openL_seal {b : List Int} (hl : b.length ≤ 9223372036854775807) (r : List Int) : openL (sealL b ++ r) = some (b, (sealL b).length) := by
  unfold openL sealL
  rw [List.append_assoc, getText_text hl]
  simp only
  rw [List.drop_append_of_le_length (by simp), List.drop_length, List.nil_append, get_put (sumL_in64 b)]
  simp only
  rw [if_pos trivial, List.length_append]
theorem openL_some {b s : List Int} (hb : Bytes b) {m : Nat} (h : openL b = some (s, m)) : m = (sealL s).length ∧ b = sealL s ++ b.drop m ∧ s.length ≤ b.length ∧ m ≤ b.length := by
  unfold openL at h
  cases hg : getText b with
  | none => rw [hg] at h; simp at h
  | some r =>
    obtain ⟨s', k⟩ := r
    rw [hg] at h
    simp only at h
    cases hgg : get (b.drop k) with
    | none => rw [hgg] at h; simp at h
    | some q =>
      obtain ⟨c, j⟩ := q
      rw [hgg] at h
      simp only at h
      split at h
      · rename_i hc
        simp only [Option.some.injEq, Prod.mk.injEq] at h
        obtain ⟨rfl, rfl⟩ := h
        subst hc
        obtain ⟨a1, a2, a3, a4⟩ := getText_some hb hg
        obtain ⟨b1, b2, b3⟩ := get_some (hb.drop k) hgg
        have hk := get_len (hb.drop k) hgg
        rw [List.length_drop] at hk
        unfold sealL
        rw [List.length_append, ← a1, ← b2]
        refine ⟨rfl, ?_, a3, by omega⟩
        rw [← List.drop_drop, List.append_assoc, ← b3]
        exact a2
      · cases h
theorem openL_short {b s : List Int} (hb : Bytes b) (hlen : b.length ≤ 9223372036854775807) {m : Nat} (h : openL b = some (s, m)) {k : Nat} (hk : k < m) : openL (b.take k) = none := by
  cases hg : openL (b.take k) with
  | none => rfl
  | some r =>
    obtain ⟨s', m'⟩ := r
    obtain ⟨a1, a2, a3, a4⟩ := openL_some (hb.take k) hg
    have h5 : (b.take k).length ≤ k := List.length_take_le _ _
    have h6 : (b.take k).length ≤ b.length := by rw [List.length_take]; omega
    have e : b = sealL s' ++ ((b.take k).drop m' ++ b.drop k) := by
      rw [← List.append_assoc, ← a2, List.take_append_drop]
    have e1 := openL_seal (b := s') (by omega) ((b.take k).drop m' ++ b.drop k)
    rw [← e, h] at e1
    simp only [Option.some.injEq, Prod.mk.injEq] at e1
    omega

theorem weigh_app (a b : List Int) : weigh (a ++ b) = weigh a + b.length * total a + weigh b := by
  induction a with
  | nil => simp [weigh, total]
  | cons c a ih =>
    simp only [List.cons_append, weigh, total, ih, List.length_append]
    simp only [Int.natCast_add, Int.mul_add, Int.add_mul]
    omega
theorem sums_ne {b : List Int} (h : b ≠ []) : sumsL b (1, 0) = ((1 + total b) % 65521, ((b.length : Int) + weigh b) % 65521) := by
  rw [sumsL_eq, if_neg h]
  congr 1
  congr 1
  omega
theorem sumL_iff {b c : List Int} (hb : b ≠ []) (hc : c ≠ []) (hl : b.length = c.length) : sumL b = sumL c ↔ (total b - total c) % 65521 = 0 ∧ (weigh b - weigh c) % 65521 = 0 := by
  unfold sumL
  rw [sums_ne hb, sums_ne hc, hl]
  simp only
  omega
theorem total_one (a b : List Int) (x : Int) : total (a ++ ([x] ++ b)) = total a + (x + total b) := by rw [total_app]; rfl
theorem weigh_two (a b : List Int) (x y : Int) : weigh (a ++ ([x, y] ++ b)) = weigh a + (b.length + 2) * total a + ((b.length * x + 2 * x) + ((b.length * y + y) + weigh b)) := by
  rw [weigh_app]
  simp only [List.cons_append, List.nil_append, weigh, List.length_cons, Int.natCast_add, Int.add_mul]
  omega
theorem sum_replace {a b : List Int} {x y : Int} (hx : 0 ≤ x ∧ x ≤ 255) (hy : 0 ≤ y ∧ y ≤ 255) : sumL (a ++ ([x] ++ b)) = sumL (a ++ ([y] ++ b)) ↔ x = y := by
  constructor
  · intro h
    rw [sumL_iff (by simp) (by simp) (by simp)] at h
    have h1 := h.1
    rw [total_one, total_one] at h1
    omega
  · rintro rfl; rfl
theorem sum_swap {a b : List Int} {x y : Int} (hx : 0 ≤ x ∧ x ≤ 255) (hy : 0 ≤ y ∧ y ≤ 255) : sumL (a ++ ([x, y] ++ b)) = sumL (a ++ ([y, x] ++ b)) ↔ x = y := by
  constructor
  · intro h
    rw [sumL_iff (by simp) (by simp) (by simp)] at h
    have h1 := h.2
    rw [weigh_two, weigh_two] at h1
    omega
  · rintro rfl; rfl
/-- A seal in whose content a byte was replaced. -/
theorem open_replaced {a b : List Int} {x y : Int} (hx : 0 ≤ x ∧ x ≤ 255) (hy : 0 ≤ y ∧ y ≤ 255) (hl : a.length + b.length ≤ 9223372036854775000) :
    (openL (textL (a ++ ([y] ++ b)) ++ putL (sumL (a ++ ([x] ++ b))))).isSome = decide (x = y) := by
  have h1 : (a ++ ([y] ++ b)).length ≤ 9223372036854775807 := by simp only [List.length_append, List.length_cons, List.length_nil]; omega
  unfold openL
  rw [getText_text h1]
  simp only
  rw [List.drop_append_of_le_length (by simp), List.drop_length, List.nil_append]
  have := get_put (sumL_in64 (a ++ ([x] ++ b))) []
  rw [List.append_nil] at this
  rw [this]
  simp only
  by_cases h : x = y
  · subst h
    simp
  · rw [if_neg (fun e => h ((sum_replace hx hy).1 e)), decide_eq_false h]; rfl
theorem set_mid (p a b q : List Int) (x y : Int) : (p ++ (a ++ ([x] ++ b)) ++ q).set (p.length + a.length) y = p ++ (a ++ ([y] ++ b)) ++ q := by
  have e : ∀ z, p ++ (a ++ ([z] ++ b)) ++ q = (p ++ a) ++ (z :: (b ++ q)) := fun z => by simp
  rw [e x, e y, List.set_append_right (h := by simp)]
  simp
theorem seal_set (a b : List Int) (x y : Int) :
    (sealL (a ++ ([x] ++ b))).set ((putL ((a ++ ([x] ++ b)).length : Int)).length + a.length) y = textL (a ++ ([y] ++ b)) ++ putL (sumL (a ++ ([x] ++ b))) := by
  unfold sealL textL
  rw [set_mid]
  have : (a ++ ([y] ++ b)).length = (a ++ ([x] ++ b)).length := by simp
  rw [this]
end Go.Proofs.Ytcjlbmggkjnbhaa
