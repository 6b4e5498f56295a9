import Derived.Test.YtcjlbmggkjnbhaaLawsF
namespace Go.Proofs.Ytcjlbmggkjnbhaa
open Go.RowKit
set_option linter.unusedVariables false

/-- The law of an append onto a row of the call's own, for a step of a region that draws its order. -/
theorem step_app {P : Program} {w : World} {ops : Array Oper} {o : Oper} {a : Act} {K : Act → World → Prop} {Q : Exit → Act → World → Prop} {E : Prop} (hgd : o.guard = none) (s x : Operand) (t : TypeId)
    (ho : o.op = .call { callee := .builtin .append, args := #[s, x], argTypes := #[t, t] })
    (base : Nat) (e : TypeId) (i : TypeInfo) (z : Value) (size bytes : Nat) (ht : P.underlying t = some (.slice e)) (hi : P.info? e = some i) (hz : i.zero = some z)
    (hsize : i.size = size) (hby : i.bytes = bytes) (hzs : z.cells.size = size) (hsz : 0 < size)
    {v : Value} {n : Nat} {xs : List Value} (hown : w.ownsRow base e size v n xs) {B : Nat} {A : Option Addr} {m c : Nat} {ys : List Value} (hr : Sees w B A ys) (hl : ys.length = m * size) (h1 : ∀ u ∈ ys, u.oneCell' = true)
    (hs : a.eval s = v) (hx : a.eval x = .slice A m c)
    (h63 : n + m ≤ maxLen) (hbytes : (n + m) * bytes ≤ 140737488355328) (hbase : base ≤ w.heap.size)
    (h : ∀ v' w', w'.ownsRow base e size v' (n + m) (xs ++ ys) → Below base w w' → K (a.put o.dst v') w') :
    if Region.wanted o (yielded ops a.tmps) = true then Oper.wp P o a w K Q else E := by
  have hw : Region.wanted o (yielded ops a.tmps) = true := by simp [Region.wanted, hgd]
  rw [if_pos hw]
  rcases A with _ | ad
  · obtain rfl : ys = [] := by
      rcases hr with rfl | ⟨b, off, hA, _⟩
      · rfl
      · cases hA
    have hm : m = 0 := by
      rcases Nat.eq_zero_or_pos m with h0 | h0
      · exact h0
      · have := Nat.mul_pos h0 hsz
        simp at hl
        omega
    subst hm
    have hrun := run_app_nil (P := P) w base t o.type e i size ht hi v n xs hown c
    unfold Oper.wp
    simp [execOp, ho, resolve, invoke, builtin, hs, hx, hrun, Result.andThen]
    exact h v w (by simpa using hown) (Below.refl _ _)
  · refine wp_append_own w s x t ho base e i z size bytes ht hi hz hsize hby hzs hsz v n xs hs hown ad m c ys hx hl (sees_add hr ad rfl) h1 h63 hbytes hbase ?_
    intro v' w' h2 h3 _
    exact h v' w' h2 ((Below.refl _ _).grown h3 hbase fun k hk => (hown.lt k hk).1)
theorem own_empty (w : World) : (w.alloc (.cells #[] 5)).ownsRow w.heap.size 5 1 (.slice (some ⟨w.heap.size, 0, none⟩) 0 0) 0 [] :=
  ⟨rfl, .inr ⟨w.heap.size, 0, #[], rfl, Nat.le_refl _, heap_alloc_new w _, Nat.le_refl _, Nat.zero_le _, rfl, rfl⟩⟩

/-- The closure 'of': the bytes of a, what it is handed, the bytes of b. -/
theorem of_any (g1 g2 : Nat) (A1 : Option Addr) (n1 c1 : Nat) (a : List Int) (A2 : Option Addr) (n2 c2 : Nat) (b : List Int) (A : Option Addr) (n c : Nat) (l : List Int) (w : World)
    (h1 : w.cell? ⟨g1, 0, none⟩ = some (.slice A1 n1 c1)) (h2 : w.cell? ⟨g2, 0, none⟩ = some (.slice A2 n2 c2)) (hg1 : g1 < w.heap.size) (hg2 : g2 < w.heap.size)
    (e1 : a.length = n1) (e2 : b.length = n2) (e : l.length = n) (m1 : n1 + n2 + n ≤ 1000) (s1 : Sees w w.heap.size A1 (a.map (.int .u8))) (s2 : Sees w w.heap.size A2 (b.map (.int .u8))) (s : Sees w w.heap.size A (l.map (.int .u8))) :
    Calls Try.prog 35 #[.slice A n c, .pointer (some ⟨g1, 0, none⟩), .pointer (some ⟨g2, 0, none⟩)] w (IsBytes (a ++ (l ++ b)) w) := by
  obtain ⟨i0, hi, hz0, hz1, hz2⟩ := info_parts Try.info5
  have S1 := Lib.hid s1
  have S2 := Lib.hid s2
  have S0 := Lib.hid s
  have E1 : Hid ((a.map (Value.int .u8)).length = n1 * 1) := Lib.hid (by rw [List.length_map, e1, Nat.mul_one])
  have E2 : Hid ((b.map (Value.int .u8)).length = n2 * 1) := Lib.hid (by rw [List.length_map, e2, Nat.mul_one])
  have E0 : Hid ((l.map (Value.int .u8)).length = n * 1) := Lib.hid (by rw [List.length_map, e, Nat.mul_one])
  have L1 := Lib.hid e1
  have L2 := Lib.hid e2
  have L0 := Lib.hid e
  have hb0 : Below w.heap.size w (w.alloc (.cells #[] 5)).drew := ((Below.refl _ _).alloc (Nat.le_refl _) _).drew
  have ho0 : (w.alloc (.cells #[] 5)).drew.ownsRow w.heap.size 5 1 (.slice (some ⟨w.heap.size, 0, none⟩) 0 0) 0 [] := (own_empty w).drew
  have HB0 := Lib.hid hb0
  have HO0 := Lib.hid ho0
  have hsz0 : w.heap.size ≤ (w.alloc (.cells #[] 5)).drew.heap.size := hb0.size
  have HZ0 := Lib.hid hsz0
  clear s1 s2 s e1 e2 e hb0 ho0 hsz0
  go_enter Try.func35, Try.ntmps35
  go_wp2
  go_region_held3 (fun w' => w'.cell? ⟨g1, 0, none⟩ = some (.slice A1 n1 c1) ∧ w'.cell? ⟨g2, 0, none⟩ = some (.slice A2 n2 c2))
    (first
      | go_keep
      | exact ⟨(hb3.cell (p := ⟨g1, 0, none⟩) hg1).trans h1, (hb3.cell (p := ⟨g2, 0, none⟩) hg2).trans h2⟩
      | exact ⟨(hb2.cell (p := ⟨g1, 0, none⟩) hg1).trans h1, (hb2.cell (p := ⟨g2, 0, none⟩) hg2).trans h2⟩
      | exact ⟨(hb1.cell (p := ⟨g1, 0, none⟩) hg1).trans h1, (hb1.cell (p := ⟨g2, 0, none⟩) hg2).trans h2⟩)
    (first
      | (refine step_app (by rfl) (.tmp 5) (.tmp 6) 24 (by rfl) w.heap.size 5 i0 (.int .u8 0) 1 1 Try.underlying24 hi hz0 hz1 hz2 rfl (by decide) HO0.out (S1.out.below HB0.out) E1.out ints_one (by rfl) (by rfl) (by unfold maxLen; omega) (by omega) HZ0.out ?_; intro v1 w1 ho1 hb1'; have hb1 := HB0.out.trans hb1'; have HZ1 := Lib.hid hb1.size)
      | (refine step_app (by rfl) (.tmp 7) (.tmp 8) 24 (by rfl) w.heap.size 5 i0 (.int .u8 0) 1 1 Try.underlying24 hi hz0 hz1 hz2 rfl (by decide) ho1 (S0.out.below hb1) E0.out ints_one (by rfl) (by rfl) (by unfold maxLen; omega) (by omega) HZ1.out ?_; intro v2 w2 ho2 hb2'; have hb2 := hb1.trans hb2'; have HZ2 := Lib.hid hb2.size)
      | (refine step_app (by rfl) (.tmp 9) (.tmp 10) 24 (by rfl) w.heap.size 5 i0 (.int .u8 0) 1 1 Try.underlying24 hi hz0 hz1 hz2 rfl (by decide) ho2 (S2.out.below hb2) E2.out ints_one (by rfl) (by rfl) (by unfold maxLen; omega) (by omega) HZ2.out ?_; intro v3 w3 ho3 hb3'; have hb3 := hb2.trans hb3'))
  go_wp2
  go_ret
  refine ⟨v3, rfl, ?_, hb3⟩
  exact own_cast ho3 (by simp [L1.out, L2.out, L0.out]; omega) (by simp)
end Go.Proofs.Ytcjlbmggkjnbhaa
