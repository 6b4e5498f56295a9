import Derived.Test.YtiomfncbhbokpaaTAside
namespace Go.Proofs.Ytiomfncbhbokpaa
open Go.RowKit
set_option linter.unusedVariables false

theorem own_less {w : World} {B B' : Nat} {e : TypeId} {size n : Nat} {v : Value} {xs : List Value} (h : w.ownsRow B e size v n xs) (hB : B' ≤ B) : w.ownsRow B' e size v n xs := by
  obtain ⟨hl, h | ⟨g, cap, cur, hv, hg, hr⟩⟩ := h
  · exact ⟨hl, .inl h⟩
  · exact ⟨hl, .inr ⟨g, cap, cur, hv, by omega, hr⟩⟩
theorem own_below {w w' : World} {base : Nat} {e : TypeId} {size n : Nat} {v : Value} {xs : List Value} (h : w.ownsRow base e size v n xs) (hb : Below w.heap.size w w') : w'.ownsRow base e size v n xs :=
  h.kept (row := none) ⟨hb.os, hb.tape, hb.output, hb.size, fun k hk _ => hb.block k hk⟩ (by cases v.ownBlock <;> simp)
theorem own_cast {w : World} {B : Nat} {e : TypeId} {size n n' : Nat} {v : Value} {xs xs' : List Value} (h : w.ownsRow B e size v n xs) (hn : n = n') (hx : xs = xs') : w.ownsRow B e size v n' xs' := by
  subst hn hx; exact h
theorem step_app {P : Program} {w : World} {ops : Array Oper} {o : Oper} {a : Act} {K : Act → World → Prop} {Q : Exit → Act → World → Prop} {E : Prop} (hgd : o.guard = none) (s x : Operand) (t : TypeId)
    (ho : o.op = .call { callee := .builtin .append, args := #[s, x], argTypes := #[t, t] })
    (base : Nat) (e : TypeId) (i : TypeInfo) (z : Value) (size bytes : Nat) (ht : P.underlying t = some (.slice e)) (hi : P.info? e = some i) (hz : i.zero = some z)
    (hsize : i.size = size) (hby : i.bytes = bytes) (hzs : z.cells.size = size) (hsz : 0 < size)
    {v : Value} {n : Nat} {xs : List Value} (hown : w.ownsRow base e size v n xs) {B : Nat} {A : Option Addr} {m c : Nat} {ys : List Value} (hr : Sees w B A ys) (hl : ys.length = m * size) (h1 : ∀ u ∈ ys, u.oneCell' = true)
    (hs : a.eval s = v) (hx : a.eval x = .slice A m c)
    (h63 : n + m ≤ maxLen) (hbytes : (n + m) * bytes ≤ 140737488355328) (hbase : base ≤ w.heap.size)
    (h : ∀ v' w', w'.ownsRow base e size v' (n + m) (xs ++ ys) → Below base w w' → K (a.put o.dst v') w') :
    if Region.wanted o (yielded ops a.tmps) = true then Oper.wp P o a w K Q else E := by
  have hw : Region.wanted o (yielded ops a.tmps) = true := by simp [Region.wanted, hgd]
  rw [if_pos hw]
  rcases A with _ | ad
  · obtain rfl : ys = [] := by
      rcases hr with rfl | ⟨b, off, hA, _⟩
      · rfl
      · cases hA
    have hm : m = 0 := by
      rcases Nat.eq_zero_or_pos m with h0 | h0
      · exact h0
      · have := Nat.mul_pos h0 hsz
        simp at hl
        omega
    subst hm
    have hrun := run_app_nil (P := P) w base t o.type e i size ht hi v n xs hown c
    unfold Oper.wp
    simp [execOp, ho, resolve, invoke, builtin, hs, hx, hrun, Result.andThen]
    exact h v w (by simpa using hown) (Below.refl _ _)
  · refine wp_append_own w s x t ho base e i z size bytes ht hi hz hsize hby hzs hsz v n xs hs hown ad m c ys hx hl (sees_add hr ad rfl) h1 h63 hbytes hbase ?_
    intro v' w' h2 h3 _
    exact h v' w' h2 ((Below.refl _ _).grown h3 hbase fun k hk => (hown.lt k hk).1)

set_option maxRecDepth 100000 in
theorem keep_any (g o : Nat) (A : Option Addr) (n c : Nat) (us : List Und) (A' : Option Addr) (n' c' : Nat) (more : List Und) (w : World) (hg : g < w.heap.size) (hc : w.cell? ⟨g, o + 2, none⟩ = some (.slice A n c)) (hf : w.frozen? ⟨g, o + 2, none⟩ = false)
    (e1 : us.length = n) (e2 : more.length = n') (m : n + n' ≤ 100000) (h1 : SeesX w g A (us.flatMap undC)) (h2 : SeesX w g A' (more.flatMap undC)) :
    Calls Try.prog 51 #[.pointer (some ⟨g, o, none⟩), .slice A' n' c'] w (SetOne g (o + 2) 50 5 ((us ++ more).flatMap undC) (n + n') w) := by
  obtain ⟨i0, hi, hz0, hz1, hz2⟩ := info_parts Try.info50
  have HI := Lib.hid hi
  have HZ0 := Lib.hid hz0
  have HZ1 := Lib.hid hz1
  have HZ2 := Lib.hid hz2
  have E1 := Lib.hid e1
  have E2 := Lib.hid e2
  have H1 := Lib.hid h1
  have H2 := Lib.hid h2
  clear hi hz0 hz1 hz2 e1 e2 h1 h2
  go_enter Try.func51, Try.ntmps51
  go_wp2_with fail
  refine (cloneU_any A n c (us.flatMap undC) w (by rw [flat_length und_len, E1.out]) (by omega) (flat_one und_one us) H1.out.sees).mono ?_
  rintro e w1 ⟨v1, rfl, o1, b1⟩
  have hc1 := (b1.cell (p := ⟨g, o + 2, none⟩) hg).trans hc
  have hf1 := (b1.frozen (p := ⟨g, o + 2, none⟩) hg).trans hf
  have B1 := Lib.hid b1
  have S2 := Lib.hid (H2.out.aside (Aside.of_below b1)).sees
  clear b1 hc hf
  go_wp2_with (at_builtin; refine wpList_app rfl (.tmp 9) (.tmp 10) 34 rfl w.heap.size 50 i0 (.agg #[.int .i64 0, .int .i64 0, .int .i64 0, .slice none 0 0, .int .i64 0]) 5 56 Try.underlying34 HI.out HZ0.out HZ1.out HZ2.out rfl (by decide) o1 S2.out (by rw [flat_length und_len, E2.out]) (flat_one und_one more) rfl rfl (by unfold maxLen; omega) (by omega) B1.out.size ?_)
  intro v2 w2 o2 b2
  have B2 := Lib.hid (B1.out.trans b2)
  have hc2 := (B2.out.cell (p := ⟨g, o + 2, none⟩) hg).trans ((B1.out.cell (p := ⟨g, o + 2, none⟩) hg).symm.trans hc1)
  have hf2 := (B2.out.frozen (p := ⟨g, o + 2, none⟩) hg).trans ((B1.out.frozen (p := ⟨g, o + 2, none⟩) hg).symm.trans hf1)
  obtain ⟨A2, c2, rfl, -, -⟩ := own_form o2
  have O2 := Lib.hid o2
  clear b2 o2 hc1 hf1 S2 o1
  go_wp2
  go_end0
  refine ⟨rfl, _, ownsRow_setCell_below (own_cast O2.out rfl (by simp)) hg _, below_both B2.out _ _⟩
end Go.Proofs.Ytiomfncbhbokpaa
