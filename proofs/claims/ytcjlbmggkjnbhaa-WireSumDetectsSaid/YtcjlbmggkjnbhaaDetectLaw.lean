import Derived.Test.YtcjlbmggkjnbhaaDetect
import Derived.Deep.AppendLies
namespace Go.Proofs.Ytcjlbmggkjnbhaa
open Go.RowKit
set_option linter.unusedVariables false

theorem mid_bytes {a b l : List Int} (ha : Bytes a) (hl : Bytes l) (hb : Bytes b) : Bytes (a ++ (l ++ b)) := ha.app (hl.app hb)
theorem one_bytes {x : Int} (h : 0 ≤ x ∧ x ≤ 255) : Bytes [x] := fun y hy => by simp at hy; subst hy; exact h
theorem two_bytes {x y : Int} (h : 0 ≤ x ∧ x ≤ 255) (k : 0 ≤ y ∧ y ≤ 255) : Bytes [x, y] := fun z hz => by
  simp at hz
  rcases hz with rfl | rfl
  · exact h
  · exact k
theorem set_bytes {l : List Int} (h : Bytes l) (j : Nat) {y : Int} (hy : 0 ≤ y ∧ y ≤ 255) : Bytes (l.set j y) := fun z hz => by
  rcases List.mem_or_eq_of_mem_set hz with h' | rfl
  · exact h z h'
  · exact hy

/-- The two boxes that the closure shares with the law. -/
def Boxed (w : World) (A1 : Option Addr) (n1 c1 : Nat) (A2 : Option Addr) (n2 c2 : Nat) (W : World) : Prop :=
  W.cell? ⟨w.heap.size, 0, none⟩ = some (.slice A1 n1 c1) ∧ W.cell? ⟨w.heap.size + 1, 0, none⟩ = some (.slice A2 n2 c2) ∧ w.heap.size + 2 ≤ W.heap.size ∧ Below w.heap.size w W
section
variable {w W W' : World} {A1 A2 : Option Addr} {n1 c1 n2 c2 : Nat}
theorem Boxed.below (h : Boxed w A1 n1 c1 A2 n2 c2 W) (hb : Below W.heap.size W W') : Boxed w A1 n1 c1 A2 n2 c2 W' := by
  obtain ⟨h1, h2, h3, h4⟩ := h
  refine ⟨?_, ?_, Nat.le_trans h3 hb.size, h4.trans (hb.mono h4.size)⟩
  · rw [hb.cell (p := ⟨w.heap.size, 0, none⟩) (by show w.heap.size < _; omega)]; exact h1
  · rw [hb.cell (p := ⟨w.heap.size + 1, 0, none⟩) (by show w.heap.size + 1 < _; omega)]; exact h2
theorem Boxed.start (w : World) : Boxed w A1 n1 c1 A2 n2 c2 ((w.alloc (.cells #[.slice A1 n1 c1] 24)).alloc (.cells #[.slice A2 n2 c2] 24)) := by
  refine ⟨?_, ?_, by simp, below_two w _ _⟩
  · rw [World.cell?_alloc_past _ _ _ (by simp), World.cell?_alloc_at _ _ _ _ rfl]; rfl
  · rw [World.cell?_alloc_at _ _ _ _ (by simp)]; rfl
theorem of_lit {a b l : List Int} {n g c : Nat} {cs : Array Value} (h : Boxed w A1 n1 c1 A2 n2 c2 W) (e1 : a.length = n1) (e2 : b.length = n2) (e : l.length = n) (m1 : n1 + n2 + n ≤ 1000) (h1 : Sees w w.heap.size A1 (a.map (.int .u8))) (h2 : Sees w w.heap.size A2 (b.map (.int .u8)))
    (hg : g = W.heap.size) (hcs : cs.toList = l.map (Value.int .u8)) :
    Calls Try.prog 35 #[.slice (some ⟨g, 0, none⟩) n c, .pointer (some ⟨w.heap.size, 0, none⟩), .pointer (some ⟨w.heap.size + 1, 0, none⟩)] (W.alloc (.cells cs 5)) fun e w' =>
      ∃ v, e = .returned v ∧ w'.ownsRow W.heap.size 5 1 v (a ++ (l ++ b)).length ((a ++ (l ++ b)).map (Value.int .u8)) ∧ Below W.heap.size W w' := by
  have hal : Below W.heap.size W (W.alloc (.cells cs 5)) := (Below.refl _ _).alloc (Nat.le_refl _) _
  obtain ⟨k1, k2, k3, k4⟩ := h.below hal
  refine (of_any w.heap.size (w.heap.size + 1) A1 n1 c1 a A2 n2 c2 b (some ⟨g, 0, none⟩) n c l _ k1 k2 (by omega) (by omega) e1 e2 e m1 ((h1.below k4).more k4.size) ((h2.below k4).more k4.size) (Sees.lit hcs hg)).mono ?_
  rintro e w' ⟨v, rfl, ho, hb⟩
  exact ⟨v, rfl, own_less ho (by simp), hal.trans (hb.mono hal.size)⟩
end

set_option maxHeartbeats 4000000 in
set_option maxRecDepth 100000 in
theorem detect_core (A1 : Option Addr) (n1 c1 : Nat) (a : List Int) (x y : Int) (A2 : Option Addr) (n2 c2 : Nat) (b : List Int) (w : World) (e1 : a.length = n1) (e2 : b.length = n2) (m : n1 + n2 ≤ 600)
    (ha : Bytes a) (hb : Bytes b) (hx : 0 ≤ x ∧ x ≤ 255) (hy : 0 ≤ y ∧ y ≤ 255) (h1 : Sees w w.heap.size A1 (a.map (.int .u8))) (h2 : Sees w w.heap.size A2 (b.map (.int .u8))) :
    Calls Try.prog 13 #[.slice A1 n1 c1, .int .u8 x, .int .u8 y, .slice A2 n2 c2] w (Sane w) := by
  obtain ⟨i0, hi, hz0, hz1, hz2⟩ := info_parts Try.info5
  have hmf := run_func
  -- the plain facts
  have F1 : (sumL (a ++ ([x] ++ b)) == sumL (a ++ ([y] ++ b))) = (x == y) := by rw [Bool.eq_iff_iff]; simpa using sum_replace (a := a) (b := b) hx hy
  have F2 : (sumL (a ++ ([x, y] ++ b)) == sumL (a ++ ([y, x] ++ b))) = (x == y) := by rw [Bool.eq_iff_iff]; simpa using sum_swap (a := a) (b := b) hx hy
  have hL1 : (a ++ ([x] ++ b)).length = n1 + n2 + 1 := by simp [e1, e2]; omega
  have hL2 : (a ++ ([y] ++ b)).length = n1 + n2 + 1 := by simp [e1, e2]; omega
  have hL3 : (a ++ ([x, y] ++ b)).length = n1 + n2 + 2 := by simp [e1, e2]; omega
  have hL4 : (a ++ ([y, x] ++ b)).length = n1 + n2 + 2 := by simp [e1, e2]; omega
  have hset := seal_set a b x y
  have hopen := open_replaced (a := a) (b := b) hx hy (by omega)
  rw [← hset, hL1, e1] at hopen
  have HO : (((openR ((sealL (a ++ ([x] ++ b))).set ((putL ((n1 + n2 + 1 : Nat) : Int)).length + n1) y)).2.2 == 0) = (x == y)) := by
    rw [show (x == y) = decide (x = y) by rfl, ← hopen]
    unfold openR
    cases openL ((sealL (a ++ ([x] ++ b))).set ((putL ((n1 + n2 + 1 : Nat) : Int)).length + n1) y) <;> rfl
  have B1 := Lib.hid (mid_bytes ha (one_bytes hx) hb)
  have B2 := Lib.hid (mid_bytes ha (one_bytes hy) hb)
  have B3 := Lib.hid (mid_bytes ha (two_bytes hx hy) hb)
  have B4 := Lib.hid (mid_bytes ha (two_bytes hy hx) hb)
  have hsl := sealL_le (a ++ ([x] ++ b))
  have hsb := sealL_bytes B1.out (by omega)
  have hlow : (putL ((n1 + n2 + 1 : Nat) : Int)).length + n1 < (sealL (a ++ ([x] ++ b))).length := by
    unfold sealL textL
    rw [hL1]
    simp only [List.length_append, hL1]
    omega
  have H1 := Lib.hid h1
  have H2 := Lib.hid h2
  have E1 := Lib.hid e1
  have E2 := Lib.hid e2
  have HL1 := Lib.hid hL1
  have HL2 := Lib.hid hL2
  have HL3 := Lib.hid hL3
  have HL4 := Lib.hid hL4
  have hpl := put_le ((n1 + n2 + 1 : Nat) : Int)
  have HPI : Hid (In64 ((n1 + n2 + 1 : Nat) : Int)) := Lib.hid (len_in (by omega))
  obtain ⟨s1, hs1⟩ : ∃ s, s = sumL (a ++ ([x] ++ b)) := ⟨_, rfl⟩
  obtain ⟨s2, hs2⟩ : ∃ s, s = sumL (a ++ ([y] ++ b)) := ⟨_, rfl⟩
  obtain ⟨s3, hs3⟩ : ∃ s, s = sumL (a ++ ([x, y] ++ b)) := ⟨_, rfl⟩
  obtain ⟨s4, hs4⟩ : ∃ s, s = sumL (a ++ ([y, x] ++ b)) := ⟨_, rfl⟩
  rw [← hs1, ← hs2] at F1
  rw [← hs3, ← hs4] at F2
  have G1 := Lib.hid hs1
  have G2 := Lib.hid hs2
  have G3 := Lib.hid hs3
  have G4 := Lib.hid hs4
  have HBX := Lib.hid (Boxed.start (A1 := A1) (n1 := n1) (c1 := c1) (A2 := A2) (n2 := n2) (c2 := c2) w)
  have hm : (n1 : Int) + (n2 : Int) ≤ 600 := by omega
  have M1 : Hid (n1 + n2 + 1 ≤ maxLen) := Lib.hid (by unfold maxLen; omega)
  have M2 : Hid (n1 + n2 + 2 ≤ maxLen) := Lib.hid (by unfold maxLen; omega)
  have HLOW := Lib.hid hlow
  have HSL := Lib.hid hsl
  have HSB := Lib.hid (set_bytes hsb ((putL ((n1 + n2 + 1 : Nat) : Int)).length + n1) hy)
  have HOO := Lib.hid HO
  obtain ⟨hx0, hx1⟩ := hx
  obtain ⟨hy0, hy1⟩ := hy
  clear e1 e2 h1 h2 hL1 hL2 hL3 hL4 hs1 hs2 hs3 hs4 hset hopen HO hlow hsl hsb ha hb
  obtain ⟨c1a, c1b, c1c, c1d⟩ := HBX.out
  go_enter Try.func13, Try.ntmps13
  go_wp2_with fail
  refine (of_lit HBX.out E1.out E2.out (l := [x]) (n := 1) (by rfl) (by omega) H1.out H2.out (by simp) rfl).mono ?_
  rintro e w1 ⟨v1, rfl, o1, b1⟩
  have HB1 : Hid (Boxed w A1 n1 c1 A2 n2 c2 w1) := Lib.hid (HBX.out.below b1)
  rw [HL1.out] at o1
  obtain ⟨Ao, co, rfl, hco, so⟩ := own_form o1
  have SO1 := Lib.hid so
  clear o1 b1 so
  go_wp2_with fail
  refine (of_lit HB1.out E1.out E2.out (l := [y]) (n := 1) (by rfl) (by omega) H1.out H2.out (by simp) rfl).mono ?_
  rintro e w2 ⟨v2, rfl, o2, b2⟩
  have HB2 : Hid (Boxed w A1 n1 c1 A2 n2 c2 w2) := Lib.hid (HB1.out.below b2)
  rw [HL2.out] at o2
  obtain ⟨Ap, cp, rfl, hcp, sp⟩ := own_form o2
  have SO2 := Lib.hid ((SO1.out.below b2).more b2.size)
  have SP2 := Lib.hid sp
  clear o2 b2 sp SO1 HB1
  go_wp2_with fail
  refine (sum_any Ao _ co _ _ HL1.out M1.out B1.out SO2.out).mono ?_
  rw [← G1.out]
  rintro e w3 ⟨rfl, rfl⟩
  go_wp2_with fail
  refine (sum_any Ap _ cp _ _ HL2.out M1.out B2.out SP2.out).mono ?_
  rw [← G2.out]
  rintro e w3 ⟨rfl, rfl⟩
  clear SP2
  go_wp2_with fail
  refine (of_lit HB2.out E1.out E2.out (l := [x, y]) (n := 2) (by rfl) (by omega) H1.out H2.out (by simp) rfl).mono ?_
  rintro e w3 ⟨v3, rfl, o3, b3⟩
  have HB3 : Hid (Boxed w A1 n1 c1 A2 n2 c2 w3) := Lib.hid (HB2.out.below b3)
  rw [HL3.out] at o3
  obtain ⟨Aq, cq, rfl, hcq, sq⟩ := own_form o3
  have SO3 := Lib.hid ((SO2.out.below b3).more b3.size)
  have SQ3 := Lib.hid sq
  clear o3 b3 sq SO2 HB2
  go_wp2_with fail
  refine (sum_any Aq _ cq _ _ HL3.out M2.out B3.out SQ3.out).mono ?_
  rw [← G3.out]
  rintro e w4 ⟨rfl, rfl⟩
  clear SQ3
  go_wp2_with fail
  refine (of_lit HB3.out E1.out E2.out (l := [y, x]) (n := 2) (by rfl) (by omega) H1.out H2.out (by simp) rfl).mono ?_
  rintro e w4 ⟨v4, rfl, o4, b4⟩
  have HB4 : Hid (Boxed w A1 n1 c1 A2 n2 c2 w4) := Lib.hid (HB3.out.below b4)
  rw [HL4.out] at o4
  obtain ⟨Ar, cr, rfl, hcr, sr⟩ := own_form o4
  have SO4 := Lib.hid ((SO3.out.below b4).more b4.size)
  have SR4 := Lib.hid sr
  clear o4 b4 sr SO3 HB3
  go_wp2_with fail
  refine (sum_any Ar _ cr _ _ HL4.out M2.out B4.out SR4.out).mono ?_
  rw [← G4.out]
  rintro e w5 ⟨rfl, rfl⟩
  clear SR4
  go_wp2_with fail
  refine (seal_any Ao _ co _ _ HL1.out (by omega) B1.out SO4.out).mono ?_
  rintro e w5 ⟨v5, rfl, o5, b5⟩
  have HB5 : Hid (Boxed w A1 n1 c1 A2 n2 c2 w5) := Lib.hid (HB4.out.below b5)
  clear SO4 HB4 b5
  generalize sealL (a ++ ([x] ++ b)) = S at o5 HLOW HSL HSB HOO
  obtain ⟨P, HP⟩ : ∃ P, P = putL ((n1 + n2 + 1 : Nat) : Int) := ⟨_, rfl⟩
  rw [← HP] at hpl HLOW HSB HOO
  have HPE := Lib.hid HP
  clear HP
  obtain ⟨A5, c5, rfl, hc5, s5⟩ := own_form o5
  have S5 := Lib.hid s5
  clear o5 s5
  obtain ⟨hbox, -, hsz5, hb05⟩ := HB5.out
  have hlt5 : Hid (w.heap.size < w5.heap.size) := Lib.hid (by omega)
  have HB05 := Lib.hid hb05
  clear hsz5 hb05
  go_wp2
  go_region_held3 (fun w' => w'.cell? ⟨w.heap.size, 0, none⟩ = some (.slice A1 n1 c1)) (first
      | go_keep
      | exact (b6.cell (p := ⟨w.heap.size, 0, none⟩) hlt5.out).trans hbox) (first
    | (go_at_call 16; refine (put_any _ HPI.out _).mono ?_; rintro e w6 ⟨v6, rfl, o6, b6⟩; rw [← HPE.out] at o6; obtain ⟨A6, c6, rfl, -, -⟩ := own_form o6; clear o6))
  have HB06 : Hid (Below w.heap.size w w6) := Lib.hid (HB05.out.trans ((below_of_drew b6).mono HB05.out.size))
  have S6 : Hid (Sees w6 w6.heap.size A5 (S.map (.int .u8))) := Lib.hid ((S5.out.below (below_of_drew b6)).more b6.size)
  have hlow : P.length + n1 < S.length := HLOW.out
  have hslm : S.length ≤ 700 + 20 := by have h9 := HSL.out; rw [HL1.out] at h9; omega
  clear hbox hlt5 HB05 S5 b6 HB5
  have hwr : IntKind.i64.wrap ((P.length : Int) + (n1 : Int)) = ((P.length + n1 : Nat) : Int) := by
    rw [IntKind.wrap_i64]; omega
  obtain ⟨j, hj⟩ : ∃ j, j = P.length + n1 := ⟨_, rfl⟩
  rw [← hj] at hwr hlow HSB HOO
  clear hj HLOW
  have hdec : decide ((S.length : Int) ≤ (j : Int)) = false := by simp; omega
  go_wp2_with (at_builtin; refine wpList_app rfl (.tmp 74) (.tmp 75) 24 rfl w6.heap.size 5 i0 (.int .u8 0) 1 1 Try.underlying24 hi hz0 hz1 hz2 rfl (by decide) (own_empty w6) (S6.out.alloc (Nat.le_refl _) _) (by simp) ints_one rfl rfl (by unfold maxLen; omega) (by omega) (by simp) ?_)
  intro v7 w7 o7 b7
  have HB07 : Hid (Below w.heap.size w w7) := Lib.hid (HB06.out.trans ((((Below.refl _ _).alloc (Nat.le_refl _) _).trans b7).mono HB06.out.size))
  obtain ⟨g7, c7, rfl, hg7, hg7'⟩ := World.ownsRow.form o7 (by omega)
  have hcA : w7.cell? ⟨g7, j, none⟩ = some (.int .u8 (S.getD j 0)) := (o7.cellAt j (by omega)).trans (getElem?_ints (by omega))
  have hfA := o7.frozenAt j
  have hst := Lib.hid (o7.stored j (.int .u8 y))
  have hcap7 : Hid (S.length ≤ c7) := Lib.hid (by
    obtain ⟨A8, c8, h8, h9, -⟩ := own_form o7
    cases h8
    exact h9)
  have HB08 : Hid (Below w.heap.size w (w7.setCell ⟨g7, j, none⟩ (.int .u8 y))) := Lib.hid (HB07.out.grown hst.out.2 HB07.out.size (by
    intro g hg
    cases hg
    exact Nat.le_trans HB06.out.size hg7))
  have S8 : Hid (Sees (w7.setCell ⟨g7, j, none⟩ (.int .u8 y)) (w7.setCell ⟨g7, j, none⟩ (.int .u8 y)).heap.size (some ⟨g7, 0, none⟩) ((S.set j y).map (.int .u8))) := Lib.hid (by
    rw [List.map_set]
    exact Sees.of_own hst.out.1)
  have hSL : Hid ((S.set j y).length = S.length) := Lib.hid (by simp)
  clear o7 b7 HB06 S6 hst HB07
  go_wp2_with fail
  refine (open_any _ S.length c7 (S.set j y) _ hSL.out (by omega) hcap7.out HSB.out S8.out).mono ?_
  have HOE := HOO.out
  generalize openR (S.set j y) = u at HOE
  obtain ⟨u1, u2, u3⟩ := u
  simp only at HOE
  rintro e w9 ⟨A9, c9, rfl, -, -, b9⟩
  have HB09 : Hid (Below w.heap.size w w9) := Lib.hid (HB08.out.trans (b9.mono HB08.out.size))
  clear b9 HB08 S8 HOO hcap7
  go_wp2_with fail
  refine (sanity_any _).mono ?_
  rintro e w10 ⟨rfl, b10⟩
  go_wp2
  go_ret
  refine ⟨ret_bool ?_, HB09.out.trans (b10.mono HB09.out.size)⟩
  rfl
end Go.Proofs.Ytcjlbmggkjnbhaa
