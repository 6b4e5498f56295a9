/- The reference's puts: a level with one more write. -/
import Derived.Test.YtiomfncbhbokpaaRReads
import Derived.Test.YtiomfncbhbokpaaPlain
namespace Go.Proofs.Ytiomfncbhbokpaa
open Go.RowKit
set_option linter.unusedVariables false

theorem res49 {W : World} {tmps : Array Value} {b : Nat} {x y z : Value} (h : tmps[4]? = some (.pointer (some ⟨b, 0, none⟩))) (hb : Box3 W b x y z) : (results Try.f49 tmps).run Try.prog W = .ok (.agg #[x, y, z]) W := by
  have c0 := hb.c0
  have c1 := hb.c1
  have c2 := hb.c2
  simp [results, Try.f49, go_sem, c0, c1, c2, h]
/-- A box of two cells. -/
structure Box2 (w : World) (b : Nat) (x y : Value) : Prop where
  c0 : w.cell? ⟨b, 0, none⟩ = some x
  c1 : w.cell? ⟨b, 1, none⟩ = some y
theorem Box2.new (w : World) (x y : Value) (t : TypeId) : Box2 (w.alloc (.cells #[x, y] t)) w.heap.size x y :=
  ⟨by rw [World.cell?_alloc_at _ _ _ _ rfl]; rfl, by rw [World.cell?_alloc_at _ _ _ _ rfl]; rfl⟩
theorem Box2.below {w w' : World} {b n : Nat} {x y : Value} (h : Box2 w b x y) (hb : Below n w w') (hlt : b < n) : Box2 w' b x y :=
  ⟨(hb.cell (p := ⟨b, 0, none⟩) hlt).trans h.c0, (hb.cell (p := ⟨b, 1, none⟩) hlt).trans h.c1⟩
theorem Box3.set1 {w : World} {b : Nat} {x y z : Value} (h : Box3 w b x y z) (u : Value) : Box3 (w.setCell ⟨b, 1, none⟩ u) b x u z :=
  ⟨(cell_set_off _ _ _ _ _ (by omega)).trans h.c0, World.cell?_setCell_same (h := h.c1) .., (cell_set_off _ _ _ _ _ (by omega)).trans h.c2, by rw [World.frozen?_setCell]; exact h.f0, by rw [World.frozen?_setCell]; exact h.f1, by rw [World.frozen?_setCell]; exact h.f2⟩
/-- What stands behind the store of the new row of writes, ahead of the return. -/
theorem writes_end {w wr w5 : World} {A1 A2 A3 A5 : Option Addr} {n1 c1 n2 c2 n3 c3 m c5 : Nat} {v : Lv} {ws : List Wr} {x y z : Value} (hl : Lev wr w.heap.size ⟨A1, n1, c1, A2, n2, c2, A3, n3, c3⟩ v) (hB : Below w.heap.size w wr) (hsz : wr.heap.size = w.heap.size + 3) (h5 : Below (w.heap.size + 3) wr w5)
    (o5 : w5.ownsRow wr.heap.size 33 2 (.slice A5 m c5) m (ws.flatMap wrC)) (hm : ws.length = m) (hc : m ≤ c5) (hb0 : Box3 wr w.heap.size (.slice A1 n1 c1) (.slice A2 n2 c2) (.slice A3 n3 c3)) (hb : Box3 wr (w.heap.size + 1 + 1) x y z) :
    Box3 (w5.setCell ⟨w.heap.size, 1, none⟩ (.slice A5 m c5)) w.heap.size (.slice A1 n1 c1) (.slice A5 m c5) (.slice A3 n3 c3) ∧ Box3 (w5.setCell ⟨w.heap.size, 1, none⟩ (.slice A5 m c5)) (w.heap.size + 1 + 1) x y z ∧
      LevX (w5.setCell ⟨w.heap.size, 1, none⟩ (.slice A5 m c5)) (w.heap.size + 1 + 1) ⟨A1, n1, c1, A5, m, c5, A3, n3, c3⟩ { v with writes := ws } ∧ Below w.heap.size w (w5.setCell ⟨w.heap.size, 1, none⟩ (.slice A5 m c5)) := by
  have hW : Below w.heap.size wr (w5.setCell ⟨w.heap.size, 1, none⟩ (.slice A5 m c5)) := (show Below w.heap.size wr w5 from h5.mono (by omega)).setCell (p := ⟨w.heap.size, 1, none⟩) (Nat.le_refl _) _
  have hle : w.heap.size ≤ (w5.setCell ⟨w.heap.size, 1, none⟩ (.slice A5 m c5)).heap.size := by rw [setCell_size]; have := h5.size; omega
  exact ⟨(hb0.below h5 (by omega)).set1 _, (hb.below h5 (by omega)).other (by omega) _,
    ⟨hl.e1, hm, hl.e3, hl.m1, hc, hl.m3, .of (hl.s1.below hW) hle (by omega), .of_own (ownsRow_setCell_below o5 (show w.heap.size < wr.heap.size by omega) _) (show w.heap.size + 1 + 1 < wr.heap.size by omega), .of (hl.s3.below hW) hle (by omega)⟩, hB.trans hW⟩
theorem own_le {w : World} {base : Nat} {e : TypeId} {size n c m : Nat} {A : Option Addr} {xs : List Value} (h : w.ownsRow base e size (.slice A n c) m xs) : n ≤ c := by
  rcases h.2 with ⟨h1, _⟩ | ⟨g, cap, cur, h1, _, _, hn, _⟩
  · cases h1; exact Nat.le_refl _
  · cases h1; exact hn
/-- The row that the second loop has built behind k elements, and whether the write is in it. -/
def insTo (ws : List Wr) (x : Wr) (k : Nat) : List Wr := if moreW ws x.loc < k then insAt (ws.take k) (moreW ws x.loc) x else ws.take k

theorem insTo_le (ws : List Wr) (x : Wr) (k : Nat) (hk : k ≤ ws.length) : (insTo ws x k).length ≤ k + 1 := by
  unfold insTo
  split
  · rename_i h
    rw [insAt_length x (by rw [List.length_take]; omega), List.length_take]
    omega
  · rw [List.length_take]; omega
theorem insTo_zero (ws : List Wr) (x : Wr) : insTo ws x 0 = [] := by
  unfold insTo
  rw [if_neg (by omega), List.take_zero]
theorem take_snoc {α : Type} {xs : List α} {k : Nat} {y : α} (h : xs[k]? = some y) : xs.take (k + 1) = xs.take k ++ [y] := by rw [List.take_add_one, h]; rfl
theorem insTo_done {ws : List Wr} {x y : Wr} {k : Nat} (h : moreW ws x.loc < k) (hy : ws[k]? = some y) : insTo ws x (k + 1) = insTo ws x k ++ [y] := by
  have hk := (List.getElem?_eq_some_iff.1 hy).1
  unfold insTo insAt
  rw [if_pos h, if_pos (by omega), take_snoc hy, List.take_append_of_le_length (by rw [List.length_take]; omega), List.drop_append_of_le_length (by rw [List.length_take]; omega), List.append_assoc]
  rfl
theorem insTo_at {ws : List Wr} {x y : Wr} {k : Nat} (h : moreW ws x.loc = k) (hy : ws[k]? = some y) : insTo ws x (k + 1) = (insTo ws x k ++ [x]) ++ [y] := by
  have hk := (List.getElem?_eq_some_iff.1 hy).1
  have hl : (ws.take k).length = k := by rw [List.length_take]; omega
  unfold insTo insAt
  rw [if_pos (by omega), if_neg (by omega), take_snoc hy, h, List.take_append_of_le_length (by omega), List.drop_append_of_le_length (by omega), List.take_of_length_le (by omega), List.drop_of_length_le (by omega), List.append_assoc]
  rfl
theorem insTo_not {ws : List Wr} {x y : Wr} {k : Nat} (h : k < moreW ws x.loc) (hy : ws[k]? = some y) : insTo ws x (k + 1) = insTo ws x k ++ [y] := by
  unfold insTo
  rw [if_neg (by omega), if_neg (by omega), take_snoc hy]
theorem insTo_all {ws : List Wr} {x : Wr} (h : moreW ws x.loc < ws.length) : insTo ws x ws.length = insAt ws (moreW ws x.loc) x := by
  unfold insTo
  rw [if_pos h, List.take_length]
theorem insTo_none {ws : List Wr} {x : Wr} (h : ¬ moreW ws x.loc < ws.length) : insTo ws x ws.length ++ [x] = insAt ws (moreW ws x.loc) x := by
  have := moreW_le ws x.loc
  have e : moreW ws x.loc = ws.length := by omega
  unfold insTo insAt
  rw [if_neg h, List.take_length, e, List.take_length, List.drop_length]
theorem more_at {ws : List Wr} {l : Int} {k : Nat} {y : Wr} (h : ¬ moreW ws l < k) (hy : ws[k]? = some y) : l < y.loc ↔ moreW ws l = k := by
  obtain ⟨hk, e⟩ := List.getElem?_eq_some_iff.1 hy
  constructor
  · intro hl
    rcases Nat.lt_or_ge k (moreW ws l) with h1 | h1
    · have := List.not_of_lt_findIdx (p := fun s : Wr => decide (l < s.loc)) (xs := ws) h1
      rw [e] at this
      simp at this
      omega
    · omega
  · intro hm
    have := List.findIdx_getElem (p := fun s : Wr => decide (l < s.loc)) (xs := ws) (w := by show moreW ws l < ws.length; omega)
    have h2 : ws[moreW ws l]'(by omega) = y := by
      simp only [hm]
      exact e
    have h3 : decide (l < (ws[moreW ws l]'(by omega)).loc) = true := this
    rw [h2] at h3
    simpa using h3
set_option maxRecDepth 100000 in
set_option maxHeartbeats 4000000 in
theorem rputsX_any (l : LC) (v : Lv) (s : Wr) (w : World) (h : Lev w w.heap.size l v) (hm : v.writes.length ≤ 80000) :
    Calls Try.prog 49 #[.agg #[.slice l.A1 l.n1 l.c1, .slice l.A2 l.n2 l.c2, .slice l.A3 l.n3 l.c3], .agg #[.int .i64 s.loc, .int .i64 s.val]] w (RetLvX l v (addW s v) w) := by
  obtain ⟨i0, hi, hz0, hz1, hz2⟩ := info_parts Try.info33
  have HI := Lib.hid hi
  have HZ0 := Lib.hid hz0
  have HZ1 := Lib.hid hz1
  have HZ2 := Lib.hid hz2
  obtain ⟨A1, n1, c1, A2, n2, c2, A3, n3, c3⟩ := l
  dsimp only
  have HL := Lib.hid h
  have E1 := Lib.hid (show v.writes.length = n2 from h.e2)
  have hm1 : n2 ≤ 80000 := by rw [← E1.out]; exact hm
  have b0 := ((Box3.new w (.slice A1 n1 c1) (.slice A2 n2 c2) (.slice A3 n3 c3) 62).below ((Below.refl (w.heap.size + 1) _).alloc (by simp) (.cells #[.int .i64 s.loc, .int .i64 s.val] 33)) (by omega)).below ((Below.refl (w.heap.size + 1) _).alloc (by simp) (.cells #[.slice none 0 0, .slice none 0 0, .slice none 0 0] 62)) (by omega)
  have b1 := (Box2.new (w.alloc (.cells #[.slice A1 n1 c1, .slice A2 n2 c2, .slice A3 n3 c3] 62)) (.int .i64 s.loc) (.int .i64 s.val) 33).below ((Below.refl (w.heap.size + 2) _).alloc (by simp) (.cells #[.slice none 0 0, .slice none 0 0, .slice none 0 0] 62)) (by simp)
  have b2 := Box3.new ((w.alloc (.cells #[.slice A1 n1 c1, .slice A2 n2 c2, .slice A3 n3 c3] 62)).alloc (.cells #[.int .i64 s.loc, .int .i64 s.val] 33)) (.slice none 0 0) (.slice none 0 0) (.slice none 0 0) 62
  have hal : Below w.heap.size w (((w.alloc (.cells #[.slice A1 n1 c1, .slice A2 n2 c2, .slice A3 n3 c3] 62)).alloc (.cells #[.int .i64 s.loc, .int .i64 s.val] 33)).alloc (.cells #[.slice none 0 0, .slice none 0 0, .slice none 0 0] 62)) := (((Below.refl _ _).alloc (Nat.le_refl _) _).alloc (by simp) _).alloc (by simp <;> omega) _
  simp only [World.size_alloc] at b1 b2
  have B0 := Lib.hid b0
  have B1 := Lib.hid b1
  have B2 := Lib.hid b2
  have HAL := Lib.hid hal
  have hsz : (((w.alloc (.cells #[.slice A1 n1 c1, .slice A2 n2 c2, .slice A3 n3 c3] 62)).alloc (.cells #[.int .i64 s.loc, .int .i64 s.val] 33)).alloc (.cells #[.slice none 0 0, .slice none 0 0, .slice none 0 0] 62)).heap.size = w.heap.size + 3 := by simp
  have HSZ := Lib.hid hsz
  clear h hm hi hz0 hz1 hz2 b0 b1 b2 hal hsz
  go_enter Try.func49, Try.ntmps49
  go_wp2
  generalize ((w.alloc (.cells #[.slice A1 n1 c1, .slice A2 n2 c2, .slice A3 n3 c3] 62)).alloc (.cells #[.int .i64 s.loc, .int .i64 s.val] 33)).alloc (.cells #[.slice none 0 0, .slice none 0 0, .slice none 0 0] 62) = w0 at *
  go_loopw [5] (fun i wr => ∃ k : Nat, k ≤ n2 ∧ i = .int .i64 k ∧ Hid (∃ d, wr = w0.drewN d) ∧ Hid (∀ j x, j < k → v.writes[j]? = some x → (x.loc == s.loc) = false)) (fun i _ => n2 - (intOf i).toNat)
  case atStart => exact ⟨0, Nat.zero_le _, rfl, Lib.hid ⟨0, rfl⟩, Lib.hid (fun j x hj => by omega)⟩
  case round =>
    obtain ⟨k, hk, rfl, HD, HK⟩ := hrel
    have HBD : Hid (Below w0.heap.size w0 wr) := Lib.hid (by
      obtain ⟨d, e⟩ := HD.out
      rw [e]; exact below_drewN (Below.refl _ _) d)
    have HSW : Hid (wr.heap.size = w.heap.size + 3) := Lib.hid (by
      obtain ⟨d, e⟩ := HD.out
      rw [e, ← HSZ.out]; rfl)
    have C0 := Lib.hid (B0.out.below HBD.out (by rw [HSZ.out]; omega))
    have C1 := Lib.hid (B1.out.below HBD.out (by rw [HSZ.out]; omega))
    have C2 := Lib.hid (B2.out.below HBD.out (by rw [HSZ.out]; omega))
    have HLW := Lib.hid (HL.out.below (HAL.out.trans (HBD.out.mono HAL.out.size)))
    have HBW := Lib.hid (HAL.out.trans (HBD.out.mono HAL.out.size))
    have p0 := C0.out.c0
    have p1 := C0.out.c1
    have p2 := C0.out.c2
    have r0 := C1.out.c0
    have r1 := C1.out.c1
    by_cases hlt : k < n2
    · have hx : v.writes[k]? = some (v.writes[k]'(by rw [E1.out]; exact hlt)) := List.getElem?_eq_getElem _
      generalize v.writes[k]'(by rw [E1.out]; exact hlt) = x at hx
      obtain ⟨b, off, hA, hbl, x0, -⟩ := HLW.out.s2.at2 hx
      dsimp only at hA
      have HX := Lib.hid hx
      have HA2 := Lib.hid hA
      subst hA
      clear hx
      by_cases hp : (x.loc == s.loc) = true
      · have hh : hitW v.writes s.loc = k := by
          unfold hitW
          rw [List.findIdx_eq (by rw [E1.out]; exact hlt)]
          refine ⟨?_, fun j hj => ?_⟩
          · have := HX.out
            rw [List.getElem?_eq_getElem (by rw [E1.out]; exact hlt)] at this
            cases this
            exact hp
          · exact HK.out j _ hj (List.getElem?_eq_getElem (by rw [E1.out]; omega))
        have HR : Hid (addW s v = { v with writes := v.writes.set k s }) := Lib.hid (by
          unfold addW putW
          rw [if_pos (by rw [hh, E1.out]; exact hlt), hh])
        have HS2 := Lib.hid (HLW.out.s2)
        clear hh
        go_wp2
        go_quiet (fail)
        have hb1 := below_drewN (Below.refl wr.heap.size wr) nq
        have D0 := Lib.hid (C0.out.below hb1 (by rw [HSW.out]; omega))
        have D1 := Lib.hid (C1.out.below hb1 (by rw [HSW.out]; omega))
        have D2 := Lib.hid (C2.out.below hb1 (by rw [HSW.out]; omega))
        have HSW1 : Hid ((wr.drewN nq).heap.size = w.heap.size + 3) := HSW
        have HLW1 := Lib.hid (HLW.out.drewN nq)
        have HBW1 := Lib.hid (below_drewN HBW.out nq)
        have HX2 : Hid (v.writes[k]? = some x) := HX
        clear HBW HLW C0 C1 C2 HBD HK hp HS2 HD p0 p1 p2 r0 r1 x0 hb1 HX
        generalize wr.drewN nq = W1 at *
        clear HSW
        have hsn : w.heap.size + 3 ≤ W1.heap.size := by rw [HSW1.out]; exact Nat.le_refl _
        have hbe : Below (w.heap.size + 3) W1 (W1.alloc (.cells #[] 33)) := (Below.refl _ _).alloc hsn _
        have p1 := (D0.out.below hbe (by omega)).c1
        have HFL : Hid ((v.writes.flatMap wrC).length = n2 * 2) := Lib.hid (by rw [flat_length wr_len, E1.out])
        clear hbe
        go_wp2_with (at_builtin; refine wpList_app rfl (.tmp 26) (.tmp 28) 24 rfl W1.heap.size 33 i0 (.agg #[.int .i64 0, .int .i64 0]) 2 16 Try.underlying24 HI.out HZ0.out HZ1.out HZ2.out rfl (by decide) (own_none W1 33 2) (HLW1.out.s2.alloc (by rw [HSW1.out]; omega) _) HFL.out (flat_one wr_one _) rfl rfl (by unfold maxLen; omega) (by omega) (by simp) ?_)
        intro v3 w3 o3 b3
        have o4 : w3.ownsRow W1.heap.size 33 2 v3 n2 (v.writes.flatMap wrC) := own_cast o3 (by simp) (by simp)
        have B3 : Hid (Below (w.heap.size + 3) W1 w3) := Lib.hid (((Below.refl _ _).alloc hsn _).trans (b3.mono hsn))
        obtain ⟨g, c6, rfl, hg, hg2⟩ := World.ownsRow.form o4 (by omega)
        have hst := o4.stored (k * 2) (.int .i64 s.loc)
        have HS1 := Lib.hid (hst.1.stored (k * 2 + 1) (.int .i64 s.val)).1
        have hl2 : (v.writes.flatMap wrC).length = n2 * 2 := HFL.out
        have hcA : w3.cell? ⟨g, k * 2, none⟩ = some (.int .i64 x.loc) := (o4.cellAt (k * 2) (by omega)).trans ((flat_get wr_len v.writes k 0 x HX2.out (by omega)).trans rfl)
        have hcB : w3.cell? ⟨g, k * 2 + 1, none⟩ = some (.int .i64 x.val) := (o4.cellAt (k * 2 + 1) (by omega)).trans ((flat_get wr_len v.writes k 1 x HX2.out (by omega)).trans rfl)
        have hfA := o4.frozenAt (k * 2)
        have hfB := o4.frozenAt (k * 2 + 1)
        have hg0 : ¬ (w.heap.size = g) := by omega
        have r0 := (D1.out.below B3.out (by omega)).c0
        have r1 := (D1.out.below B3.out (by omega)).c1
        have hg1 : ¬ (w.heap.size + 1 + 1 = g) := by omega
        have hg2' : ¬ (w.heap.size + 1 = g) := by omega
        have E3 := D0.out.below B3.out (by omega)
        have F3 := D2.out.below B3.out (by omega)
        have u0 := E3.c0
        have u1 := E3.c1
        have u2 := E3.c2
        have u3 := E3.f1
        have u4 := F3.c0
        have u5 := F3.c1
        have u6 := F3.c2
        have u7 := F3.f0
        have u8 := F3.f1
        have u9 := F3.f2
        have HOW := Lib.hid (fun (g' : Nat) (hg' : g' < w.heap.size) => SeesX.of_own (own_put (ownsRow_setCell_below (own_cast HS1.out rfl (flat_set v.writes k s)) (a := ⟨w.heap.size, 1, none⟩) (show w.heap.size < W1.heap.size by rw [HSW1.out]; omega) (.slice (some ⟨g, 0, none⟩) n2 c6)) (show w.heap.size + 1 + 1 < W1.heap.size by rw [HSW1.out]; omega) 0 ⟨A1, n1, c1, some ⟨g, 0, none⟩, n2, c6, A3, n3, c3⟩) (show g' < W1.heap.size by rw [HSW1.out]; omega))
        have hT := writes_end (ws := v.writes.set k s) HLW1.out HBW1.out HSW1.out ((B3.out.setCell (p := ⟨g, k * 2, none⟩) (show w.heap.size + 3 ≤ g by omega) _).setCell (p := ⟨g, k * 2 + 1, none⟩) (show w.heap.size + 3 ≤ g by omega) _) (own_cast HS1.out rfl (flat_set v.writes k s)) (by rw [List.length_set, E1.out]) (own_le o4) D0.out D2.out
        have HT := Lib.hid (ret_lv hT.2.2.1 (show w.heap.size ≤ w.heap.size + 1 + 1 by omega) hT.2.2.2 hT.2.1)
        clear p1 o3 o4 b3 hst hl2 hT E3 F3 hsn hm1
        repeat (first | go_values | go_skip | go_guarded | go_step | go_upon | go_in)
        exact bodyPost_ret (res49 rfl HT.out.1) rfl ⟨⟨A1, n1, c1, some ⟨g, 0, none⟩, n2, c6, A3, n3, c3⟩, rfl, by rw [HR.out]; exact HT.out.2.1, HT.out.2.2, fun g hg hx => by
          rw [HR.out]
          have ha := hx.aside (Aside.of_below HT.out.2.2)
          exact ⟨HT.out.2.1.e1, HT.out.2.1.e2, HT.out.2.1.e3, HT.out.2.1.m1, HT.out.2.1.m2, HT.out.2.1.m3, ha.s1, HOW.out g hg, ha.s3⟩⟩
      · have hp' : (x.loc == s.loc) = false := by simpa using hp
        have HP := Lib.hid (idx_next (p := fun y : Wr => y.loc == s.loc) HX.out HK.out hp')
        have HD2 : Hid (∃ d, wr.drew = w0.drewN d) := Lib.hid (by
          obtain ⟨d, e⟩ := HD.out
          exact ⟨d + 1, by rw [e]; rfl⟩)
        clear hp HA2
        go_wp2
        go_region_law (fail)
        all_goals
          go_wp2
          go_roundw
          case rel => exact ⟨k + 1, by omega, by go_num, HD2, HP⟩
          case measure => simp [intOf]; omega
    · have hkn : k = n2 := by omega
      have HH : Hid (hitsW v.writes s.loc = false) := Lib.hid (by
        unfold hitsW
        rw [List.any_eq_false]
        intro y hy
        obtain ⟨j, hj, e⟩ := List.mem_iff_getElem.1 hy
        have := HK.out j y (by rw [E1.out] at hj; omega) (by rw [List.getElem?_eq_getElem hj, e])
        simp [this])
      have HR : Hid (addW s v = { v with writes := insAt v.writes (moreW v.writes s.loc) s }) := Lib.hid (by
        unfold addW putW
        rw [if_neg (fun h => by rw [(hitW_lt _ _).1 h] at HH; cases HH.out)])
      subst hkn
      have HSN : Hid (w.heap.size + 3 ≤ wr.heap.size) := Lib.hid (by rw [HSW.out]; exact Nat.le_refl _)
      have ⟨W1, HW1⟩ : ∃ W1, W1 = wr := ⟨_, rfl⟩
      subst HW1
      obtain ⟨m, hm⟩ : ∃ m, m = moreW v.writes s.loc := ⟨_, rfl⟩
      have HM := Lib.hid hm
      clear HK HD hlt hm p0 p2 HH
      go_wp2
      go_loopw [7, 8, 9] (fun v7 d i wr => ∃ j : Nat, j ≤ k ∧ i = .int .i64 j ∧ d = .bool (decide (m < j)) ∧ Hid (wr.ownsRow W1.heap.size 33 2 v7 (insTo v.writes s j).length ((insTo v.writes s j).flatMap wrC)) ∧ Hid (Below (w.heap.size + 3) W1 wr)) (fun _ _ i _ => k - (intOf i).toNat)
      case atStart => exact ⟨0, Nat.zero_le _, rfl, by simp, Lib.hid (by rw [insTo_zero]; exact ⟨rfl, .inl ⟨rfl, rfl⟩⟩), Lib.hid (Below.refl _ _)⟩
      case round =>
        obtain ⟨j, hj, rfl, rfl, HO, HB⟩ := hrel
        have q1 := (C0.out.below HB.out (by omega)).c1
        by_cases hlt : j < k
        · have hy : v.writes[j]? = some (v.writes[j]'(by rw [E1.out]; exact hlt)) := List.getElem?_eq_getElem _
          generalize v.writes[j]'(by rw [E1.out]; exact hlt) = y at hy
          obtain ⟨b, off, hA, hbl, y0, y1⟩ := (show Sees wr w.heap.size A2 (v.writes.flatMap wrC) from HLW.out.s2.below (HB.out.mono (by omega))).at2 hy
          have HY := Lib.hid hy
          have rr0 := (C1.out.below HB.out (by omega)).c0
          have rr1 := (C1.out.below HB.out (by omega)).c1
          have hle := insTo_le v.writes s j (by rw [E1.out]; omega)
          subst hA
          clear hy
          by_cases hmj : m < j
          · have HN := Lib.hid (insTo_done (by rw [← HM.out]; exact hmj) HY.out)
            rw [decide_eq_true hmj]
            have HD9 := Lib.hid (show decide (m < j + 1) = true from decide_eq_true (by omega))
            generalize insTo v.writes s j = L at HO HN hle
            by_cases hgt : s.loc < y.loc
            · go_wp2
              go_quiet (fail)
              have HO2 := Lib.hid (own_below HO.out (below_drewN (Below.refl wr.heap.size wr) nq))
              have HB2 := Lib.hid (below_drewN HB.out nq)
              have y2 : (wr.drewN nq).cell? ⟨b, off + j * 2, none⟩ = some (.int .i64 y.loc) := y0
              have y3 : (wr.drewN nq).cell? ⟨b, off + j * 2 + 1, none⟩ = some (.int .i64 y.val) := y1
              clear q1 y0 y1 HO HB rr0 rr1
              generalize wr.drewN nq = W2 at *
              have q1 := (C0.out.below HB2.out (by omega)).c1
              have r0 := (C1.out.below HB2.out (by omega)).c0
              have r1 := (C1.out.below HB2.out (by omega)).c1
              go_wp2_with (at_builtin; refine wpList_push rfl (.tmp 61) (.tmp 67) 24 rfl W1.heap.size 33 i0 (.agg #[.int .i64 0, .int .i64 0]) 2 16 Try.underlying24 HI.out HZ0.out HZ1.out HZ2.out rfl (by decide) HO2.out (us := #[.int .i64 y.loc, .int .i64 y.val]) (m := 1) rfl rfl (by rfl) (by rfl) (by unfold maxLen; omega) (by omega) (by have := HB2.out.size; omega) ?_)
              intro v9 w9 o9 b9
              have O9 : Hid (w9.ownsRow W1.heap.size 33 2 v9 (insTo v.writes s (j + 1)).length ((insTo v.writes s (j + 1)).flatMap wrC)) := Lib.hid (own_cast o9 (by rw [HN.out]; simp) (by rw [HN.out]; simp [wrC]))
              have B9 := Lib.hid (HB2.out.trans (b9.mono HSN.out))
              clear o9 b9
              go_wp2
              go_roundw
              case rel => exact ⟨j + 1, by omega, by go_num, by rw [HD9.out], O9, B9⟩
              case measure => simp [intOf]; omega
            · go_wp2
              have hgt1 : ¬ (s.loc < y.loc) := by omega
              have hgt2 : decide (s.loc < y.loc) = false := decide_eq_false hgt1
              go_quiet (fail)
              have HO2 := Lib.hid (own_below HO.out (below_drewN (Below.refl wr.heap.size wr) nq))
              have HB2 := Lib.hid (below_drewN HB.out nq)
              have y2 : (wr.drewN nq).cell? ⟨b, off + j * 2, none⟩ = some (.int .i64 y.loc) := y0
              have y3 : (wr.drewN nq).cell? ⟨b, off + j * 2 + 1, none⟩ = some (.int .i64 y.val) := y1
              clear q1 y0 y1 HO HB rr0 rr1
              generalize wr.drewN nq = W2 at *
              have q1 := (C0.out.below HB2.out (by omega)).c1
              have r0 := (C1.out.below HB2.out (by omega)).c0
              have r1 := (C1.out.below HB2.out (by omega)).c1
              go_wp2_with (at_builtin; refine wpList_push rfl (.tmp 61) (.tmp 67) 24 rfl W1.heap.size 33 i0 (.agg #[.int .i64 0, .int .i64 0]) 2 16 Try.underlying24 HI.out HZ0.out HZ1.out HZ2.out rfl (by decide) HO2.out (us := #[.int .i64 y.loc, .int .i64 y.val]) (m := 1) rfl rfl (by rfl) (by rfl) (by unfold maxLen; omega) (by omega) (by have := HB2.out.size; omega) ?_)
              intro v9 w9 o9 b9
              have O9 : Hid (w9.ownsRow W1.heap.size 33 2 v9 (insTo v.writes s (j + 1)).length ((insTo v.writes s (j + 1)).flatMap wrC)) := Lib.hid (own_cast o9 (by rw [HN.out]; simp) (by rw [HN.out]; simp [wrC]))
              have B9 := Lib.hid (HB2.out.trans (b9.mono HSN.out))
              clear o9 b9
              go_wp2
              go_roundw
              case rel => exact ⟨j + 1, by omega, by go_num, by rw [HD9.out], O9, B9⟩
              case measure => simp [intOf]; omega
          · have hmore := more_at (by rw [← HM.out]; exact hmj) HY.out
            rw [← HM.out] at hmore
            rw [decide_eq_false hmj]
            by_cases hgt : s.loc < y.loc
            · have hmj2 := hmore.1 hgt
              have HN := Lib.hid (insTo_at (by rw [← HM.out]; exact hmj2) HY.out)
              have HD9 := Lib.hid (show decide (m < j + 1) = true from decide_eq_true (by omega))
              generalize insTo v.writes s j = L at HO HN hle
              clear hmore hmj2 hmj
              go_wp2
              go_quiet (fail)
              have HO2 := Lib.hid (own_below HO.out (below_drewN (Below.refl wr.heap.size wr) nq))
              have HB2 := Lib.hid (below_drewN HB.out nq)
              have y2 : (wr.drewN nq).cell? ⟨b, off + j * 2, none⟩ = some (.int .i64 y.loc) := y0
              have y3 : (wr.drewN nq).cell? ⟨b, off + j * 2 + 1, none⟩ = some (.int .i64 y.val) := y1
              clear q1 y0 y1 HO HB rr0 rr1
              generalize wr.drewN nq = W2 at *
              have q1 := (C0.out.below HB2.out (by omega)).c1
              have r0 := (C1.out.below HB2.out (by omega)).c0
              have r1 := (C1.out.below HB2.out (by omega)).c1
              go_wp2_with (at_builtin; refine wpList_push rfl (.tmp 57) (.tmp 59) 24 rfl W1.heap.size 33 i0 (.agg #[.int .i64 0, .int .i64 0]) 2 16 Try.underlying24 HI.out HZ0.out HZ1.out HZ2.out rfl (by decide) HO2.out (us := #[.int .i64 s.loc, .int .i64 s.val]) (m := 1) rfl rfl (by rfl) (by rfl) (by unfold maxLen; omega) (by omega) (by have := HB2.out.size; omega) ?_)
              intro v8 w8 o8 b8
              have HB8 := Lib.hid (HB2.out.trans (b8.mono HSN.out))
              have HO8 := Lib.hid o8
              have q2 := (C0.out.below HB8.out (by omega)).c1
              have y4 := (b8.cell (p := ⟨b, off + j * 2, none⟩) (by have := HSN.out; show b < W1.heap.size; omega)).trans y2
              have y5 := (b8.cell (p := ⟨b, off + j * 2 + 1, none⟩) (by have := HSN.out; show b < W1.heap.size; omega)).trans y3
              clear o8 b8 y2 y3 q1 HO2 HB2 r0 r1
              go_wp2_with (at_builtin; refine wpList_push rfl (.tmp 61) (.tmp 67) 24 rfl W1.heap.size 33 i0 (.agg #[.int .i64 0, .int .i64 0]) 2 16 Try.underlying24 HI.out HZ0.out HZ1.out HZ2.out rfl (by decide) HO8.out (us := #[.int .i64 y.loc, .int .i64 y.val]) (m := 1) rfl rfl (by rfl) (by rfl) (by unfold maxLen; omega) (by omega) (by have := HB8.out.size; omega) ?_)
              intro v9 w9 o9 b9
              have O9 : Hid (w9.ownsRow W1.heap.size 33 2 v9 (insTo v.writes s (j + 1)).length ((insTo v.writes s (j + 1)).flatMap wrC)) := Lib.hid (own_cast o9 (by rw [HN.out]; simp) (by rw [HN.out]; simp [wrC]))
              have B9 := Lib.hid (HB8.out.trans (b9.mono HSN.out))
              clear o9 b9
              go_wp2
              go_roundw
              case rel => exact ⟨j + 1, by omega, by go_num, by rw [HD9.out], O9, B9⟩
              case measure => simp [intOf]; omega
            · have hmj2 : j < m := by
                rcases Nat.lt_or_ge j m with h | h
                · exact h
                · exact absurd (hmore.2 (by omega)) hgt
              have HN := Lib.hid (insTo_not (by rw [← HM.out]; exact hmj2) HY.out)
              have HD9 := Lib.hid (show decide (m < j + 1) = false from decide_eq_false (by omega))
              generalize insTo v.writes s j = L at HO HN hle
              clear hmore hmj2 hmj
              go_wp2
              have hgt1 : ¬ (s.loc < y.loc) := by omega
              have hgt2 : decide (s.loc < y.loc) = false := decide_eq_false hgt1
              go_quiet (fail)
              have HO2 := Lib.hid (own_below HO.out (below_drewN (Below.refl wr.heap.size wr) nq))
              have HB2 := Lib.hid (below_drewN HB.out nq)
              have y2 : (wr.drewN nq).cell? ⟨b, off + j * 2, none⟩ = some (.int .i64 y.loc) := y0
              have y3 : (wr.drewN nq).cell? ⟨b, off + j * 2 + 1, none⟩ = some (.int .i64 y.val) := y1
              clear q1 y0 y1 HO HB rr0 rr1
              generalize wr.drewN nq = W2 at *
              have q1 := (C0.out.below HB2.out (by omega)).c1
              have r0 := (C1.out.below HB2.out (by omega)).c0
              have r1 := (C1.out.below HB2.out (by omega)).c1
              go_wp2_with (at_builtin; refine wpList_push rfl (.tmp 61) (.tmp 67) 24 rfl W1.heap.size 33 i0 (.agg #[.int .i64 0, .int .i64 0]) 2 16 Try.underlying24 HI.out HZ0.out HZ1.out HZ2.out rfl (by decide) HO2.out (us := #[.int .i64 y.loc, .int .i64 y.val]) (m := 1) rfl rfl (by rfl) (by rfl) (by unfold maxLen; omega) (by omega) (by have := HB2.out.size; omega) ?_)
              intro v9 w9 o9 b9
              have O9 : Hid (w9.ownsRow W1.heap.size 33 2 v9 (insTo v.writes s (j + 1)).length ((insTo v.writes s (j + 1)).flatMap wrC)) := Lib.hid (own_cast o9 (by rw [HN.out]; simp) (by rw [HN.out]; simp [wrC]))
              have B9 := Lib.hid (HB2.out.trans (b9.mono HSN.out))
              clear o9 b9
              go_wp2
              go_roundw
              case rel => exact ⟨j + 1, by omega, by go_num, by rw [HD9.out], O9, B9⟩
              case measure => simp [intOf]; omega
        · have hjk : j = k := by omega
          subst hjk
          by_cases hmj : m < j
          · have ho2 := HO.out
            rw [← E1.out, insTo_all (by rw [E1.out, ← HM.out]; exact hmj)] at ho2
            have HO2 := Lib.hid ho2
            clear ho2
            rw [decide_eq_true hmj]
            clear HO hmj hlt q1
            obtain ⟨A5, c5, rfl, hc5, -⟩ := own_form HO2.out
            have F3 := C2.out.below HB.out (by omega)
            have E3 := C0.out.below HB.out (by omega)
            have u0 := E3.c0
            have u1 := E3.c1
            have u2 := E3.c2
            have u3 := E3.f1
            have u4 := F3.c0
            have u5 := F3.c1
            have u6 := F3.c2
            have u7 := F3.f0
            have u8 := F3.f1
            have u9 := F3.f2
            have HOW := Lib.hid (fun (g' : Nat) (hg' : g' < w.heap.size) => SeesX.of_own (own_put (ownsRow_setCell_below HO2.out (a := ⟨w.heap.size, 1, none⟩) (show w.heap.size < W1.heap.size by rw [HSW.out]; omega) (.slice A5 (insAt v.writes (moreW v.writes s.loc) s).length c5)) (show w.heap.size + 1 + 1 < W1.heap.size by rw [HSW.out]; omega) 0 ⟨A1, n1, c1, A5, (insAt v.writes (moreW v.writes s.loc) s).length, c5, A3, n3, c3⟩) (show g' < W1.heap.size by rw [HSW.out]; omega))
            have hT := writes_end (ws := insAt v.writes (moreW v.writes s.loc) s) HLW.out HBW.out HSW.out HB.out HO2.out rfl hc5 C0.out C2.out
            have HT := Lib.hid (ret_lv hT.2.2.1 (show w.heap.size ≤ w.heap.size + 1 + 1 by omega) hT.2.2.2 hT.2.1)
            clear hT E3 F3 hc5 hm1
            repeat (first | go_values | go_skip | go_guarded | go_step | go_upon | go_in)
            exact bodyPost_ret (res49 rfl HT.out.1) rfl ⟨⟨A1, n1, c1, A5, _, c5, A3, n3, c3⟩, rfl, by rw [HR.out]; exact HT.out.2.1, HT.out.2.2, fun g hg hx => by
          rw [HR.out]
          have ha := hx.aside (Aside.of_below HT.out.2.2)
          exact ⟨HT.out.2.1.e1, HT.out.2.1.e2, HT.out.2.1.e3, HT.out.2.1.m1, HT.out.2.1.m2, HT.out.2.1.m3, ha.s1, HOW.out g hg, ha.s3⟩⟩
          · have hle := insTo_le v.writes s j (by rw [E1.out]; omega)
            have HE := Lib.hid (insTo_none (ws := v.writes) (x := s) (by rw [E1.out, ← HM.out]; exact hmj))
            rw [E1.out] at HE
            rw [decide_eq_false hmj]
            have r0 := (C1.out.below HB.out (by omega)).c0
            have r1 := (C1.out.below HB.out (by omega)).c1
            generalize insTo v.writes s j = L at HO HE hle
            clear hmj hlt
            go_wp2_with (at_builtin; refine wpList_push rfl (.tmp 71) (.tmp 73) 24 rfl W1.heap.size 33 i0 (.agg #[.int .i64 0, .int .i64 0]) 2 16 Try.underlying24 HI.out HZ0.out HZ1.out HZ2.out rfl (by decide) HO.out (us := #[.int .i64 s.loc, .int .i64 s.val]) (m := 1) rfl rfl (by rfl) (by rfl) (by unfold maxLen; omega) (by omega) (by have := HB.out.size; omega) ?_)
            intro v8 w8 o8 b8
            have HO2 : Hid (w8.ownsRow W1.heap.size 33 2 v8 (insAt v.writes (moreW v.writes s.loc) s).length ((insAt v.writes (moreW v.writes s.loc) s).flatMap wrC)) := Lib.hid (own_cast o8 (by rw [← HE.out]; simp) (by rw [← HE.out]; simp [wrC]))
            have HB8 := Lib.hid (HB.out.trans (b8.mono HSN.out))
            clear o8 b8 q1 r0 r1 HO HB
            obtain ⟨A5, c5, rfl, hc5, -⟩ := own_form HO2.out
            have F3 := C2.out.below HB8.out (by omega)
            have E3 := C0.out.below HB8.out (by omega)
            have u0 := E3.c0
            have u1 := E3.c1
            have u2 := E3.c2
            have u3 := E3.f1
            have u4 := F3.c0
            have u5 := F3.c1
            have u6 := F3.c2
            have u7 := F3.f0
            have u8 := F3.f1
            have u9 := F3.f2
            have HOW := Lib.hid (fun (g' : Nat) (hg' : g' < w.heap.size) => SeesX.of_own (own_put (ownsRow_setCell_below HO2.out (a := ⟨w.heap.size, 1, none⟩) (show w.heap.size < W1.heap.size by rw [HSW.out]; omega) (.slice A5 (insAt v.writes (moreW v.writes s.loc) s).length c5)) (show w.heap.size + 1 + 1 < W1.heap.size by rw [HSW.out]; omega) 0 ⟨A1, n1, c1, A5, (insAt v.writes (moreW v.writes s.loc) s).length, c5, A3, n3, c3⟩) (show g' < W1.heap.size by rw [HSW.out]; omega))
            have hT := writes_end (ws := insAt v.writes (moreW v.writes s.loc) s) HLW.out HBW.out HSW.out HB8.out HO2.out rfl hc5 C0.out C2.out
            have HT := Lib.hid (ret_lv hT.2.2.1 (show w.heap.size ≤ w.heap.size + 1 + 1 by omega) hT.2.2.2 hT.2.1)
            clear hT E3 F3 hc5 hm1
            repeat (first | go_values | go_skip | go_guarded | go_step | go_upon | go_in)
            exact bodyPost_ret (res49 rfl HT.out.1) rfl ⟨⟨A1, n1, c1, A5, _, c5, A3, n3, c3⟩, rfl, by rw [HR.out]; exact HT.out.2.1, HT.out.2.2, fun g hg hx => by
          rw [HR.out]
          have ha := hx.aside (Aside.of_below HT.out.2.2)
          exact ⟨HT.out.2.1.e1, HT.out.2.1.e2, HT.out.2.1.e3, HT.out.2.1.m1, HT.out.2.1.m2, HT.out.2.1.m3, ha.s1, HOW.out g hg, ha.s3⟩⟩
theorem rputs_any (l : LC) (v : Lv) (s : Wr) (w : World) (h : Lev w w.heap.size l v) (hm : v.writes.length ≤ 80000) :
    Calls Try.prog 49 #[.agg #[.slice l.A1 l.n1 l.c1, .slice l.A2 l.n2 l.c2, .slice l.A3 l.n3 l.c3], .agg #[.int .i64 s.loc, .int .i64 s.val]] w (RetLv (addW s v) w) := (rputsX_any l v s w h hm).mono fun _ _ h => h.plain
end Go.Proofs.Ytiomfncbhbokpaa
