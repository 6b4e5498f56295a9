/- The reference's reads: a level with one more read. -/
import Derived.Test.YtiomfncbhbokpaaRWith
namespace Go.Proofs.Ytiomfncbhbokpaa
open Go.RowKit
set_option linter.unusedVariables false

/-- 'append' as a step of a drawn region, the blocks that it leaves told. -/
theorem step_app2 {P : Program} {w : World} {ops : Array Oper} {o : Oper} {a : Act} {K : Act → World → Prop} {Q : Exit → Act → World → Prop} {E : Prop} (hgd : o.guard = none) (s x : Operand) (t : TypeId)
    (ho : o.op = .call { callee := .builtin .append, args := #[s, x], argTypes := #[t, t] })
    (base : Nat) (e : TypeId) (i : TypeInfo) (z : Value) (size bytes : Nat) (ht : P.underlying t = some (.slice e)) (hi : P.info? e = some i) (hz : i.zero = some z)
    (hsize : i.size = size) (hby : i.bytes = bytes) (hzs : z.cells.size = size) (hsz : 0 < size)
    {v : Value} {n : Nat} {xs : List Value} (hown : w.ownsRow base e size v n xs) {B : Nat} {A : Option Addr} {m c : Nat} {ys : List Value} (hr : Sees w B A ys) (hl : ys.length = m * size) (h1 : ∀ u ∈ ys, u.oneCell' = true)
    (hs : a.eval s = v) (hx : a.eval x = .slice A m c)
    (h63 : n + m ≤ maxLen) (hbytes : (n + m) * bytes ≤ 140737488355328) (hbase : base ≤ w.heap.size)
    (h : ∀ v' w', w'.ownsRow base e size v' (n + m) (xs ++ ys) → Below base w w' → (∀ k, k < w.heap.size → v.ownBlock ≠ some k → w'.heap[k]? = w.heap[k]?) → K (a.put o.dst v') w') :
    if Region.wanted o (yielded ops a.tmps) = true then Oper.wp P o a w K Q else E := by
  have hw : Region.wanted o (yielded ops a.tmps) = true := by simp [Region.wanted, hgd]
  rw [if_pos hw]
  rcases A with _ | ad
  · obtain rfl : ys = [] := by
      rcases hr with rfl | ⟨b, off, hA, _⟩
      · rfl
      · cases hA
    have hm : m = 0 := by
      rcases Nat.eq_zero_or_pos m with h0 | h0
      · exact h0
      · have := Nat.mul_pos h0 hsz
        simp at hl
        omega
    subst hm
    have hrun := run_app_nil (P := P) w base t o.type e i size ht hi v n xs hown c
    unfold Oper.wp
    simp [execOp, ho, resolve, invoke, builtin, hs, hx, hrun, Result.andThen]
    exact h v w (by simpa using hown) (Below.refl _ _) (fun _ _ _ => rfl)
  · refine wp_append_own w s x t ho base e i z size bytes ht hi hz hsize hby hzs hsz v n xs hs hown ad m c ys hx hl (sees_add hr ad rfl) h1 h63 hbytes hbase ?_
    intro v' w' h2 h3 _
    exact h v' w' h2 ((Below.refl _ _).grown h3 hbase fun k hk => (hown.lt k hk).1) (fun k hk hne => h3.block k hk (fun e => hne e.symm))
/-- What a reference function hands back that turns a level. -/
def RetLv (v : Lv) (w : World) (e : Ending) (w' : World) : Prop :=
  ∃ l : LC, e = .returned (.agg #[.slice l.A1 l.n1 l.c1, .slice l.A2 l.n2 l.c2, .slice l.A3 l.n3 l.c3]) ∧ Lev w' w'.heap.size l v ∧ Below w.heap.size w w'
/-- The same, and no row of the level is moved into a block that it was not in. -/
def RetLvX (l0 : LC) (v0 v : Lv) (w : World) (e : Ending) (w' : World) : Prop :=
  ∃ l : LC, e = .returned (.agg #[.slice l.A1 l.n1 l.c1, .slice l.A2 l.n2 l.c2, .slice l.A3 l.n3 l.c3]) ∧ Lev w' w'.heap.size l v ∧ Below w.heap.size w w' ∧ ∀ g, g < w.heap.size → LevX w g l0 v0 → LevX w' g l v
theorem RetLvX.plain {l0 : LC} {v0 v : Lv} {w w' : World} {e : Ending} (h : RetLvX l0 v0 v w e w') : RetLv v w e w' := by
  obtain ⟨l, h1, h2, h3, _⟩ := h
  exact ⟨l, h1, h2, h3⟩
/-- A box of three cells that can be written. -/
structure Box3 (w : World) (b : Nat) (x y z : Value) : Prop where
  c0 : w.cell? ⟨b, 0, none⟩ = some x
  c1 : w.cell? ⟨b, 1, none⟩ = some y
  c2 : w.cell? ⟨b, 2, none⟩ = some z
  f0 : w.frozen? ⟨b, 0, none⟩ = false
  f1 : w.frozen? ⟨b, 1, none⟩ = false
  f2 : w.frozen? ⟨b, 2, none⟩ = false
theorem Box3.new (w : World) (x y z : Value) (t : TypeId) : Box3 (w.alloc (.cells #[x, y, z] t)) w.heap.size x y z :=
  ⟨by rw [World.cell?_alloc_at _ _ _ _ rfl]; rfl, by rw [World.cell?_alloc_at _ _ _ _ rfl]; rfl, by rw [World.cell?_alloc_at _ _ _ _ rfl]; rfl, World.frozen?_alloc_at _ _ _ _ rfl, World.frozen?_alloc_at _ _ _ _ rfl, World.frozen?_alloc_at _ _ _ _ rfl⟩
theorem Box3.block {w w' : World} {b : Nat} {x y z : Value} (h : Box3 w b x y z) (e : w'.heap[b]? = w.heap[b]?) : Box3 w' b x y z :=
  ⟨(World.cell?_of_block (a := ⟨b, 0, none⟩) e).trans h.c0, (World.cell?_of_block (a := ⟨b, 1, none⟩) e).trans h.c1, (World.cell?_of_block (a := ⟨b, 2, none⟩) e).trans h.c2,
    (World.frozen?_of_block (a := ⟨b, 0, none⟩) e).trans h.f0, (World.frozen?_of_block (a := ⟨b, 1, none⟩) e).trans h.f1, (World.frozen?_of_block (a := ⟨b, 2, none⟩) e).trans h.f2⟩
theorem Box3.below {w w' : World} {b n : Nat} {x y z : Value} (h : Box3 w b x y z) (hb : Below n w w') (hlt : b < n) : Box3 w' b x y z := h.block (hb.block b hlt)

/-- A level laid into a box above, as a result's variable: what a function hands back that reads it there. -/
theorem ret_lv {w W : World} {b : Nat} {l : LC} {v : Lv} {x y z : Value} (h : LevX W b l v) (hB : w.heap.size ≤ b) (hw : Below w.heap.size w W) (hb : Box3 W b x y z) :
    Box3 (putLev W b 0 l) b (.slice l.A1 l.n1 l.c1) (.slice l.A2 l.n2 l.c2) (.slice l.A3 l.n3 l.c3) ∧ Lev (putLev W b 0 l) (putLev W b 0 l).heap.size l v ∧ Below w.heap.size w (putLev W b 0 l) := by
  have h2 := putLev_below (g := b) (o := 0) hw hB l
  refine ⟨?_, (h.aside (aside_put (l := l) (o := 0) (Below.refl _ _))).lev, h2⟩
  unfold putLev
  refine ⟨?_, ?_, ?_, ?_, ?_, ?_⟩
  · rw [cell_set_off _ _ _ _ _ (by omega), cell_set_off _ _ _ _ _ (by omega)]
    exact World.cell?_setCell_same (h := hb.c0) ..
  · rw [cell_set_off _ _ _ _ _ (by omega)]
    exact World.cell?_setCell_same (h := (cell_set_off _ _ _ _ _ (by omega)).trans hb.c1) ..
  · exact World.cell?_setCell_same (h := (cell_set_off _ _ _ _ _ (by omega)).trans ((cell_set_off _ _ _ _ _ (by omega)).trans hb.c2)) ..
  · simp only [World.frozen?_setCell]; exact hb.f0
  · simp only [World.frozen?_setCell]; exact hb.f1
  · simp only [World.frozen?_setCell]; exact hb.f2
theorem Sees.block {w w' : World} {B : Nat} {b : Nat} {xs : List Value} (h : Sees w B (some ⟨b, 0, none⟩) xs) (e : w'.heap[b]? = w.heap[b]?) (hB : b < B) : Sees w' B (some ⟨b, 0, none⟩) xs := by
  rcases h with h | ⟨b', off, hA, hb, hc⟩
  · exact .inl h
  · cases hA
    exact .inr ⟨b, 0, rfl, hB, fun j u hu => (World.cell?_of_block (a := ⟨b, 0 + j, none⟩) e).trans (hc j u hu)⟩
theorem sees_second (w : World) (o : Obj) (xs : List Value) (t : TypeId) : Sees ((w.alloc o).alloc (.cells xs.toArray t)) (w.heap.size + 2) (some ⟨w.heap.size + 1, 0, none⟩) xs := by
  have h := Sees.new (w.alloc o) xs t
  rw [World.size_alloc] at h
  exact h
theorem res48 {W : World} {tmps : Array Value} {b : Nat} {x y z : Value} (h : tmps[4]? = some (.pointer (some ⟨b, 0, none⟩))) (hb : Box3 W b x y z) : (results Try.f48 tmps).run Try.prog W = .ok (.agg #[x, y, z]) W := by
  have c0 := hb.c0
  have c1 := hb.c1
  have c2 := hb.c2
  simp [results, Try.f48, go_sem, c0, c1, c2, h]
theorem box_drew {w : World} {b : Nat} {x y z : Value} (h : Box3 w b x y z) : Box3 w.drew b x y z := ⟨h.c0, h.c1, h.c2, h.f0, h.f1, h.f2⟩
theorem Box3.set {w : World} {b : Nat} {x y z : Value} (h : Box3 w b x y z) (u : Value) : Box3 (w.setCell ⟨b, 0, none⟩ u) b u y z :=
  ⟨World.cell?_setCell_same (h := h.c0) .., (cell_set_off _ _ _ _ _ (by omega)).trans h.c1, (cell_set_off _ _ _ _ _ (by omega)).trans h.c2, by rw [World.frozen?_setCell]; exact h.f0, by rw [World.frozen?_setCell]; exact h.f1, by rw [World.frozen?_setCell]; exact h.f2⟩
theorem Box3.other {w : World} {b g o : Nat} {x y z : Value} (h : Box3 w b x y z) (hne : b ≠ g) (u : Value) : Box3 (w.setCell ⟨g, o, none⟩ u) b x y z :=
  h.block (Below.heap_setCell _ _ _ _ hne)
/-- What stands behind the region that adds a read, ahead of the return. -/
theorem reads_end {w wr w5 : World} {A1 A2 A3 A5 : Option Addr} {n1 c1 n2 c2 n3 c3 m c5 : Nat} {v : Lv} {rs : List Seen} {x y z : Value} (hl : Lev wr w.heap.size ⟨A1, n1, c1, A2, n2, c2, A3, n3, c3⟩ v) (hB : Below w.heap.size w wr) (hsz : wr.heap.size = w.heap.size + 3) (h5 : Below (w.heap.size + 3) wr w5)
    (o5 : w5.ownsRow wr.heap.size 30 3 (.slice A5 m c5) m (rs.flatMap seenC)) (hm : rs.length = m) (hc : m ≤ c5) (hb0 : Box3 wr w.heap.size (.slice A1 n1 c1) (.slice A2 n2 c2) (.slice A3 n3 c3)) (hb : Box3 wr (w.heap.size + 1 + 1) x y z) :
    Box3 (w5.setCell ⟨w.heap.size, 0, none⟩ (.slice A5 m c5)) w.heap.size (.slice A5 m c5) (.slice A2 n2 c2) (.slice A3 n3 c3) ∧ Box3 (w5.setCell ⟨w.heap.size, 0, none⟩ (.slice A5 m c5)) (w.heap.size + 1 + 1) x y z ∧
      LevX (w5.setCell ⟨w.heap.size, 0, none⟩ (.slice A5 m c5)) (w.heap.size + 1 + 1) ⟨A5, m, c5, A2, n2, c2, A3, n3, c3⟩ { v with reads := rs } ∧ Below w.heap.size w (w5.setCell ⟨w.heap.size, 0, none⟩ (.slice A5 m c5)) := by
  have hW : Below w.heap.size wr (w5.setCell ⟨w.heap.size, 0, none⟩ (.slice A5 m c5)) := (show Below w.heap.size wr w5 from h5.mono (by omega)).setCell (p := ⟨w.heap.size, 0, none⟩) (Nat.le_refl _) _
  have hle : w.heap.size ≤ (w5.setCell ⟨w.heap.size, 0, none⟩ (.slice A5 m c5)).heap.size := by rw [setCell_size]; have := h5.size; omega
  exact ⟨(hb0.below h5 (by omega)).set _, (hb.below h5 (by omega)).other (by omega) _,
    ⟨hm, hl.e2, hl.e3, hc, hl.m2, hl.m3, .of_own (ownsRow_setCell_below o5 (show w.heap.size < wr.heap.size by omega) _) (show w.heap.size + 1 + 1 < wr.heap.size by omega), .of (hl.s2.below hW) hle (by omega), .of (hl.s3.below hW) hle (by omega)⟩, hB.trans hW⟩
theorem own_put {w : World} {base : Nat} {e : TypeId} {size n : Nat} {v : Value} {xs : List Value} (h : w.ownsRow base e size v n xs) {b : Nat} (hb : b < base) (o : Nat) (l : LC) : (putLev w b o l).ownsRow base e size v n xs :=
  ownsRow_setCell_below (ownsRow_setCell_below (ownsRow_setCell_below h hb _) hb _) hb _
set_option maxRecDepth 100000 in
set_option maxHeartbeats 2000000 in
theorem rreadsX_any (l : LC) (v : Lv) (s : Seen) (w : World) (h : Lev w w.heap.size l v) (hm : v.reads.length ≤ 80000) :
    Calls Try.prog 48 #[.agg #[.slice l.A1 l.n1 l.c1, .slice l.A2 l.n2 l.c2, .slice l.A3 l.n3 l.c3], .agg #[.int .i64 s.loc, .int .i64 s.ver, .int .i64 s.val]] w (RetLvX l v (addR s v) w) := by
  obtain ⟨i0, hi, hz0, hz1, hz2⟩ := info_parts Try.info30
  have HI := Lib.hid hi
  have HZ0 := Lib.hid hz0
  have HZ1 := Lib.hid hz1
  have HZ2 := Lib.hid hz2
  obtain ⟨A1, n1, c1, A2, n2, c2, A3, n3, c3⟩ := l
  dsimp only
  have HL := Lib.hid h
  have E1 := Lib.hid (show v.reads.length = n1 from h.e1)
  have hm1 : n1 ≤ 80000 := by rw [← E1.out]; exact hm
  have b0 := ((Box3.new w (.slice A1 n1 c1) (.slice A2 n2 c2) (.slice A3 n3 c3) 62).below ((Below.refl (w.heap.size + 1) _).alloc (by simp) (.cells #[.int .i64 s.loc, .int .i64 s.ver, .int .i64 s.val] 30)) (by omega)).below ((Below.refl (w.heap.size + 1) _).alloc (by simp) (.cells #[.slice none 0 0, .slice none 0 0, .slice none 0 0] 62)) (by omega)
  have b1 := (Box3.new (w.alloc (.cells #[.slice A1 n1 c1, .slice A2 n2 c2, .slice A3 n3 c3] 62)) (.int .i64 s.loc) (.int .i64 s.ver) (.int .i64 s.val) 30).below ((Below.refl (w.heap.size + 2) _).alloc (by simp) (.cells #[.slice none 0 0, .slice none 0 0, .slice none 0 0] 62)) (by simp)
  have b2 := Box3.new ((w.alloc (.cells #[.slice A1 n1 c1, .slice A2 n2 c2, .slice A3 n3 c3] 62)).alloc (.cells #[.int .i64 s.loc, .int .i64 s.ver, .int .i64 s.val] 30)) (.slice none 0 0) (.slice none 0 0) (.slice none 0 0) 62
  have hal : Below w.heap.size w (((w.alloc (.cells #[.slice A1 n1 c1, .slice A2 n2 c2, .slice A3 n3 c3] 62)).alloc (.cells #[.int .i64 s.loc, .int .i64 s.ver, .int .i64 s.val] 30)).alloc (.cells #[.slice none 0 0, .slice none 0 0, .slice none 0 0] 62)) := (((Below.refl _ _).alloc (Nat.le_refl _) _).alloc (by simp) _).alloc (by simp <;> omega) _
  simp only [World.size_alloc] at b1 b2
  have B0 := Lib.hid b0
  have B1 := Lib.hid b1
  have B2 := Lib.hid b2
  have HAL := Lib.hid hal
  have hsz : (((w.alloc (.cells #[.slice A1 n1 c1, .slice A2 n2 c2, .slice A3 n3 c3] 62)).alloc (.cells #[.int .i64 s.loc, .int .i64 s.ver, .int .i64 s.val] 30)).alloc (.cells #[.slice none 0 0, .slice none 0 0, .slice none 0 0] 62)).heap.size = w.heap.size + 3 := by simp
  have HSZ := Lib.hid hsz
  clear h hm hi hz0 hz1 hz2 b0 b1 b2 hal hsz
  go_enter Try.func48, Try.ntmps48
  go_wp2
  generalize ((w.alloc (.cells #[.slice A1 n1 c1, .slice A2 n2 c2, .slice A3 n3 c3] 62)).alloc (.cells #[.int .i64 s.loc, .int .i64 s.ver, .int .i64 s.val] 30)).alloc (.cells #[.slice none 0 0, .slice none 0 0, .slice none 0 0] 62) = w0 at *
  go_loopw [5] (fun i wr => ∃ k : Nat, k ≤ n1 ∧ i = .int .i64 k ∧ Hid (∃ d, wr = w0.drewN d) ∧ Hid (∀ j x, j < k → v.reads[j]? = some x → (x.loc == s.loc) = false)) (fun i _ => n1 - (intOf i).toNat)
  case atStart => exact ⟨0, Nat.zero_le _, rfl, Lib.hid ⟨0, rfl⟩, Lib.hid (fun j x hj => by omega)⟩
  case round =>
    obtain ⟨k, hk, rfl, HD, HK⟩ := hrel
    have HBD : Hid (Below w0.heap.size w0 wr) := Lib.hid (by
      obtain ⟨d, e⟩ := HD.out
      rw [e]; exact below_drewN (Below.refl _ _) d)
    have HSW : Hid (wr.heap.size = w.heap.size + 3) := Lib.hid (by
      obtain ⟨d, e⟩ := HD.out
      rw [e, ← HSZ.out]; rfl)
    have C0 := Lib.hid (B0.out.below HBD.out (by rw [HSZ.out]; omega))
    have C1 := Lib.hid (B1.out.below HBD.out (by rw [HSZ.out]; omega))
    have C2 := Lib.hid (B2.out.below HBD.out (by rw [HSZ.out]; omega))
    have HLW := Lib.hid (HL.out.below (HAL.out.trans (HBD.out.mono HAL.out.size)))
    have p0 := C0.out.c0
    have p1 := C0.out.c1
    have p2 := C0.out.c2
    have r0 := C1.out.c0
    have r1 := C1.out.c1
    have r2 := C1.out.c2
    by_cases hlt : k < n1
    · have hx : v.reads[k]? = some (v.reads[k]'(by rw [E1.out]; exact hlt)) := List.getElem?_eq_getElem _
      generalize v.reads[k]'(by rw [E1.out]; exact hlt) = x at hx
      obtain ⟨b, off, hA, -, x0, -, -⟩ := HLW.out.s1.at3 hx
      dsimp only at hA
      have HX := Lib.hid hx
      subst hA
      clear hx
      by_cases hp : (x.loc == s.loc) = true
      · have hR : addR s v = v := by
          unfold addR
          rw [readL_hit (has_hit HX.out hp)]
        have q0 := C2.out.c0
        have q1 := C2.out.c1
        have q2 := C2.out.c2
        have g0 := C2.out.f0
        have g1 := C2.out.f1
        have g2 := C2.out.f2
        have hT := ret_lv (b := w.heap.size + 2) (l := ⟨some ⟨b, off, none⟩, n1, c1, A2, n2, c2, A3, n3, c3⟩) (.of HLW.out (by rw [HSW.out]; omega) (by omega)) (show w.heap.size ≤ w.heap.size + 2 by omega) (HAL.out.trans (HBD.out.mono HAL.out.size)) C2.out
        have HT := Lib.hid hT
        rw [hR]
        clear hR hT
        go_wp2
        go_region_law (fail)
        all_goals
          repeat (first | go_values | go_skip | go_guarded | go_step | go_upon | go_in)
          exact bodyPost_ret (res48 rfl (box_drew HT.out.1)) rfl ⟨⟨some ⟨b, off, none⟩, n1, c1, A2, n2, c2, A3, n3, c3⟩, rfl, HT.out.2.1.drewN 1, HT.out.2.2.drew, fun g hg hx => hx.aside (Aside.of_below HT.out.2.2.drew)⟩
      · have hp' : (x.loc == s.loc) = false := by simpa using hp
        have HP := Lib.hid (idx_next (p := fun y : Seen => y.loc == s.loc) HX.out HK.out hp')
        have HD2 : Hid (∃ d, wr.drew = w0.drewN d) := Lib.hid (by
          obtain ⟨d, e⟩ := HD.out
          exact ⟨d + 1, by rw [e]; rfl⟩)
        clear hp
        go_wp2
        go_region_law (fail)
        all_goals
          go_wp2
          go_roundw
          case rel => exact ⟨k + 1, by omega, by go_num, HD2, HP⟩
          case measure => simp [intOf]; omega
    · have hkn : k = n1 := by omega
      have hR : addR s v = { v with reads := v.reads ++ [s] } := by
        unfold addR
        rw [readL_miss (has_none (k := k) (by rw [E1.out]; omega) HK.out)]
      have HR := Lib.hid hR
      have HBW := Lib.hid (HAL.out.trans (HBD.out.mono HAL.out.size))
      have hSn : w.heap.size + 3 ≤ wr.heap.size := by rw [HSW.out]; exact Nat.le_refl _
      have ze0 := (C0.out.below (w' := wr.alloc (.cells #[] 30)) ((Below.refl (w.heap.size + 3) wr).alloc hSn _) (by omega)).c0
      have ze1 := (C1.out.below (w' := wr.alloc (.cells #[] 30)) ((Below.refl (w.heap.size + 3) wr).alloc hSn _) (by omega)).c0
      have ze2 := (C1.out.below (w' := wr.alloc (.cells #[] 30)) ((Below.refl (w.heap.size + 3) wr).alloc hSn _) (by omega)).c1
      have ze3 := (C1.out.below (w' := wr.alloc (.cells #[] 30)) ((Below.refl (w.heap.size + 3) wr).alloc hSn _) (by omega)).c2
      have zf0 := (C0.out.below (w' := wr.alloc (.cells #[.int .i64 s.loc, .int .i64 s.ver, .int .i64 s.val] 30)) ((Below.refl (w.heap.size + 3) wr).alloc hSn _) (by omega)).c0
      have zf1 := (C1.out.below (w' := wr.alloc (.cells #[.int .i64 s.loc, .int .i64 s.ver, .int .i64 s.val] 30)) ((Below.refl (w.heap.size + 3) wr).alloc hSn _) (by omega)).c0
      have zf2 := (C1.out.below (w' := wr.alloc (.cells #[.int .i64 s.loc, .int .i64 s.ver, .int .i64 s.val] 30)) ((Below.refl (w.heap.size + 3) wr).alloc hSn _) (by omega)).c1
      have zf3 := (C1.out.below (w' := wr.alloc (.cells #[.int .i64 s.loc, .int .i64 s.ver, .int .i64 s.val] 30)) ((Below.refl (w.heap.size + 3) wr).alloc hSn _) (by omega)).c2
      have zef0 := (C0.out.below (w' := (wr.alloc (.cells #[] 30)).alloc (.cells #[.int .i64 s.loc, .int .i64 s.ver, .int .i64 s.val] 30)) (((Below.refl (w.heap.size + 3) wr).alloc hSn _).alloc (by simp <;> omega) _) (by omega)).c0
      have zef1 := (C1.out.below (w' := (wr.alloc (.cells #[] 30)).alloc (.cells #[.int .i64 s.loc, .int .i64 s.ver, .int .i64 s.val] 30)) (((Below.refl (w.heap.size + 3) wr).alloc hSn _).alloc (by simp <;> omega) _) (by omega)).c0
      have zef2 := (C1.out.below (w' := (wr.alloc (.cells #[] 30)).alloc (.cells #[.int .i64 s.loc, .int .i64 s.ver, .int .i64 s.val] 30)) (((Below.refl (w.heap.size + 3) wr).alloc hSn _).alloc (by simp <;> omega) _) (by omega)).c1
      have zef3 := (C1.out.below (w' := (wr.alloc (.cells #[] 30)).alloc (.cells #[.int .i64 s.loc, .int .i64 s.ver, .int .i64 s.val] 30)) (((Below.refl (w.heap.size + 3) wr).alloc hSn _).alloc (by simp <;> omega) _) (by omega)).c2
      have zfe0 := (C0.out.below (w' := (wr.alloc (.cells #[.int .i64 s.loc, .int .i64 s.ver, .int .i64 s.val] 30)).alloc (.cells #[] 30)) (((Below.refl (w.heap.size + 3) wr).alloc hSn _).alloc (by simp <;> omega) _) (by omega)).c0
      have zfe1 := (C1.out.below (w' := (wr.alloc (.cells #[.int .i64 s.loc, .int .i64 s.ver, .int .i64 s.val] 30)).alloc (.cells #[] 30)) (((Below.refl (w.heap.size + 3) wr).alloc hSn _).alloc (by simp <;> omega) _) (by omega)).c0
      have zfe2 := (C1.out.below (w' := (wr.alloc (.cells #[.int .i64 s.loc, .int .i64 s.ver, .int .i64 s.val] 30)).alloc (.cells #[] 30)) (((Below.refl (w.heap.size + 3) wr).alloc hSn _).alloc (by simp <;> omega) _) (by omega)).c1
      have zfe3 := (C1.out.below (w' := (wr.alloc (.cells #[.int .i64 s.loc, .int .i64 s.ver, .int .i64 s.val] 30)).alloc (.cells #[] 30)) (((Below.refl (w.heap.size + 3) wr).alloc hSn _).alloc (by simp <;> omega) _) (by omega)).c2
      have HSR := Lib.hid (show Sees wr w.heap.size A1 (v.reads.flatMap seenC) from HLW.out.s1)
      have hfl : Hid ((v.reads.flatMap seenC).length = n1 * 3) := Lib.hid (by rw [flat_length seen_len, E1.out])
      subst hkn
      clear hR hlt
      go_wp2
      go_region_law (first
        | (refine step_app2 rfl (.tmp 23) (.tmp 25) 23 rfl wr.heap.size 30 i0 (.agg #[.int .i64 0, .int .i64 0, .int .i64 0]) 3 24 Try.underlying23 HI.out HZ0.out HZ1.out HZ2.out rfl (by decide) (own_none wr.drew 30 3) ((HSR.out.drewN 1).alloc (by show w.heap.size ≤ wr.heap.size; omega) (.cells #[] 30)) hfl.out (flat_one seen_one _) (by rfl) (by rfl) (by unfold maxLen; omega) (by omega) (by simp) ?_
           intro v3 w3 o3 b3 k3
           obtain ⟨A4, c4, rfl, -, -⟩ := own_form o3
           have B3 : Hid (Below (w.heap.size + 3) wr w3) := Lib.hid (((Below.refl _ wr).drew.alloc hSn _).trans (b3.mono hSn))
           have O3 : Hid (w3.ownsRow wr.heap.size 30 3 (.slice A4 k c4) k (v.reads.flatMap seenC)) := Lib.hid (by have h := o3; rw [Nat.zero_add, List.nil_append] at h; exact h)
           have S3 : True := trivial
           have y0 := (C0.out.below B3.out (by omega)).c0
           have y1 := (C1.out.below B3.out (by omega)).c0
           have y2 := (C1.out.below B3.out (by omega)).c1
           have y3 := (C1.out.below B3.out (by omega)).c2
           clear o3 b3 k3)
        | (refine step_app2 rfl (.tmp 23) (.tmp 25) 23 rfl (wr.heap.size + 1) 30 i0 (.agg #[.int .i64 0, .int .i64 0, .int .i64 0]) 3 24 Try.underlying23 HI.out HZ0.out HZ1.out HZ2.out rfl (by decide) (own_none1 wr.drew (.cells #[.int .i64 s.loc, .int .i64 s.ver, .int .i64 s.val] 30) 30 3) (((HSR.out.drewN 1).alloc (by show w.heap.size ≤ wr.heap.size; omega) (.cells #[.int .i64 s.loc, .int .i64 s.ver, .int .i64 s.val] 30)).alloc (by simp <;> omega) (.cells #[] 30)) hfl.out (flat_one seen_one _) (by rfl) (by rfl) (by unfold maxLen; omega) (by omega) (by simp) ?_
           intro v3 w3 o3 b3 k3
           obtain ⟨A4, c4, rfl, -, -⟩ := own_form o3
           have B3 : Hid (Below (w.heap.size + 3) wr w3) := Lib.hid ((((Below.refl _ wr).drew.alloc hSn _).alloc (by simp <;> omega) _).trans (b3.mono (by omega)))
           have O3 : Hid (w3.ownsRow wr.heap.size 30 3 (.slice A4 k c4) k (v.reads.flatMap seenC)) := Lib.hid (by have h := own_lower o3 (Nat.le_succ _); rw [Nat.zero_add, List.nil_append] at h; exact h)
           have S3 : Hid (Sees w3 (wr.heap.size + 1) (some ⟨wr.heap.size, 0, none⟩) (seenC s)) := Lib.hid (((Sees.new wr.drew (seenC s) 30).below ((Below.refl _ _).alloc (by simp) (.cells #[] 30))).below b3)
           have y0 := (C0.out.below B3.out (by omega)).c0
           have y1 := (C1.out.below B3.out (by omega)).c0
           have y2 := (C1.out.below B3.out (by omega)).c1
           have y3 := (C1.out.below B3.out (by omega)).c2
           clear o3 b3 k3)
        | (refine step_app2 rfl (.tmp 23) (.tmp 25) 23 rfl wr.heap.size 30 i0 (.agg #[.int .i64 0, .int .i64 0, .int .i64 0]) 3 24 Try.underlying23 HI.out HZ0.out HZ1.out HZ2.out rfl (by decide) (own_below (own_none wr.drew 30 3) ((Below.refl _ _).alloc (Nat.le_refl _) (.cells #[.int .i64 s.loc, .int .i64 s.ver, .int .i64 s.val] 30))) (((HSR.out.drewN 1).alloc (by show w.heap.size ≤ wr.heap.size; omega) (.cells #[] 30)).alloc (by simp <;> omega) (.cells #[.int .i64 s.loc, .int .i64 s.ver, .int .i64 s.val] 30)) hfl.out (flat_one seen_one _) (by rfl) (by rfl) (by unfold maxLen; omega) (by omega) (by simp <;> omega) ?_
           intro v3 w3 o3 b3 k3
           obtain ⟨A4, c4, rfl, -, -⟩ := own_form o3
           have B3 : Hid (Below (w.heap.size + 3) wr w3) := Lib.hid ((((Below.refl _ wr).drew.alloc hSn _).alloc (by simp <;> omega) _).trans (b3.mono hSn))
           have O3 : Hid (w3.ownsRow wr.heap.size 30 3 (.slice A4 k c4) k (v.reads.flatMap seenC)) := Lib.hid (by have h := o3; rw [Nat.zero_add, List.nil_append] at h; exact h)
           have S3 : Hid (Sees w3 (wr.heap.size + 2) (some ⟨wr.heap.size + 1, 0, none⟩) (seenC s)) := Lib.hid ((sees_second wr.drew (.cells #[] 30) (seenC s) 30).block (k3 (wr.heap.size + 1) (by simp) (by simp [Value.ownBlock])) (by omega))
           have y0 := (C0.out.below B3.out (by omega)).c0
           have y1 := (C1.out.below B3.out (by omega)).c0
           have y2 := (C1.out.below B3.out (by omega)).c1
           have y3 := (C1.out.below B3.out (by omega)).c2
           clear o3 b3 k3)
        | (refine step_app2 rfl (.tmp 26) (.tmp 28) 23 rfl wr.heap.size 30 i0 (.agg #[.int .i64 0, .int .i64 0, .int .i64 0]) 3 24 Try.underlying23 HI.out HZ0.out HZ1.out HZ2.out rfl (by decide) (own_below O3.out ((Below.refl _ _).alloc (Nat.le_refl _) (.cells #[.int .i64 s.loc, .int .i64 s.ver, .int .i64 s.val] 30))) (Sees.new w3 (seenC s) 30) rfl (seen_one s) (by rfl) (by rfl) (by unfold maxLen; omega) (by omega) (by have := B3.out.size; simp; omega) ?_
           intro v5 w5 o5 b5 k5
           obtain ⟨A5, c5, rfl, hc5, -⟩ := own_form o5
           have HC5 := Lib.hid hc5
           have B5 : Hid (Below (w.heap.size + 3) wr w5) := Lib.hid ((B3.out.alloc (by have := B3.out.size; omega) (.cells #[.int .i64 s.loc, .int .i64 s.ver, .int .i64 s.val] 30)).trans (b5.mono hSn))
           have O5 := Lib.hid o5
           have u0 := (C0.out.below B5.out (by omega)).c0
           have u1 := (C0.out.below B5.out (by omega)).c1
           have u2 := (C0.out.below B5.out (by omega)).c2
           have u3 := (C0.out.below B5.out (by omega)).f0
           have u4 := (C2.out.below B5.out (by omega)).c0
           have u5 := (C2.out.below B5.out (by omega)).c1
           have u6 := (C2.out.below B5.out (by omega)).c2
           have u7 := (C2.out.below B5.out (by omega)).f0
           have u8 := (C2.out.below B5.out (by omega)).f1
           have u9 := (C2.out.below B5.out (by omega)).f2
           clear o5 b5 k5 hc5)
        | (refine step_app2 rfl (.tmp 26) (.tmp 28) 23 rfl wr.heap.size 30 i0 (.agg #[.int .i64 0, .int .i64 0, .int .i64 0]) 3 24 Try.underlying23 HI.out HZ0.out HZ1.out HZ2.out rfl (by decide) O3.out S3.out rfl (seen_one s) (by rfl) (by rfl) (by unfold maxLen; omega) (by omega) B3.out.size ?_
           intro v5 w5 o5 b5 k5
           obtain ⟨A5, c5, rfl, hc5, -⟩ := own_form o5
           have HC5 := Lib.hid hc5
           have B5 : Hid (Below (w.heap.size + 3) wr w5) := Lib.hid (B3.out.trans (b5.mono hSn))
           have O5 := Lib.hid o5
           have u0 := (C0.out.below B5.out (by omega)).c0
           have u1 := (C0.out.below B5.out (by omega)).c1
           have u2 := (C0.out.below B5.out (by omega)).c2
           have u3 := (C0.out.below B5.out (by omega)).f0
           have u4 := (C2.out.below B5.out (by omega)).c0
           have u5 := (C2.out.below B5.out (by omega)).c1
           have u6 := (C2.out.below B5.out (by omega)).c2
           have u7 := (C2.out.below B5.out (by omega)).f0
           have u8 := (C2.out.below B5.out (by omega)).f1
           have u9 := (C2.out.below B5.out (by omega)).f2
           clear o5 b5 k5 hc5))
      all_goals
        have hT := reads_end (rs := v.reads ++ [s]) HLW.out HBW.out HSW.out B5.out (own_cast O5.out rfl (by simp)) (by rw [List.length_append, E1.out]; rfl) HC5.out C0.out C2.out
        clear ze0 ze1 ze2 ze3 zf0 zf1 zf2 zf3 zef0 zef1 zef2 zef3 zfe0 zfe1 zfe2 zfe3 y0 y1 y2 y3 p0 p1 p2 r0 r1 r2 u0 u1 u2 u3 u4 u5 u6 u7 u8 u9 HK HD B3 O3 S3
        have HOW := Lib.hid (fun (g : Nat) (hg : g < w.heap.size) => SeesX.of_own (own_put (ownsRow_setCell_below (own_cast (xs' := (v.reads ++ [s]).flatMap seenC) O5.out rfl (by simp)) (a := ⟨w.heap.size, 0, none⟩) (show w.heap.size < wr.heap.size by rw [HSW.out]; omega) (.slice A5 (k + 1) c5)) (show w.heap.size + 1 + 1 < wr.heap.size by rw [HSW.out]; omega) 0 ⟨A5, k + 1, c5, A2, n2, c2, A3, n3, c3⟩) (show g < wr.heap.size by rw [HSW.out]; omega))
        generalize w5.setCell ⟨w.heap.size, 0, none⟩ (.slice A5 (k + 1) c5) = W at hT HOW ⊢
        have u0 := hT.1.c0
        have u1 := hT.1.c1
        have u2 := hT.1.c2
        have u4 := hT.2.1.c0
        have u5 := hT.2.1.c1
        have u6 := hT.2.1.c2
        have u7 := hT.2.1.f0
        have u8 := hT.2.1.f1
        have u9 := hT.2.1.f2
        have HT := Lib.hid (ret_lv hT.2.2.1 (show w.heap.size ≤ w.heap.size + 1 + 1 by omega) hT.2.2.2 hT.2.1)
        clear hT hk hSn hm1
        repeat (first | go_values | go_skip | go_guarded | go_step | go_upon | go_in)
        exact bodyPost_ret (res48 rfl HT.out.1) rfl ⟨⟨A5, k + 1, c5, A2, n2, c2, A3, n3, c3⟩, rfl, by rw [HR.out]; exact HT.out.2.1, HT.out.2.2, fun g hg hx => by
          rw [HR.out]
          have ha := hx.aside (Aside.of_below HT.out.2.2)
          exact ⟨HT.out.2.1.e1, HT.out.2.1.e2, HT.out.2.1.e3, HT.out.2.1.m1, HT.out.2.1.m2, HT.out.2.1.m3, HOW.out g hg, ha.s2, ha.s3⟩⟩
theorem rreads_any (l : LC) (v : Lv) (s : Seen) (w : World) (h : Lev w w.heap.size l v) (hm : v.reads.length ≤ 80000) :
    Calls Try.prog 48 #[.agg #[.slice l.A1 l.n1 l.c1, .slice l.A2 l.n2 l.c2, .slice l.A3 l.n3 l.c3], .agg #[.int .i64 s.loc, .int .i64 s.ver, .int .i64 s.val]] w (RetLv (addR s v) w) := (rreadsX_any l v s w h hm).mono fun _ _ h => h.plain
end Go.Proofs.Ytiomfncbhbokpaa
