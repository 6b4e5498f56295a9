/- The reference's Find. -/
import Derived.Test.YtiomfncbhbokpaaFind
namespace Go.Proofs.Ytiomfncbhbokpaa
open Go.RowKit
set_option linter.unusedVariables false

theorem rev_some {β : Type} {f : Lv → Option β} {ls : List Lv} {q : Nat} {v : Lv} {y : β} (hq : ls[q]? = some v) (hv : f v = some y) (h : ∀ p u, q < p → ls[p]? = some u → f u = none) : ls.reverse.findSome? f = some y := by
  obtain ⟨hlt, e⟩ := List.getElem?_eq_some_iff.1 hq
  have hs : ls = ls.take q ++ v :: ls.drop (q + 1) := by
    rw [← e, ← List.drop_eq_getElem_cons hlt, List.take_append_drop]
  have h1 : (ls.drop (q + 1)).reverse.findSome? f = none := by
    rw [List.findSome?_eq_none_iff]
    intro u hu
    rw [List.mem_reverse] at hu
    obtain ⟨j, hj⟩ := List.mem_iff_getElem?.1 hu
    rw [List.getElem?_drop] at hj
    exact h (q + 1 + j) u (by omega) hj
  rw [hs, List.reverse_append, List.reverse_cons, List.append_assoc, List.findSome?_append, h1]
  simp [hv]
theorem rev_none {β : Type} {f : Lv → Option β} {ls : List Lv} (h : ∀ (p : Nat) u, ls[p]? = some u → f u = none) : ls.reverse.findSome? f = none := by
  rw [List.findSome?_eq_none_iff]
  intro u hu
  rw [List.mem_reverse] at hu
  obtain ⟨j, hj⟩ := List.mem_iff_getElem?.1 hu
  exact h j u hj
theorem after_next {β : Type} {f : Lv → Option β} {ls : List Lv} {q : Nat} {v : Lv} (hq : ls[q]? = some v) (hv : f v = none) (h : ∀ (p : Nat) u, (q : Int) < p → ls[p]? = some u → f u = none) : ∀ (p : Nat) u, (q : Int) - 1 < p → ls[p]? = some u → f u = none := fun p u hp hu => by
  rcases Nat.lt_or_ge q p with h1 | h1
  · exact h p u (by omega) hu
  · have : p = q := by omega
    subst this
    rw [hq] at hu
    cases hu
    exact hv
def RetFindD (ls : List Lv) (loc : Int) (w : World) (e : Ending) (w' : World) : Prop :=
  e = .returned (.tuple #[.int .i64 (findL ls loc).1, .int .i64 (findL ls loc).2.1, .int .i64 (findL ls loc).2.2]) ∧ ∃ d, w' = w.drewN d
set_option maxRecDepth 100000 in
set_option maxHeartbeats 2000000 in
theorem rfind_any (v : Value) (ls : List Lv) (loc : Int) (w : World) (h : IsLs w v ls) (hm : ls.length ≤ 1000) (hsv : ∀ x ∈ ls, SmallV 80000 x) : Calls Try.prog 18 #[v, .int .i64 loc] w (RetFindD ls loc w) := by
  obtain ⟨A, c, lcs, rfl, hc, hs, hl⟩ := h
  obtain ⟨n, hn⟩ : ∃ n, n = ls.length := ⟨_, rfl⟩
  rw [← hn] at hc hm ⊢
  have HN := Lib.hid hn
  have HS := Lib.hid hs
  have HL := Lib.hid hl
  have HSV := Lib.hid hsv
  clear hn hs hl hsv
  go_enter Try.func18, Try.ntmps18
  go_wp2
  go_loop [7] (fun i => ∃ z : Int, -1 ≤ z ∧ z < n ∧ i = .int .i64 z ∧ Hid (∀ (p : Nat) u, z < p → ls[p]? = some u → wHit loc u = none)) (fun i => (intOf i + 1).toNat)
  case atStart => exact ⟨(n : Int) - 1, by omega, by omega, rfl, Lib.hid (fun p u hp hu => by have := (List.getElem?_eq_some_iff.1 hu).1; rw [← HN.out] at this; omega)⟩
  case round =>
    obtain ⟨z, hz1, hz2, rfl, HK⟩ := hrel
    by_cases hz : 0 ≤ z
    · obtain ⟨q, rfl⟩ : ∃ q : Nat, z = q := ⟨z.toNat, by omega⟩
      have hq : q < n := by omega
      have hx : ls[q]? = some (ls[q]'(by rw [← HN.out]; exact hq)) := List.getElem?_eq_getElem _
      generalize ls[q]'(by rw [← HN.out]; exact hq) = x at hx
      obtain ⟨lc, hlc, hlev⟩ := HL.out.get q x hx
      have g1 := flat_get (f := lvC) lv_len lcs q 1 lc hlc (by omega)
      obtain ⟨b, off, rfl, hcell⟩ : ∃ b off, A = some ⟨b, off, none⟩ ∧ ∀ j u, (lcs.flatMap lvC)[j]? = some u → w.cell? ⟨b, off + j, none⟩ = some u := by
        rcases HS.out with h | ⟨b, off, hA, _, hc⟩
        · rw [h] at g1
          simp [lvC] at g1
        · exact ⟨b, off, hA, hc⟩
      have c1 : w.cell? ⟨b, off + q * 3 + 1, none⟩ = some (.slice lc.A2 lc.n2 lc.c2) := by have := hcell _ _ (g1.trans (show _ = some (Value.slice lc.A2 lc.n2 lc.c2) from rfl)); rw [← Nat.add_assoc] at this; exact this
      obtain ⟨A2, hA2⟩ : ∃ A2, lc.A2 = A2 := ⟨_, rfl⟩
      obtain ⟨n2, hn2⟩ : ∃ n2, lc.n2 = n2 := ⟨_, rfl⟩
      obtain ⟨c2, hc2⟩ : ∃ c2, lc.c2 = c2 := ⟨_, rfl⟩
      have hm2 : n2 ≤ 80000 := by rw [← hn2, ← hlev.e2]; exact (HSV.out x (List.mem_of_getElem? hx)).2.1
      have HE := Lib.hid (hlev.e2.trans hn2)
      have HS2 := Lib.hid (show Sees w w.heap.size A2 (x.writes.flatMap wrC) by rw [← hA2]; exact hlev.s2)
      rw [hA2, hn2, hc2] at c1
      have HX := Lib.hid hx
      clear hx hlc hlev g1 hcell hA2 hn2 hc2 hz1 hz2 hz
      go_wp2
      go_loop [8] (fun i => ∃ k : Nat, k ≤ n2 ∧ i = .int .i64 k ∧ Hid (∀ j s, j < k → x.writes[j]? = some s → (s.loc == loc) = false)) (fun i => n2 - (intOf i).toNat)
      case atStart => exact ⟨0, Nat.zero_le _, rfl, Lib.hid (fun j s hj => by omega)⟩
      case round =>
        obtain ⟨k, hk, rfl, HK2⟩ := hrel
        by_cases hlt : k < n2
        · have hy : x.writes[k]? = some (x.writes[k]'(by rw [HE.out]; exact hlt)) := List.getElem?_eq_getElem _
          generalize x.writes[k]'(by rw [HE.out]; exact hlt) = y at hy
          obtain ⟨b2, off2, rfl, -, y0, y1⟩ := HS2.out.at2 hy
          have HY := Lib.hid hy
          clear hy
          by_cases hp : (y.loc == loc) = true
          · have HF := Lib.hid (findL_w (rev_some HX.out (f := wHit loc) (find_hit (p := fun s : Wr => s.loc == loc) HY.out HK2.out hp) (fun p u hp hu => HK.out p u (by omega) hu)))
            go_wp2
            exact bodyPost_ret (v := .tuple #[.int .i64 y.val, .int .i64 0, .int .i64 1]) (by simp [results, Try.results18, go_sem]) rfl ⟨by rw [HF.out], 0, rfl⟩
          · have hp' : (y.loc == loc) = false := by simpa using hp
            have HP := Lib.hid (idx_next (p := fun s : Wr => s.loc == loc) HY.out HK2.out hp')
            clear hp
            go_wp2
            go_round
            case rel => exact ⟨k + 1, by omega, by go_num, HP⟩
            case measure => simp [intOf]; omega
        · have HP := Lib.hid (after_next HX.out (f := wHit loc) (find_none (p := fun s : Wr => s.loc == loc) (xs := x.writes) (k := k) (by rw [HE.out]; omega) HK2.out) HK.out)
          go_wp2
          go_round
          case rel => exact ⟨(q : Int) - 1, by omega, by omega, by go_num, HP⟩
          case measure => simp [intOf] <;> omega
    · have HW := Lib.hid (rev_none (f := wHit loc) (ls := ls) (fun p u hu => HK.out p u (by omega) hu))
      clear HK hz1 hz2
      go_wp2
      go_loop [9] (fun i => ∃ z : Int, -1 ≤ z ∧ z < n ∧ i = .int .i64 z ∧ Hid (∀ (p : Nat) u, z < p → ls[p]? = some u → rHit loc u = none)) (fun i => (intOf i + 1).toNat)
      case atStart => exact ⟨(n : Int) - 1, by omega, by omega, rfl, Lib.hid (fun p u hp hu => by have := (List.getElem?_eq_some_iff.1 hu).1; rw [← HN.out] at this; omega)⟩
      case round =>
        obtain ⟨z2, hz1, hz2, rfl, HK⟩ := hrel
        by_cases hz3 : 0 ≤ z2
        · obtain ⟨q, rfl⟩ : ∃ q : Nat, z2 = q := ⟨z2.toNat, by omega⟩
          have hq : q < n := by omega
          have hx : ls[q]? = some (ls[q]'(by rw [← HN.out]; exact hq)) := List.getElem?_eq_getElem _
          generalize ls[q]'(by rw [← HN.out]; exact hq) = x at hx
          obtain ⟨lc, hlc, hlev⟩ := HL.out.get q x hx
          have g1 := flat_get (f := lvC) lv_len lcs q 0 lc hlc (by omega)
          obtain ⟨b, off, rfl, hcell⟩ : ∃ b off, A = some ⟨b, off, none⟩ ∧ ∀ j u, (lcs.flatMap lvC)[j]? = some u → w.cell? ⟨b, off + j, none⟩ = some u := by
            rcases HS.out with h | ⟨b, off, hA, _, hc⟩
            · rw [h] at g1
              simp [lvC] at g1
            · exact ⟨b, off, hA, hc⟩
          have c1 : w.cell? ⟨b, off + q * 3, none⟩ = some (.slice lc.A1 lc.n1 lc.c1) := hcell _ _ ((show _ = _ from g1).trans rfl)
          obtain ⟨A1, hA1⟩ : ∃ A1, lc.A1 = A1 := ⟨_, rfl⟩
          obtain ⟨n1, hn1⟩ : ∃ n1, lc.n1 = n1 := ⟨_, rfl⟩
          obtain ⟨c1', hc1⟩ : ∃ c1', lc.c1 = c1' := ⟨_, rfl⟩
          have hm2 : n1 ≤ 80000 := by rw [← hn1, ← hlev.e1]; exact (HSV.out x (List.mem_of_getElem? hx)).1
          have HE := Lib.hid (hlev.e1.trans hn1)
          have HS2 := Lib.hid (show Sees w w.heap.size A1 (x.reads.flatMap seenC) by rw [← hA1]; exact hlev.s1)
          rw [hA1, hn1, hc1] at c1
          have HX := Lib.hid hx
          clear hx hlc hlev g1 hcell hA1 hn1 hc1 hz1 hz2 hz3
          go_wp2
          go_loop [10] (fun i => ∃ k : Nat, k ≤ n1 ∧ i = .int .i64 k ∧ Hid (∀ j s, j < k → x.reads[j]? = some s → (s.loc == loc) = false)) (fun i => n1 - (intOf i).toNat)
          case atStart => exact ⟨0, Nat.zero_le _, rfl, Lib.hid (fun j s hj => by omega)⟩
          case round =>
            obtain ⟨k, hk, rfl, HK2⟩ := hrel
            by_cases hlt : k < n1
            · have hy : x.reads[k]? = some (x.reads[k]'(by rw [HE.out]; exact hlt)) := List.getElem?_eq_getElem _
              generalize x.reads[k]'(by rw [HE.out]; exact hlt) = y at hy
              obtain ⟨b2, off2, rfl, -, y0, y1, y2⟩ := HS2.out.at3 hy
              have HY := Lib.hid hy
              clear hy
              by_cases hp : (y.loc == loc) = true
              · have HF := Lib.hid (findL_r HW.out (rev_some HX.out (f := rHit loc) (find_hit (p := fun s : Seen => s.loc == loc) HY.out HK2.out hp) (fun p u hp hu => HK.out p u (by omega) hu)))
                go_wp2
                go_quiet (fail)
                go_wp2
                exact bodyPost_ret (v := .tuple #[.int .i64 y.val, .int .i64 y.ver, .int .i64 2]) (by simp [results, Try.results18, go_sem]) rfl ⟨by rw [HF.out], _, rfl⟩
              · have hp' : (y.loc == loc) = false := by simpa using hp
                have HP := Lib.hid (idx_next (p := fun s : Seen => s.loc == loc) HY.out HK2.out hp')
                clear hp
                go_wp2
                go_round
                case rel => exact ⟨k + 1, by omega, by go_num, HP⟩
                case measure => simp [intOf]; omega
            · have HP := Lib.hid (after_next HX.out (f := rHit loc) (find_none (p := fun s : Seen => s.loc == loc) (xs := x.reads) (k := k) (by rw [HE.out]; omega) HK2.out) HK.out)
              go_wp2
              go_round
              case rel => exact ⟨(q : Int) - 1, by omega, by omega, by go_num, HP⟩
              case measure => simp [intOf] <;> omega
        · have HF := Lib.hid (findL_n HW.out (rev_none (f := rHit loc) (ls := ls) (fun p u hu => HK.out p u (by omega) hu)))
          go_wp2
          exact bodyPost_ret (v := .tuple #[.int .i64 0, .int .i64 0, .int .i64 0]) (by simp [results, Try.results18, go_sem]) rfl ⟨by rw [HF.out], 0, rfl⟩
end Go.Proofs.Ytiomfncbhbokpaa
