import Derived.Test.YtiomfncbhbokpaaFold
namespace Go.Proofs.Ytiomfncbhbokpaa
open Go.RowKit
set_option linter.unusedVariables false

def okV (v : Lv) : Bool := decide (v.reads.length ≤ 20) && decide (v.writes.length ≤ 20) && decide (v.undo.length ≤ 20)
def fewL (ls : List Lv) : Bool := decide (ls.length ≤ 12) && ls.all okV
theorem few_no {ls : List Lv} {k : Nat} {v : Lv} (hx : ls[k]? = some v) (h : okV v = false) : fewL ls = false := by
  unfold fewL
  have : ls.all okV = false := by
    rw [List.all_eq_false]
    exact ⟨v, List.mem_of_getElem? hx, by simp [h]⟩
  rw [this, Bool.and_false]
theorem few_yes {ls : List Lv} {k : Nat} (hl : ls.length ≤ 12) (hk : ls.length ≤ k) (h : ∀ j v, j < k → ls[j]? = some v → okV v = true) : fewL ls = true := by
  unfold fewL
  have : ls.all okV = true := by
    rw [List.all_eq_true]
    intro v hv
    obtain ⟨j, hj, e⟩ := List.mem_iff_getElem.1 hv
    exact h j v (by omega) (by rw [List.getElem?_eq_getElem hj, e])
  rw [this, decide_eq_true hl]; rfl

set_option maxRecDepth 100000 in
theorem few_any (v : Value) (ls : List Lv) (w : World) (h : IsLs w v ls) : Calls Try.prog 34 #[v] w fun e w' => e = .returned (.bool (fewL ls)) ∧ w = w' := by
  obtain ⟨A, c, lcs, rfl, hc, hs, hl⟩ := h
  obtain ⟨n, hn⟩ : ∃ n, n = ls.length := ⟨_, rfl⟩
  rw [← hn] at hc ⊢
  by_cases hbig : 12 < n
  · have hF : fewL ls = false := by unfold fewL; rw [decide_eq_false (by omega)]; rfl
    have hb : (12 : Int) < (n : Int) := by omega
    rw [hF]
    clear hF hs hl hn
    go_enter Try.func34, Try.ntmps34
    go_wp2
    go_ret
    exact ⟨rfl, rfl⟩
  · have HN := Lib.hid hn
    have HS := Lib.hid hs
    have HL := Lib.hid hl
    have hb : ¬ ((12 : Int) < (n : Int)) := by omega
    clear hn hs hl
    go_enter Try.func34, Try.ntmps34
    go_wp2
    go_loop [3] (fun i => ∃ k : Nat, k ≤ n ∧ i = .int .i64 k ∧ Hid (∀ j v, j < k → ls[j]? = some v → okV v = true)) (fun i => n - (intOf i).toNat)
    case atStart => exact ⟨0, by omega, rfl, Lib.hid (fun j v hj => by omega)⟩
    case round =>
      obtain ⟨k, hk, rfl, HK⟩ := hrel
      by_cases hlt : k < n
      · have hx : ls[k]? = some (ls[k]'(by rw [← HN.out]; exact hlt)) := List.getElem?_eq_getElem _
        generalize ls[k]'(by rw [← HN.out]; exact hlt) = x at hx
        obtain ⟨lc, hlc, hlev⟩ := HL.out.get k x hx
        have g0 := flat_get (f := lvC) lv_len lcs k 0 lc hlc (by omega)
        have g1 := flat_get (f := lvC) lv_len lcs k 1 lc hlc (by omega)
        have g2 := flat_get (f := lvC) lv_len lcs k 2 lc hlc (by omega)
        obtain ⟨b, off, rfl, hcell⟩ : ∃ b off, A = some ⟨b, off, none⟩ ∧ ∀ j u, (lcs.flatMap lvC)[j]? = some u → w.cell? ⟨b, off + j, none⟩ = some u := by
          rcases HS.out with h | ⟨b, off, hA, _, hc⟩
          · rw [h] at g0
            simp [lvC] at g0
          · exact ⟨b, off, hA, hc⟩
        have c0 : w.cell? ⟨b, off + k * 3, none⟩ = some (.slice lc.A1 lc.n1 lc.c1) := hcell _ _ ((show _ = _ from g0).trans rfl)
        have c1 : w.cell? ⟨b, off + k * 3 + 1, none⟩ = some (.slice lc.A2 lc.n2 lc.c2) := by have := hcell _ _ (g1.trans (show _ = some (Value.slice lc.A2 lc.n2 lc.c2) from rfl)); rw [← Nat.add_assoc] at this; exact this
        have c2 : w.cell? ⟨b, off + k * 3 + 2, none⟩ = some (.slice lc.A3 lc.n3 lc.c3) := by have := hcell _ _ (g2.trans (show _ = some (Value.slice lc.A3 lc.n3 lc.c3) from rfl)); rw [← Nat.add_assoc] at this; exact this
        have hok : okV x = (decide (lc.n1 ≤ 20) && decide (lc.n2 ≤ 20) && decide (lc.n3 ≤ 20)) := by unfold okV; rw [hlev.e1, hlev.e2, hlev.e3]
        have HNX : Hid (okV x = true → ∀ j v, j < k + 1 → ls[j]? = some v → okV v = true) := Lib.hid (fun hv => by
          have h9 := idx_next (p := fun v => !okV v) hx (fun j s hj hs => by simp [HK.out j s hj hs]) (by simp [hv])
          intro j s hj hs
          simpa using h9 j s hj hs)
        have HNO : Hid (okV x = false → fewL ls = false) := Lib.hid (fun hv => few_no hx hv)
        have HOK := Lib.hid hok
        clear hx hlc hlev g0 g1 g2 hcell hok
        by_cases t1 : (20 : Int) < (lc.n1 : Int)
        · have HF := Lib.hid (HNO.out (by rw [HOK.out, decide_eq_false (by omega)]; rfl))
          go_wp2
          go_ret
          exact ⟨ret_bool HF.out.symm, rfl⟩
        · by_cases t2 : (20 : Int) < (lc.n2 : Int)
          · have HF := Lib.hid (HNO.out (by rw [HOK.out, decide_eq_false (p := lc.n2 ≤ 20) (by omega), Bool.and_false]; rfl))
            go_wp2
            go_ret
            exact ⟨ret_bool HF.out.symm, rfl⟩
          · by_cases t3 : (20 : Int) < (lc.n3 : Int)
            · have HF := Lib.hid (HNO.out (by rw [HOK.out, decide_eq_false (p := lc.n3 ≤ 20) (by omega), Bool.and_false]))
              go_wp2
              go_ret
              exact ⟨ret_bool HF.out.symm, rfl⟩
            · have HG := Lib.hid (HNX.out (by rw [HOK.out, decide_eq_true (p := lc.n1 ≤ 20) (by omega), decide_eq_true (p := lc.n2 ≤ 20) (by omega), decide_eq_true (p := lc.n3 ≤ 20) (by omega)]; rfl))
              go_wp2
              go_round
              case rel => exact ⟨k + 1, by omega, by go_num, HG⟩
              case measure => simp [intOf]; omega
      · have HF := Lib.hid (few_yes (k := k) (by rw [← HN.out]; omega) (by rw [← HN.out]; omega) HK.out)
        have hkn : k = n := by omega
        subst hkn
        go_wp2
        go_ret
        exact ⟨ret_bool HF.out.symm, rfl⟩
set_option maxRecDepth 100000 in
theorem lawFew_any (v : Value) (ls : List Lv) (w : World) (h : IsLs w v ls) : Calls Try.prog 11 #[v] w fun e w' => e = .returned (.bool (fewL ls)) ∧ w = w' := by
  have HC := Lib.hid (few_any v ls w h)
  clear h
  go_enter Try.func11, Try.ntmps11
  go_wp2_with fail
  refine HC.out.mono ?_
  rintro e w1 ⟨rfl, rfl⟩
  go_wp2
  go_ret
  exact ⟨rfl, rfl⟩
end Go.Proofs.Ytiomfncbhbokpaa
