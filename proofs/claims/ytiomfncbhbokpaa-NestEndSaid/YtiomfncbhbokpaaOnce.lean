/- once walked: a level without two writes of one location. -/
import Derived.Test.YtiomfncbhbokpaaPlain
namespace Go.Proofs.Ytiomfncbhbokpaa
open Go.RowKit
set_option linter.unusedVariables false

def OnceTo (ws : List Wr) (k : Nat) : Prop := ∀ (a b : Nat) (x y : Wr), a < b → b < k → ws[a]? = some x → ws[b]? = some y → x.loc ≠ y.loc
theorem OnceTo.all {ws : List Wr} {k : Nat} (h : OnceTo ws k) (hk : ws.length ≤ k) : OnceW ws := by
  unfold OnceW
  rw [List.pairwise_iff_getElem]
  intro i j hi hj hij
  exact h i j _ _ hij (by omega) (List.getElem?_eq_getElem hi) (List.getElem?_eq_getElem hj)
def NoneTo (ws : List Wr) (l : Int) (j : Nat) : Prop := ∀ (a : Nat) (x : Wr), a < j → ws[a]? = some x → x.loc ≠ l
theorem OnceTo.next {ws : List Wr} {k : Nat} {y : Wr} (h : OnceTo ws k) (hy : ws[k]? = some y) (hn : NoneTo ws y.loc k) : OnceTo ws (k + 1) := fun a b x z hab hb hx hz => by
  rcases Nat.lt_succ_iff_lt_or_eq.1 hb with h1 | rfl
  · exact h a b x z hab h1 hx hz
  · rw [hy] at hz
    cases hz
    exact hn a x hab hx
theorem NoneTo.next {ws : List Wr} {l : Int} {j : Nat} {x : Wr} (h : NoneTo ws l j) (hx : ws[j]? = some x) (hl : x.loc ≠ l) : NoneTo ws l (j + 1) := fun a z ha hz => by
  rcases Nat.lt_succ_iff_lt_or_eq.1 ha with h1 | rfl
  · exact h a z h1 hz
  · rw [hx] at hz
    cases hz
    exact hl
def RetOnce (ls : List Lv) (w : World) (e : Ending) (w' : World) : Prop := ∃ b d, e = .returned (.bool b) ∧ w' = w.drewN d ∧ (b = true → ∀ v ∈ ls, OnceW v.writes)
set_option maxRecDepth 100000 in
set_option maxHeartbeats 2000000 in
theorem once_any (v : Value) (ls : List Lv) (w : World) (h : IsLs w v ls) (hm : ls.length ≤ 1000) (hsv : ∀ x ∈ ls, SmallV 40000 x) : Calls Try.prog 32 #[v] w (RetOnce ls w) := by
  obtain ⟨A, c, lcs, rfl, hc, hs, hl⟩ := h
  obtain ⟨n, hn⟩ : ∃ n, n = ls.length := ⟨_, rfl⟩
  rw [← hn] at hc hm ⊢
  have HN := Lib.hid hn
  have HS := Lib.hid hs
  have HL := Lib.hid hl
  have HSV := Lib.hid hsv
  clear hn hs hl hsv
  go_enter Try.func32, Try.ntmps32
  go_wp2
  go_loopw [3] (fun i wr => ∃ k : Nat, k ≤ n ∧ i = .int .i64 k ∧ Hid (∃ d, wr = w.drewN d) ∧ Hid (∀ v ∈ ls.take k, OnceW v.writes)) (fun i _ => n - (intOf i).toNat)
  case atStart => exact ⟨0, Nat.zero_le _, rfl, Lib.hid ⟨0, rfl⟩, Lib.hid (fun v hv => by simp at hv)⟩
  case round =>
    obtain ⟨k, hk, rfl, HD, HO⟩ := hrel
    by_cases hlt : k < n
    · have hx : ls[k]? = some (ls[k]'(by rw [← HN.out]; exact hlt)) := List.getElem?_eq_getElem _
      generalize ls[k]'(by rw [← HN.out]; exact hlt) = x at hx
      obtain ⟨lc, hlc, hlev⟩ := HL.out.get k x hx
      have g1 := flat_get (f := lvC) lv_len lcs k 1 lc hlc (by omega)
      obtain ⟨b, off, rfl, hcell⟩ : ∃ b off, A = some ⟨b, off, none⟩ ∧ ∀ j u, (lcs.flatMap lvC)[j]? = some u → w.cell? ⟨b, off + j, none⟩ = some u := by
        rcases HS.out with h | ⟨b, off, hA, _, hc⟩
        · rw [h] at g1
          simp [lvC] at g1
        · exact ⟨b, off, hA, hc⟩
      have c1 : w.cell? ⟨b, off + k * 3 + 1, none⟩ = some (.slice lc.A2 lc.n2 lc.c2) := by have := hcell _ _ (g1.trans (show _ = some (Value.slice lc.A2 lc.n2 lc.c2) from rfl)); rw [← Nat.add_assoc] at this; exact this
      obtain ⟨A2, hA2⟩ : ∃ A2, lc.A2 = A2 := ⟨_, rfl⟩
      obtain ⟨n2, hn2⟩ : ∃ n2, lc.n2 = n2 := ⟨_, rfl⟩
      obtain ⟨c2, hc2⟩ : ∃ c2, lc.c2 = c2 := ⟨_, rfl⟩
      have hm2 : n2 ≤ 40000 := by rw [← hn2, ← hlev.e2]; exact (HSV.out x (List.mem_of_getElem? hx)).2.1
      have HE := Lib.hid (hlev.e2.trans hn2)
      have HS2 := Lib.hid (show Sees w w.heap.size A2 (x.writes.flatMap wrC) by rw [← hA2]; exact hlev.s2)
      rw [hA2, hn2, hc2] at c1
      have HC1 := Lib.hid c1
      have HX := Lib.hid hx
      clear hx hlc hlev g1 hcell hA2 hn2 hc2 c1
      go_wp2
      go_loopw [4] (fun i wr => ∃ q : Nat, q ≤ n2 ∧ i = .int .i64 q ∧ Hid (∃ d, wr = w.drewN d) ∧ Hid (OnceTo x.writes q)) (fun i _ => n2 - (intOf i).toNat)
      case atStart => exact ⟨0, Nat.zero_le _, rfl, HD, Lib.hid (fun a b x y h1 h2 => by omega)⟩
      case round =>
        obtain ⟨q, hq, rfl, HD2, HO2⟩ := hrel
        have cA : wr.cell? ⟨b, off + k * 3 + 1, none⟩ = some (.slice A2 n2 c2) := by
          obtain ⟨d, e⟩ := HD2.out
          rw [e]; exact HC1.out
        by_cases hq2 : q < n2
        · have hy : x.writes[q]? = some (x.writes[q]'(by rw [HE.out]; exact hq2)) := List.getElem?_eq_getElem _
          generalize x.writes[q]'(by rw [HE.out]; exact hq2) = y at hy
          have HY := Lib.hid hy
          clear hy
          go_wp2
          go_loopw [5] (fun i wr => ∃ r : Nat, r ≤ q ∧ i = .int .i64 r ∧ Hid (∃ d, wr = w.drewN d) ∧ Hid (NoneTo x.writes y.loc r)) (fun i _ => q - (intOf i).toNat)
          case atStart => exact ⟨0, Nat.zero_le _, rfl, HD2, Lib.hid (fun a z ha => by omega)⟩
          case round =>
            obtain ⟨r, hr, rfl, HD3, HN3⟩ := hrel
            by_cases hr2 : r < q
            · have hz : x.writes[r]? = some (x.writes[r]'(by rw [HE.out]; omega)) := List.getElem?_eq_getElem _
              generalize x.writes[r]'(by rw [HE.out]; omega) = z at hz
              have HZ := Lib.hid hz
              have cB : wr.cell? ⟨b, off + k * 3 + 1, none⟩ = some (.slice A2 n2 c2) := by
                obtain ⟨d, e⟩ := HD3.out
                rw [e]; exact HC1.out
              have hw3 : Sees wr w.heap.size A2 (x.writes.flatMap wrC) := by
                obtain ⟨d, e⟩ := HD3.out
                rw [e]; exact HS2.out.drewN d
              obtain ⟨b2, off2, hA2, -, z0, -⟩ := hw3.at2 hz
              obtain ⟨b3, off3, hA3, -, y0, -⟩ := hw3.at2 HY.out
              rw [hA2] at hA3
              cases hA3
              subst hA2
              clear hw3 hz cA
              have HD4 : Hid (∃ d, wr.drew = w.drewN d) := Lib.hid (by
                obtain ⟨d, e⟩ := HD3.out
                exact ⟨d + 1, by rw [e]; rfl⟩)
              have hrn : r < n2 := by omega
              by_cases hp : z.loc = y.loc
              · rw [← hp] at y0
                go_wp2
                go_region_law (fail)
                all_goals
                  go_wp2
                  go_ret
                  obtain ⟨d, hd⟩ := HD4.out
                  exact ⟨false, d, rfl, hd, fun h => by cases h⟩
              · have hp' : (z.loc == y.loc) = false := by simpa using hp
                have HN4 := Lib.hid (HN3.out.next HZ.out hp)
                clear hp
                go_wp2
                go_region_law (fail)
                all_goals
                  go_wp2
                  go_roundw
                  case rel => exact ⟨r + 1, by omega, by go_num, HD4, HN4⟩
                  case measure => simp [intOf]; omega
            · have hrq : r = q := by omega
              subst hrq
              have HO3 := Lib.hid (HO2.out.next HY.out HN3.out)
              go_wp2
              go_roundw
              case rel => exact ⟨r + 1, by omega, by go_num, HD3, HO3⟩
              case measure => simp [intOf]; omega
        · have hqn : q = n2 := by omega
          subst hqn
          have HO4 : Hid (∀ v ∈ ls.take (k + 1), OnceW v.writes) := Lib.hid (fun v hv => by
            rw [List.take_add_one, HX.out] at hv
            rcases List.mem_append.1 hv with hv | hv
            · exact HO.out v hv
            · simp at hv
              subst hv
              exact HO2.out.all (by rw [HE.out]; omega))
          go_wp2
          go_roundw
          case rel => exact ⟨k + 1, by omega, by go_num, HD2, HO4⟩
          case measure => simp [intOf]; omega
    · have hkn : k = n := by omega
      have HALL : Hid (∀ v ∈ ls, OnceW v.writes) := Lib.hid (by
        have := HO.out
        rwa [List.take_of_length_le (by rw [← HN.out]; omega)] at this)
      subst hkn
      go_wp2
      go_ret
      obtain ⟨d, hd⟩ := HD.out
      exact ⟨true, d, rfl, hd, fun _ => HALL.out⟩
end Go.Proofs.Ytiomfncbhbokpaa
