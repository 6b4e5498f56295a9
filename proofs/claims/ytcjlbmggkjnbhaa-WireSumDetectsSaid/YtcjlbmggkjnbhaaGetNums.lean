import Derived.Test.YtcjlbmggkjnbhaaReader
namespace Go.Proofs.Ytcjlbmggkjnbhaa
open Go.RowKit
set_option linter.unusedVariables false

def numsR (b : List Int) : List Int × Int × Int := match getNums b with | some (l, m) => (l, (m : Int), 0) | none => ([], 0, 3)
def IsNums (r : List Int × Int × Int) (w : World) (e : Ending) (w' : World) : Prop :=
  ∃ v, e = .returned (.tuple #[v, .int .i64 r.2.1, .int .i64 r.2.2]) ∧ w'.ownsRow w.heap.size 3 1 v r.1.length (r.1.map (Value.int .i64)) ∧ Below w.heap.size w w'
theorem isNums_no {r : List Int × Int × Int} {w w' : World} (h : r = ([], 0, 3)) (hb : Below w.heap.size w w') : IsNums r w (.returned (.tuple #[.slice none 0 0, .int .i64 0, .int .i64 3])) w' := by
  subst h; exact ⟨_, rfl, World.ownsRow_nil _ _ _ _, hb⟩
theorem isNums_yes {r : List Int × Int × Int} {w w' : World} {v : Value} {l : List Int} {m : Int} (h : r = (l, m, 0)) (ho : w'.ownsRow w.heap.size 3 1 v l.length (l.map (Value.int .i64))) (hb : Below w.heap.size w w') :
    IsNums r w (.returned (.tuple #[v, .int .i64 m, .int .i64 0])) w' := by
  subst h; exact ⟨_, rfl, ho, hb⟩

/-- What is still to be read: q numbers from p on, the numbers l lie behind. -/
def Left (b : List Int) (q p : Nat) (l : List Int) : Prop :=
  getNums b = (getList q (b.drop p)).map fun r => (l ++ r.1, p + r.2)
theorem left_start {b : List Int} {z : Int} {m : Nat} (hg : get b = some (z, m)) (hz : 0 ≤ z) : Left b z.toNat m [] := by
  unfold Left getNums
  rw [hg]
  simp only
  rw [if_pos hz]
  rfl
theorem left_no {b : List Int} {q p : Nat} {l : List Int} (h : Left b (q + 1) p l) (hg : get (b.drop p) = none) : numsR b = ([], 0, 3) := by
  unfold numsR
  rw [h]
  simp only [getList, hg]; rfl
theorem left_yes {b : List Int} {q p m : Nat} {l : List Int} {z : Int} (h : Left b (q + 1) p l) (hg : get (b.drop p) = some (z, m)) : Left b q (p + m) (l ++ [z]) := by
  unfold Left at *
  rw [h]
  simp only [getList, hg]
  rw [List.drop_drop, Option.map_map]
  congr 1
  funext r
  simp [Nat.add_assoc]
theorem left_end {b : List Int} {p : Nat} {l : List Int} (h : Left b 0 p l) : numsR b = (l, (p : Int), 0) := by
  unfold numsR
  rw [h]
  simp [getList]

def ReadRel (A : Option Addr) (n c : Nat) (b : List Int) (q : Nat) (w : World) (v i : Value) (wr : World) : Prop :=
  ∃ (k p : Nat) (l : List Int), k ≤ q ∧ i = .int .i64 k ∧ p ≤ n ∧ l.length ≤ p ∧ Hid (Left b (q - k) p l) ∧ wr.ownsRow (w.heap.size + 2) 3 1 v l.length (l.map (Value.int .i64)) ∧
    wr.cell? ⟨w.heap.size, 0, none⟩ = some (.slice A n c) ∧ wr.cell? ⟨w.heap.size + 1, 0, none⟩ = some (.int .i64 p) ∧ wr.frozen? ⟨w.heap.size + 1, 0, none⟩ = false ∧ Below w.heap.size w wr ∧ w.heap.size + 2 ≤ wr.heap.size

theorem own_less {w : World} {B B' : Nat} {e : TypeId} {size n : Nat} {v : Value} {xs : List Value} (h : w.ownsRow B e size v n xs) (hB : B' ≤ B) : w.ownsRow B' e size v n xs := by
  obtain ⟨hl, h | ⟨g, cap, cur, hv, hg, hr⟩⟩ := h
  · exact ⟨hl, .inl h⟩
  · exact ⟨hl, .inr ⟨g, cap, cur, hv, by omega, hr⟩⟩
theorem below_two (w : World) (o o' : Obj) : Below w.heap.size w ((w.alloc o).alloc o') := ((Below.refl _ _).alloc (Nat.le_refl _) o).alloc (by simp) o'

set_option maxHeartbeats 1600000 in
theorem getNums_any (A : Option Addr) (n c : Nat) (b : List Int) (w : World) (e1 : b.length = n) (m1 : n ≤ 1000000) (hc : n ≤ c) (hby : Bytes b) (h1 : Sees w w.heap.size A (b.map (.int .u8))) :
    Calls Try.prog 22 #[.slice A n c] w (IsNums (numsR b) w) := by
  obtain ⟨i0, hi, hz0, hz1, hz2⟩ := info_parts Try.info3
  have E1 := Lib.hid e1
  have HB := Lib.hid hby
  have H1 := Lib.hid h1
  have M1 : Hid (n ≤ maxLen) := Lib.hid (by unfold maxLen; omega)
  clear e1 hby h1
  have hA2 : ((w.alloc (.cells #[.slice A n c] 24)).alloc (.cells #[.int .i64 0] 3)).cell? ⟨w.heap.size, 0, none⟩ = some (.slice A n c) := by
    rw [World.cell?_alloc_past _ _ _ (by simp), World.cell?_alloc_at _ _ _ _ rfl]; rfl
  have hP2 : ((w.alloc (.cells #[.slice A n c] 24)).alloc (.cells #[.int .i64 0] 3)).cell? ⟨w.heap.size + 1, 0, none⟩ = some (.int .i64 ((0 : Nat) : Int)) := by
    rw [World.cell?_alloc_at _ _ _ _ (by simp)]; rfl
  have hF2 : ((w.alloc (.cells #[.slice A n c] 24)).alloc (.cells #[.int .i64 0] 3)).frozen? ⟨w.heap.size + 1, 0, none⟩ = false := World.frozen?_alloc_at _ _ _ _ (by simp)
  have hb2 := below_two w (.cells #[.slice A n c] 24) (.cells #[.int .i64 0] 3)
  have hs2 : w.heap.size + 2 ≤ ((w.alloc (.cells #[.slice A n c] 24)).alloc (.cells #[.int .i64 0] 3)).heap.size := by simp
  go_enter Try.func22, Try.ntmps22
  go_wp2_with fail
  refine (reader_any A n c _).mono ?_
  rintro e w1 ⟨rfl, hw⟩
  rw [hw] at hA2 hP2 hF2 hb2 hs2
  clear hw
  cases hg : get b with
  | none =>
    have HN : Hid (numsR b = ([], 0, 3)) := Lib.hid (by unfold numsR getNums; rw [hg])
    go_wp2_with fail
    refine (next_no A n c _ _ 0 b _ E1.out M1.out hc HB.out (H1.out.below hb2) hA2 hP2 hF2 (Nat.zero_le _) hg).mono ?_
    rintro e w2 ⟨rfl, rfl⟩
    have hb3 := hb2.setCell (p := ⟨w.heap.size + 1, 0, none⟩) (by simp) (.int .i64 ((0 : Nat) : Int))
    clear hg
    go_wp2
    go_ret3
    exact isNums_no HN.out hb3
  | some r =>
    obtain ⟨z, m⟩ := r
    have hlen := get_len HB.out hg
    rw [E1.out] at hlen
    have hin := (get_some HB.out hg).1
    unfold In64 at hin
    obtain ⟨hl1, hl2, hl3⟩ := hlen
    obtain ⟨hi1, hi2⟩ := hin
    go_wp2_with fail
    refine (next_yes A n c _ _ 0 m b z _ E1.out M1.out hc HB.out (H1.out.below hb2) hA2 hP2 hF2 (Nat.zero_le _) hg).mono ?_
    rintro e w2 ⟨rfl, hw⟩
    have hb3 := hb2.setCell (p := ⟨w.heap.size + 1, 0, none⟩) (by simp) (.int .i64 ((0 + m : Nat) : Int))
    have hA3 : w2.cell? ⟨w.heap.size, 0, none⟩ = some (.slice A n c) := by
      rw [← hw, World.cell?_setCell_other _ _ _ _ (by simp)]; exact hA2
    have hP3 : w2.cell? ⟨w.heap.size + 1, 0, none⟩ = some (.int .i64 (m : Int)) := by
      rw [← hw, World.cell?_setCell_same _ _ _ hP2, Nat.zero_add]
    have hF3 : w2.frozen? ⟨w.heap.size + 1, 0, none⟩ = false := by
      rw [← hw, World.frozen?_setCell]; exact hF2
    have hs3 : w.heap.size + 2 ≤ w2.heap.size := by rw [← hw]; simpa using hs2
    rw [hw] at hb3
    clear hw hA2 hP2 hF2 hb2 hs2
    by_cases hz : z < 0
    · have HN : Hid (numsR b = ([], 0, 3)) := Lib.hid (by unfold numsR getNums; rw [hg]; simp only; rw [if_neg (by omega)])
      clear hg
      go_wp2
      go_ret3
      exact isNums_no HN.out hb3
    · have hL := Lib.hid (left_start hg (by omega))
      clear hg
      obtain ⟨q, rfl⟩ := Int.eq_ofNat_of_zero_le (show 0 ≤ z by omega)
      rw [Int.toNat_natCast] at hL
      by_cases hbig : n < q
      · have HN : Hid (numsR b = ([], 0, 3)) := Lib.hid (by
          unfold numsR
          cases hh : getNums b with
          | none => rfl
          | some r =>
            exfalso
            have h2 := hL.out
            unfold Left at h2
            rw [hh] at h2
            cases hl : getList q (b.drop m) with
            | none => rw [hl] at h2; simp at h2
            | some t =>
              have := getList_some q (b.drop m) t.1 t.2 (HB.out.drop m) hl
              have h3 := this.2.2.2.2
              rw [List.length_drop, E1.out] at h3
              omega)
        have hbig' : (n : Int) < (q : Int) := by omega
        go_wp2
        go_ret3
        exact isNums_no HN.out hb3
      · have hnb : ¬ (n : Int) < (q : Int) := by omega
        go_wp2
        go_loopw [9, 35] (ReadRel A n c b q w) (fun _ i _ => q - (intOf i).toNat)
        case atStart => exact ⟨0, m, [], by omega, rfl, by omega, by simp, hL, World.ownsRow_nil _ _ _ _, hA3, hP3, hF3, hb3, hs3⟩
        case round =>
          clear hA3 hP3 hF3 hb3 hs3 hL
          obtain ⟨k, p, l, hk, rfl, hpn, hlp, hL, hown, hA, hP, hF, hb, hs⟩ := hrel
          by_cases hlt : k < q
          · have hq : q - k = (q - (k + 1)) + 1 := by omega
            cases hg : get (b.drop p) with
            | none =>
              have HN := Lib.hid (left_no (by rw [← hq]; exact hL.out) hg)
              clear hq
              go_wp2_with fail
              refine (next_no A n c _ _ p b _ E1.out M1.out hc HB.out (H1.out.below hb) hA hP hF hpn hg).mono ?_
              rintro e w4 ⟨rfl, rfl⟩
              have hb4 := hb.setCell (p := ⟨w.heap.size + 1, 0, none⟩) (by simp) (.int .i64 (p : Int))
              clear hg
              go_wp2
              go_ret3
              exact isNums_no HN.out hb4
            | some r =>
              obtain ⟨x, m'⟩ := r
              have hL2 := Lib.hid (left_yes (by rw [← hq]; exact hL.out) hg)
              have hlen := get_len (HB.out.drop p) hg
              rw [List.length_drop, E1.out] at hlen
              obtain ⟨hm1, hm2, hm3⟩ := hlen
              clear hq
              go_wp2_with fail
              refine (next_yes A n c _ _ p m' b x _ E1.out M1.out hc HB.out (H1.out.below hb) hA hP hF hpn hg).mono ?_
              rintro e w4 ⟨rfl, hw⟩
              have hb4 := hb.setCell (p := ⟨w.heap.size + 1, 0, none⟩) (by simp) (.int .i64 ((p + m' : Nat) : Int))
              have hA4 : w4.cell? ⟨w.heap.size, 0, none⟩ = some (.slice A n c) := by
                rw [← hw, World.cell?_setCell_other _ _ _ _ (by simp)]; exact hA
              have hP4 : w4.cell? ⟨w.heap.size + 1, 0, none⟩ = some (.int .i64 ((p + m' : Nat) : Int)) := by
                rw [← hw, World.cell?_setCell_same _ _ _ hP]
              have hF4 : w4.frozen? ⟨w.heap.size + 1, 0, none⟩ = false := by
                rw [← hw, World.frozen?_setCell]; exact hF
              have hs4 : w.heap.size + 2 ≤ w4.heap.size := by rw [← hw]; simpa using hs
              have hown4 : w4.ownsRow (w.heap.size + 2) 3 1 u9 l.length (l.map (Value.int .i64)) := by
                rw [← hw]; exact ownsRow_setCell_below hown (by simp) _
              rw [hw] at hb4
              clear hw hA hP hF hb hs hown hg
              go_wp2_with (at_builtin; refine wpList_push rfl (.tmp 44) (.tmp 46) 32 rfl (w.heap.size + 2) 3 i0 (.int .i64 0) 1 8 Try.underlying32 hi hz0 hz1 hz2 rfl (by decide) hown4 rfl rfl rfl rfl (by unfold maxLen; omega) (by omega) hs4 ?_)
              intro v' w5 hown5 hb5
              have hA5 : w5.cell? ⟨w.heap.size, 0, none⟩ = some (.slice A n c) := (hb5.cell (p := ⟨w.heap.size, 0, none⟩) (by simp)).trans hA4
              have hP5 : w5.cell? ⟨w.heap.size + 1, 0, none⟩ = some (.int .i64 ((p + m' : Nat) : Int)) := (hb5.cell (p := ⟨w.heap.size + 1, 0, none⟩) (by simp)).trans hP4
              have hF5 : w5.frozen? ⟨w.heap.size + 1, 0, none⟩ = false := (hb5.frozen (p := ⟨w.heap.size + 1, 0, none⟩) (by simp)).trans hF4
              have hb6 := hb4.trans (hb5.mono (by omega))
              have hs5 := Nat.le_trans hs4 hb5.size
              clear hA4 hP4 hF4 hb4 hs4 hown4 hb5
              go_wp2
              go_roundw
              case rel => exact ⟨k + 1, p + m', l ++ [x], by omega, by go_num, by omega, by simp; omega, hL2, own_snoc hown5 rfl, hA5, hP5, hF5, hb6, hs5⟩
              case measure => simp [intOf]; omega
          · obtain rfl : k = q := by omega
            have HN := Lib.hid (left_end (by rw [← Nat.sub_self k]; exact hL.out))
            go_wp2_with fail
            refine (upto_any _ p _ hP).mono ?_
            rintro e w4 ⟨rfl, rfl⟩
            go_wp2
            go_ret3
            exact isNums_yes HN.out (own_less hown (by omega)) hb
end Go.Proofs.Ytcjlbmggkjnbhaa
