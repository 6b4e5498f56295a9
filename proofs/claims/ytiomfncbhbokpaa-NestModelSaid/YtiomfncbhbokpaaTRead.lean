import Derived.Test.YtiomfncbhbokpaaTMut
import Derived.Deep.RegionLaw
namespace Go.Proofs.Ytiomfncbhbokpaa
open Go.RowKit
set_option linter.unusedVariables false

def readL (rs : List Seen) (s : Seen) : List Seen := if rs.any (fun x => x.loc == s.loc) then rs else rs ++ [s]
theorem readL_le (rs : List Seen) (s : Seen) : (readL rs s).length ≤ rs.length + 1 := by
  unfold readL; split <;> simp
theorem readsL_le : ∀ (more rs : List Seen), (more.foldl readL rs).length ≤ rs.length + more.length
  | [], rs => by simp
  | s :: more, rs => by
    have h1 := readsL_le more (readL rs s)
    have h2 := readL_le rs s
    rw [List.foldl_cons, List.length_cons]
    omega
theorem take_next {α β : Type} {f : β → α → β} {xs : List α} {k : Nat} {x : α} (hx : xs[k]? = some x) (b : β) : (xs.take (k + 1)).foldl f b = f ((xs.take k).foldl f b) x := by
  have hlt := (List.getElem?_eq_some_iff.1 hx).1
  have e : xs.take (k + 1) = xs.take k ++ [x] := by
    rw [List.take_add_one, hx]; rfl
  rw [e, List.foldl_append]; rfl
def ReadRel (g o : Nat) (rs more : List Seen) (w : World) (i : Value) (wr : World) : Prop :=
  ∃ (k : Nat) (v : Value), k ≤ more.length ∧ i = .int .i64 k ∧ wr.ownsRow w.heap.size 30 3 v ((more.take k).foldl readL rs).length (((more.take k).foldl readL rs).flatMap seenC) ∧ Below w.heap.size (w.setCell ⟨g, o, none⟩ v) wr

set_option maxRecDepth 100000 in
set_option maxHeartbeats 1000000 in
theorem read_any (g o : Nat) (A : Option Addr) (n c : Nat) (rs : List Seen) (A' : Option Addr) (n' c' : Nat) (more : List Seen) (w : World) (hg : g < w.heap.size) (hc : w.cell? ⟨g, o, none⟩ = some (.slice A n c)) (hf : w.frozen? ⟨g, o, none⟩ = false)
    (e1 : rs.length = n) (e2 : more.length = n') (m : n + n' ≤ 100000) (h1 : SeesX w g A (rs.flatMap seenC)) (h2 : SeesX w g A' (more.flatMap seenC)) :
    Calls Try.prog 38 #[.pointer (some ⟨g, o, none⟩), .slice A' n' c'] w (SetOne g o 30 3 ((more.foldl readL rs).flatMap seenC) (more.foldl readL rs).length w) := by
  obtain ⟨i0, hi, hz0, hz1, hz2⟩ := info_parts Try.info30
  have HI := Lib.hid hi
  have HZ0 := Lib.hid hz0
  have HZ1 := Lib.hid hz1
  have HZ2 := Lib.hid hz2
  have E1 := Lib.hid e1
  have E2 := Lib.hid e2
  have H1 := Lib.hid h1
  have H2 := Lib.hid h2
  have HC := Lib.hid hc
  have HF := Lib.hid hf
  clear hi hz0 hz1 hz2 e1 e2 h1 h2
  go_enter Try.func38, Try.ntmps38
  go_wp2_with fail
  refine (cloneS_any A n c (rs.flatMap seenC) w (by rw [flat_length seen_len, E1.out]) (by omega) (flat_one seen_one rs) H1.out.sees).mono ?_
  rintro e w1 ⟨v1, rfl, o1, b1⟩
  have hc1 := (b1.cell (p := ⟨g, o, none⟩) hg).trans hc
  have hf1 := (b1.frozen (p := ⟨g, o, none⟩) hg).trans hf
  obtain ⟨A1, c1, rfl, -, -⟩ := own_form o1
  have B1 := Lib.hid b1
  have O1 := Lib.hid o1
  clear b1 hc hf o1
  go_wp2
  go_loopw [16] (fun i wr => ReadRel g o rs more w i wr) (fun i _ => n' - (intOf i).toNat)
  case atStart => exact ⟨0, _, Nat.zero_le _, rfl, by rw [List.take_zero, List.foldl_nil, E1.out]; exact ownsRow_setCell_below O1.out hg _, below_both B1.out _ _⟩
  case round =>
    clear hc1 hf1
    obtain ⟨k, v, hk, rfl, ho, hb⟩ := hrel
    rw [E2.out] at hk
    have HA := Lib.hid (aside_set_below hb)
    have hsz := HA.out.size
    have hgw : g < wr.heap.size := by omega
    have hne : ¬ (wr.heap.size = g) := by omega
    have hS2 := (H2.out.aside HA.out).sees
    have hL := readsL_le (more.take k) rs
    rw [List.length_take, E1.out, E2.out] at hL
    have hL2 : ((more.take k).foldl readL rs).length ≤ 100000 := by omega
    have hcW : wr.cell? ⟨g, o, none⟩ = some v := (hb.cell (p := ⟨g, o, none⟩) hg).trans (World.cell?_setCell_same (h := HC.out) ..)
    have hfW : wr.frozen? ⟨g, o, none⟩ = false := (hb.frozen (p := ⟨g, o, none⟩) hg).trans ((World.frozen?_setCell ..).trans HF.out)
    obtain ⟨A2, c2, rfl, -, hs⟩ := own_form ho
    have HO := Lib.hid ho
    have HB := Lib.hid hb
    have HS := Lib.hid hs
    by_cases hlt : k < n'
    · have hx : more[k]? = some (more[k]'(by rw [E2.out]; exact hlt)) := List.getElem?_eq_getElem _
      generalize more[k]'(by rw [E2.out]; exact hlt) = x at hx
      have HN := Lib.hid (take_next (f := readL) hx rs)
      generalize (more.take k).foldl readL rs = ys at HN HO HS hL2 hcW HB
      obtain ⟨b, off, rfl, hbB, k1, k2, k3⟩ := hS2.at3 hx
      have HX := Lib.hid hx
      clear hx ho hb hs hS2 hL
      go_wp2_with fail
      refine (containsS_any A2 _ c2 ys wr.heap.size x.loc _ rfl (by omega) ((HS.out.alloc (Nat.le_refl _) _).more (by simp)) (by simp) (by rw [World.cell?_alloc_at _ _ _ _ rfl]; rfl)).mono ?_
      rintro e w2 ⟨rfl, b2⟩
      have BW : Hid (Below wr.heap.size wr w2) := Lib.hid (((Below.refl _ _).alloc (Nat.le_refl _) _).trans (b2.mono (by simp)))
      have hcW2 := (BW.out.cell (p := ⟨g, o, none⟩) hgw).trans hcW
      have hfW2 := (BW.out.frozen (p := ⟨g, o, none⟩) hgw).trans hfW
      by_cases hany : (ys.any fun s => s.loc == x.loc) = true
      · have HR : Hid (readL ys x = ys) := Lib.hid (by unfold readL; rw [if_pos hany])
        have HN2 := Lib.hid (HN.out.trans HR.out)
        clear b2
        go_wp2
        go_roundw
        case rel => exact ⟨k + 1, _, by rw [E2.out]; omega, by go_num, by rw [HN2.out]; exact own_below HO.out BW.out, HB.out.trans (BW.out.mono hsz)⟩
        case measure => simp [intOf]; omega
      · have hany' : (ys.any fun s => s.loc == x.loc) = false := by simpa using hany
        have HR : Hid (readL ys x = ys ++ [x]) := Lib.hid (by unfold readL; rw [if_neg hany])
        have HN2 := Lib.hid (HN.out.trans HR.out)
        have q0 : w2.cell? ⟨wr.heap.size, 0, none⟩ = some (.int .i64 x.loc) := (b2.cell (p := ⟨wr.heap.size, 0, none⟩) (by simp)).trans (by rw [World.cell?_alloc_at _ _ _ _ rfl]; rfl)
        have q1 : w2.cell? ⟨wr.heap.size, 1, none⟩ = some (.int .i64 x.ver) := (b2.cell (p := ⟨wr.heap.size, 1, none⟩) (by simp)).trans (by rw [World.cell?_alloc_at _ _ _ _ rfl]; rfl)
        have q2 : w2.cell? ⟨wr.heap.size, 2, none⟩ = some (.int .i64 x.val) := (b2.cell (p := ⟨wr.heap.size, 2, none⟩) (by simp)).trans (by rw [World.cell?_alloc_at _ _ _ _ rfl]; rfl)
        have hsz2 : wr.heap.size < w2.heap.size := by have := b2.size; simp at this; omega
        have hgw2 : g < w2.heap.size := by omega
        have HBW : Hid (Below w.heap.size (w.setCell ⟨g, o, none⟩ (.slice A2 ys.length c2)) (w2.drew.alloc (.cells #[.int .i64 x.loc, .int .i64 x.ver, .int .i64 x.val] 30))) := Lib.hid ((HB.out.trans (BW.out.drew.mono hsz)).alloc (by show w.heap.size ≤ w2.heap.size; omega) _)
        have HOW : Hid ((w2.drew.alloc (.cells #[.int .i64 x.loc, .int .i64 x.ver, .int .i64 x.val] 30)).ownsRow w.heap.size 30 3 (.slice A2 ys.length c2) ys.length (ys.flatMap seenC)) := Lib.hid (own_below HO.out (BW.out.drew.alloc (by show wr.heap.size ≤ w2.heap.size; omega) _))
        have HSW : Hid (Sees (w2.drew.alloc (.cells #[.int .i64 x.loc, .int .i64 x.ver, .int .i64 x.val] 30)) (w2.drew.heap.size + 1) (some ⟨w2.heap.size, 0, none⟩) (seenC x)) := Lib.hid (Sees.new w2.drew (seenC x) 30)
        have HZW : Hid (w.heap.size ≤ (w2.drew.alloc (.cells #[.int .i64 x.loc, .int .i64 x.ver, .int .i64 x.val] 30)).heap.size) := Lib.hid (Nat.le_trans (by omega : w.heap.size ≤ w2.heap.size) (by simp))
        have HC9 : Hid ((w.setCell ⟨g, o, none⟩ (.slice A2 ys.length c2)).cell? ⟨g, o, none⟩ = some (.slice A2 ys.length c2)) := Lib.hid (World.cell?_setCell_same (h := HC.out) ..)
        have HF9 : Hid ((w.setCell ⟨g, o, none⟩ (.slice A2 ys.length c2)).frozen? ⟨g, o, none⟩ = false) := Lib.hid ((World.frozen?_setCell ..).trans HF.out)
        clear hany b2 k1 k2 k3 hcW hfW
        go_wp2
        go_region_law (
          refine step_app rfl (.tmp 31) (.tmp 33) 23 rfl w.heap.size 30 i0 (.agg #[.int .i64 0, .int .i64 0, .int .i64 0]) 3 24 Try.underlying23 HI.out HZ0.out HZ1.out HZ2.out rfl (by decide) HOW.out HSW.out rfl (seen_one x) (by rfl) (by rfl) (by unfold maxLen; omega) (by omega) HZW.out ?_
          intro v3 w3 o3 b3
          obtain ⟨A3, c3, rfl, -, -⟩ := own_form o3
          have B3 := Lib.hid (HBW.out.trans b3)
          have O3 := Lib.hid o3
          have hc3 := (B3.out.cell (p := ⟨g, o, none⟩) hg).trans HC9.out
          have hf3 := (B3.out.frozen (p := ⟨g, o, none⟩) hg).trans HF9.out
          clear o3 b3)
        all_goals
          go_wp2
          go_roundw
          case rel => exact ⟨k + 1, _, by rw [E2.out]; omega, by go_num, by rw [HN2.out]; exact ownsRow_setCell_below (own_cast O3.out (by simp) (by simp)) hg _, below_again B3.out _⟩
          case measure => simp [intOf]; omega
    · have hkn : k = n' := by omega
      have HT : Hid (more.take k = more) := Lib.hid (List.take_of_length_le (by rw [E2.out]; omega))
      clear hb ho hs hcW hfW hS2
      go_wp2
      go_end0
      refine ⟨rfl, _, ?_, HB.out⟩
      have h9 := HO.out
      rw [HT.out] at h9
      rw [HT.out]
      exact h9
end Go.Proofs.Ytiomfncbhbokpaa
