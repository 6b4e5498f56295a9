import Derived.Test.YtiomfncbhbokpaaTInsert
import Derived.Test.YtiomfncbhbokpaaTRead
namespace Go.Proofs.Ytiomfncbhbokpaa
open Go.RowKit
set_option linter.unusedVariables false

def hitW (ws : List Wr) (l : Int) : Nat := ws.findIdx (fun s => s.loc == l)
def moreW (ws : List Wr) (l : Int) : Nat := ws.findIdx (fun s => decide (l < s.loc))
def putW (ws : List Wr) (x : Wr) : List Wr := if hitW ws x.loc < ws.length then ws.set (hitW ws x.loc) x else insAt ws (moreW ws x.loc) x
theorem moreW_le (ws : List Wr) (l : Int) : moreW ws l ≤ ws.length := List.findIdx_le_length
theorem putW_le (ws : List Wr) (x : Wr) : (putW ws x).length ≤ ws.length + 1 := by
  unfold putW
  split
  · simp
  · rw [insAt_length _ (moreW_le _ _)]; exact Nat.le_refl _
theorem putsW_le : ∀ (more ws : List Wr), (more.foldl putW ws).length ≤ ws.length + more.length
  | [], ws => by simp
  | s :: more, ws => by
    have h1 := putsW_le more (putW ws s)
    have h2 := putW_le ws s
    rw [List.foldl_cons, List.length_cons]
    omega
theorem flat_set (ws : List Wr) (k : Nat) (x : Wr) : ((ws.flatMap wrC).set (k * 2) (.int .i64 x.loc)).set (k * 2 + 1) (.int .i64 x.val) = (ws.set k x).flatMap wrC := by
  induction ws generalizing k with
  | nil => simp
  | cons y r ih =>
    cases k with
    | zero => simp [wrC]
    | succ k =>
      rw [List.set_cons_succ, List.flatMap_cons, List.flatMap_cons, ← ih, show (k + 1) * 2 = k * 2 + 2 by omega]
      simp [wrC]
def WriteRel (g o : Nat) (ws more : List Wr) (w : World) (i : Value) (wr : World) : Prop :=
  ∃ (k : Nat) (v : Value), k ≤ more.length ∧ i = .int .i64 k ∧ wr.ownsRow w.heap.size 33 2 v ((more.take k).foldl putW ws).length (((more.take k).foldl putW ws).flatMap wrC) ∧ Below w.heap.size (w.setCell ⟨g, o, none⟩ v) wr
theorem own_form' {w : World} {base : Nat} {e : TypeId} {n size : Nat} {v : Value} {xs : List Value} (h : w.ownsRow base e size v n xs) (he : Fine e := by decide) : ∃ A c, v = .slice A n c ∧ n ≤ c ∧ Sees w w.heap.size A xs ∧ ∀ b, A = some ⟨b, 0, none⟩ → base ≤ b ∧ b < w.heap.size := by
  obtain ⟨A, c, rfl, hc, hs⟩ := own_form h he
  exact ⟨A, c, rfl, hc, hs, fun b hb => h.lt b (by rw [hb]; rfl)⟩

set_option maxRecDepth 100000 in
set_option maxHeartbeats 2000000 in
theorem write_any (g o : Nat) (A : Option Addr) (n c : Nat) (ws : List Wr) (A' : Option Addr) (n' c' : Nat) (more : List Wr) (w : World) (hg : g < w.heap.size) (hc : w.cell? ⟨g, o + 1, none⟩ = some (.slice A n c)) (hf : w.frozen? ⟨g, o + 1, none⟩ = false)
    (e1 : ws.length = n) (e2 : more.length = n') (m : n + n' ≤ 90000) (h1 : SeesX w g A (ws.flatMap wrC)) (h2 : SeesX w g A' (more.flatMap wrC)) :
    Calls Try.prog 40 #[.pointer (some ⟨g, o, none⟩), .slice A' n' c'] w (SetOne g (o + 1) 33 2 ((more.foldl putW ws).flatMap wrC) (more.foldl putW ws).length w) := by
  have E1 := Lib.hid e1
  have E2 := Lib.hid e2
  have H1 := Lib.hid h1
  have H2 := Lib.hid h2
  have HC := Lib.hid hc
  have HF := Lib.hid hf
  clear e1 e2 h1 h2
  go_enter Try.func40, Try.ntmps40
  go_wp2_with fail
  refine (cloneW_any A n c (ws.flatMap wrC) w (by rw [flat_length wr_len, E1.out]) (by omega) (flat_one wr_one ws) H1.out.sees).mono ?_
  rintro e w1 ⟨v1, rfl, o1, b1⟩
  have hc1 := (b1.cell (p := ⟨g, o + 1, none⟩) hg).trans hc
  have hf1 := (b1.frozen (p := ⟨g, o + 1, none⟩) hg).trans hf
  obtain ⟨A1, c1, rfl, -, -⟩ := own_form o1
  have B1 := Lib.hid b1
  have O1 := Lib.hid o1
  clear b1 hc hf o1
  go_wp2
  go_loopw [18] (fun i wr => WriteRel g (o + 1) ws more w i wr) (fun i _ => n' - (intOf i).toNat)
  case atStart => exact ⟨0, _, Nat.zero_le _, rfl, by rw [List.take_zero, List.foldl_nil, E1.out]; exact ownsRow_setCell_below O1.out hg _, below_both B1.out _ _⟩
  case round =>
    clear hc1 hf1
    obtain ⟨k, v, hk, rfl, ho, hb⟩ := hrel
    rw [E2.out] at hk
    have HA := Lib.hid (aside_set_below hb)
    have hsz := HA.out.size
    have hgw : g < wr.heap.size := by omega
    have hne : ¬ (wr.heap.size = g) := by omega
    have hS2 := (H2.out.aside HA.out).sees
    have hL := putsW_le (more.take k) ws
    rw [List.length_take, E1.out, E2.out] at hL
    have hL2 : ((more.take k).foldl putW ws).length ≤ 90000 := by omega
    have hcW : wr.cell? ⟨g, o + 1, none⟩ = some v := (hb.cell (p := ⟨g, o + 1, none⟩) hg).trans (World.cell?_setCell_same (h := HC.out) ..)
    have hfW : wr.frozen? ⟨g, o + 1, none⟩ = false := (hb.frozen (p := ⟨g, o + 1, none⟩) hg).trans ((World.frozen?_setCell ..).trans HF.out)
    obtain ⟨A2, c2, rfl, hc2, hs, hlt2⟩ := own_form' ho
    have HO := Lib.hid ho
    have HB := Lib.hid hb
    have HS := Lib.hid hs
    have HLT := Lib.hid hlt2
    clear hlt2
    by_cases hlt : k < n'
    · have hx : more[k]? = some (more[k]'(by rw [E2.out]; exact hlt)) := List.getElem?_eq_getElem _
      generalize more[k]'(by rw [E2.out]; exact hlt) = x at hx
      have HN := Lib.hid (take_next (f := putW) hx ws)
      generalize (more.take k).foldl putW ws = ys at HN HO HS hL2 hcW HB hc2
      obtain ⟨b, off, rfl, hbB, k1, k2⟩ := hS2.at2 hx
      have HX := Lib.hid hx
      clear hx ho hb hs hS2 hL
      go_wp2_with fail
      refine (indexW_any A2 _ c2 ys wr.heap.size x.loc _ rfl (by omega) ((HS.out.alloc (Nat.le_refl _) _).more (by simp)) (by simp) (by rw [World.cell?_alloc_at _ _ _ _ rfl]; rfl)).mono ?_
      unfold IntBelow
      rintro e w2 ⟨rfl, b2⟩
      have BW : Hid (Below wr.heap.size wr w2) := Lib.hid (((Below.refl _ _).alloc (Nat.le_refl _) _).trans (b2.mono (by simp)))
      have hcW2 := (BW.out.cell (p := ⟨g, o + 1, none⟩) hgw).trans hcW
      have hfW2 := (BW.out.frozen (p := ⟨g, o + 1, none⟩) hgw).trans hfW
      have q0 : w2.cell? ⟨wr.heap.size, 0, none⟩ = some (.int .i64 x.loc) := (b2.cell (p := ⟨wr.heap.size, 0, none⟩) (by simp)).trans (by rw [World.cell?_alloc_at _ _ _ _ rfl]; rfl)
      have q1 : w2.cell? ⟨wr.heap.size, 1, none⟩ = some (.int .i64 x.val) := (b2.cell (p := ⟨wr.heap.size, 1, none⟩) (by simp)).trans (by rw [World.cell?_alloc_at _ _ _ _ rfl]; rfl)
      have hsz2 : wr.heap.size < w2.heap.size := by have := b2.size; simp at this; omega
      have hgw2 : g < w2.heap.size := by omega
      have HC9 : ∀ v, Hid ((w.setCell ⟨g, o + 1, none⟩ v).cell? ⟨g, o + 1, none⟩ = some v) := fun v => Lib.hid (World.cell?_setCell_same (h := HC.out) ..)
      have HC9 := Lib.hid HC9
      have HF9 : ∀ v, Hid ((w.setCell ⟨g, o + 1, none⟩ v).frozen? ⟨g, o + 1, none⟩ = false) := fun v => Lib.hid ((World.frozen?_setCell ..).trans HF.out)
      have HF9 := Lib.hid HF9
      have HB2 : Hid (Below w.heap.size (w.setCell ⟨g, o + 1, none⟩ (.slice A2 ys.length c2)) w2) := Lib.hid (HB.out.trans (BW.out.mono hsz))
      have HO2 : Hid (w2.ownsRow w.heap.size 33 2 (.slice A2 ys.length c2) ys.length (ys.flatMap wrC)) := Lib.hid (own_below HO.out BW.out)
      clear b2 k1 k2 hcW hfW
      by_cases hh : hitW ys x.loc < ys.length
      · have hi : idxOf (fun s : Wr => s.loc == x.loc) ys = (hitW ys x.loc : Int) := by unfold idxOf; exact if_pos hh
        have HR : Hid (putW ys x = ys.set (hitW ys x.loc) x) := Lib.hid (by unfold putW; rw [if_pos hh])
        have HN2 := Lib.hid (HN.out.trans HR.out)
        rw [hi]
        generalize hitW ys x.loc = p at hh HN2 HR
        clear hi
        obtain ⟨b9, rfl⟩ : ∃ b9, A2 = some ⟨b9, 0, none⟩ := by
          rcases HO2.out.2 with ⟨h8, h9⟩ | ⟨b9, cap, cur, h8, _⟩
          · omega
          · exact ⟨b9, by injection h8⟩
        have hst := HO2.out.stored (p * 2) (.int .i64 x.loc)
        have HS1 := Lib.hid (hst.1.stored (p * 2 + 1) (.int .i64 x.val))
        have hl2 : (ys.flatMap wrC).length = ys.length * 2 := flat_length wr_len ys
        have hy : ys[p]? = some ys[p] := List.getElem?_eq_getElem hh
        generalize ys[p] = y at hy
        have hcA : w2.cell? ⟨b9, p * 2, none⟩ = some (.int .i64 y.loc) := (HO2.out.cellAt (p * 2) (by omega)).trans ((flat_get wr_len ys p 0 y hy (by omega)).trans rfl)
        have hcB : w2.cell? ⟨b9, p * 2 + 1, none⟩ = some (.int .i64 y.val) := (HO2.out.cellAt (p * 2 + 1) (by omega)).trans ((flat_get wr_len ys p 1 y hy (by omega)).trans rfl)
        have hfA := HO2.out.frozenAt (p * 2)
        have hfB := HO2.out.frozenAt (p * 2 + 1)
        have hb9 := HLT.out b9 rfl
        have hgb : ¬ (g = b9) := by omega
        have hwb : ¬ (wr.heap.size = b9) := by omega
        clear hst hl2 hy
        go_wp2
        go_region_law (fail)
        all_goals
          go_wp2
          go_roundw
          case rel => exact ⟨k + 1, _, by rw [E2.out]; omega, by go_num, by rw [HN2.out]; exact own_cast (own_less HS1.out.1 (Nat.le_refl _)) (by rw [List.length_set]) (flat_set ys p x), ((HB2.out.drew).setCell (by show w.heap.size ≤ b9; omega) _).setCell (by show w.heap.size ≤ b9; omega) _⟩
          case measure => simp [intOf]; omega
      · have hi : idxOf (fun s : Wr => s.loc == x.loc) ys = -1 := by unfold idxOf; exact if_neg hh
        have HR : Hid (putW ys x = insAt ys (moreW ys x.loc) x) := Lib.hid (by unfold putW; rw [if_neg hh])
        have HN2 := Lib.hid (HN.out.trans HR.out)
        have hsW : Sees w2 w2.heap.size A2 (ys.flatMap wrC) := (HS.out.below BW.out).more BW.out.size
        have HSW := Lib.hid hsW
        rw [hi]
        clear hi hh hsW
        go_wp2_with fail
        refine (indexM_any A2 _ c2 ys wr.heap.size x.loc _ rfl (by omega) HSW.out hsz2 q0).mono ?_
        unfold IntBelow
        rintro e w3 ⟨rfl, b3⟩
        have B3 : Hid (Below wr.heap.size wr w3) := Lib.hid (BW.out.trans (b3.mono BW.out.size))
        have hcW3 := (b3.cell (p := ⟨g, o + 1, none⟩) hgw2).trans hcW2
        have hfW3 := (b3.frozen (p := ⟨g, o + 1, none⟩) hgw2).trans hfW2
        have r0 := (b3.cell (p := ⟨wr.heap.size, 0, none⟩) hsz2).trans q0
        have r1 := (b3.cell (p := ⟨wr.heap.size, 1, none⟩) hsz2).trans q1
        have hsz3 : wr.heap.size < w3.heap.size := by have := b3.size; omega
        have hgw3 : g < w3.heap.size := by omega
        have HB3 : Hid (Below w.heap.size (w.setCell ⟨g, o + 1, none⟩ (.slice A2 ys.length c2)) w3) := Lib.hid (HB.out.trans (B3.out.mono hsz))
        have HO3 : Hid (w3.ownsRow w.heap.size 33 2 (.slice A2 ys.length c2) ys.length (ys.flatMap wrC)) := Lib.hid (own_below HO.out B3.out)
        have HBW : Hid (Below w.heap.size (w.setCell ⟨g, o + 1, none⟩ (.slice A2 ys.length c2)) (w3.alloc (.cells #[.int .i64 x.loc, .int .i64 x.val] 33)).drew) := Lib.hid (HB3.out.alloc (by show w.heap.size ≤ w3.heap.size; omega) _).drew
        have HIN : Hid (Calls Try.prog 60 #[.slice A2 ys.length c2, .int .i64 (moreW ys x.loc), .slice (some ⟨w3.heap.size, 0, none⟩) 1 1] (w3.alloc (.cells #[.int .i64 x.loc, .int .i64 x.val] 33)).drew (IsIns w.heap.size ys (moreW ys x.loc) x (w3.alloc (.cells #[.int .i64 x.loc, .int .i64 x.val] 33)).drew)) :=
          Lib.hid (insert_any w.heap.size A2 ys.length c2 (moreW ys x.loc) ys w3.heap.size x _ rfl (by omega) (moreW_le _ _) (by have h9 := HBW.out.size; rwa [setCell_size] at h9)
            (own_below HO3.out ((Below.refl _ _).alloc (Nat.le_refl _) _).drew) (heap_alloc_new w3 _) (fun h => by have := (HO3.out.lt _ h).2; omega))
        have HLN : Hid (ys.length + 1 = (insAt ys (moreW ys x.loc) x).length) := Lib.hid (insAt_length x (moreW_le _ _)).symm
        clear hcW2 hfW2 q0 q1 b3
        by_cases hm : moreW ys x.loc < ys.length
        · have hi : idxOf (fun s : Wr => decide (x.loc < s.loc)) ys = (moreW ys x.loc : Int) := by unfold idxOf; exact if_pos hm
          rw [hi]
          clear hi
          generalize moreW ys x.loc = p at hm HIN HLN HN2
          go_wp2
          go_region_with (
            go_at_call 60
            refine HIN.out.mono ?_
            unfold IsIns
            rintro e w4 ⟨v4, rfl, o4, b4⟩
            obtain ⟨A4, c4, rfl, -, -⟩ := own_form o4
            have O4 := Lib.hid o4
            have B4 := Lib.hid (HBW.out.trans b4)
            have hc4 := (B4.out.cell (p := ⟨g, o + 1, none⟩) hg).trans (HC9.out _).out
            have hf4 := (B4.out.frozen (p := ⟨g, o + 1, none⟩) hg).trans (HF9.out _).out
            clear o4 b4)
          all_goals
            go_wp2
            go_roundw
            case rel => exact ⟨k + 1, _, by rw [E2.out]; omega, by go_num, by rw [HN2.out]; exact ownsRow_setCell_below (own_cast O4.out HLN.out rfl) hg _, below_again B4.out _⟩
            case measure => simp [intOf]; omega
        · have hi : idxOf (fun s : Wr => decide (x.loc < s.loc)) ys = -1 := by unfold idxOf; exact if_neg hm
          have hmm : moreW ys x.loc = ys.length := by have := moreW_le ys x.loc; omega
          rw [hi]
          rw [hmm] at HIN HLN HN2
          clear hi hm hmm
          go_wp2
          go_region_with (
            go_at_call 60
            refine HIN.out.mono ?_
            unfold IsIns
            rintro e w4 ⟨v4, rfl, o4, b4⟩
            obtain ⟨A4, c4, rfl, -, -⟩ := own_form o4
            have O4 := Lib.hid o4
            have B4 := Lib.hid (HBW.out.trans b4)
            have hc4 := (B4.out.cell (p := ⟨g, o + 1, none⟩) hg).trans (HC9.out _).out
            have hf4 := (B4.out.frozen (p := ⟨g, o + 1, none⟩) hg).trans (HF9.out _).out
            clear o4 b4)
          all_goals
            go_wp2
            go_roundw
            case rel => exact ⟨k + 1, _, by rw [E2.out]; omega, by go_num, by rw [HN2.out]; exact ownsRow_setCell_below (own_cast O4.out HLN.out rfl) hg _, below_again B4.out _⟩
            case measure => simp [intOf]; omega
    · have hkn : k = n' := by omega
      have HT : Hid (more.take k = more) := Lib.hid (List.take_of_length_le (by rw [E2.out]; omega))
      clear hb ho hs hcW hfW hS2
      go_wp2
      go_end0
      refine ⟨rfl, _, ?_, HB.out⟩
      have h9 := HO.out
      rw [HT.out] at h9
      rw [HT.out]
      exact h9
end Go.Proofs.Ytiomfncbhbokpaa
