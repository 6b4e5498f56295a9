/- slices.Backward at the levels: its closure as an iterator (a range over a function). -/
import Derived.RangeFuncBox
import Derived.RangeFuncLeaves
import Derived.RangeFuncNested
import Derived.RangeFuncBound
import Derived.RangeFuncCalls
import Derived.Shelf.Abstract
import Derived.Shelf.RegionOpen
import Derived.OwnWalkIn
import Derived.TacticsInMore
import Derived.LoopNIn
import Derived.LoopIn
import Derived.Test.YtiomfncbhbokpaaTDrop
namespace Go.Proofs.Ytiomfncbhbokpaa
open Go.RowKit Go.Shelf
set_option linter.unusedVariables false
attribute [local go_sem] Oper.semAt_some

/-- What has come when k rounds are over. -/
def upto {α : Type} (f : Nat → α) (k : Nat) : List α := (List.range k).map f
theorem upto_succ {α : Type} (f : Nat → α) (k : Nat) : upto f (k + 1) = upto f k ++ [f k] := by simp [upto, List.range_succ]
theorem upto_length {α : Type} (f : Nat → α) (k : Nat) : (upto f k).length = k := by simp [upto]
def lvV (l : LC) : Value := .agg #[.slice l.A1 l.n1 l.c1, .slice l.A2 l.n2 l.c2, .slice l.A3 l.n3 l.c3]

set_option maxRecDepth 100000 in
set_option maxHeartbeats 2000000 in
theorem back1_in (F : Fence) {α : Type} (n : Nat) (h62 : F.fn 62) (hro : F.round = none) (hn : 1 ≤ n) (l Bs n₀ b off len cap : Nat) (ls : Nat → LC) (f : Nat → α) (enc : α → Array Value) (hf : ∀ q, q < len → enc (f q) = #[.int .i64 (q : Int), .agg #[.slice (ls q).A1 (ls q).n1 (ls q).c1, .slice (ls q).A2 (ls q).n2 (ls q).c2, .slice (ls q).A3 (ls q).n3 (ls q).c3]]) (hlen : len ≤ 1000) (hb : b < n₀) (J Jx : List α → World → Prop)
    (hY : ∀ pre x W, J pre W → pre.length < len → YieldAt F (n - 1) Try.prog l (enc x) W fun e W' =>
      (e = .returned (.bool true) ∧ J (pre ++ [x]) W' ∧ Below n₀ W W') ∨ (e = .returned (.bool false) ∧ Jx (pre ++ [x]) W'))
    (W : World) (hBs0 : Bs < n₀) (hBs : W.cell? ⟨Bs, 0, none⟩ = some (.slice (some ⟨b, off, none⟩) len cap))
    (hc : ∀ j, j < len → W.cell? ⟨b, off + j * 3, none⟩ = some (.slice (ls j).A1 (ls j).n1 (ls j).c1) ∧ W.cell? ⟨b, off + j * 3 + 1, none⟩ = some (.slice (ls j).A2 (ls j).n2 (ls j).c2) ∧ W.cell? ⟨b, off + j * 3 + 2, none⟩ = some (.slice (ls j).A3 (ls j).n3 (ls j).c3)) (h0 : J [] W) :
    CallsIn F n Try.prog 62 #[.func (.yield l) #[] #[], .pointer (some ⟨Bs, 0, none⟩)] W fun e W' => (∃ v, e = .returned v) ∧
      ((∃ ys, ys = upto (fun j => f (len - 1 - j)) len ∧ J ys W') ∨ (∃ pre, (∃ k, k ≤ len ∧ pre = upto (fun j => f (len - 1 - j)) k) ∧ Jx pre W')) := by
  have HC := Lib.hid hc
  have HF := Lib.hid hf
  clear hc hf
  refine callsIn_of_wp Try.func62 rfl h62 ?_ hro
  simp only [Try.ntmps62, List.size_toArray, List.length_cons, List.length_nil, Nat.reduceAdd, Nat.reduceSub, Array.replicate_succ, Array.replicate_zero, List.push_toArray, List.append_toArray, List.nil_append, List.cons_append]
  gi_wp2
  gi_loopw [3] (fun i wr => ∃ (k : Nat) (z : Int), k ≤ len ∧ i = .int .i64 z ∧ z = (len : Int) - 1 - k ∧ J (upto (fun j => f (len - 1 - j)) k) wr ∧ Below n₀ W wr)
    (fun i _ => (intOf i + 1).toNat)
  case atStart => exact ⟨0, _, Nat.zero_le _, rfl, by omega, h0, Below.refl _ _⟩
  case round =>
    obtain ⟨k, z, hk, rfl, hz, hJs, hnx⟩ := hrel
    have hBs2 := (hnx.cell (p := ⟨Bs, 0, none⟩) hBs0).trans hBs
    by_cases hlt : k < len
    · obtain ⟨q, rfl⟩ : ∃ q : Nat, z = q := ⟨z.toNat, by omega⟩
      have hq : len - 1 - k = q := by omega
      have hql : q < len := by omega
      obtain ⟨fn, tmps, assign, body, hy, hR⟩ := hY _ (f q) wr hJs (by rw [upto_length]; exact hlt)
      rw [HF.out q hql] at hy
      obtain ⟨c0, c1, c2⟩ := HC.out q hql
      have d0 := (hnx.cell (p := ⟨b, off + q * 3, none⟩) hb).trans c0
      have d1 := (hnx.cell (p := ⟨b, off + q * 3 + 1, none⟩) hb).trans c1
      have d2 := (hnx.cell (p := ⟨b, off + q * 3 + 2, none⟩) hb).trans c2
      have HQ := Lib.hid hq
      have HZ := Lib.hid hz
      clear hq hz c0 c1 c2
      gi_wp2
      refine hR.mono ?_
      rintro e W3 (⟨rfl, hJ3, hk3⟩ | ⟨rfl, hJx3⟩)
      · gi_wp2
        go_roundw
        case rel => exact ⟨k + 1, _, by omega, rfl, by have := HZ.out; omega, by rw [upto_succ, HQ.out]; exact hJ3, hnx.trans hk3⟩
        case measure => simp [intOf] <;> omega
      · gi_wp2
        refine bodyPost_ret (results_none rfl _ _ _) rfl ?_
        exact ⟨⟨_, rfl⟩, .inr ⟨_, ⟨k + 1, by omega, by rw [upto_succ, HQ.out]⟩, hJx3⟩⟩
    · obtain rfl : k = len := by omega
      have hz2 : ¬ (0 ≤ z) := by omega
      clear hz
      gi_wp2
      go_end0
      first
        | exact ⟨⟨_, rfl⟩, .inl ⟨_, rfl, hJs⟩⟩
        | exact ⟨⟨_, rfl⟩, .inl hJs⟩
        | exact .inl hJs
set_option maxRecDepth 100000 in
theorem back1_nil_in (F : Fence) {α : Type} (n : Nat) (h62 : F.fn 62) (hro : F.round = none) (l Bs c : Nat) (A : Option Addr) (J : List α → World → Prop) (W : World) (hBs : W.cell? ⟨Bs, 0, none⟩ = some (.slice A 0 c)) (h0 : J [] W) :
    CallsIn F n Try.prog 62 #[.func (.yield l) #[] #[], .pointer (some ⟨Bs, 0, none⟩)] W fun e W' => (∃ v, e = .returned v) ∧ J [] W' := by
  refine callsIn_of_wp Try.func62 rfl h62 ?_ hro
  simp only [Try.ntmps62, List.size_toArray, List.length_cons, List.length_nil, Nat.reduceAdd, Nat.reduceSub, Array.replicate_succ, Array.replicate_zero, List.push_toArray, List.append_toArray, List.nil_append, List.cons_append]
  gi_wp2
  gi_loopw [3] (fun i wr => i = .int .i64 (-1) ∧ J [] wr) (fun _ _ => 0)
  case atStart => exact ⟨rfl, h0⟩
  case round =>
    obtain ⟨rfl, hJs⟩ := hrel
    gi_wp2
    go_end0
    exact ⟨⟨_, rfl⟩, hJs⟩
set_option maxRecDepth 100000 in
theorem backward_in (F : Fence) (n : Nat) (h46 : F.fn 46) (hro : F.round = none) (a : Option Addr) (len cap : Nat) (w : World) :
    CallsIn F n Try.prog 46 #[.slice a len cap] w fun e w' => e = .returned (.func (.func 62) #[] #[.pointer (some ⟨w.heap.size, 0, none⟩)]) ∧ w' = w.alloc (.cells #[.slice a len cap] 22) := by
  refine callsIn_of_wp Try.func46 rfl h46 ?_ hro
  simp only [Try.ntmps46, List.size_toArray, List.length_cons, List.length_nil, Nat.reduceAdd, Nat.reduceSub, Array.replicate_succ, Array.replicate_zero, List.push_toArray, List.append_toArray, List.nil_append, List.cons_append]
  gi_wp2
  go_ret
  exact ⟨rfl, rfl⟩

/-- A level as an iterator hands it on: its place, its three slices, what they read as. -/
def LvAt (w : World) (B : Nat) : Type := { x : Nat × LC × Lv // Lev w B x.2.1 x.2.2 ∧ SmallV 80000 x.2.2 }
def LvAt.lv {w : World} {B : Nat} (x : LvAt w B) : Lv := x.val.2.2
def LvAt.lc {w : World} {B : Nat} (x : LvAt w B) : LC := x.val.2.1
theorem LvAt.ok {w : World} {B : Nat} (x : LvAt w B) : Lev w B x.lc x.lv := x.property.1
theorem LvAt.small {w : World} {B : Nat} (x : LvAt w B) : SmallV 80000 x.lv := x.property.2
def LvAt.enc {w : World} {B : Nat} (x : LvAt w B) : Array Value := #[.int .i64 (x.val.1 : Int), .agg #[.slice x.lc.A1 x.lc.n1 x.lc.c1, .slice x.lc.A2 x.lc.n2 x.lc.c2, .slice x.lc.A3 x.lc.n3 x.lc.c3]]
theorem upto_prefix {α : Type} (f : Nat → α) {k n : Nat} (h : k ≤ n) : upto f k <+: upto f n := by
  obtain ⟨d, rfl⟩ := Nat.exists_eq_add_of_le h
  clear h
  induction d with
  | zero => exact List.prefix_refl _
  | succ d ih => exact ih.trans ⟨[f (k + d)], (upto_succ f (k + d)).symm⟩
theorem upto_rev {α β : Type} (g : α → β) (f : Nat → α) (ls : List β) (h : ∀ q x, ls[q]? = some x → g (f q) = x) : (upto (fun j => f (ls.length - 1 - j)) ls.length).map g = ls.reverse := by
  apply List.ext_getElem
  · simp [upto]
  · intro i h1 h2
    simp only [upto, List.map_map, List.getElem_map, List.getElem_range, Function.comp, List.getElem_reverse]
    refine h _ _ ?_
    rw [List.getElem?_eq_getElem]
/-- slices.Backward hands back a value that stops, at 'Kp := Below n₀'. -/
theorem back_stops (F : Fence) (n : Nat) (h62 : F.fn 62) (hro : F.round = none) (hn : 1 ≤ n) (Bs n₀ : Nat) (A : Option Addr) (cap : Nat) (lcs : List LC) (ls : List Lv) (w0 : World) (hlev : Levs w0 n₀ lcs ls) (hsv : ∀ x ∈ ls, SmallV 80000 x) (hlen : ls.length ≤ 1000) (w : World) (hBs : Bs < n₀) (hn₀ : n₀ ≤ w.heap.size)
    (hc : w.cell? ⟨Bs, 0, none⟩ = some (.slice A ls.length cap)) (hS : Sees w n₀ A (lcs.flatMap lvC)) :
    SeqStopsK F n Try.prog 62 #[.pointer (some ⟨Bs, 0, none⟩)] (LvAt.enc (w := w0) (B := n₀)) (Below n₀) (fun ys => ys.map LvAt.lv = ls.reverse) (fun pre => pre.map LvAt.lv <+: ls.reverse) ls.length w := fun l J Jx W hW _ _ hY h0 => by
  have hc' := (hW.cell (p := ⟨Bs, 0, none⟩) (Nat.lt_of_lt_of_le hBs hn₀)).trans hc
  have hS' := hS.below (hW.mono hn₀)
  rcases Nat.eq_zero_or_pos ls.length with h9 | h9
  · have hls : ls = [] := List.eq_nil_of_length_eq_zero h9
    subst hls
    exact (back1_nil_in F n h62 hro l Bs cap A J W hc' h0).mono fun e W' ⟨he, hj⟩ => ⟨he, .inl ⟨_, rfl, hj⟩⟩
  · have hll := hlev.length
    rcases hS' with h | ⟨b, off, rfl, hb, -, hcell⟩
    · have := flat_length (f := lvC) lv_len lcs
      rw [h] at this
      simp at this
      omega
    · have hget : ∀ q (hq : q < ls.length), Lev w0 n₀ (lcs[q]'(by omega)) ls[q] ∧ SmallV 80000 ls[q] := fun q hq => by
        obtain ⟨l, h1, h2⟩ := hlev.get q ls[q] (List.getElem?_eq_getElem hq)
        rw [List.getElem?_eq_getElem (by omega)] at h1
        cases h1
        exact ⟨h2, hsv _ (List.getElem_mem _)⟩
      let f : Nat → LvAt w0 n₀ := fun q => if hq : q < ls.length then ⟨(q, lcs[q]'(by omega), ls[q]), hget q hq⟩ else ⟨(0, lcs[0]'(by omega), ls[0]), hget 0 h9⟩
      have hf : ∀ q (hq : q < ls.length), f q = ⟨(q, lcs[q]'(by omega), ls[q]), hget q hq⟩ := fun q hq => dif_pos hq
      have hr := upto_rev LvAt.lv f ls (fun q x hx => by
        obtain ⟨hq, rfl⟩ := List.getElem?_eq_some_iff.1 hx
        rw [hf q hq]; rfl)
      refine (back1_in F n h62 hro hn l Bs n₀ b off ls.length cap (fun j => lcs[j]?.getD ⟨none, 0, 0, none, 0, 0, none, 0, 0⟩) f LvAt.enc ?_ hlen hb J Jx hY W hBs hc' ?_ h0).mono ?_
      · intro q hq
        rw [hf q hq]
        have hx : lcs[q]? = some (lcs[q]'(by omega)) := List.getElem?_eq_getElem (by omega)
        simp only [hx]
        rfl
      · intro j hj
        have hx : lcs[j]? = some (lcs[j]'(by omega)) := List.getElem?_eq_getElem (by omega)
        simp only [hx]
        generalize lcs[j]'(by omega) = y at hx
        have g0 := flat_get (f := lvC) lv_len lcs j 0 y hx (by omega)
        have g1 := flat_get (f := lvC) lv_len lcs j 1 y hx (by omega)
        have g2 := flat_get (f := lvC) lv_len lcs j 2 y hx (by omega)
        refine ⟨hcell _ _ ((show _ = _ from g0).trans rfl), ?_, ?_⟩
        · have := hcell _ _ (g1.trans (show _ = some (Value.slice y.A2 y.n2 y.c2) from rfl)); rw [← Nat.add_assoc] at this; exact this
        · have := hcell _ _ (g2.trans (show _ = some (Value.slice y.A3 y.n3 y.c3) from rfl)); rw [← Nat.add_assoc] at this; exact this
      · rintro e W' ⟨he, ⟨ys, rfl, hj⟩ | ⟨pre, ⟨k, hk, rfl⟩, hj⟩⟩
        · exact ⟨he, .inl ⟨_, hr, hj⟩⟩
        · refine ⟨he, .inr ⟨_, ?_, hj⟩⟩
          rw [← hr]
          exact (upto_prefix _ hk).map _
end Go.Proofs.Ytiomfncbhbokpaa
