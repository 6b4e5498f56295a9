/- copy of elements of several cells into a row that is known whole; the lists behind slices.Insert. No program is in sight. -/
import Derived.Test.YtiomfncbhbokpaaTMut
import Derived.Laws.CopyOwn
import Derived.Deep.RegionLaw
namespace Go.Proofs.Ytiomfncbhbokpaa
open Go.RowKit
set_option linter.unusedVariables false

section
variable {P : Program}
theorem run_copyN (w : World) (size : Nat) (dT sT ty elem : TypeId) (g o dLen dCap : Nat) (a : Addr) (sLen sCap : Nat) (cur : Array Value) (t : TypeId) (cs : List Value) (k : Nat)
    (hu : P.underlying dT = some (.slice elem)) (hs : (P.info? elem).map (·.size) = some size)
    (hg : w.heap[g]? = some (.cells cur t (0, 0))) (hk : Nat.min sLen dLen = k) (hn : cs.length = k * size)
    (hsrc : ∀ j v, cs[j]? = some v → w.cell? (a.add j) = some v) (hfit : o + cs.length ≤ cur.size) (h1 : ∀ v ∈ cs, v.oneCell' = true) :
    (Builtin.copy_ #[dT, sT] ty #[.slice (some ⟨g, o, none⟩) dLen dCap, .slice (some a) sLen sCap]).run P w =
      .ok (goInt k) (w.setRow g (cur.toList.take o ++ cs ++ cur.toList.drop (o + cs.length)).toArray) := by
  have hl := run_loadCells_list (P := P) w a cs hsrc
  have hst := run_storeCells_at P g o t cs 0 cur w hg (by simpa using hfit) h1
  cases hq : P.info? elem with
  | none => simp [hq] at hs
  | some i =>
    have hi : i.size = size := by simpa [hq] using hs
    simp [Builtin.copy_, run_underlying hu, Builtin.lenOf, Builtin.firstCells, sizeOf, typeInfo, hq, hi, hk, ← hn, hl, hst]
theorem wpList_copyN {w : World} {ops : Array Oper} {rest : List Oper} {o : Oper} {a : Act} {Q : Exit → Act → World → Prop} (hgd : o.guard = none) (d s : Operand) (dT sT : TypeId)
    (ho : o.op = .call { callee := .builtin .copy, args := #[d, s], argTypes := #[dT, sT] }) (size : Nat) (elem : TypeId) (hu : P.underlying dT = some (.slice elem)) (hsz : (P.info? elem).map (·.size) = some size)
    (ad : Addr) (dLen dCap sLen sCap g off : Nat) (hd : a.eval d = .slice (some ⟨g, off, none⟩) dLen dCap) (hs : a.eval s = .slice (some ad) sLen sCap)
    (cur : List Value) (t : TypeId) (hg : w.heap[g]? = some (.cells cur.toArray t (0, 0))) (cs : List Value) (k : Nat) (hk : Nat.min sLen dLen = k) (hn : cs.length = k * size)
    (hsrc : ∀ j v, cs[j]? = some v → w.cell? (ad.add j) = some v)
    (hfit : off + cs.length ≤ cur.length) (h1 : ∀ v ∈ cs, v.oneCell' = true) (B : Nat) (w0 : World) (hb : Below B w0 w) (hBg : B ≤ g)
    (h : ∀ w', Hid (w'.heap[g]? = some (.cells (splice cur off cs).toArray t (0, 0))) → Below B w0 w' → Hid (∀ q, q ≠ g → w'.heap[q]? = w.heap[q]?) → wpList P ops Q rest (a.put o.dst (goInt k)) w') :
    wpList P ops Q (o :: rest) a w := by
  refine wpList_plain hgd fun K hK => ?_
  have hrun := run_copyN (P := P) w size dT sT o.type elem g off dLen dCap ad sLen sCap cur.toArray t cs k hu hsz hg hk hn hsrc (by simpa using hfit) h1
  unfold Oper.wp
  simp [execOp, ho, resolve, invoke, builtin, hd, hs, hrun, Result.andThen]
  exact hK _ _ (h _ (show _ = _ by simpa [splice] using setRow_heap w g _ _ t _ hg) (below_setRow hb hBg _) (show ∀ q, q ≠ g → _ = _ from fun q hq => setRow_other w g q _ hq))
theorem step_copyN {ops : Array Oper} {o : Oper} {a : Act} {w : World} {K : Act → World → Prop} {Q : Exit → Act → World → Prop} {E : Prop} (hgd : o.guard = none) (d s : Operand) (dT sT : TypeId)
    (ho : o.op = .call { callee := .builtin .copy, args := #[d, s], argTypes := #[dT, sT] }) (size : Nat) (elem : TypeId) (hu : P.underlying dT = some (.slice elem)) (hsz : (P.info? elem).map (·.size) = some size)
    (ad : Addr) (dLen dCap sLen sCap g off : Nat) (hd : a.eval d = .slice (some ⟨g, off, none⟩) dLen dCap) (hs : a.eval s = .slice (some ad) sLen sCap)
    (cur : List Value) (t : TypeId) (hg : w.heap[g]? = some (.cells cur.toArray t (0, 0))) (cs : List Value) (k : Nat) (hk : Nat.min sLen dLen = k) (hn : cs.length = k * size)
    (hsrc : ∀ j v, cs[j]? = some v → w.cell? (ad.add j) = some v)
    (hfit : off + cs.length ≤ cur.length) (h1 : ∀ v ∈ cs, v.oneCell' = true) (B : Nat) (w0 : World) (hb : Below B w0 w) (hBg : B ≤ g)
    (h : ∀ w', Hid (w'.heap[g]? = some (.cells (splice cur off cs).toArray t (0, 0))) → Below B w0 w' → Hid (∀ q, q ≠ g → w'.heap[q]? = w.heap[q]?) → K (a.put o.dst (goInt k)) w') :
    if Region.wanted o (yielded ops a.tmps) = true then Oper.wp P o a w K Q else E := by
  have hw : Region.wanted o (yielded ops a.tmps) = true := by simp [Region.wanted, hgd]
  rw [if_pos hw]
  have hrun := run_copyN (P := P) w size dT sT o.type elem g off dLen dCap ad sLen sCap cur.toArray t cs k hu hsz hg hk hn hsrc (by simpa using hfit) h1
  unfold Oper.wp
  simp [execOp, ho, resolve, invoke, builtin, hd, hs, hrun, Result.andThen]
  exact h _ (show _ = _ by simpa [splice] using setRow_heap w g _ _ t _ hg) (below_setRow hb hBg _) (show ∀ q, q ≠ g → _ = _ from fun q hq => setRow_other w g q _ hq)
end

/-- The place i of xs taken by x, what stood from i on behind it. -/
def insAt (xs : List Wr) (i : Nat) (x : Wr) : List Wr := xs.take i ++ x :: xs.drop i
theorem insAt_length {xs : List Wr} {i : Nat} (x : Wr) (h : i ≤ xs.length) : (insAt xs i x).length = xs.length + 1 := by
  unfold insAt; simp; omega
theorem flat_take (xs : List Wr) (i : Nat) : (xs.take i).flatMap wrC = (xs.flatMap wrC).take (i * 2) := by
  induction xs generalizing i with
  | nil => simp
  | cons x r ih =>
    cases i with
    | zero => simp
    | succ i =>
      rw [List.take_succ_cons, List.flatMap_cons, List.flatMap_cons, ih, show (i + 1) * 2 = i * 2 + 2 by omega, List.take_append, wr_len, show (wrC x).take (i * 2 + 2) = wrC x from List.take_of_length_le (by rw [wr_len]; omega), Nat.add_sub_cancel]
theorem flat_drop (xs : List Wr) (i : Nat) : (xs.drop i).flatMap wrC = (xs.flatMap wrC).drop (i * 2) := by
  induction xs generalizing i with
  | nil => simp
  | cons x r ih =>
    cases i with
    | zero => simp
    | succ i =>
      rw [List.drop_succ_cons, List.flatMap_cons, ih, show (i + 1) * 2 = i * 2 + 2 by omega, List.drop_append, wr_len, show (wrC x).drop (i * 2 + 2) = [] from List.drop_eq_nil_of_le (by rw [wr_len]; omega), Nat.add_sub_cancel, List.nil_append]
/-- In place: what stood from i on goes one element back, then x. -/
theorem splice_shift (L : List Value) (xs : List Wr) (i : Nat) (x : Wr) (hi : i ≤ xs.length) (hL : (xs.length + 1) * 2 ≤ L.length) (hp : L.take (xs.length * 2) = xs.flatMap wrC) :
    (splice (splice L ((i + 1) * 2) ((xs.drop i).flatMap wrC)) (i * 2) (wrC x)).take ((xs.length + 1) * 2) = (insAt xs i x).flatMap wrC := by
  have hf := flat_length (f := wrC) wr_len (xs.drop i)
  rw [List.length_drop] at hf
  unfold splice insAt
  rw [List.flatMap_append, List.flatMap_cons, hf, wr_len]
  have h1 : (L.take ((i + 1) * 2)).take (i * 2) = (xs.take i).flatMap wrC := by
    rw [flat_take, ← hp, List.take_take, List.take_take]
    congr 1
    omega
  have h2 : (L.take ((i + 1) * 2)).length = (i + 1) * 2 := by rw [List.length_take]; omega
  have e : (L.take ((i + 1) * 2) ++ ((xs.drop i).flatMap wrC ++ L.drop ((i + 1) * 2 + (xs.length - i) * 2))).take (i * 2) = (xs.take i).flatMap wrC := by
    rw [List.take_append_of_le_length (by omega), h1]
  have e2 : (L.take ((i + 1) * 2) ++ ((xs.drop i).flatMap wrC ++ L.drop ((i + 1) * 2 + (xs.length - i) * 2))).drop (i * 2 + 2) = (xs.drop i).flatMap wrC ++ L.drop ((i + 1) * 2 + (xs.length - i) * 2) := by
    rw [List.drop_append, h2]
    have : (L.take ((i + 1) * 2)).drop (i * 2 + 2) = [] := List.drop_eq_nil_of_le (by omega)
    rw [this, show i * 2 + 2 - (i + 1) * 2 = 0 by omega]
    rfl
  rw [e, e2]
  have hf2 := flat_length (f := wrC) wr_len (xs.take i)
  rw [List.length_take] at hf2
  rw [← List.append_assoc, ← List.append_assoc, List.take_append_of_le_length (by simp only [List.length_append, hf, hf2, wr_len]; omega)]
  rw [List.take_of_length_le (by simp only [List.length_append, hf, hf2, wr_len]; omega), List.append_assoc]
/-- In a new row that begins with what stood ahead of i: x, then what stood from i on. -/
theorem splice_new (L : List Value) (xs : List Wr) (i : Nat) (x : Wr) (hi : i ≤ xs.length) (hL : (xs.length + 1) * 2 ≤ L.length) (hp : L.take (i * 2) = (xs.take i).flatMap wrC) :
    (splice (splice L (i * 2) (wrC x)) ((i + 1) * 2) ((xs.drop i).flatMap wrC)).take ((xs.length + 1) * 2) = (insAt xs i x).flatMap wrC := by
  have hf := flat_length (f := wrC) wr_len (xs.drop i)
  rw [List.length_drop] at hf
  have hf2 := flat_length (f := wrC) wr_len (xs.take i)
  rw [List.length_take] at hf2
  unfold splice insAt
  rw [List.flatMap_append, List.flatMap_cons, hf, wr_len, hp]
  have e : ((xs.take i).flatMap wrC ++ (wrC x ++ L.drop (i * 2 + 2))).take ((i + 1) * 2) = (xs.take i).flatMap wrC ++ wrC x := by
    rw [← List.append_assoc, List.take_append_of_le_length (by simp only [List.length_append, hf2, wr_len]; omega)]
    exact List.take_of_length_le (by simp only [List.length_append, hf2, wr_len]; omega)
  rw [e, List.append_assoc, ← List.append_assoc (wrC x), ← List.append_assoc, List.take_append_of_le_length (by simp only [List.length_append, hf, hf2, wr_len]; omega)]
  exact List.take_of_length_le (by simp only [List.length_append, hf, hf2, wr_len]; omega)
end Go.Proofs.Ytiomfncbhbokpaa
