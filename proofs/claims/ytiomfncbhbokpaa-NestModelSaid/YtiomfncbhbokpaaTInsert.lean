import Derived.Test.YtiomfncbhbokpaaTCopy
import Derived.Lib.Overlaps
import Derived.Lib.AppendZerosOnto
import Derived.Laws.Externs
import Derived.Lib.SliceRun
namespace Go.Proofs.Ytiomfncbhbokpaa
open Go.RowKit Go.Lib
set_option linter.unusedVariables false

def IsIns (base : Nat) (xs : List Wr) (i : Nat) (x : Wr) (w : World) (e : Ending) (w' : World) : Prop :=
  ∃ v, e = .returned v ∧ w'.ownsRow base 33 2 v (xs.length + 1) ((insAt xs i x).flatMap wrC) ∧ Below base w w'
theorem insAt_end (xs : List Wr) (x : Wr) : (insAt xs xs.length x).flatMap wrC = xs.flatMap wrC ++ wrC x := by
  unfold insAt; simp

set_option maxRecDepth 100000 in
set_option maxHeartbeats 1000000 in
/-- At the end. -/
theorem ins_end (base : Nat) (A : Option Addr) (n c : Nat) (xs : List Wr) (g : Nat) (x : Wr) (w : World) (e1 : xs.length = n) (m : n ≤ 100000) (hbs : base ≤ w.heap.size) (ho : w.ownsRow base 33 2 (.slice A n c) n (xs.flatMap wrC)) (hs : Sees w w.heap.size (some ⟨g, 0, none⟩) (wrC x)) (hnc : n ≤ c) (hcm : c ≤ maxLen) :
    Calls Try.prog 60 #[.slice A n c, .int .i64 n, .slice (some ⟨g, 0, none⟩) 1 1] w (IsIns base xs n x w) := by
  obtain ⟨i0, hi, hz0, hz1, hz2⟩ := info_parts Try.info33
  have HI := Lib.hid hi
  have HZ0 := Lib.hid hz0
  have HZ1 := Lib.hid hz1
  have HZ2 := Lib.hid hz2
  have E1 := Lib.hid e1
  have HO := Lib.hid ho
  have HS := Lib.hid hs
  have HBS := Lib.hid hbs
  unfold maxLen at hcm
  clear hi hz0 hz1 hz2 e1 ho hs hbs
  go_enter Try.func60, Try.ntmps60
  go_wp2_with (at_builtin; refine wpList_app rfl (.tmp 23) (.tmp 24) 24 rfl base 33 i0 (.agg #[.int .i64 0, .int .i64 0]) 2 16 Try.underlying24 HI.out HZ0.out HZ1.out HZ2.out rfl (by decide) HO.out HS.out rfl (wr_one x) rfl rfl (by unfold maxLen; omega) (by omega) HBS.out ?_)
  all_goals
    intro v1 w1 o1 b1
    have O1 := Lib.hid o1
    have B1 := Lib.hid b1
    clear o1 b1
    go_wp2
    go_ret
    exact ⟨_, rfl, own_cast O1.out (by rw [E1.out]) (by rw [← E1.out, insAt_end]), B1.out⟩
theorem Try.isz33 : (Try.prog.info? 33).map (·.size) = some 2 := by kernel_rfl
theorem size33 : ∀ w, (Go.sizeOf 33).run Try.prog w = .ok 2 w := fun w => by
  obtain ⟨i0, hi, hz0, hz1, hz2⟩ := info_parts Try.info33
  simp [sizeOf, typeInfo, hi, hz1]
theorem add_at (b o j : Nat) : (⟨b, o, none⟩ : Addr).add j = ⟨b, o + j, none⟩ := Addr.add_lit ..
theorem ov_apart (g b o la ca lb cb : Nat) (cs : Array Value) (fz : Nat × Nat) (row : Array Value) (t : TypeId) (w : World) (hne : g ≠ b) (hx : w.heap[g]? = some (.cells cs 33 (0, 0))) (hb : w.heap[b]? = some (.cells row t fz)) (hr : row.size ≠ 0) :
    (callFunc 64 #[.slice (some ⟨g, 0, none⟩) la ca, .slice (some ⟨b, o, none⟩) lb cb]).run Try.prog w = .ok (.value (.bool false)) w := by
  rw [run_callFunc_extern Try.func64 (by kernel_rfl) (by kernel_rfl) (by kernel_rfl) (e := Extern.SlicesOverlaps.overlaps #[24, 24] #[4]) (by kernel_rfl),
    Lib.run_overlaps_apart w 24 4 33 Try.underlying24 2 size33 ⟨g, 0, none⟩ ⟨b, o, none⟩ la ca lb cb hne 33 t cs.size row.size (by simp [World.shape?, hx]) (by simp [World.shape?, hb]) hr (by simp [World.frozen?, hx]) (by simp [World.frozen?, hx])]
  rfl
theorem cell_of {w : World} {b : Nat} {cur : List Value} {t : TypeId} {fz : Nat × Nat} (h : w.heap[b]? = some (.cells cur.toArray t fz)) {k : Nat} {v : Value} (hk : cur[k]? = some v) : w.cell? ⟨b, k, none⟩ = some v := by
  simp [World.cell?, h, hk]
theorem cells_take {α : Type} {L xs : List α} {k : Nat} (h : L.take k = xs) : ∀ (j : Nat) (v : α), xs[j]? = some v → L[j]? = some v := by
  intro j v hj
  rw [← h, List.getElem?_take] at hj
  split at hj
  · exact hj
  · cases hj

set_option maxRecDepth 100000 in
set_option maxHeartbeats 1000000 in
/-- Ahead of the end, and there is room: in place. -/
theorem ins_room (base b : Nat) (n c i : Nat) (xs : List Wr) (cur : List Value) (g : Nat) (x : Wr) (w : World) (e1 : xs.length = n) (m : n ≤ 100000) (hi : i < n) (hroom : n + 1 ≤ c) (hcm : c ≤ maxLen) (hbb : base ≤ b) (hne : g ≠ b)
    (hcur : w.heap[b]? = some (.cells cur.toArray 33 (0, 0))) (hcl : cur.length = c * 2) (hct : cur.take (n * 2) = xs.flatMap wrC) (hx : w.heap[g]? = some (.cells #[.int .i64 x.loc, .int .i64 x.val] 33 (0, 0))) :
    Calls Try.prog 60 #[.slice (some ⟨b, 0, none⟩) n c, .int .i64 i, .slice (some ⟨g, 0, none⟩) 1 1] w (IsIns base xs i x w) := by
  unfold maxLen at hcm
  have hov := fun o la ca lb cb W (hW : W.heap[g]? = some (.cells #[.int .i64 x.loc, .int .i64 x.val] 33 (0, 0))) (hW2 : W.heap[b]? = some (.cells cur.toArray 33 (0, 0))) => ov_apart g b o la ca lb cb _ _ _ _ W hne hW hW2 (by rw [List.size_toArray]; omega)
  have hov := fun o la ca lb cb => hov o la ca lb cb w hx hcur
  have E1 := Lib.hid e1
  have HCUR := Lib.hid hcur
  have HCL := Lib.hid hcl
  have HCT := Lib.hid hct
  have HX := Lib.hid hx
  have hz2 : ¬ ((i : Int) = (n : Int)) := by omega
  obtain ⟨X1, hX1⟩ : ∃ X1, X1 = (xs.drop i).flatMap wrC := ⟨_, rfl⟩
  have hX1l : X1.length = (n - i) * 2 := by rw [hX1, flat_length wr_len, List.length_drop, e1]
  have hX1o : ∀ v ∈ X1, v.oneCell' = true := by rw [hX1]; exact flat_one wr_one _
  have hX1s : ∀ j v, X1[j]? = some v → w.drew.cell? ((⟨b, i * 2, none⟩ : Addr).add j) = some v := fun j v hj => by
    rw [add_at]
    refine cell_of (w := w.drew) (show w.drew.heap[b]? = _ from hcur) (cells_take hct _ _ ?_)
    rw [hX1, flat_drop, List.getElem?_drop] at hj
    exact hj
  have hfit : (i + 1) * 2 + X1.length ≤ cur.length := by rw [hX1l, hcl]; omega
  have HX1 := Lib.hid hX1
  have HX1L := Lib.hid hX1l
  have HX1O := Lib.hid hX1o
  have HX1S := Lib.hid hX1s
  have HFIT := Lib.hid hfit
  have HMIN : Hid (Nat.min (n + 1 - i) (n - i) = n - i) := Lib.hid (by simp only [Nat.min_def]; split <;> omega)
  clear hX1 hX1l hX1o hX1s hfit
  have hw1 : IntKind.i64.wrap ((i : Int) + 1) = (i : Int) + 1 := by rw [IntKind.wrap_i64]; omega
  have hb1 : (0 : Int) ≤ (i : Int) + 1 := by omega
  have htn : ((i : Int) + 1).toNat = i + 1 := by omega
  have hb2 : ¬ (c = i + 1) := by omega
  have hb4 : ¬ (c = i) := by omega
  have hb3 : (i : Int) ≤ (n : Int) + 1 := by omega
  have hin : i ≤ n := by omega
  have hin1 : i ≤ n + 1 := by omega
  clear e1 hcur hcl hct hx
  go_enter Try.func60, Try.ntmps60
  go_wp2_with (simp only [hov])
  go_region_law (
    refine step_copyN rfl (.tmp 73) (.tmp 76) 24 24 rfl 2 33 Try.underlying24 Try.isz33 ⟨b, i * 2, none⟩ (n - i) (c - (i + 1)) (n + 1 - i) (c - i) b ((i + 1) * 2) (by simp [Act.eval, Act.put]) (by simp [Act.eval, Act.put]) cur 33 HCUR.out X1 (n - i) HMIN.out HX1L.out HX1S.out HFIT.out HX1O.out base w (Below.refl _ _).drew hbb ?_
    intro w1 HG1 hb1 HQ1
    have HB1 := Lib.hid hb1
    have HX2 : Hid (w1.heap[g]? = some (.cells #[.int .i64 x.loc, .int .i64 x.val] 33 (0, 0))) := Lib.hid ((HQ1.out g hne).trans HX.out)
    have HS2 : Hid (∀ j v, (wrC x)[j]? = some v → w1.cell? ((⟨g, 0, none⟩ : Addr).add j) = some v) := Lib.hid (fun j v hj => by
      rw [add_at]
      refine cell_of (cur := wrC x) HX2.out (k := 0 + j) ?_
      rw [Nat.zero_add]; exact hj)
    clear hb1 HQ1)
  all_goals
    have HF2 : Hid (i * 2 + (wrC x).length ≤ (splice cur ((i + 1) * 2) X1).length) := Lib.hid (by rw [wr_len, length_splice _ _ _ HFIT.out, HCL.out]; omega)
    have HM2 : Hid (Nat.min 1 (n + 1 - i) = 1) := Lib.hid (by simp only [Nat.min_def]; split <;> omega)
    go_wp2_with (with_reducible refine wpList_copyN rfl (.tmp 80) (.tmp 81) 24 24 rfl 2 33 Try.underlying24 Try.isz33 ⟨g, 0, none⟩ (n + 1 - i) (c - i) 1 1 b (i * 2) rfl rfl (splice cur ((i + 1) * 2) X1) 33 HG1.out (wrC x) 1 HM2.out rfl HS2.out HF2.out (wr_one x) base w HB1.out hbb ?_)
    intro w2 HG2 hb2 HQ2
    have B2 := Lib.hid hb2
    have HR : Hid (w2.ownsRow base 33 2 (.slice (some ⟨b, 0, none⟩) (n + 1) c) (n + 1) ((insAt xs i x).flatMap wrC)) := Lib.hid (by
      have h9 := splice_shift cur xs i x (by rw [E1.out]; omega) (by rw [E1.out, HCL.out]; omega) (by rw [E1.out]; exact HCT.out)
      rw [E1.out, ← HX1.out] at h9
      refine ⟨by rw [flat_length wr_len, insAt_length x (by rw [E1.out]; omega), E1.out], .inr ⟨b, c, _, rfl, hbb, HG2.out, hroom, by unfold maxLen; omega, ?_, ?_⟩⟩
      · rw [List.size_toArray, length_splice _ _ _ HF2.out, length_splice _ _ _ HFIT.out, HCL.out]
      · rw [List.toList_toArray]; exact h9)
    clear hb2 HQ2 HG2
    go_wp2
    go_ret
    exact ⟨_, rfl, own_cast HR.out (by rw [E1.out]) rfl, B2.out⟩

set_option maxRecDepth 100000 in
set_option maxHeartbeats 1000000 in
/-- Ahead of the end, and there is no room: a new row. -/
theorem ins_grow (base b : Nat) (n c i : Nat) (xs : List Wr) (cur : List Value) (g : Nat) (x : Wr) (w : World) (e1 : xs.length = n) (m : n ≤ 100000) (hi : i < n) (hnc : n ≤ c) (hroom : c < n + 1) (hbs : base ≤ w.heap.size) (hgw : g < w.heap.size) (hbw : b < w.heap.size)
    (hcur : w.heap[b]? = some (.cells cur.toArray 33 (0, 0))) (hct : cur.take (n * 2) = xs.flatMap wrC) (hx : w.heap[g]? = some (.cells #[.int .i64 x.loc, .int .i64 x.val] 33 (0, 0))) :
    Calls Try.prog 60 #[.slice (some ⟨b, 0, none⟩) n c, .int .i64 i, .slice (some ⟨g, 0, none⟩) 1 1] w (IsIns base xs i x w) := by
  obtain ⟨i0, hi0, hz0, hzs, hzb⟩ := info_parts Try.info33
  have hold : (Builtin.firstCells i0.size i (.slice (some ⟨b, 0, none⟩) i c)).run Try.prog w.drew = .ok ((xs.take i).flatMap wrC).toArray w.drew := by
    rw [hzs]
    exact run_firstCells_some w.drew 2 i ⟨b, 0, none⟩ i c ((xs.take i).flatMap wrC) (by rw [flat_length wr_len, List.length_take]; omega) (fun j v hj => by
      rw [add_at, Nat.zero_add]
      refine cell_of (w := w.drew) (show w.drew.heap[b]? = _ from hcur) (cells_take hct _ _ ?_)
      rw [flat_take, List.getElem?_take] at hj
      split at hj
      · exact hj
      · cases hj)
  have hw2 : IntKind.i64.wrap ((n : Int) + 1 - (i : Int)) = (n : Int) + 1 - (i : Int) := by rw [IntKind.wrap_i64]; omega
  have hkk : (n : Int) + 1 - (i : Int) = ((n + 1 - i : Nat) : Int) := by omega
  have hik : i + (n + 1 - i) = n + 1 := by omega
  have hz2 : ¬ ((i : Int) = (n : Int)) := by omega
  have hz3 : (c : Int) < (n : Int) + 1 := by omega
  obtain ⟨G, hG⟩ : ∃ G, G = grownCap w (n + 1) c 33 := ⟨_, rfl⟩
  obtain ⟨ROW, hROW⟩ : ∃ ROW : List Value, ROW = (((xs.take i).flatMap wrC).toArray ++ Builtin.zeroCells (Value.agg #[.int .i64 0, .int .i64 0]).cells (n + 1 - i) ++ Builtin.zeroCells (Value.agg #[.int .i64 0, .int .i64 0]).cells (G - (n + 1))).toList := ⟨_, rfl⟩
  have hrz : ∀ ty, (Builtin.append_ #[24, 3] ty #[.slice (some ⟨b, 0, none⟩) i c, .int .i64 ((n : Int) + 1 - (i : Int))]).run Try.prog w =
      .ok (.slice (some ⟨w.heap.size, 0, none⟩) (n + 1) G) (w.drew.alloc (.cells ROW.toArray 33)) := fun ty => by
    have h := Lib.run_append_grow_zeros w 24 3 ty 33 i0 _ .i64 .i64 Try.underlying24 Try.underlying3 hi0 hz0 (some ⟨b, 0, none⟩) i c ((xs.take i).flatMap wrC) hold (n + 1 - i) (by omega) (by omega) (by omega) (by omega) (by rw [hzb]; omega) (by rw [hzb, hik]; exact growslice_fits hroom (by omega))
    rw [hik, ← hG] at h
    rw [hkk, hROW, Array.toArray_toList]
    exact h
  have hGn : n + 1 ≤ G := by rw [hG]; exact grownCap_ge w _ _ _
  have hG63 : G ≤ 9223372036854775807 := by
    have := grownCap_le_maxLen w (n + 1) c 33 (by unfold maxLen; omega)
    rw [← hG] at this
    unfold maxLen at this
    omega
  have hfl : ((xs.take i).flatMap wrC).length = i * 2 := by rw [flat_length wr_len, List.length_take]; omega
  have hRl : ROW.length = G * 2 := by
    rw [hROW]
    simp [Builtin.zeroCells, Value.cells, hfl]
    omega
  have hRt : ROW.take (i * 2) = (xs.take i).flatMap wrC := by
    rw [hROW, Array.toList_append, Array.toList_append, List.append_assoc, List.take_append_of_le_length (by rw [List.toList_toArray]; omega), List.toList_toArray]
    exact List.take_of_length_le (by omega)
  obtain ⟨X1, hX1⟩ : ∃ X1, X1 = (xs.drop i).flatMap wrC := ⟨_, rfl⟩
  have hX1l : X1.length = (n - i) * 2 := by rw [hX1, flat_length wr_len, List.length_drop, e1]
  have hX1o : ∀ v ∈ X1, v.oneCell' = true := by rw [hX1]; exact flat_one wr_one _
  have HCUR : Hid (∀ W : World, W.heap[b]? = w.heap[b]? → ∀ j v, X1[j]? = some v → W.cell? ((⟨b, i * 2, none⟩ : Addr).add j) = some v) := Lib.hid (fun W hW j v hj => by
    rw [add_at]
    refine cell_of (w := W) (hW.trans hcur) (cells_take hct _ _ ?_)
    rw [hX1, flat_drop, List.getElem?_drop] at hj
    exact hj)
  obtain ⟨W1, hW1⟩ : ∃ W1, W1 = w.drew.alloc (.cells ROW.toArray 33) := ⟨_, rfl⟩
  rw [← hW1] at hrz
  have hbel : Below w.heap.size w W1 := by rw [hW1]; exact (Below.refl _ _).drew.alloc (Nat.le_refl _) _
  have hnew : W1.heap[w.heap.size]? = some (.cells ROW.toArray 33 (0, 0)) := by rw [hW1]; exact heap_alloc_new w.drew _
  have hxW : W1.heap[g]? = some (.cells #[.int .i64 x.loc, .int .i64 x.val] 33 (0, 0)) := (hbel.block g hgw).trans hx
  have hbW : W1.heap[b]? = w.heap[b]? := hbel.block b hbw
  have HS2 : Hid (∀ j v, (wrC x)[j]? = some v → W1.cell? ((⟨g, 0, none⟩ : Addr).add j) = some v) := Lib.hid (fun j v hj => by
    rw [add_at]
    refine cell_of (cur := wrC x) hxW (k := 0 + j) ?_
    rw [Nat.zero_add]; exact hj)
  have HE1 := Lib.hid e1
  have HBEL := Lib.hid hbel
  have HNEW := Lib.hid hnew
  have HBW := Lib.hid hbW
  have HROW := Lib.hid hRl
  have HRT := Lib.hid hRt
  have HX1 := Lib.hid hX1
  have HX1L := Lib.hid hX1l
  have HX1O := Lib.hid hX1o
  have HF1 : Hid (i * 2 + (wrC x).length ≤ ROW.length) := Lib.hid (by rw [wr_len, hRl]; omega)
  have HF2 : Hid ((i + 1) * 2 + X1.length ≤ (splice ROW (i * 2) (wrC x)).length) := Lib.hid (by rw [length_splice _ _ _ HF1.out, hX1l, hRl]; omega)
  have HM1 : Hid (Nat.min 1 (n + 1 - i) = 1) := Lib.hid (by simp only [Nat.min_def]; split <;> omega)
  have HM2 : Hid (Nat.min (n - i) (n - i) = n - i) := Lib.hid (Nat.min_self _)
  have hne : ¬ (b = w.heap.size) := by omega
  have hGi : ¬ (G = i) := by omega
  have hGim : ¬ (G = i + 1) := by omega
  have hci : ¬ (c = i) := by omega
  have hw1 : IntKind.i64.wrap ((i : Int) + 1) = (i : Int) + 1 := by rw [IntKind.wrap_i64]; omega
  have hb1 : (0 : Int) ≤ (i : Int) + 1 := by omega
  have hin : i ≤ n := by omega
  have hin1 : i ≤ n + 1 := by omega
  have htn : ((i : Int) + 1).toNat = i + 1 := by omega
  have hb3 : (i : Int) ≤ (n : Int) := by omega
  have hb31 : (i : Int) ≤ (n : Int) + 1 := by omega
  have HBS := Lib.hid hbs
  clear hkk hik hold hROW hG hRl hRt hX1 hX1l hX1o hW1 hbel hnew hxW hbW e1 hcur hct hx hi0 hz0 hzs hzb hfl hbs
  go_enter Try.func60, Try.ntmps60
  go_wp2_with (first
    | (at_builtin; refine Lib.wpList_append_run _ rfl _ _ _ _ rfl _ _ rfl rfl _ _ (hrz _) ?_)
    | (with_reducible refine wpList_copyN rfl (.tmp 43) (.tmp 44) 24 24 rfl 2 33 Try.underlying24 Try.isz33 ⟨g, 0, none⟩ (n + 1 - i) (G - i) 1 1 w.heap.size (i * 2) rfl rfl ROW 33 HNEW.out (wrC x) 1 HM1.out rfl HS2.out HF1.out (wr_one x) base w (HBEL.out.mono HBS.out) HBS.out ?_))
  intro w2 HG2 hb2 HQ2
  have HB2 := Lib.hid hb2
  have HS3 : Hid (∀ j v, X1[j]? = some v → w2.cell? ((⟨b, i * 2, none⟩ : Addr).add j) = some v) := Lib.hid (HCUR.out w2 ((HQ2.out b hne).trans HBW.out))
  clear hb2
  go_wp2
  go_region_law (
    refine step_copyN rfl (.tmp 50) (.tmp 53) 24 24 rfl 2 33 Try.underlying24 Try.isz33 ⟨b, i * 2, none⟩ (n - i) (G - (i + 1)) (n - i) (c - i) w.heap.size ((i + 1) * 2) (by simp [Act.eval, Act.put]) (by simp [Act.eval, Act.put]) (splice ROW (i * 2) (wrC x)) 33 HG2.out X1 (n - i) HM2.out HX1L.out HS3.out HF2.out HX1O.out base w HB2.out.drew HBS.out ?_
    intro w3 HG3 hb3 HQ3
    have HB3 := Lib.hid hb3
    clear hb3)
  all_goals
    have HR : Hid (w3.ownsRow base 33 2 (.slice (some ⟨w.heap.size, 0, none⟩) (n + 1) G) (n + 1) ((insAt xs i x).flatMap wrC)) := Lib.hid (by
      have h9 := splice_new ROW xs i x (by rw [HE1.out]; omega) (by rw [HE1.out, HROW.out]; omega) HRT.out
      rw [HE1.out, ← HX1.out] at h9
      refine ⟨by rw [flat_length wr_len, insAt_length x (by rw [HE1.out]; omega), HE1.out], .inr ⟨w.heap.size, G, _, rfl, HBS.out, HG3.out, hGn, by unfold maxLen; omega, ?_, ?_⟩⟩
      · rw [List.size_toArray, length_splice _ _ _ HF2.out, length_splice _ _ _ HF1.out, HROW.out]
      · rw [List.toList_toArray]; exact h9)
    go_wp2
    go_ret
    exact ⟨_, rfl, own_cast HR.out (by rw [HE1.out]) rfl, HB3.out⟩

theorem insert_any (base : Nat) (A : Option Addr) (n c i : Nat) (xs : List Wr) (g : Nat) (x : Wr) (w : World) (e1 : xs.length = n) (m : n ≤ 100000) (hi : i ≤ n) (hbs : base ≤ w.heap.size) (ho : w.ownsRow base 33 2 (.slice A n c) n (xs.flatMap wrC))
    (hx : w.heap[g]? = some (.cells #[.int .i64 x.loc, .int .i64 x.val] 33 (0, 0))) (hne : (Value.slice A n c).ownBlock ≠ some g) :
    Calls Try.prog 60 #[.slice A n c, .int .i64 i, .slice (some ⟨g, 0, none⟩) 1 1] w (IsIns base xs i x w) := by
  have hgw : g < w.heap.size := (Array.getElem?_eq_some_iff.1 hx).1
  have hs : Sees w w.heap.size (some ⟨g, 0, none⟩) (wrC x) := .inr ⟨g, 0, rfl, hgw, ⟨_, _, _, hx, by decide⟩, fun j u hj => by
    refine cell_of (cur := wrC x) hx (k := 0 + j) ?_
    rw [Nat.zero_add]; exact hj⟩
  rcases ho.2 with ⟨h1, h2⟩ | ⟨b, cap, cur, h1, hb, hg, hn, hm, hsz, ht⟩
  · cases h1
    have h3 : i = 0 := by omega
    subst h3
    exact ins_end base none 0 0 xs g x w e1 m hbs ho hs (Nat.le_refl _) (Nat.zero_le _)
  · have hc : c = cap := by injection h1
    subst hc
    have hA : A = some ⟨b, 0, none⟩ := by injection h1
    subst hA
    have hgb : g ≠ b := fun h => hne (by rw [h]; rfl)
    rcases Nat.lt_or_ge i n with hlt | hge
    · rcases Nat.lt_or_ge c (n + 1) with hr | hr
      · exact ins_grow base b n _ i xs cur.toList g x w e1 m hlt hn hr hbs hgw ((Array.getElem?_eq_some_iff.1 hg).1) (by simpa using hg) ht hx
      · exact ins_room base b n _ i xs cur.toList g x w e1 m hlt hr hm hb hgb (by simpa using hg) (by simpa using hsz) ht hx
    · obtain rfl : i = n := by omega
      exact ins_end base _ i _ xs g x w e1 m hbs ho hs hn hm
end Go.Proofs.Ytiomfncbhbokpaa
