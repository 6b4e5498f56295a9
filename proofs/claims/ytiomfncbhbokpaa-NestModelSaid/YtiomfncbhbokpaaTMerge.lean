import Derived.Test.YtiomfncbhbokpaaTJoin
namespace Go.Proofs.Ytiomfncbhbokpaa
open Go.RowKit
set_option linter.unusedVariables false

def joinL (a b : Lv) : Lv := ⟨b.reads.foldl readL a.reads, b.writes.foldl putW a.writes, a.undo ++ b.undo⟩
def joinRW (a b : Lv) : Lv := ⟨b.reads.foldl readL a.reads, b.writes.foldl putW a.writes, a.undo⟩
def joinR (a b : Lv) : Lv := ⟨b.reads.foldl readL a.reads, a.writes, a.undo⟩
/-- Small enough. -/
def SmallV (k : Nat) (v : Lv) : Prop := v.reads.length ≤ k ∧ v.writes.length ≤ k ∧ v.undo.length ≤ k
theorem below_2 (w : World) (o1 o2 : Obj) : Below w.heap.size w ((w.alloc o1).alloc o2) := ((Below.refl _ _).alloc (Nat.le_refl _) _).alloc (by simp) _

set_option maxRecDepth 100000 in
set_option maxHeartbeats 1000000 in
theorem join_all (g o : Nat) (l lf : LC) (v f : Lv) (w : World) (hg : g < w.heap.size) (ha : LevAt w g o l) (hx : LevX w g l v) (hf : LevX w g lf f) (m1 : SmallV 40000 v) (m2 : SmallV 40000 f) :
    Calls Try.prog 53 #[.agg #[.func (.func 38) #[] #[], .func (.func 40) #[] #[], .func (.func 51) #[] #[]], .pointer (some ⟨g, o, none⟩), .agg #[.slice lf.A1 lf.n1 lf.c1, .slice lf.A2 lf.n2 lf.c2, .slice lf.A3 lf.n3 lf.c3]] w (MutPost g o (joinL v f) w) := by
  have fq1 : ∀ w : World, (binOp .neq 69 (.func (.func 40) #[] #[]) .nilFunc).run Try.prog w = .ok (.bool true) w := fun _ => by kernel_rfl
  have fq2 : ∀ w : World, (binOp .neq 71 (.func (.func 51) #[] #[]) .nilFunc).run Try.prog w = .ok (.bool true) w := fun _ => by kernel_rfl
  obtain ⟨m11, m12, m13⟩ := m1
  obtain ⟨m21, m22, m23⟩ := m2
  have HAL := Lib.hid (below_2 w (.cells #[.func (.func 38) #[] #[], .func (.func 40) #[] #[], .func (.func 51) #[] #[]] 73) (.cells #[.slice lf.A1 lf.n1 lf.c1, .slice lf.A2 lf.n2 lf.c2, .slice lf.A3 lf.n3 lf.c3] 62))
  have HA1 := Lib.hid (ha.below HAL.out hg)
  have HX1 := Lib.hid (hx.aside (Aside.of_below (g := g) HAL.out))
  have HF1 := Lib.hid (hf.aside (Aside.of_below (g := g) HAL.out))
  have hne1 : ¬ (w.heap.size = g) := by omega
  have hne2 : ¬ (w.heap.size + 1 = g) := by omega
  have hz0 : w.heap.size < ((w.alloc (.cells #[.func (.func 38) #[] #[], .func (.func 40) #[] #[], .func (.func 51) #[] #[]] 73)).alloc (.cells #[.slice lf.A1 lf.n1 lf.c1, .slice lf.A2 lf.n2 lf.c2, .slice lf.A3 lf.n3 lf.c3] 62)).heap.size := by simp; omega
  have hz1 : w.heap.size + 1 < ((w.alloc (.cells #[.func (.func 38) #[] #[], .func (.func 40) #[] #[], .func (.func 51) #[] #[]] 73)).alloc (.cells #[.slice lf.A1 lf.n1 lf.c1, .slice lf.A2 lf.n2 lf.c2, .slice lf.A3 lf.n3 lf.c3] 62)).heap.size := by simp
  have q1 : ((w.alloc (.cells #[.func (.func 38) #[] #[], .func (.func 40) #[] #[], .func (.func 51) #[] #[]] 73)).alloc (.cells #[.slice lf.A1 lf.n1 lf.c1, .slice lf.A2 lf.n2 lf.c2, .slice lf.A3 lf.n3 lf.c3] 62)).cell? ⟨w.heap.size, 1, none⟩ = some (.func (.func 40) #[] #[]) := by rw [World.cell?_alloc_past _ _ _ (by simp), World.cell?_alloc_at _ _ _ _ rfl]; rfl
  have q2 : ((w.alloc (.cells #[.func (.func 38) #[] #[], .func (.func 40) #[] #[], .func (.func 51) #[] #[]] 73)).alloc (.cells #[.slice lf.A1 lf.n1 lf.c1, .slice lf.A2 lf.n2 lf.c2, .slice lf.A3 lf.n3 lf.c3] 62)).cell? ⟨w.heap.size, 2, none⟩ = some (.func (.func 51) #[] #[]) := by rw [World.cell?_alloc_past _ _ _ (by simp), World.cell?_alloc_at _ _ _ _ rfl]; rfl
  have r1 : ((w.alloc (.cells #[.func (.func 38) #[] #[], .func (.func 40) #[] #[], .func (.func 51) #[] #[]] 73)).alloc (.cells #[.slice lf.A1 lf.n1 lf.c1, .slice lf.A2 lf.n2 lf.c2, .slice lf.A3 lf.n3 lf.c3] 62)).cell? ⟨w.heap.size + 1, 1, none⟩ = some (.slice lf.A2 lf.n2 lf.c2) := by rw [World.cell?_alloc_at _ _ _ _ (by simp)]; rfl
  have r2 : ((w.alloc (.cells #[.func (.func 38) #[] #[], .func (.func 40) #[] #[], .func (.func 51) #[] #[]] 73)).alloc (.cells #[.slice lf.A1 lf.n1 lf.c1, .slice lf.A2 lf.n2 lf.c2, .slice lf.A3 lf.n3 lf.c3] 62)).cell? ⟨w.heap.size + 1, 2, none⟩ = some (.slice lf.A3 lf.n3 lf.c3) := by rw [World.cell?_alloc_at _ _ _ _ (by simp)]; rfl
  have Q1 := Lib.hid q1
  have Q2 := Lib.hid q2
  have R1 := Lib.hid r1
  have R2 := Lib.hid r2
  have HZ0 := Lib.hid hz0
  have HZ1 := Lib.hid hz1
  have HG : Hid (g < ((w.alloc (.cells #[.func (.func 38) #[] #[], .func (.func 40) #[] #[], .func (.func 51) #[] #[]] 73)).alloc (.cells #[.slice lf.A1 lf.n1 lf.c1, .slice lf.A2 lf.n2 lf.c2, .slice lf.A3 lf.n3 lf.c3] 62)).heap.size) := Lib.hid (by omega)
  have D1 := Lib.hid HX1.out.e1
  have D2 := Lib.hid HX1.out.e2
  have D3 := Lib.hid HX1.out.e3
  have F1 := Lib.hid HF1.out.e1
  have F2 := Lib.hid HF1.out.e2
  have F3 := Lib.hid HF1.out.e3
  have n1 : l.n1 ≤ 40000 := by have := HX1.out.e1; omega
  have n2 : l.n2 ≤ 40000 := by have := HX1.out.e2; omega
  have n3 : l.n3 ≤ 40000 := by have := HX1.out.e3; omega
  have n4 : lf.n1 ≤ 40000 := by have := HF1.out.e1; omega
  have n5 : lf.n2 ≤ 40000 := by have := HF1.out.e2; omega
  have n6 : lf.n3 ≤ 40000 := by have := HF1.out.e3; omega
  clear ha hx hf q1 q2 r1 r2 hz0 hz1
  go_enter Try.func53, Try.ntmps53
  go_wp2_with fail
  refine (read_any g o l.A1 l.n1 l.c1 v.reads lf.A1 lf.n1 lf.c1 f.reads _ HG.out HA1.out.c1 HA1.out.f1 D1.out F1.out (by omega) HX1.out.s1 HF1.out.s1).mono ?_
  intro e w1 h
  obtain ⟨rfl, l1, X1, B1⟩ := mut1 HA1.out HX1.out HG.out h rfl
  have HB1 := Lib.hid B1
  have HX2 := Lib.hid X1
  have HS1 := Lib.hid (aside_put B1)
  have HA2 := Lib.hid ((HA1.out.put l1).below B1 HG.out)
  have HF2 := Lib.hid (HF1.out.aside HS1.out)
  have HG2 := Lib.hid (Nat.lt_of_lt_of_le HG.out HS1.out.size)
  have HM1 := Lib.hid (MutPost.from HAL.out (show MutPost g o _ _ _ _ from ⟨rfl, l1, X1, B1⟩))
  have p1 := (HS1.out.cell (p := ⟨w.heap.size, 1, none⟩) HZ0.out hne1).trans Q1.out
  have p2 := (HS1.out.cell (p := ⟨w.heap.size, 2, none⟩) HZ0.out hne1).trans Q2.out
  have s1 := (HS1.out.cell (p := ⟨w.heap.size + 1, 1, none⟩) HZ1.out hne2).trans R1.out
  have s2 := (HS1.out.cell (p := ⟨w.heap.size + 1, 2, none⟩) HZ1.out hne2).trans R2.out
  have HE2 := Lib.hid X1.e2
  clear h B1 X1
  have P2 := Lib.hid p2
  have S2 := Lib.hid s2
  have k2 : l1.n2 ≤ 40000 := by have := HX2.out.e2; simp only at this; omega
  go_wp2_with fail
  refine (write_any g o l1.A2 l1.n2 l1.c2 v.writes lf.A2 lf.n2 lf.c2 f.writes _ HG2.out HA2.out.c2 HA2.out.f2 HE2.out F2.out (by omega) HX2.out.s2 HF2.out.s2).mono ?_
  intro e w2 h
  obtain ⟨rfl, l2, X2, B2⟩ := mut2 HA2.out HX2.out HG2.out h rfl
  have HB2 := Lib.hid B2
  have HX3 := Lib.hid X2
  have HS2 := Lib.hid (aside_put B2)
  have HA3 := Lib.hid ((HA2.out.put l2).below B2 HG2.out)
  have HF3 := Lib.hid (HF2.out.aside HS2.out)
  have HG3 := Lib.hid (Nat.lt_of_lt_of_le HG2.out HS2.out.size)
  have HP2 := Lib.hid (MutPost.next HB1.out (show MutPost g o _ _ _ _ from ⟨rfl, l2, X2, B2⟩))
  have HM2 := Lib.hid (MutPost.from HAL.out HP2.out)
  have z0 := Nat.lt_of_lt_of_le HZ0.out HS1.out.size
  have z1 := Nat.lt_of_lt_of_le HZ1.out HS1.out.size
  have t2 := (HS2.out.cell (p := ⟨w.heap.size, 2, none⟩) z0 hne1).trans P2.out
  have y2 := (HS2.out.cell (p := ⟨w.heap.size + 1, 2, none⟩) z1 hne2).trans S2.out
  clear h B2 X2 p1 p2 s1 s2 z0 z1
  have HE3 := Lib.hid HX3.out.e3
  have k3 : l2.n3 ≤ 40000 := by have := HX3.out.e3; simp only at this; omega
  have k4 := Lib.hid (show (v.undo ++ f.undo).length = l2.n3 + lf.n3 by rw [List.length_append, F3.out]; have := HX3.out.e3; simp only at this; omega)
  go_wp2_with fail
  refine (keep_any g o l2.A3 l2.n3 l2.c3 v.undo lf.A3 lf.n3 lf.c3 f.undo _ HG3.out HA3.out.c3 HA3.out.f3 HE3.out F3.out (by omega) HX3.out.s3 HF3.out.s3).mono ?_
  intro e w3 h
  obtain ⟨rfl, l3, X3, B3⟩ := mut3 HA3.out HX3.out HG3.out h k4.out
  obtain ⟨-, l9, -, B9⟩ := id HP2.out
  have HP3 := Lib.hid (MutPost.next HB1.out (MutPost.next HB2.out (show MutPost g o _ _ _ _ from ⟨rfl, l3, X3, B3⟩)))
  have HM3 := Lib.hid (MutPost.from HAL.out HP3.out)
  clear h B3 X3 B9
  go_wp2
  go_end0
  exact HM3.out
set_option maxRecDepth 100000 in
set_option maxHeartbeats 1000000 in
theorem join_rw (g o : Nat) (l lf : LC) (v f : Lv) (w : World) (hg : g < w.heap.size) (ha : LevAt w g o l) (hx : LevX w g l v) (hf : LevX w g lf f) (m1 : SmallV 40000 v) (m2 : SmallV 40000 f) :
    Calls Try.prog 53 #[.agg #[.func (.func 38) #[] #[], .func (.func 40) #[] #[], .nilFunc], .pointer (some ⟨g, o, none⟩), .agg #[.slice lf.A1 lf.n1 lf.c1, .slice lf.A2 lf.n2 lf.c2, .slice lf.A3 lf.n3 lf.c3]] w (MutPost g o (joinRW v f) w) := by
  have fq1 : ∀ w : World, (binOp .neq 69 (.func (.func 40) #[] #[]) .nilFunc).run Try.prog w = .ok (.bool true) w := fun _ => by kernel_rfl
  have fq2 : ∀ w : World, (binOp .neq 71 (.nilFunc) .nilFunc).run Try.prog w = .ok (.bool false) w := fun _ => by kernel_rfl
  obtain ⟨m11, m12, m13⟩ := m1
  obtain ⟨m21, m22, m23⟩ := m2
  have HAL := Lib.hid (below_2 w (.cells #[.func (.func 38) #[] #[], .func (.func 40) #[] #[], .nilFunc] 73) (.cells #[.slice lf.A1 lf.n1 lf.c1, .slice lf.A2 lf.n2 lf.c2, .slice lf.A3 lf.n3 lf.c3] 62))
  have HA1 := Lib.hid (ha.below HAL.out hg)
  have HX1 := Lib.hid (hx.aside (Aside.of_below (g := g) HAL.out))
  have HF1 := Lib.hid (hf.aside (Aside.of_below (g := g) HAL.out))
  have hne1 : ¬ (w.heap.size = g) := by omega
  have hne2 : ¬ (w.heap.size + 1 = g) := by omega
  have hz0 : w.heap.size < ((w.alloc (.cells #[.func (.func 38) #[] #[], .func (.func 40) #[] #[], .nilFunc] 73)).alloc (.cells #[.slice lf.A1 lf.n1 lf.c1, .slice lf.A2 lf.n2 lf.c2, .slice lf.A3 lf.n3 lf.c3] 62)).heap.size := by simp; omega
  have hz1 : w.heap.size + 1 < ((w.alloc (.cells #[.func (.func 38) #[] #[], .func (.func 40) #[] #[], .nilFunc] 73)).alloc (.cells #[.slice lf.A1 lf.n1 lf.c1, .slice lf.A2 lf.n2 lf.c2, .slice lf.A3 lf.n3 lf.c3] 62)).heap.size := by simp
  have q1 : ((w.alloc (.cells #[.func (.func 38) #[] #[], .func (.func 40) #[] #[], .nilFunc] 73)).alloc (.cells #[.slice lf.A1 lf.n1 lf.c1, .slice lf.A2 lf.n2 lf.c2, .slice lf.A3 lf.n3 lf.c3] 62)).cell? ⟨w.heap.size, 1, none⟩ = some (.func (.func 40) #[] #[]) := by rw [World.cell?_alloc_past _ _ _ (by simp), World.cell?_alloc_at _ _ _ _ rfl]; rfl
  have q2 : ((w.alloc (.cells #[.func (.func 38) #[] #[], .func (.func 40) #[] #[], .nilFunc] 73)).alloc (.cells #[.slice lf.A1 lf.n1 lf.c1, .slice lf.A2 lf.n2 lf.c2, .slice lf.A3 lf.n3 lf.c3] 62)).cell? ⟨w.heap.size, 2, none⟩ = some (.nilFunc) := by rw [World.cell?_alloc_past _ _ _ (by simp), World.cell?_alloc_at _ _ _ _ rfl]; rfl
  have r1 : ((w.alloc (.cells #[.func (.func 38) #[] #[], .func (.func 40) #[] #[], .nilFunc] 73)).alloc (.cells #[.slice lf.A1 lf.n1 lf.c1, .slice lf.A2 lf.n2 lf.c2, .slice lf.A3 lf.n3 lf.c3] 62)).cell? ⟨w.heap.size + 1, 1, none⟩ = some (.slice lf.A2 lf.n2 lf.c2) := by rw [World.cell?_alloc_at _ _ _ _ (by simp)]; rfl
  have r2 : ((w.alloc (.cells #[.func (.func 38) #[] #[], .func (.func 40) #[] #[], .nilFunc] 73)).alloc (.cells #[.slice lf.A1 lf.n1 lf.c1, .slice lf.A2 lf.n2 lf.c2, .slice lf.A3 lf.n3 lf.c3] 62)).cell? ⟨w.heap.size + 1, 2, none⟩ = some (.slice lf.A3 lf.n3 lf.c3) := by rw [World.cell?_alloc_at _ _ _ _ (by simp)]; rfl
  have Q1 := Lib.hid q1
  have Q2 := Lib.hid q2
  have R1 := Lib.hid r1
  have R2 := Lib.hid r2
  have HZ0 := Lib.hid hz0
  have HZ1 := Lib.hid hz1
  have HG : Hid (g < ((w.alloc (.cells #[.func (.func 38) #[] #[], .func (.func 40) #[] #[], .nilFunc] 73)).alloc (.cells #[.slice lf.A1 lf.n1 lf.c1, .slice lf.A2 lf.n2 lf.c2, .slice lf.A3 lf.n3 lf.c3] 62)).heap.size) := Lib.hid (by omega)
  have D1 := Lib.hid HX1.out.e1
  have D2 := Lib.hid HX1.out.e2
  have D3 := Lib.hid HX1.out.e3
  have F1 := Lib.hid HF1.out.e1
  have F2 := Lib.hid HF1.out.e2
  have F3 := Lib.hid HF1.out.e3
  have n1 : l.n1 ≤ 40000 := by have := HX1.out.e1; omega
  have n2 : l.n2 ≤ 40000 := by have := HX1.out.e2; omega
  have n3 : l.n3 ≤ 40000 := by have := HX1.out.e3; omega
  have n4 : lf.n1 ≤ 40000 := by have := HF1.out.e1; omega
  have n5 : lf.n2 ≤ 40000 := by have := HF1.out.e2; omega
  have n6 : lf.n3 ≤ 40000 := by have := HF1.out.e3; omega
  clear ha hx hf q1 q2 r1 r2 hz0 hz1
  go_enter Try.func53, Try.ntmps53
  go_wp2_with fail
  refine (read_any g o l.A1 l.n1 l.c1 v.reads lf.A1 lf.n1 lf.c1 f.reads _ HG.out HA1.out.c1 HA1.out.f1 D1.out F1.out (by omega) HX1.out.s1 HF1.out.s1).mono ?_
  intro e w1 h
  obtain ⟨rfl, l1, X1, B1⟩ := mut1 HA1.out HX1.out HG.out h rfl
  have HB1 := Lib.hid B1
  have HX2 := Lib.hid X1
  have HS1 := Lib.hid (aside_put B1)
  have HA2 := Lib.hid ((HA1.out.put l1).below B1 HG.out)
  have HF2 := Lib.hid (HF1.out.aside HS1.out)
  have HG2 := Lib.hid (Nat.lt_of_lt_of_le HG.out HS1.out.size)
  have HM1 := Lib.hid (MutPost.from HAL.out (show MutPost g o _ _ _ _ from ⟨rfl, l1, X1, B1⟩))
  have p1 := (HS1.out.cell (p := ⟨w.heap.size, 1, none⟩) HZ0.out hne1).trans Q1.out
  have p2 := (HS1.out.cell (p := ⟨w.heap.size, 2, none⟩) HZ0.out hne1).trans Q2.out
  have s1 := (HS1.out.cell (p := ⟨w.heap.size + 1, 1, none⟩) HZ1.out hne2).trans R1.out
  have s2 := (HS1.out.cell (p := ⟨w.heap.size + 1, 2, none⟩) HZ1.out hne2).trans R2.out
  have HE2 := Lib.hid X1.e2
  clear h B1 X1
  have P2 := Lib.hid p2
  have S2 := Lib.hid s2
  have k2 : l1.n2 ≤ 40000 := by have := HX2.out.e2; simp only at this; omega
  go_wp2_with fail
  refine (write_any g o l1.A2 l1.n2 l1.c2 v.writes lf.A2 lf.n2 lf.c2 f.writes _ HG2.out HA2.out.c2 HA2.out.f2 HE2.out F2.out (by omega) HX2.out.s2 HF2.out.s2).mono ?_
  intro e w2 h
  obtain ⟨rfl, l2, X2, B2⟩ := mut2 HA2.out HX2.out HG2.out h rfl
  have HB2 := Lib.hid B2
  have HX3 := Lib.hid X2
  have HS2 := Lib.hid (aside_put B2)
  have HA3 := Lib.hid ((HA2.out.put l2).below B2 HG2.out)
  have HF3 := Lib.hid (HF2.out.aside HS2.out)
  have HG3 := Lib.hid (Nat.lt_of_lt_of_le HG2.out HS2.out.size)
  have HP2 := Lib.hid (MutPost.next HB1.out (show MutPost g o _ _ _ _ from ⟨rfl, l2, X2, B2⟩))
  have HM2 := Lib.hid (MutPost.from HAL.out HP2.out)
  have z0 := Nat.lt_of_lt_of_le HZ0.out HS1.out.size
  have z1 := Nat.lt_of_lt_of_le HZ1.out HS1.out.size
  have t2 := (HS2.out.cell (p := ⟨w.heap.size, 2, none⟩) z0 hne1).trans P2.out
  have y2 := (HS2.out.cell (p := ⟨w.heap.size + 1, 2, none⟩) z1 hne2).trans S2.out
  clear h B2 X2 p1 p2 s1 s2 z0 z1
  go_wp2
  go_end0
  exact HM2.out
set_option maxRecDepth 100000 in
set_option maxHeartbeats 1000000 in
theorem join_r (g o : Nat) (l lf : LC) (v f : Lv) (w : World) (hg : g < w.heap.size) (ha : LevAt w g o l) (hx : LevX w g l v) (hf : LevX w g lf f) (m1 : SmallV 40000 v) (m2 : SmallV 40000 f) :
    Calls Try.prog 53 #[.agg #[.func (.func 38) #[] #[], .nilFunc, .nilFunc], .pointer (some ⟨g, o, none⟩), .agg #[.slice lf.A1 lf.n1 lf.c1, .slice lf.A2 lf.n2 lf.c2, .slice lf.A3 lf.n3 lf.c3]] w (MutPost g o (joinR v f) w) := by
  have fq1 : ∀ w : World, (binOp .neq 69 (.nilFunc) .nilFunc).run Try.prog w = .ok (.bool false) w := fun _ => by kernel_rfl
  have fq2 : ∀ w : World, (binOp .neq 71 (.nilFunc) .nilFunc).run Try.prog w = .ok (.bool false) w := fun _ => by kernel_rfl
  obtain ⟨m11, m12, m13⟩ := m1
  obtain ⟨m21, m22, m23⟩ := m2
  have HAL := Lib.hid (below_2 w (.cells #[.func (.func 38) #[] #[], .nilFunc, .nilFunc] 73) (.cells #[.slice lf.A1 lf.n1 lf.c1, .slice lf.A2 lf.n2 lf.c2, .slice lf.A3 lf.n3 lf.c3] 62))
  have HA1 := Lib.hid (ha.below HAL.out hg)
  have HX1 := Lib.hid (hx.aside (Aside.of_below (g := g) HAL.out))
  have HF1 := Lib.hid (hf.aside (Aside.of_below (g := g) HAL.out))
  have hne1 : ¬ (w.heap.size = g) := by omega
  have hne2 : ¬ (w.heap.size + 1 = g) := by omega
  have hz0 : w.heap.size < ((w.alloc (.cells #[.func (.func 38) #[] #[], .nilFunc, .nilFunc] 73)).alloc (.cells #[.slice lf.A1 lf.n1 lf.c1, .slice lf.A2 lf.n2 lf.c2, .slice lf.A3 lf.n3 lf.c3] 62)).heap.size := by simp; omega
  have hz1 : w.heap.size + 1 < ((w.alloc (.cells #[.func (.func 38) #[] #[], .nilFunc, .nilFunc] 73)).alloc (.cells #[.slice lf.A1 lf.n1 lf.c1, .slice lf.A2 lf.n2 lf.c2, .slice lf.A3 lf.n3 lf.c3] 62)).heap.size := by simp
  have q1 : ((w.alloc (.cells #[.func (.func 38) #[] #[], .nilFunc, .nilFunc] 73)).alloc (.cells #[.slice lf.A1 lf.n1 lf.c1, .slice lf.A2 lf.n2 lf.c2, .slice lf.A3 lf.n3 lf.c3] 62)).cell? ⟨w.heap.size, 1, none⟩ = some (.nilFunc) := by rw [World.cell?_alloc_past _ _ _ (by simp), World.cell?_alloc_at _ _ _ _ rfl]; rfl
  have q2 : ((w.alloc (.cells #[.func (.func 38) #[] #[], .nilFunc, .nilFunc] 73)).alloc (.cells #[.slice lf.A1 lf.n1 lf.c1, .slice lf.A2 lf.n2 lf.c2, .slice lf.A3 lf.n3 lf.c3] 62)).cell? ⟨w.heap.size, 2, none⟩ = some (.nilFunc) := by rw [World.cell?_alloc_past _ _ _ (by simp), World.cell?_alloc_at _ _ _ _ rfl]; rfl
  have r1 : ((w.alloc (.cells #[.func (.func 38) #[] #[], .nilFunc, .nilFunc] 73)).alloc (.cells #[.slice lf.A1 lf.n1 lf.c1, .slice lf.A2 lf.n2 lf.c2, .slice lf.A3 lf.n3 lf.c3] 62)).cell? ⟨w.heap.size + 1, 1, none⟩ = some (.slice lf.A2 lf.n2 lf.c2) := by rw [World.cell?_alloc_at _ _ _ _ (by simp)]; rfl
  have r2 : ((w.alloc (.cells #[.func (.func 38) #[] #[], .nilFunc, .nilFunc] 73)).alloc (.cells #[.slice lf.A1 lf.n1 lf.c1, .slice lf.A2 lf.n2 lf.c2, .slice lf.A3 lf.n3 lf.c3] 62)).cell? ⟨w.heap.size + 1, 2, none⟩ = some (.slice lf.A3 lf.n3 lf.c3) := by rw [World.cell?_alloc_at _ _ _ _ (by simp)]; rfl
  have Q1 := Lib.hid q1
  have Q2 := Lib.hid q2
  have R1 := Lib.hid r1
  have R2 := Lib.hid r2
  have HZ0 := Lib.hid hz0
  have HZ1 := Lib.hid hz1
  have HG : Hid (g < ((w.alloc (.cells #[.func (.func 38) #[] #[], .nilFunc, .nilFunc] 73)).alloc (.cells #[.slice lf.A1 lf.n1 lf.c1, .slice lf.A2 lf.n2 lf.c2, .slice lf.A3 lf.n3 lf.c3] 62)).heap.size) := Lib.hid (by omega)
  have D1 := Lib.hid HX1.out.e1
  have D2 := Lib.hid HX1.out.e2
  have D3 := Lib.hid HX1.out.e3
  have F1 := Lib.hid HF1.out.e1
  have F2 := Lib.hid HF1.out.e2
  have F3 := Lib.hid HF1.out.e3
  have n1 : l.n1 ≤ 40000 := by have := HX1.out.e1; omega
  have n2 : l.n2 ≤ 40000 := by have := HX1.out.e2; omega
  have n3 : l.n3 ≤ 40000 := by have := HX1.out.e3; omega
  have n4 : lf.n1 ≤ 40000 := by have := HF1.out.e1; omega
  have n5 : lf.n2 ≤ 40000 := by have := HF1.out.e2; omega
  have n6 : lf.n3 ≤ 40000 := by have := HF1.out.e3; omega
  clear ha hx hf q1 q2 r1 r2 hz0 hz1
  go_enter Try.func53, Try.ntmps53
  go_wp2_with fail
  refine (read_any g o l.A1 l.n1 l.c1 v.reads lf.A1 lf.n1 lf.c1 f.reads _ HG.out HA1.out.c1 HA1.out.f1 D1.out F1.out (by omega) HX1.out.s1 HF1.out.s1).mono ?_
  intro e w1 h
  obtain ⟨rfl, l1, X1, B1⟩ := mut1 HA1.out HX1.out HG.out h rfl
  have HB1 := Lib.hid B1
  have HX2 := Lib.hid X1
  have HS1 := Lib.hid (aside_put B1)
  have HA2 := Lib.hid ((HA1.out.put l1).below B1 HG.out)
  have HF2 := Lib.hid (HF1.out.aside HS1.out)
  have HG2 := Lib.hid (Nat.lt_of_lt_of_le HG.out HS1.out.size)
  have HM1 := Lib.hid (MutPost.from HAL.out (show MutPost g o _ _ _ _ from ⟨rfl, l1, X1, B1⟩))
  have p1 := (HS1.out.cell (p := ⟨w.heap.size, 1, none⟩) HZ0.out hne1).trans Q1.out
  have p2 := (HS1.out.cell (p := ⟨w.heap.size, 2, none⟩) HZ0.out hne1).trans Q2.out
  have s1 := (HS1.out.cell (p := ⟨w.heap.size + 1, 1, none⟩) HZ1.out hne2).trans R1.out
  have s2 := (HS1.out.cell (p := ⟨w.heap.size + 1, 2, none⟩) HZ1.out hne2).trans R2.out
  have HE2 := Lib.hid X1.e2
  clear h B1 X1
  go_wp2
  go_end0
  exact HM1.out
end Go.Proofs.Ytiomfncbhbokpaa
