/- The comparison of two values (a tree of finite depth) with themselves, and of rows of compensations. -/
import Derived.Test.YtiomfncbhbokpaaTSanity
namespace Go.Proofs.Ytiomfncbhbokpaa
open Go.RowKit
set_option linter.unusedVariables false

/-- A row of values, each a tree of depth below d, in blocks below B. -/
def VT (w : World) (B : Nat) : Nat → Option Addr → Nat → Prop
  | 0, _, len => len = 0
  | d + 1, A, len => ∀ i, i < len → ∃ (b off : Nat) (k n m : Int) (A' : Option Addr) (len' cap' : Nat), A = some ⟨b, off, none⟩ ∧ b < B ∧ w.cell? ⟨b, off + i * 4, none⟩ = some (.int .i64 k) ∧ w.cell? ⟨b, off + i * 4 + 1, none⟩ = some (.int .i64 n) ∧
      w.cell? ⟨b, off + i * 4 + 2, none⟩ = some (.int .i64 m) ∧ w.cell? ⟨b, off + i * 4 + 3, none⟩ = some (.slice A' len' cap') ∧ len' ≤ maxLen ∧ VT w B d A' len'
theorem VT.below {w w' : World} {B : Nat} (hb : Below B w w') : ∀ {d : Nat} {A : Option Addr} {len : Nat}, VT w B d A len → VT w' B d A len
  | 0, _, _, h => h
  | d + 1, A, len, h => fun i hi => by
    obtain ⟨b, off, k, n, m, A', len', cap', hA, hB, h0, h1, h2, h3, h4, h5⟩ := h i hi
    exact ⟨b, off, k, n, m, A', len', cap', hA, hB, (hb.cell (p := ⟨b, _, none⟩) hB).trans h0, (hb.cell (p := ⟨b, _, none⟩) hB).trans h1, (hb.cell (p := ⟨b, _, none⟩) hB).trans h2, (hb.cell (p := ⟨b, _, none⟩) hB).trans h3, h4, VT.below hb h5⟩
theorem VT.more {w : World} {B B' : Nat} (hB : B ≤ B') : ∀ {d : Nat} {A : Option Addr} {len : Nat}, VT w B d A len → VT w B' d A len
  | 0, _, _, h => h
  | d + 1, A, len, h => fun i hi => by
    obtain ⟨b, off, k, n, m, A', len', cap', hA, hb, h0, h1, h2, h3, h4, h5⟩ := h i hi
    exact ⟨b, off, k, n, m, A', len', cap', hA, by omega, h0, h1, h2, h3, h4, VT.more hB h5⟩
def TrueBelow (w : World) (e : Ending) (w' : World) : Prop := e = .returned (.bool true) ∧ Below w.heap.size w w'

set_option maxRecDepth 100000 in
set_option maxHeartbeats 1000000 in
theorem value_any : ∀ (d : Nat) (k n m : Int) (A : Option Addr) (len cap : Nat) (w : World), VT w w.heap.size d A len → len ≤ maxLen →
    Calls Try.prog 52 #[.agg #[.int .i64 k, .int .i64 n, .int .i64 m, .slice A len cap], .agg #[.int .i64 k, .int .i64 n, .int .i64 m, .slice A len cap]] w (TrueBelow w) := by
  intro d
  induction d with
  | zero =>
    intro k n m A len cap w hv hm
    obtain rfl : len = 0 := hv
    have HB : Hid (Below w.heap.size w ((w.alloc (.cells #[.int .i64 k, .int .i64 n, .int .i64 m, .slice A 0 cap] 48)).alloc (.cells #[.int .i64 k, .int .i64 n, .int .i64 m, .slice A 0 cap] 48))) := Lib.hid (((Below.refl _ _).alloc (Nat.le_refl _) _).alloc (by simp) _)
    clear hm
    go_enter Try.func52, Try.ntmps52
    go_wp2
    go_loopw [5] (fun i wr => i = .int .i64 0 ∧ wr = (w.alloc (.cells #[.int .i64 k, .int .i64 n, .int .i64 m, .slice A 0 cap] 48)).alloc (.cells #[.int .i64 k, .int .i64 n, .int .i64 m, .slice A 0 cap] 48)) (fun i _ => 0)
    case atStart => exact ⟨rfl, rfl⟩
    case round =>
      obtain ⟨rfl, rfl⟩ := hrel
      go_wp2
      go_ret
      exact ⟨rfl, HB.out⟩
  | succ d ih =>
    intro k n m A len cap w hv hm
    unfold maxLen at hm
    have HV := Lib.hid hv
    have HIH := Lib.hid ih
    have hal : Below w.heap.size w ((w.alloc (.cells #[.int .i64 k, .int .i64 n, .int .i64 m, .slice A len cap] 48)).alloc (.cells #[.int .i64 k, .int .i64 n, .int .i64 m, .slice A len cap] 48)) := ((Below.refl _ _).alloc (Nat.le_refl _) _).alloc (by simp) _
    have HAL := Lib.hid hal
    have HC : Hid (((w.alloc (.cells #[.int .i64 k, .int .i64 n, .int .i64 m, .slice A len cap] 48)).alloc (.cells #[.int .i64 k, .int .i64 n, .int .i64 m, .slice A len cap] 48)).cell? ⟨w.heap.size, 3, none⟩ = some (.slice A len cap) ∧
      ((w.alloc (.cells #[.int .i64 k, .int .i64 n, .int .i64 m, .slice A len cap] 48)).alloc (.cells #[.int .i64 k, .int .i64 n, .int .i64 m, .slice A len cap] 48)).cell? ⟨w.heap.size + 1, 3, none⟩ = some (.slice A len cap)) := Lib.hid
      ⟨(((Below.refl (w.heap.size + 1) (w.alloc (.cells #[.int .i64 k, .int .i64 n, .int .i64 m, .slice A len cap] 48))).alloc (by simp) _).cell (p := ⟨w.heap.size, 3, none⟩) (by simp)).trans (by rw [World.cell?_alloc_at _ _ _ _ rfl]; rfl),
       by rw [World.cell?_alloc_at _ _ _ _ (by simp)]; rfl⟩
    have hsz : ((w.alloc (.cells #[.int .i64 k, .int .i64 n, .int .i64 m, .slice A len cap] 48)).alloc (.cells #[.int .i64 k, .int .i64 n, .int .i64 m, .slice A len cap] 48)).heap.size = w.heap.size + 2 := by simp
    have HSZ := Lib.hid hsz
    clear hv ih hal hsz
    go_enter Try.func52, Try.ntmps52
    go_wp2
    generalize (w.alloc (.cells #[.int .i64 k, .int .i64 n, .int .i64 m, .slice A len cap] 48)).alloc (.cells #[.int .i64 k, .int .i64 n, .int .i64 m, .slice A len cap] 48) = w0 at *
    go_loopw [5] (fun i wr => ∃ j : Nat, j ≤ len ∧ i = .int .i64 j ∧ Hid (Below w0.heap.size w0 wr)) (fun i _ => len - (intOf i).toNat)
    case atStart => exact ⟨0, Nat.zero_le _, rfl, Lib.hid (Below.refl _ _)⟩
    case round =>
      obtain ⟨j, hj, rfl, HB⟩ := hrel
      have d0 := (HB.out.cell (p := ⟨w.heap.size, 3, none⟩) (by rw [HSZ.out]; simp)).trans HC.out.1
      have d1 := (HB.out.cell (p := ⟨w.heap.size + 1, 3, none⟩) (by rw [HSZ.out]; simp)).trans HC.out.2
      by_cases hlt : j < len
      · have hbw := HAL.out.trans (HB.out.mono HAL.out.size)
        obtain ⟨b, off, k', n', m', A', len', cap', rfl, hb, h0, h1, h2, h3, h4, h5⟩ := HV.out j hlt
        have e0 := (hbw.cell (p := ⟨b, _, none⟩) hb).trans h0
        have e1 := (hbw.cell (p := ⟨b, _, none⟩) hb).trans h1
        have e2 := (hbw.cell (p := ⟨b, _, none⟩) hb).trans h2
        have e3 := (hbw.cell (p := ⟨b, _, none⟩) hb).trans h3
        have HC2 := Lib.hid (HIH.out k' n' m' A' len' cap' wr.drew (((h5.below hbw).more hbw.size).below (Below.refl _ _).drew) h4)
        clear h0 h1 h2 h3 h4 h5 hb hbw
        go_wp2
        go_region_with (
          go_at_call 52
          refine HC2.out.mono ?_
          rintro e w2 ⟨rfl, b2⟩
          have B2 := Lib.hid (HB.out.trans ((below_of_drew b2).mono HB.out.size))
          clear b2)
        all_goals
          go_wp2
          go_roundw
          case rel => exact ⟨j + 1, by omega, by go_num, B2⟩
          case measure => simp [intOf]; omega
      · have hjn : j = len := by omega
        subst hjn
        go_wp2
        go_ret
        exact ⟨rfl, HAL.out.trans (HB.out.mono HAL.out.size)⟩
end Go.Proofs.Ytiomfncbhbokpaa
