import Derived.Test.YtcjlbmggkjnbhaaNums
namespace Go.Proofs.Ytcjlbmggkjnbhaa
open Go.RowKit
set_option linter.unusedVariables false

theorem run_func (fn : Fn) (first cap : Array Value) (w : World) : (Instr.makeFunc fn first cap).run Try.prog w = .ok (.func fn first cap) w := rfl
theorem reader_any (A : Option Addr) (n c : Nat) (w : World) :
    Calls Try.prog 37 #[.slice A n c] w fun e w' => e = .returned (.tuple #[.func (.func 39) #[] #[.pointer (some ⟨w.heap.size, 0, none⟩), .pointer (some ⟨w.heap.size + 1, 0, none⟩)], .func (.func 40) #[] #[.pointer (some ⟨w.heap.size + 1, 0, none⟩)]]) ∧
      ((w.alloc (.cells #[.slice A n c] 24)).alloc (.cells #[.int .i64 0] 3)) = w' := by
  have hmf := run_func
  go_enter Try.func37, Try.ntmps37
  go_wp2
  go_ret2
  exact ⟨rfl, rfl⟩
theorem next_yes {B : Nat} (A : Option Addr) (n c : Nat) (gb ga p m : Nat) (b : List Int) (z : Int) (w : World) (e1 : b.length = n) (m1 : n ≤ maxLen) (hc : n ≤ c) (hby : Bytes b) (h1 : Sees w B A (b.map (.int .u8)))
    (hb : w.cell? ⟨gb, 0, none⟩ = some (.slice A n c)) (ha : w.cell? ⟨ga, 0, none⟩ = some (.int .i64 p)) (hf : w.frozen? ⟨ga, 0, none⟩ = false) (hp : p ≤ n) (hg : get (b.drop p) = some (z, m)) :
    Calls Try.prog 39 #[.pointer (some ⟨gb, 0, none⟩), .pointer (some ⟨ga, 0, none⟩)] w fun e w' => e = .returned (.tuple #[.int .i64 z, .bool true]) ∧ w.setCell ⟨ga, 0, none⟩ (.int .i64 ((p + m : Nat) : Int)) = w' := by
  have hsl := fun W => slice_lo Try.slice24 Try.size24 A n c p (p : Int) rfl hp W
  have hlen := get_len (hby.drop p) hg
  rw [List.length_drop, e1] at hlen
  have M2 : Hid (n - p ≤ maxLen) := Lib.hid (by unfold maxLen at *; omega)
  have HG := Lib.hid (getR_of_some hg)
  have HL : Hid ((b.drop p).length = n - p) := Lib.hid (by rw [List.length_drop, e1])
  have HS : Hid (Sees w B (cutA A p c) ((b.drop p).map (Value.int .u8))) := Lib.hid (by rw [List.map_drop]; exact h1.cutA p (by rw [List.length_map, e1]; exact hc))
  have HB := Lib.hid (hby.drop p)
  unfold maxLen at m1
  obtain ⟨hl1, hl2, hl3⟩ := hlen
  clear e1 hby h1 hg
  go_enter Try.func39, Try.ntmps39
  go_wp2_with fail
  refine (get_any (cutA A p c) (n - p) (c - p) (b.drop p) w HL.out M2.out HB.out HS.out).mono ?_
  rw [HG.out]
  rintro e w1 ⟨rfl, rfl⟩
  unfold Ret3
  go_wp2
  go_ret2
  exact ⟨rfl, by rw [Int.natCast_add]⟩
theorem next_no {B : Nat} (A : Option Addr) (n c : Nat) (gb ga p : Nat) (b : List Int) (w : World) (e1 : b.length = n) (m1 : n ≤ maxLen) (hc : n ≤ c) (hby : Bytes b) (h1 : Sees w B A (b.map (.int .u8)))
    (hb : w.cell? ⟨gb, 0, none⟩ = some (.slice A n c)) (ha : w.cell? ⟨ga, 0, none⟩ = some (.int .i64 p)) (hf : w.frozen? ⟨ga, 0, none⟩ = false) (hp : p ≤ n) (hg : get (b.drop p) = none) :
    Calls Try.prog 39 #[.pointer (some ⟨gb, 0, none⟩), .pointer (some ⟨ga, 0, none⟩)] w fun e w' => e = .returned (.tuple #[.int .i64 0, .bool false]) ∧ w.setCell ⟨ga, 0, none⟩ (.int .i64 (p : Int)) = w' := by
  have hsl := fun W => slice_lo Try.slice24 Try.size24 A n c p (p : Int) rfl hp W
  have M2 : Hid (n - p ≤ maxLen) := Lib.hid (by unfold maxLen at *; omega)
  have HG := Lib.hid (getR_of_none hg)
  have HL : Hid ((b.drop p).length = n - p) := Lib.hid (by rw [List.length_drop, e1])
  have HS : Hid (Sees w B (cutA A p c) ((b.drop p).map (Value.int .u8))) := Lib.hid (by rw [List.map_drop]; exact h1.cutA p (by rw [List.length_map, e1]; exact hc))
  have HB := Lib.hid (hby.drop p)
  unfold maxLen at m1
  clear e1 hby h1 hg
  go_enter Try.func39, Try.ntmps39
  go_wp2_with fail
  refine (get_any (cutA A p c) (n - p) (c - p) (b.drop p) w HL.out M2.out HB.out HS.out).mono ?_
  rw [HG.out]
  rintro e w1 ⟨rfl, rfl⟩
  unfold Ret3
  go_wp2
  go_ret2
  exact ⟨rfl, rfl⟩
theorem upto_any (ga p : Nat) (w : World) (ha : w.cell? ⟨ga, 0, none⟩ = some (.int .i64 p)) :
    Calls Try.prog 40 #[.pointer (some ⟨ga, 0, none⟩)] w fun e w' => e = .returned (.int .i64 p) ∧ w = w' := by
  go_enter Try.func40, Try.ntmps40
  go_wp2
  go_ret
  exact ⟨rfl, rfl⟩
end Go.Proofs.Ytcjlbmggkjnbhaa
