import Derived.Test.YtiomfncbhbokpaaAll
namespace Go.Proofs.Ytiomfncbhbokpaa
open Go.RowKit
set_option linter.unusedVariables false

set_option maxRecDepth 100000 in
theorem rbegin_any (v : Value) (ls : List Lv) (w : World) (h : IsLs w v ls) (hm : ls.length ≤ 1000) : Calls Try.prog 20 #[v] w (RetLs (ls ++ [zeroLv]) w) := by
  obtain ⟨i0, hi, hz0, hz1, hz2⟩ := info_parts Try.info62
  have HI := Lib.hid hi
  have HZ0 := Lib.hid hz0
  have HZ1 := Lib.hid hz1
  have HZ2 := Lib.hid hz2
  obtain ⟨A, c, lcs, rfl, hc, hs, hl⟩ := h
  obtain ⟨n, hn⟩ : ∃ n, n = ls.length := ⟨_, rfl⟩
  have HLL := Lib.hid hl.length
  rw [← hn] at hc hm ⊢
  have HN := Lib.hid hn
  have HS := Lib.hid hs
  have HL := Lib.hid hl
  have HXL : Hid ((lcs.flatMap lvC).length = n * 3) := Lib.hid (by rw [flat_length lv_len, HLL.out, HN.out])
  clear hs hl hi hz0 hz1 hz2 hn
  go_enter Try.func20, Try.ntmps20
  go_wp2_with (at_builtin; refine wpList_app rfl (.tmp 3) (.tmp 4) 22 rfl w.heap.size 62 i0 (.agg #[.slice none 0 0, .slice none 0 0, .slice none 0 0]) 3 72 Try.underlying22 HI.out HZ0.out HZ1.out HZ2.out rfl (by decide) (own_none w 62 3) (HS.out.alloc (Nat.le_refl _) _) HXL.out (flat_one lv_one lcs) rfl rfl (by unfold maxLen; omega) (by omega) (by simp) ?_)
  intro v1 w1 o1 b1
  have HB := Lib.hid (((Below.refl w.heap.size w).alloc (Nat.le_refl _) (.cells #[] 62)).trans b1)
  have HO := Lib.hid (own_below o1 ((Below.refl _ _).alloc (Nat.le_refl _) (.cells #[.slice none 0 0, .slice none 0 0, .slice none 0 0] 62)))
  clear o1 b1
  go_wp2_with (at_builtin; refine wpList_app rfl (.tmp 5) (.tmp 7) 22 rfl w.heap.size 62 i0 (.agg #[.slice none 0 0, .slice none 0 0, .slice none 0 0]) 3 72 Try.underlying22 HI.out HZ0.out HZ1.out HZ2.out rfl (by decide) HO.out (Sees.new w1 (lvC zeroLC) 62) rfl (lv_one zeroLC) rfl rfl (by unfold maxLen; omega) (by omega) (by have := HB.out.size; simp; omega) ?_)
  intro v2 w2 o2 b2
  have HB2 : Hid (Below w.heap.size w w2) := Lib.hid ((HB.out.alloc HB.out.size _).trans b2)
  have o3 : w2.ownsRow w.heap.size 62 3 v2 (n + 1) ((lcs ++ [zeroLC]).flatMap lvC) := own_cast o2 (by omega) (by simp)
  obtain ⟨A2, c2, rfl, hc2, hs2⟩ := own_form o3
  have HR : Hid (IsLs w2 (.slice A2 (n + 1) c2) (ls ++ [zeroLv])) := Lib.hid ⟨A2, c2, lcs ++ [zeroLC], by simp [HN.out], by simpa [HN.out] using hc2, hs2, ((HL.out.kept HB2.out).more HB2.out.size).app (.cons (lev_zero _ _) .nil)⟩
  clear o2 o3 b2 hc2 hs2
  go_wp2
  go_ret
  exact ⟨_, rfl, HR.out, HB2.out⟩
end Go.Proofs.Ytiomfncbhbokpaa
