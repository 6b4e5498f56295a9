import Derived.Test.YtiomfncbhbokpaaNone
namespace Go.Proofs.Ytiomfncbhbokpaa
open Go.RowKit
set_option linter.unusedVariables false

def allL (ls : List Lv) : Lv := ls.foldl joinRW zeroLv
def AllRel (ls : List Lv) (w : World) (i : Value) (wr : World) : Prop :=
  ∃ (k : Nat) (l : LC), k ≤ ls.length ∧ i = .int .i64 k ∧ LevAt wr w.heap.size 0 l ∧ LevX wr w.heap.size l (allL (ls.take k)) ∧ Below w.heap.size w wr ∧ w.heap.size < wr.heap.size
def RetAll (v : Lv) (w : World) (e : Ending) (w' : World) : Prop :=
  ∃ A1 c1 A2 c2, e = .returned (.tuple #[.slice A1 v.reads.length c1, .slice A2 v.writes.length c2]) ∧ Sees w' w'.heap.size A1 (v.reads.flatMap seenC) ∧ Sees w' w'.heap.size A2 (v.writes.flatMap wrC) ∧ Below w.heap.size w w'
set_option maxRecDepth 100000 in
set_option maxHeartbeats 1000000 in
theorem all_any (v : Value) (ls : List Lv) (w : World) (h : IsLs w v ls) (hm : ls.length ≤ 1000) (hsm : ∀ k, SmallV 40000 (allL (ls.take k))) (hsv : ∀ x ∈ ls, SmallV 40000 x) : Calls Try.prog 27 #[v] w (RetAll (allL ls) w) := by
  obtain ⟨A, c, lcs, rfl, hc, hs, hl⟩ := h
  obtain ⟨n, hn⟩ : ∃ n, n = ls.length := ⟨_, rfl⟩
  rw [← hn] at hc hm ⊢
  have HN := Lib.hid hn
  have HS := Lib.hid hs
  have HL := Lib.hid hl
  have HSM := Lib.hid hsm
  have HSV := Lib.hid hsv
  have hal : Below w.heap.size w (w.alloc (.cells #[.slice none 0 0, .slice none 0 0, .slice none 0 0] 62)) := (Below.refl _ _).alloc (Nat.le_refl _) _
  have HAT : Hid (LevAt (w.alloc (.cells #[.slice none 0 0, .slice none 0 0, .slice none 0 0] 62)) w.heap.size 0 zeroLC) := Lib.hid
    ⟨by rw [World.cell?_alloc_at _ _ _ _ rfl]; rfl, by rw [World.cell?_alloc_at _ _ _ _ rfl]; rfl, by rw [World.cell?_alloc_at _ _ _ _ rfl]; rfl, World.frozen?_alloc_at _ _ _ _ rfl, World.frozen?_alloc_at _ _ _ _ rfl, World.frozen?_alloc_at _ _ _ _ rfl⟩
  have HAL := Lib.hid hal
  clear hn hs hl hsm hsv hal
  go_enter Try.func27, Try.ntmps27
  go_wp2
  go_loopw [9] (fun i wr => AllRel ls w i wr) (fun i _ => n - (intOf i).toNat)
  case atStart => exact ⟨0, zeroLC, Nat.zero_le _, rfl, HAT.out, ⟨rfl, rfl, rfl, Nat.le_refl _, Nat.le_refl _, Nat.le_refl _, .inl rfl, .inl rfl, .inl rfl⟩, HAL.out, by simp⟩
  case round =>
    obtain ⟨k, l, hk, rfl, hat, hx, hb, hsz⟩ := hrel
    rw [← HN.out] at hk
    have HA1 := Lib.hid hat
    have HX1 := Lib.hid hx
    have HB1 := Lib.hid hb
    by_cases hlt : k < n
    · have hv : ls[k]? = some (ls[k]'(by rw [← HN.out]; exact hlt)) := List.getElem?_eq_getElem _
      generalize ls[k]'(by rw [← HN.out]; exact hlt) = x at hv
      obtain ⟨lc, hlc, hlev⟩ := HL.out.get k x hv
      have g0 := flat_get (f := lvC) lv_len lcs k 0 lc hlc (by omega)
      have g1 := flat_get (f := lvC) lv_len lcs k 1 lc hlc (by omega)
      have g2 := flat_get (f := lvC) lv_len lcs k 2 lc hlc (by omega)
      obtain ⟨b, off, rfl, hbw, hcell⟩ : ∃ b off, A = some ⟨b, off, none⟩ ∧ b < w.heap.size ∧ ∀ j u, (lcs.flatMap lvC)[j]? = some u → w.cell? ⟨b, off + j, none⟩ = some u := by
        rcases HS.out with h | ⟨b, off, hA, hb, hc⟩
        · rw [h] at g0
          simp [lvC] at g0
        · exact ⟨b, off, hA, hb, hc⟩
      have c0 : wr.cell? ⟨b, off + k * 3, none⟩ = some (.slice lc.A1 lc.n1 lc.c1) := (hb.cell (p := ⟨b, _, none⟩) hbw).trans (hcell _ _ ((show _ = _ from g0).trans rfl))
      have c1 : wr.cell? ⟨b, off + k * 3 + 1, none⟩ = some (.slice lc.A2 lc.n2 lc.c2) := (hb.cell (p := ⟨b, _, none⟩) hbw).trans (by have := hcell _ _ (g1.trans (show _ = some (Value.slice lc.A2 lc.n2 lc.c2) from rfl)); rw [← Nat.add_assoc] at this; exact this)
      have c2 : wr.cell? ⟨b, off + k * 3 + 2, none⟩ = some (.slice lc.A3 lc.n3 lc.c3) := (hb.cell (p := ⟨b, _, none⟩) hbw).trans (by have := hcell _ _ (g2.trans (show _ = some (Value.slice lc.A3 lc.n3 lc.c3) from rfl)); rw [← Nat.add_assoc] at this; exact this)
      have hal2 : Below wr.heap.size wr (wr.alloc (.cells #[.slice lc.A1 lc.n1 lc.c1, .slice lc.A2 lc.n2 lc.c2, .slice lc.A3 lc.n3 lc.c3] 62)) := (Below.refl _ _).alloc (Nat.le_refl _) _
      have HJ := Lib.hid (join_rw w.heap.size 0 l lc (allL (ls.take k)) x (wr.alloc (.cells #[.slice lc.A1 lc.n1 lc.c1, .slice lc.A2 lc.n2 lc.c2, .slice lc.A3 lc.n3 lc.c3] 62)) (by simp; omega) (hat.below hal2 hsz) (hx.aside (Aside.of_below hal2)) (.of ((hlev.below hb).below (hal2.mono hb.size)) (Nat.le_trans hb.size hal2.size) (Nat.le_refl _)) (HSM.out k) (HSV.out x (List.mem_of_getElem? hv)))
      have HT := Lib.hid (take_next (f := joinRW) hv zeroLv)
      have HA2 := Lib.hid (hat.below hal2 hsz)
      have HB2 := Lib.hid (hb.trans (hal2.mono hb.size))
      have hsz2 : w.heap.size < (wr.alloc (.cells #[.slice lc.A1 lc.n1 lc.c1, .slice lc.A2 lc.n2 lc.c2, .slice lc.A3 lc.n3 lc.c3] 62)).heap.size := by simp; omega
      have HZ2 := Lib.hid hsz2
      clear hv hlc hlev g0 g1 g2 hcell hal2 hat hx hb hsz2
      go_wp2_with fail
      refine HJ.out.mono ?_
      rintro e w2 ⟨rfl, l2, x2, b2⟩
      have HX2 := Lib.hid x2
      have HS2 := Lib.hid (aside_put b2)
      have HA3 := Lib.hid ((HA2.out.put l2).below b2 HZ2.out)
      clear x2 b2
      go_wp2
      go_roundw
      case rel => exact ⟨k + 1, l2, by rw [← HN.out]; omega, by go_num, HA3.out, by unfold allL; rw [HT.out]; exact HX2.out, HB2.out.trans (HS2.out.below HB2.out.size (Nat.le_refl _)), Nat.lt_of_lt_of_le HZ2.out HS2.out.size⟩
      case measure => simp [intOf]; omega
    · have HT : Hid (ls.take k = ls) := Lib.hid (List.take_of_length_le (by rw [← HN.out]; omega))
      have q1 := hat.c1
      have q2 := hat.c2
      clear hat hx hb
      go_wp2
      go_quiet (fail)
      go_wp2
      go_ret2
      have h9 := HX1.out
      rw [HT.out] at h9
      refine ⟨l.A1, l.c1, l.A2, l.c2, ?_, h9.s1.sees, h9.s2.sees, below_drewN HB1.out _⟩
      first
        | (rw [h9.e1, h9.e2]; done)
        | (rw [← h9.e1, ← h9.e2]; done)
        | (simp [h9.e1, h9.e2]; done)
end Go.Proofs.Ytiomfncbhbokpaa
