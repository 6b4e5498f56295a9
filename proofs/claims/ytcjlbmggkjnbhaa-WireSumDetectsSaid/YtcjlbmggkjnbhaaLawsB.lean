import Derived.Test.YtcjlbmggkjnbhaaLawsA
namespace Go.Proofs.Ytcjlbmggkjnbhaa
open Go.RowKit
set_option linter.unusedVariables false

theorem numsR_rng {b : List Int} (hb : Bytes b) (hl : b.length ≤ 1000) : (numsR b).1.length ≤ 1000 := by
  unfold numsR
  cases h : getNums b with
  | none => simp
  | some r =>
    obtain ⟨l, m⟩ := r
    obtain ⟨a1, a2, a3, a4, a5⟩ := getNums_some hb h
    have h2 := a4
    rw [a2] at h2
    unfold numsL at h2
    rw [List.length_append] at h2
    have : l.length ≤ (catL l).length := by
      have h3 := getList_cat a1 []
      exact (getList_some _ _ _ _ ((catL_bytes a1).app Bytes.nil) h3).2.2.2.2.1
    simp only
    omega

set_option maxHeartbeats 2000000 in
set_option maxRecDepth 100000 in
theorem decode_core (A : Option Addr) (n c : Nat) (b : List Int) (w : World) (e1 : b.length = n) (m1 : n ≤ 1000) (hc : n ≤ c) (hby : Bytes b) (h1 : Sees w w.heap.size A (b.map (.int .u8))) :
    Calls Try.prog 4 #[.slice A n c] w (Sane w) := by
  have M1 : n ≤ maxLen := by unfold maxLen; omega
  have M2 : n ≤ 1000000 := by omega
  have HN := numsR_rng hby (by omega)
  have C1 := Lib.hid (fun W (hW : Below w.heap.size w W) => get_any A n c b W e1 M1 hby (h1.below hW))
  have C2 := Lib.hid (fun W (hW : Below w.heap.size w W) => rget_any A n c b W e1 M1 hc hby ((h1.below hW).more hW.size))
  have C3 := Lib.hid (fun W (hW : Below w.heap.size w W) => getText_any A n c b W e1 M1 hc hby (h1.below hW))
  have C4 := Lib.hid (fun W (hW : Below w.heap.size w W) => rgetText_any A n c b W e1 M1 hc hby ((h1.below hW).more hW.size))
  have C5 := Lib.hid (fun W (hW : Below w.heap.size w W) => getNums_any A n c b W e1 M2 hc hby ((h1.below hW).more hW.size))
  have C6 := Lib.hid (fun W (hW : Below w.heap.size w W) => rgetNums_any A n c b W e1 M2 hc hby ((h1.below hW).more hW.size))
  clear e1 hby h1 M1 M2 hc
  generalize getR b = g at C1 C2
  generalize textR b = t at C3 C4
  generalize numsR b = u at C5 C6 HN
  clear b
  obtain ⟨g1, g2, g3⟩ := g
  obtain ⟨t1, t2, t3⟩ := t
  obtain ⟨u1, u2, u3⟩ := u
  simp only at HN
  have hu : u1.length ≤ maxLen := by unfold maxLen; omega
  have HU := Lib.hid hu
  clear hu
  go_enter Try.func4, Try.ntmps4
  go_wp2_with fail
  refine (C1.out _ (Below.refl _ _)).mono ?_
  rintro e w1 ⟨rfl, rfl⟩
  unfold Ret3
  go_wp2_with fail
  refine (C2.out _ (Below.refl _ _)).mono ?_
  rintro e w2 ⟨rfl, hb2⟩
  unfold Ret3
  go_wp2_with fail
  refine (C3.out _ hb2).mono ?_
  rintro e w3 ⟨rfl, rfl⟩
  unfold RetS
  go_wp2_with fail
  refine (C4.out _ hb2).mono ?_
  rintro e w4 ⟨rfl, hb4⟩
  have hb04 := hb2.trans (hb4.mono hb2.size)
  clear hb4 hb2
  unfold RetS
  go_wp2_with fail
  refine (C5.out _ hb04).mono ?_
  rintro e w5 ⟨v5, rfl, ho5, hb5⟩
  obtain ⟨A5, c5, rfl, _, hs5⟩ := own_form ho5
  have hb05 := hb04.trans (hb5.mono hb04.size)
  clear ho5 hb5 hb04
  go_wp2_with fail
  refine (C6.out _ hb05).mono ?_
  rintro e w6 ⟨v6, rfl, ho6, hb6⟩
  obtain ⟨A6, c6, rfl, _, hs6⟩ := own_form ho6
  have hs56 := (hs5.below hb6).more hb6.size
  have hb06 := hb05.trans (hb6.mono hb05.size)
  clear ho6 hb6 hb05 hs5
  go_wp2_with fail
  refine (sanity_any _).mono ?_
  rintro e w7 ⟨rfl, hb7⟩
  have hs57 := hs56.below hb7
  have hs67 := hs6.below hb7
  have hb07 := hb06.trans (hb7.mono hb06.size)
  clear hb7 hb06 hs56 hs6
  go_wp2_with fail
  refine (ints_any A5 A6 _ _ c5 c6 u1 u1 _ rfl rfl HU.out HU.out hs57 hs67).mono ?_
  rw [decide_eq_true rfl]
  rintro e w8 ⟨rfl, d, rfl⟩
  go_wp2
  go_ret
  exact ⟨rfl, below_drewN hb07 _⟩
theorem decode_walk (A : Option Addr) (n c : Nat) (zs : List Int) (w : World) (w0 : Row .u8 w A n c zs) : Calls Try.prog 4 #[.slice A n c] w (Sane w) := by
  obtain ⟨l1, l2, l3, _⟩ := w0.len
  by_cases hn : n ≤ 1000
  · exact decode_core A n c (zs.take n) w l1 hn l2 w0.bytes w0.sees
  · have hl : (1000 : Int) < (n : Int) := by omega
    clear hn w0 l1 l2 l3
    go_enter Try.func4, Try.ntmps4
    go_wp2_with fail
    refine (sanity_any _).mono ?_
    rintro e w3 ⟨rfl, hb3⟩
    go_wp2
    go_ret
    exact ⟨rfl, hb3⟩
end Go.Proofs.Ytcjlbmggkjnbhaa
