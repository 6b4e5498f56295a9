import Derived.Test.YtcjlbmggkjnbhaaRGet
namespace Go.Proofs.Ytcjlbmggkjnbhaa
open Go.RowKit
set_option linter.unusedVariables false

/-- The call hands back just these bytes, in new memory. -/
def IsBytes (l : List Int) (w : World) (e : Ending) (w' : World) : Prop :=
  ∃ v, e = .returned v ∧ w'.ownsRow w.heap.size 5 1 v l.length (l.map (Value.int .u8)) ∧ Below w.heap.size w w'
theorem IsBytes.of_put {n : Int} {w : World} {e : Ending} {w' : World} (h : IsPut n w e w') : IsBytes (putL n) w e w' := h
theorem own_app {w : World} {B : Nat} {v : Value} {k : IntKind} {E : TypeId} {xs ys : List Int} {n m : Nat} (h : w.ownsRow B E 1 v (n + m) (xs.map (Value.int k) ++ ys.map (Value.int k))) (hn : xs.length = n) (hm : ys.length = m) :
    w.ownsRow B E 1 v (xs ++ ys).length ((xs ++ ys).map (Value.int k)) := by
  subst hn hm; simpa using h

theorem text_any (s : ByteArray) (hs : s.size ≤ 1000000) (w : World) : Calls Try.prog 25 #[.string s] w (IsBytes (textL (numsOf s)) w) := by
  obtain ⟨i0, hi, hz0, hz1, hz2⟩ := info_parts Try.info5
  have hin : In64 (s.size : Int) := by unfold In64; omega
  have H := Lib.hid hin
  clear hin
  have hle := put_le s.size
  go_enter Try.func25, Try.ntmps25
  go_wp2_with fail
  refine (put_any s.size H.out _).mono ?_
  rintro e w1 ⟨v, rfl, hown, hb⟩
  go_wp2_with (at_builtin; refine Lib.wpList_append_own_string _ rfl (.tmp 5) (.tmp 6) 24 9 rfl w.heap.size 5 i0 Try.underlying24 Try.underlying9 hi hz0 hz1 hz2 v _ _ rfl hown s rfl (by unfold maxLen; omega) (by omega) hb.size ?_)
  intro v' w2 hown2 hg _
  have hb2 := hb.grown hg hb.size (own_back hown)
  rw [strCells_nums] at hown2
  clear hown hb hg
  go_wp2
  go_ret
  refine ⟨v', rfl, ?_, hb2⟩
  unfold textL
  rw [numsOf_length]
  exact own_app hown2 rfl (numsOf_length s)
theorem rtext_any (s : ByteArray) (hs : s.size ≤ 1000000) (w : World) : Calls Try.prog 26 #[.string s] w (IsBytes (textL (numsOf s)) w) := by
  obtain ⟨i0, hi, hz0, hz1, hz2⟩ := info_parts Try.info5
  have hin : In64 (s.size : Int) := by unfold In64; omega
  have H := Lib.hid hin
  clear hin
  have hle := put_le s.size
  go_enter Try.func26, Try.ntmps26
  go_wp2_with fail
  refine (rput_any s.size H.out _).mono ?_
  rintro e w1 ⟨v, rfl, hown, hb⟩
  go_wp2_with (at_builtin; refine Lib.wpList_append_own_string _ rfl (.tmp 5) (.tmp 6) 24 9 rfl w.heap.size 5 i0 Try.underlying24 Try.underlying9 hi hz0 hz1 hz2 v _ _ rfl hown s rfl (by unfold maxLen; omega) (by omega) hb.size ?_)
  intro v' w2 hown2 hg _
  have hb2 := hb.grown hg hb.size (own_back hown)
  rw [strCells_nums] at hown2
  clear hown hb hg
  go_wp2
  go_ret
  refine ⟨v', rfl, ?_, hb2⟩
  unfold textL
  rw [numsOf_length]
  exact own_app hown2 rfl (numsOf_length s)

def textR (b : List Int) : ByteArray × Int × Int := match getText b with | some (s, m) => (strOfNums s, (m : Int), 0) | none => (ByteArray.empty, 0, 3)
def RetS (r : ByteArray × Int × Int) : Ending := .returned (.tuple #[.string r.1, .int .i64 r.2.1, .int .i64 r.2.2])
theorem rets {r : ByteArray × Int × Int} {a : ByteArray} {b c : Int} (h : r = (a, b, c)) : Ending.returned (.tuple #[.string a, .int .i64 b, .int .i64 c]) = RetS r := by
  rw [h]; rfl
theorem getR_of_none {b : List Int} (h : get b = none) : getR b = (0, 0, 3) := by unfold getR; rw [h]
theorem getR_of_some {b : List Int} {n : Int} {m : Nat} (h : get b = some (n, m)) : getR b = (n, (m : Int), 0) := by unfold getR; rw [h]

theorem getText_any {B : Nat} (A : Option Addr) (n c : Nat) (b : List Int) (w : World) (e1 : b.length = n) (m1 : n ≤ maxLen) (hc : n ≤ c) (hb : Bytes b) (h1 : Sees w B A (b.map (.int .u8))) :
    Calls Try.prog 20 #[.slice A n c] w fun e w' => e = RetS (textR b) ∧ w = w' := by
  have E1 := Lib.hid e1
  have M1 := Lib.hid m1
  have HB := Lib.hid hb
  have H1 := Lib.hid h1
  unfold maxLen at m1
  clear e1 hb h1
  cases hg : get b with
  | none =>
    have hR := Lib.hid (getR_of_none hg)
    have hT : Hid (textR b = (ByteArray.empty, 0, 3)) := Lib.hid (by unfold textR getText; rw [hg])
    clear hg
    go_enter Try.func20, Try.ntmps20
    go_wp2_with fail
    refine (get_any A n c b w E1.out M1.out HB.out H1.out).mono ?_
    rw [hR.out]
    rintro e w1 ⟨rfl, rfl⟩
    unfold Ret3
    go_wp2
    go_ret3
    exact ⟨rets hT.out, rfl⟩
  | some r =>
    obtain ⟨z, m⟩ := r
    have hR := Lib.hid (getR_of_some hg)
    have hlen := get_len HB.out hg
    have hin := (get_some HB.out hg).1
    unfold In64 at hin
    rw [E1.out] at hlen
    by_cases hok : 0 ≤ z ∧ z ≤ (n : Int) - m
    · have hT : Hid (textR b = (strOfNums ((b.drop m).take z.toNat), ((m + z.toNat : Nat) : Int), 0)) := Lib.hid (by unfold textR getText; rw [hg]; simp only; rw [E1.out, if_pos hok])
      clear hg
      obtain ⟨hz0, hz1⟩ := hok
      obtain ⟨k, rfl⟩ := Int.eq_ofNat_of_zero_le hz0
      rw [Int.toNat_natCast] at hT
      have hcv := conv_bytes (P := Try.prog) (w := w) 24 5 9 Try.underlying24 Try.underlying5 Try.underlying9 (cutA A m c) k (c - m) ((b.drop m).take k) (by rw [List.length_take, List.length_drop, E1.out]; omega)
        (by rw [List.map_take, List.map_drop]; exact (H1.out.cutA m (by rw [List.length_map, E1.out]; exact hc)).take k)
      have hsl := fun W => slice_lh Try.slice24 Try.size24 A n c m (m + k) (m : Int) ((m : Int) + (k : Int)) rfl (by omega) (by omega) (by omega) W
      obtain ⟨hl1, hl2, hl3⟩ := hlen
      have hm' : m + k ≤ n := by omega
      go_enter Try.func20, Try.ntmps20
      go_wp2_with fail
      refine (get_any A n c b w E1.out M1.out HB.out H1.out).mono ?_
      rw [hR.out]
      rintro e w1 ⟨rfl, rfl⟩
      unfold Ret3
      go_wp2
      go_ret3
      exact ⟨rets hT.out, rfl⟩
    · have hT : Hid (textR b = (ByteArray.empty, 0, 3)) := Lib.hid (by unfold textR getText; rw [hg]; simp only; rw [E1.out, if_neg hok])
      clear hg
      obtain ⟨hl1, hl2, hl3⟩ := hlen
      by_cases hz : z < 0
      · clear hok
        go_enter Try.func20, Try.ntmps20
        go_wp2_with fail
        refine (get_any A n c b w E1.out M1.out HB.out H1.out).mono ?_
        rw [hR.out]
        rintro e w1 ⟨rfl, rfl⟩
        unfold Ret3
        go_wp2
        go_ret3
        exact ⟨rets hT.out, rfl⟩
      · have hz' : (n : Int) - m < z := by omega
        clear hok
        go_enter Try.func20, Try.ntmps20
        go_wp2_with fail
        refine (get_any A n c b w E1.out M1.out HB.out H1.out).mono ?_
        rw [hR.out]
        rintro e w1 ⟨rfl, rfl⟩
        unfold Ret3
        go_wp2
        go_ret3
        exact ⟨rets hT.out, rfl⟩
theorem rgetText_any (A : Option Addr) (n c : Nat) (b : List Int) (w : World) (e1 : b.length = n) (m1 : n ≤ maxLen) (hc : n ≤ c) (hb : Bytes b) (h1 : Sees w w.heap.size A (b.map (.int .u8))) :
    Calls Try.prog 21 #[.slice A n c] w fun e w' => e = RetS (textR b) ∧ Below w.heap.size w w' := by
  have E1 := Lib.hid e1
  have M1 := Lib.hid m1
  have HB := Lib.hid hb
  have H1 := Lib.hid h1
  unfold maxLen at m1
  clear e1 hb h1
  cases hg : get b with
  | none =>
    have hR := Lib.hid (getR_of_none hg)
    have hT : Hid (textR b = (ByteArray.empty, 0, 3)) := Lib.hid (by unfold textR getText; rw [hg])
    clear hg
    go_enter Try.func21, Try.ntmps21
    go_wp2_with fail
    refine (rget_any A n c b w E1.out M1.out hc HB.out H1.out).mono ?_
    rw [hR.out]
    rintro e w1 ⟨rfl, hbw⟩
    unfold Ret3
    go_wp2
    go_ret3
    exact ⟨rets hT.out, hbw⟩
  | some r =>
    obtain ⟨z, m⟩ := r
    have hR := Lib.hid (getR_of_some hg)
    have hlen := get_len HB.out hg
    have hin := (get_some HB.out hg).1
    unfold In64 at hin
    rw [E1.out] at hlen
    by_cases hok : 0 ≤ z ∧ z ≤ (n : Int) - m
    · have hT : Hid (textR b = (strOfNums ((b.drop m).take z.toNat), ((m + z.toNat : Nat) : Int), 0)) := Lib.hid (by unfold textR getText; rw [hg]; simp only; rw [E1.out, if_pos hok])
      clear hg
      obtain ⟨hz0, hz1⟩ := hok
      obtain ⟨k, rfl⟩ := Int.eq_ofNat_of_zero_le hz0
      rw [Int.toNat_natCast] at hT
      have hsl := fun W => slice_lh Try.slice24 Try.size24 A n c m (m + k) (m : Int) ((m : Int) + (k : Int)) rfl (by omega) (by omega) (by omega) W
      obtain ⟨hl1, hl2, hl3⟩ := hlen
      have hm' : m + k ≤ n := by omega
      go_enter Try.func21, Try.ntmps21
      go_wp2_with fail
      refine (rget_any A n c b w E1.out M1.out hc HB.out H1.out).mono ?_
      rw [hR.out]
      rintro e w1 ⟨rfl, hbw⟩
      have hcv := conv_bytes (P := Try.prog) (w := w1) 24 5 9 Try.underlying24 Try.underlying5 Try.underlying9 (cutA A m c) k (c - m) ((b.drop m).take k) (by rw [List.length_take, List.length_drop, E1.out]; omega)
        (by rw [List.map_take, List.map_drop]; exact ((H1.out.below hbw).cutA m (by rw [List.length_map, E1.out]; exact hc)).take k)
      unfold Ret3
      go_wp2
      go_ret3
      exact ⟨rets hT.out, hbw⟩
    · have hT : Hid (textR b = (ByteArray.empty, 0, 3)) := Lib.hid (by unfold textR getText; rw [hg]; simp only; rw [E1.out, if_neg hok])
      clear hg
      obtain ⟨hl1, hl2, hl3⟩ := hlen
      by_cases hz : z < 0
      · clear hok
        go_enter Try.func21, Try.ntmps21
        go_wp2_with fail
        refine (rget_any A n c b w E1.out M1.out hc HB.out H1.out).mono ?_
        rw [hR.out]
        rintro e w1 ⟨rfl, hbw⟩
        unfold Ret3
        go_wp2
        go_ret3
        exact ⟨rets hT.out, hbw⟩
      · have hz' : (n : Int) - m < z := by omega
        clear hok
        go_enter Try.func21, Try.ntmps21
        go_wp2_with fail
        refine (rget_any A n c b w E1.out M1.out hc HB.out H1.out).mono ?_
        rw [hR.out]
        rintro e w1 ⟨rfl, hbw⟩
        unfold Ret3
        go_wp2
        go_ret3
        exact ⟨rets hT.out, hbw⟩
end Go.Proofs.Ytcjlbmggkjnbhaa
