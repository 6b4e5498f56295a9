import Derived.Test.YtcjlbmggkjnbhaaSum
namespace Go.Proofs.Ytcjlbmggkjnbhaa
open Go.RowKit
set_option linter.unusedVariables false

theorem below_bytes (w : World) (s : ByteArray) : Below w.heap.size w (Lib.bytesWorld w 5 s) :=
  ⟨rfl, rfl, rfl, by rw [Lib.bytesWorld_size]; omega, fun k hk => Lib.bytesWorld_at_old w 5 s k hk⟩
theorem sees_bytes (w : World) (s : ByteArray) : Sees (Lib.bytesWorld w 5 s) (w.heap.size + 1) (some ⟨w.heap.size, 0, none⟩) ((numsOf s).map (Value.int .u8)) :=
  .inr ⟨_, 0, rfl, by omega, fun j u hu => by
    have hj : j < s.size := by
      have := (List.getElem?_eq_some_iff.1 hu).1
      rwa [List.length_map, numsOf_length] at this
    rw [Nat.zero_add, Lib.bytesWorld_cell w 5 s j hj]
    rw [getElem?_ints (by rw [numsOf_length]; exact hj)] at hu
    rw [← hu]
    congr 2
    unfold numsOf
    have hj2 : j < s.data.toList.length := by rw [Array.length_toList]; exact hj
    simp [List.getD_eq_getElem?_getD, List.getElem?_map, List.getElem?_eq_getElem hj2]⟩

def openR (b : List Int) : List Int × Int × Int := match openL b with | some (s, m) => (s, (m : Int), 0) | none => ([], 0, 3)
/-- The call hands back a slice that reads so, a count and an error. -/
def IsOpen (r : List Int × Int × Int) (w : World) (e : Ending) (w' : World) : Prop :=
  ∃ A c, e = .returned (.tuple #[.slice A r.1.length c, .int .i64 r.2.1, .int .i64 r.2.2]) ∧ r.1.length ≤ c ∧ Sees w' w'.heap.size A (r.1.map (Value.int .u8)) ∧ Below w.heap.size w w'
theorem isOpen_no {r : List Int × Int × Int} {w w' : World} (h : r = ([], 0, 3)) (hb : Below w.heap.size w w') : IsOpen r w (.returned (.tuple #[.slice none 0 0, .int .i64 0, .int .i64 3])) w' := by
  subst h; exact ⟨none, 0, rfl, Nat.le_refl _, Sees.nil, hb⟩
theorem isOpen_yes {r : List Int × Int × Int} {w w' : World} {A : Option Addr} {n c : Nat} {s : List Int} {m : Int} (h : r = (s, m, 0)) (hn : s.length = n) (hc : n ≤ c) (hs : Sees w' w'.heap.size A (s.map (Value.int .u8))) (hb : Below w.heap.size w w') :
    IsOpen r w (.returned (.tuple #[.slice A n c, .int .i64 m, .int .i64 0])) w' := by
  subst h hn; exact ⟨A, c, rfl, hc, hs, hb⟩
theorem textR_none {b : List Int} (h : getText b = none) : textR b = (ByteArray.empty, 0, 3) := by unfold textR; rw [h]
theorem textR_some {b s : List Int} {m : Nat} (h : getText b = some (s, m)) : textR b = (strOfNums s, (m : Int), 0) := by unfold textR; rw [h]
theorem openR_1 {b : List Int} (h : getText b = none) : openR b = ([], 0, 3) := by unfold openR openL; rw [h]
theorem openR_2 {b s : List Int} {m : Nat} (h : getText b = some (s, m)) (h2 : get (b.drop m) = none) : openR b = ([], 0, 3) := by unfold openR openL; rw [h]; simp only [h2]
theorem openR_3 {b s : List Int} {m k : Nat} {z : Int} (h : getText b = some (s, m)) (h2 : get (b.drop m) = some (z, k)) (h3 : z ≠ sumL s) : openR b = ([], 0, 3) := by unfold openR openL; rw [h]; simp only [h2]; rw [if_neg h3]
theorem openR_4 {b s : List Int} {m k : Nat} (h : getText b = some (s, m)) (h2 : get (b.drop m) = some (sumL s, k)) : openR b = (s, ((m + k : Nat) : Int), 0) := by unfold openR openL; rw [h]; simp only [h2, if_true]
theorem text_bytes {b s : List Int} {m : Nat} (hb : Bytes b) (h : getText b = some (s, m)) : Bytes s := by
  have h2 := (getText_some hb h).2.1
  rw [h2] at hb
  have h3 := hb.left
  unfold textL at h3
  exact fun x hx => h3 x (List.mem_append_right _ hx)

set_option maxHeartbeats 1600000 in

theorem open_any (A : Option Addr) (n c : Nat) (b : List Int) (w : World) (e1 : b.length = n) (m1 : n ≤ 1000000) (hc : n ≤ c) (hby : Bytes b) (h1 : Sees w w.heap.size A (b.map (.int .u8))) :
    Calls Try.prog 29 #[.slice A n c] w (IsOpen (openR b) w) := by
  have E1 := Lib.hid e1
  have HB := Lib.hid hby
  have H1 := Lib.hid h1
  have M1 : Hid (n ≤ maxLen) := Lib.hid (by unfold maxLen; omega)
  clear e1 hby h1
  cases hg : getText b with
  | none =>
    have HT := Lib.hid (textR_none hg)
    have HN := Lib.hid (openR_1 hg)
    clear hg
    go_enter Try.func29, Try.ntmps29
    go_wp2_with fail
    refine (getText_any A n c b w E1.out M1.out hc HB.out H1.out).mono ?_
    rw [HT.out]
    rintro e w1 ⟨rfl, rfl⟩
    unfold RetS
    go_wp2
    go_ret3
    exact isOpen_no HN.out (Below.refl _ _)
  | some r =>
    obtain ⟨s, m⟩ := r
    have HT := Lib.hid (textR_some hg)
    obtain ⟨-, -, hl1, hl2⟩ := getText_some HB.out hg
    rw [E1.out] at hl1 hl2
    have HSB := Lib.hid (text_bytes HB.out hg)
    have hsl := fun W => slice_lo Try.slice24 Try.size24 A n c m (m : Int) rfl hl2 W
    have M2 : Hid (n - m ≤ maxLen) := Lib.hid (by have := M1.out; omega)
    have HL : Hid ((b.drop m).length = n - m) := Lib.hid (by rw [List.length_drop, E1.out])
    have HS : Hid (Sees w w.heap.size (cutA A m c) ((b.drop m).map (Value.int .u8))) := Lib.hid (by
      rw [List.map_drop]; exact H1.out.cutA m (by rw [List.length_map, E1.out]; exact hc))
    have HB2 := Lib.hid (HB.out.drop m)
    have hcv := fun W => Lib.run_convert_string_bytes (P := Try.prog) W 9 24 5 (strOfNums s) Try.underlying9 Try.underlying24 Try.underlying5
    rw [strOfNums_size] at hcv
    have HNS : Hid (numsOf (strOfNums s) = s) := Lib.hid (nums_str HSB.out)
    cases hg2 : get (b.drop m) with
    | none =>
      have HR := Lib.hid (getR_of_none hg2)
      have HN := Lib.hid (openR_2 hg hg2)
      clear hg hg2
      go_enter Try.func29, Try.ntmps29
      go_wp2_with fail
      refine (getText_any A n c b w E1.out M1.out hc HB.out H1.out).mono ?_
      rw [HT.out]
      rintro e w1 ⟨rfl, rfl⟩
      unfold RetS
      go_wp2_with fail
      refine (get_any (cutA A m c) (n - m) (c - m) (b.drop m) _ HL.out M2.out HB2.out HS.out).mono ?_
      rw [HR.out]
      rintro e w2 ⟨rfl, rfl⟩
      unfold Ret3
      go_wp2
      go_ret3
      exact isOpen_no HN.out (Below.refl _ _)
    | some r =>
      obtain ⟨z, k⟩ := r
      have HR := Lib.hid (getR_of_some hg2)
      have hlen := get_len HB2.out hg2
      rw [HL.out] at hlen
      obtain ⟨hm1, hm2, hm3⟩ := hlen
      have hss : Hid (Sees (Lib.bytesWorld w 5 (strOfNums s)) (w.heap.size + 1) (some ⟨w.heap.size, 0, none⟩) (s.map (Value.int .u8))) := Lib.hid (by
        have h5 := sees_bytes w (strOfNums s)
        rwa [HNS.out] at h5)
      have hbs := below_bytes w (strOfNums s)
      have M3 : Hid (s.length ≤ maxLen) := Lib.hid (by have := M1.out; omega)
      by_cases hz : z = sumL s
      · have HN := Lib.hid (openR_4 hg (by rw [← hz]; exact hg2))
        have hzb : (z != sumL s) = false := by simpa using hz
        clear hg hg2 hz
        go_enter Try.func29, Try.ntmps29
        go_wp2_with fail
        refine (getText_any A n c b w E1.out M1.out hc HB.out H1.out).mono ?_
        rw [HT.out]
        rintro e w1 ⟨rfl, rfl⟩
        unfold RetS
        go_wp2_with fail
        refine (get_any (cutA A m c) (n - m) (c - m) (b.drop m) _ HL.out M2.out HB2.out HS.out).mono ?_
        rw [HR.out]
        rintro e w2 ⟨rfl, rfl⟩
        unfold Ret3
        go_wp2_with fail
        refine (sum_any _ _ _ s _ rfl M3.out HSB.out hss.out).mono ?_
        rintro e w3 ⟨rfl, rfl⟩
        go_wp2
        go_ret3
        refine isOpen_yes (by rw [HN.out, Int.natCast_add]) rfl ?_ ?_ (hbs.trans ((below_bytes _ _).mono hbs.size))
        · have := grownCap_ge (Lib.bytesWorld w 5 (strOfNums s)) s.length 0 5
          exact this
        · have h5 := sees_bytes (Lib.bytesWorld w 5 (strOfNums s)) (strOfNums s)
          rw [HNS.out] at h5
          exact h5.more (by rw [Lib.bytesWorld_size (Lib.bytesWorld w 5 (strOfNums s))]; exact Nat.le_refl _)
      · have HN := Lib.hid (openR_3 hg hg2 hz)
        have hzb : (z != sumL s) = true := by simpa using hz
        clear hg hg2 hz
        go_enter Try.func29, Try.ntmps29
        go_wp2_with fail
        refine (getText_any A n c b w E1.out M1.out hc HB.out H1.out).mono ?_
        rw [HT.out]
        rintro e w1 ⟨rfl, rfl⟩
        unfold RetS
        go_wp2_with fail
        refine (get_any (cutA A m c) (n - m) (c - m) (b.drop m) _ HL.out M2.out HB2.out HS.out).mono ?_
        rw [HR.out]
        rintro e w2 ⟨rfl, rfl⟩
        unfold Ret3
        go_wp2_with fail
        refine (sum_any _ _ _ s _ rfl M3.out HSB.out hss.out).mono ?_
        rintro e w3 ⟨rfl, rfl⟩
        go_wp2
        go_ret3
        exact isOpen_no HN.out hbs
end Go.Proofs.Ytcjlbmggkjnbhaa
