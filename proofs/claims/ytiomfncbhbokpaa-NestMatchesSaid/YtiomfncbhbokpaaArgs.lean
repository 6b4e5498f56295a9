/- A read and a write that came in by value. -/
import Derived.Test.YtiomfncbhbokpaaOpen
import Derived.Lib.SmallJoins
namespace Go.Proofs.Ytiomfncbhbokpaa
open Go.RowKit Go.ChangeShapes Go.WideShapes Go.Deep Go.Joins
set_option linter.unusedVariables false

theorem struct30 : ∃ fs, Try.prog.underlying 30 = some (.struct fs) := by
  have h := fields30
  unfold fieldsOf at h
  split at h
  · exact ⟨_, by assumption⟩
  · cases h
theorem struct33 : ∃ fs, Try.prog.underlying 33 = some (.struct fs) := by
  have h := fields33
  unfold fieldsOf at h
  split at h
  · exact ⟨_, by assumption⟩
  · cases h
section
variable {H : Type} {enc : TypeId × Value → H} {w : World} {base : Nat} {spare : Nat → Bool} {held : Bool}
theorem seen_in {r : Reach} {b0 : Nat} {v : Value} {d : DataW H} {p : List MemPlace} (hv : Value.okWide Try.prog w r b0 30 v) (h : DataW.Trod enc Try.prog w base spare held 30 v d p) : ∃ s : Seen, v = .agg #[.int .i64 s.loc, .int .i64 s.ver, .int .i64 s.val] := by
  obtain ⟨fs, hfs⟩ := struct30
  obtain ⟨cs, rfl, hsz⟩ := okWide_struct hfs hv
  obtain ⟨fuel, hf⟩ := h
  obtain ⟨s, hs⟩ := seen_form hf
  obtain ⟨l⟩ := cs
  exact ⟨s, by simp only [Value.cells] at hs; rw [hs]; rfl⟩
theorem wr_in {r : Reach} {b0 : Nat} {v : Value} {d : DataW H} {p : List MemPlace} (hv : Value.okWide Try.prog w r b0 33 v) (h : DataW.Trod enc Try.prog w base spare held 33 v d p) : ∃ s : Wr, v = .agg #[.int .i64 s.loc, .int .i64 s.val] := by
  obtain ⟨fs, hfs⟩ := struct33
  obtain ⟨cs, rfl, hsz⟩ := okWide_struct hfs hv
  obtain ⟨fuel, hf⟩ := h
  obtain ⟨s, hs⟩ := wr_form hf
  obtain ⟨l⟩ := cs
  exact ⟨s, by simp only [Value.cells] at hs; rw [hs]; rfl⟩
end
end Go.Proofs.Ytiomfncbhbokpaa
