/-
  No cell of these rows narrows 'for every input' (looked for: loops, veiled, ifaces, maps, wideKeys, modest, calm, conditions, laid).
  DERIVED. THE GIVEN ROWS OF THIS SEAT. 7 by the template 'for every input the law returns true; each argument reads behind the call as it read before'; 0 by the template 'total and deterministic' (their statements: YtdcdloojojmihaaTotals.lean).
  GIVEN WITH THE SEED: the statements are not yours to turn. If you find one false, say at which input.
  Laid BY PROGRAM, IN A SANDBOX (cutbox-rows.mjs): the forced cells as the released guide's own fill.sh prints them over the translation b27fc5be65cf5b4c… (all of the seat's roots in one cut). By AI agents, Wed Nov 11 2026. No macro, syntax, notation, axiom, sorry.
-/
import Derived.Test.YtdcdloojojmihaaChecked
import GoSem.Claim
import GoSem.ClaimJoined
import GoSem.ClaimMapViews
import Derived.JoinedTies
import Derived.KernelRfl
namespace Go.Proofs.Ytdcdloojojmihaa
/- THE CELL 'sum', in the pinned program and in every row, IS THE sha256 OF THE DUMP (.gsa) THAT YtdcdloojojmihaaProg.lean LOADS. Nothing in Lean hashes anything: it is a label: what it is worth is what the hold of that sum in a sandbox is worth. -/
noncomputable def Try.pinned : Pinned := { name := "ytdcdloojojmihaa", sum := "b27fc5be65cf5b4c78fc35c848ffe73653aa9330740530eaead7967cb8f28540", checked := Try.checked }
namespace Rows
def none {H : Type} : Left H := { results := [], args := [] }

/-- 'hallmootlaw01.WordLocks': WHATEVER THE INPUT: true; the input reads as it did. -/
def wordLocksSpec : ChangeSpec := { name := "wordLocks", fn := fun _ => fun
  | [d] => { results := [.lit (.bool true)], args := [d] }
  | _ => none }
def wordLocksRow : OpenClaim := { program := "ytdcdloojojmihaa", sum := "b27fc5be65cf5b4c78fc35c848ffe73653aa9330740530eaead7967cb8f28540", func := "hallmoot/hallmootlaw01.WordLocks", spec := "wordLocks", apart := false }
def WordLocksSaid : Prop := wordLocksRow.holds Try.pinned (OpenSpec.ofChange wordLocksSpec)

/-- ITS FALSE NEIGHBOUR: 'it returns false'. Refute it at one input. -/
def wordLocksWrong : ChangeSpec := { name := "wordLocks", fn := fun _ => fun
  | [d] => { results := [.lit (.bool false)], args := [d] }
  | _ => none }
def WordLocksWrongFalsely : Prop := wordLocksRow.holds Try.pinned (OpenSpec.ofChange wordLocksWrong)

/-- 'hallmootlaw01.WordStatus': WHATEVER THE INPUT: true; the input reads as it did. -/
def wordStatusSpec : ChangeSpec := { name := "wordStatus", fn := fun _ => fun
  | [d1, d2] => { results := [.lit (.bool true)], args := [d1, d2] }
  | _ => none }
def wordStatusRow : OpenClaim := { program := "ytdcdloojojmihaa", sum := "b27fc5be65cf5b4c78fc35c848ffe73653aa9330740530eaead7967cb8f28540", func := "hallmoot/hallmootlaw01.WordStatus", spec := "wordStatus", apart := false }
def WordStatusSaid : Prop := wordStatusRow.holds Try.pinned (OpenSpec.ofChange wordStatusSpec)

/-- ITS FALSE NEIGHBOUR: 'it returns false'. Refute it at one input. -/
def wordStatusWrong : ChangeSpec := { name := "wordStatus", fn := fun _ => fun
  | [d1, d2] => { results := [.lit (.bool false)], args := [d1, d2] }
  | _ => none }
def WordStatusWrongFalsely : Prop := wordStatusRow.holds Try.pinned (OpenSpec.ofChange wordStatusWrong)

/-- 'hallmootlaw01.WordMasks': WHATEVER THE INPUT: true; the input reads as it did. -/
def wordMasksSpec : ChangeSpec := { name := "wordMasks", fn := fun _ => fun
  | [d1, d2] => { results := [.lit (.bool true)], args := [d1, d2] }
  | _ => none }
def wordMasksRow : OpenClaim := { program := "ytdcdloojojmihaa", sum := "b27fc5be65cf5b4c78fc35c848ffe73653aa9330740530eaead7967cb8f28540", func := "hallmoot/hallmootlaw01.WordMasks", spec := "wordMasks", apart := false }
def WordMasksSaid : Prop := wordMasksRow.holds Try.pinned (OpenSpec.ofChange wordMasksSpec)

/-- ITS FALSE NEIGHBOUR: 'it returns false'. Refute it at one input. -/
def wordMasksWrong : ChangeSpec := { name := "wordMasks", fn := fun _ => fun
  | [d1, d2] => { results := [.lit (.bool false)], args := [d1, d2] }
  | _ => none }
def WordMasksWrongFalsely : Prop := wordMasksRow.holds Try.pinned (OpenSpec.ofChange wordMasksWrong)

/-- 'hallmootlaw01.WordRoundTrip': WHATEVER THE INPUT: true; the input reads as it did. -/
def wordRoundTripSpec : ChangeSpec := { name := "wordRoundTrip", fn := fun _ => fun
  | [d1, d2, d3] => { results := [.lit (.bool true)], args := [d1, d2, d3] }
  | _ => none }
def wordRoundTripRow : OpenClaim := { program := "ytdcdloojojmihaa", sum := "b27fc5be65cf5b4c78fc35c848ffe73653aa9330740530eaead7967cb8f28540", func := "hallmoot/hallmootlaw01.WordRoundTrip", spec := "wordRoundTrip", apart := false }
def WordRoundTripSaid : Prop := wordRoundTripRow.holds Try.pinned (OpenSpec.ofChange wordRoundTripSpec)

/-- ITS FALSE NEIGHBOUR: 'it returns false'. Refute it at one input. -/
def wordRoundTripWrong : ChangeSpec := { name := "wordRoundTrip", fn := fun _ => fun
  | [d1, d2, d3] => { results := [.lit (.bool false)], args := [d1, d2, d3] }
  | _ => none }
def WordRoundTripWrongFalsely : Prop := wordRoundTripRow.holds Try.pinned (OpenSpec.ofChange wordRoundTripWrong)

/-- 'hallmootlaw01.WordInjective': WHATEVER THE INPUT: true; the input reads as it did. -/
def wordInjectiveSpec : ChangeSpec := { name := "wordInjective", fn := fun _ => fun
  | [d1, d2, d3, d4] => { results := [.lit (.bool true)], args := [d1, d2, d3, d4] }
  | _ => none }
def wordInjectiveRow : OpenClaim := { program := "ytdcdloojojmihaa", sum := "b27fc5be65cf5b4c78fc35c848ffe73653aa9330740530eaead7967cb8f28540", func := "hallmoot/hallmootlaw01.WordInjective", spec := "wordInjective", apart := false }
def WordInjectiveSaid : Prop := wordInjectiveRow.holds Try.pinned (OpenSpec.ofChange wordInjectiveSpec)

/-- ITS FALSE NEIGHBOUR: 'it returns false'. Refute it at one input. -/
def wordInjectiveWrong : ChangeSpec := { name := "wordInjective", fn := fun _ => fun
  | [d1, d2, d3, d4] => { results := [.lit (.bool false)], args := [d1, d2, d3, d4] }
  | _ => none }
def WordInjectiveWrongFalsely : Prop := wordInjectiveRow.holds Try.pinned (OpenSpec.ofChange wordInjectiveWrong)

/-- 'hallmootlaw01.WordSets': WHATEVER THE INPUT: true; the input reads as it did. -/
def wordSetsSpec : ChangeSpec := { name := "wordSets", fn := fun _ => fun
  | [d1, d2, d3] => { results := [.lit (.bool true)], args := [d1, d2, d3] }
  | _ => none }
def wordSetsRow : OpenClaim := { program := "ytdcdloojojmihaa", sum := "b27fc5be65cf5b4c78fc35c848ffe73653aa9330740530eaead7967cb8f28540", func := "hallmoot/hallmootlaw01.WordSets", spec := "wordSets", apart := false }
def WordSetsSaid : Prop := wordSetsRow.holds Try.pinned (OpenSpec.ofChange wordSetsSpec)

/-- ITS FALSE NEIGHBOUR: 'it returns false'. Refute it at one input. -/
def wordSetsWrong : ChangeSpec := { name := "wordSets", fn := fun _ => fun
  | [d1, d2, d3] => { results := [.lit (.bool false)], args := [d1, d2, d3] }
  | _ => none }
def WordSetsWrongFalsely : Prop := wordSetsRow.holds Try.pinned (OpenSpec.ofChange wordSetsWrong)

/-- 'hallmootlaw01.WordBits': WHATEVER THE INPUT: true; the input reads as it did. -/
def wordBitsSpec : ChangeSpec := { name := "wordBits", fn := fun _ => fun
  | [d] => { results := [.lit (.bool true)], args := [d] }
  | _ => none }
def wordBitsRow : OpenClaim := { program := "ytdcdloojojmihaa", sum := "b27fc5be65cf5b4c78fc35c848ffe73653aa9330740530eaead7967cb8f28540", func := "hallmoot/hallmootlaw01.WordBits", spec := "wordBits", apart := false }
def WordBitsSaid : Prop := wordBitsRow.holds Try.pinned (OpenSpec.ofChange wordBitsSpec)

/-- ITS FALSE NEIGHBOUR: 'it returns false'. Refute it at one input. -/
def wordBitsWrong : ChangeSpec := { name := "wordBits", fn := fun _ => fun
  | [d] => { results := [.lit (.bool false)], args := [d] }
  | _ => none }
def WordBitsWrongFalsely : Prop := wordBitsRow.holds Try.pinned (OpenSpec.ofChange wordBitsWrong)

/- THE SECOND FORM. 'bulk': how many values and letters a reading holds, each counted each time it is reached (what is shared counts as often as it is met; a slice's spare places count too). A statement '..UptoSaid' is the law's where the arguments, and the package variables that the reading takes, are together of bulk at most 1048576: NARROWER than '..Said'. Prove '..Said' where nothing that the law and all that it calls make is longer than what came in: it says more and counts as full. Else prove '..UptoSaid'. A law counts once. -/
mutual
def uptoBulk {H : Type} : DataW H → Nat
  | .lit (.string bytes) => bytes.length + 1
  | .lit _ => 1
  | .nil => 1
  | .ptr d => uptoBulk d + 1
  | .slice elems spare => uptoBulkAll elems + uptoBulkAll spare + 1
  | .agg parts => uptoBulkAll parts + 1
  | .iface _ d => uptoBulk d + 1
  | .map entries => uptoBulkEntries entries + 1
  | .held _ => 1
def uptoBulkAll {H : Type} : List (DataW H) → Nat
  | [] => 0
  | d :: r => uptoBulk d + uptoBulkAll r
def uptoBulkEntries {H : Type} : List (Lit × DataW H) → Nat
  | [] => 0
  | x :: r => uptoBulkEntry x + uptoBulkEntries r
def uptoBulkEntry {H : Type} : Lit × DataW H → Nat
  | (.string bytes, d) => bytes.length + uptoBulk d + 1
  | (_, d) => uptoBulk d + 1
 end
def uptoSmall : (H : Type) → List (DataW H) → Bool := fun _ ds => decide (uptoBulkAll ds ≤ 1048576)
def OpenSpec.upto (s : _root_.Go.ChangeSpec) : _root_.Go.OpenSpec := { _root_.Go.OpenSpec.ofChange s with cond := some uptoSmall }

/-- 'hallmootlaw01.WordLocks', WHERE WHAT IT READS IS OF BULK AT MOST 1048576: true; the input reads as it did. -/
def wordLocksUptoRow : OpenClaim := { program := "ytdcdloojojmihaa", sum := "b27fc5be65cf5b4c78fc35c848ffe73653aa9330740530eaead7967cb8f28540", func := "hallmoot/hallmootlaw01.WordLocks", spec := "wordLocks", apart := false, narrowed := true }
def WordLocksUptoSaid : Prop := wordLocksUptoRow.holds Try.pinned (OpenSpec.upto wordLocksSpec)

/-- 'hallmootlaw01.WordStatus', WHERE WHAT IT READS IS OF BULK AT MOST 1048576: true; the input reads as it did. -/
def wordStatusUptoRow : OpenClaim := { program := "ytdcdloojojmihaa", sum := "b27fc5be65cf5b4c78fc35c848ffe73653aa9330740530eaead7967cb8f28540", func := "hallmoot/hallmootlaw01.WordStatus", spec := "wordStatus", apart := false, narrowed := true }
def WordStatusUptoSaid : Prop := wordStatusUptoRow.holds Try.pinned (OpenSpec.upto wordStatusSpec)

/-- 'hallmootlaw01.WordMasks', WHERE WHAT IT READS IS OF BULK AT MOST 1048576: true; the input reads as it did. -/
def wordMasksUptoRow : OpenClaim := { program := "ytdcdloojojmihaa", sum := "b27fc5be65cf5b4c78fc35c848ffe73653aa9330740530eaead7967cb8f28540", func := "hallmoot/hallmootlaw01.WordMasks", spec := "wordMasks", apart := false, narrowed := true }
def WordMasksUptoSaid : Prop := wordMasksUptoRow.holds Try.pinned (OpenSpec.upto wordMasksSpec)

/-- 'hallmootlaw01.WordRoundTrip', WHERE WHAT IT READS IS OF BULK AT MOST 1048576: true; the input reads as it did. -/
def wordRoundTripUptoRow : OpenClaim := { program := "ytdcdloojojmihaa", sum := "b27fc5be65cf5b4c78fc35c848ffe73653aa9330740530eaead7967cb8f28540", func := "hallmoot/hallmootlaw01.WordRoundTrip", spec := "wordRoundTrip", apart := false, narrowed := true }
def WordRoundTripUptoSaid : Prop := wordRoundTripUptoRow.holds Try.pinned (OpenSpec.upto wordRoundTripSpec)

/-- 'hallmootlaw01.WordInjective', WHERE WHAT IT READS IS OF BULK AT MOST 1048576: true; the input reads as it did. -/
def wordInjectiveUptoRow : OpenClaim := { program := "ytdcdloojojmihaa", sum := "b27fc5be65cf5b4c78fc35c848ffe73653aa9330740530eaead7967cb8f28540", func := "hallmoot/hallmootlaw01.WordInjective", spec := "wordInjective", apart := false, narrowed := true }
def WordInjectiveUptoSaid : Prop := wordInjectiveUptoRow.holds Try.pinned (OpenSpec.upto wordInjectiveSpec)

/-- 'hallmootlaw01.WordSets', WHERE WHAT IT READS IS OF BULK AT MOST 1048576: true; the input reads as it did. -/
def wordSetsUptoRow : OpenClaim := { program := "ytdcdloojojmihaa", sum := "b27fc5be65cf5b4c78fc35c848ffe73653aa9330740530eaead7967cb8f28540", func := "hallmoot/hallmootlaw01.WordSets", spec := "wordSets", apart := false, narrowed := true }
def WordSetsUptoSaid : Prop := wordSetsUptoRow.holds Try.pinned (OpenSpec.upto wordSetsSpec)

/-- 'hallmootlaw01.WordBits', WHERE WHAT IT READS IS OF BULK AT MOST 1048576: true; the input reads as it did. -/
def wordBitsUptoRow : OpenClaim := { program := "ytdcdloojojmihaa", sum := "b27fc5be65cf5b4c78fc35c848ffe73653aa9330740530eaead7967cb8f28540", func := "hallmoot/hallmootlaw01.WordBits", spec := "wordBits", apart := false, narrowed := true }
def WordBitsUptoSaid : Prop := wordBitsUptoRow.holds Try.pinned (OpenSpec.upto wordBitsSpec)

end Rows
end Go.Proofs.Ytdcdloojojmihaa
