/-
  No cell of these rows narrows 'for every input' (looked for: loops, veiled, ifaces, maps, wideKeys, modest, calm, conditions, laid).
  DERIVED. THE GIVEN ROWS OF THIS SEAT. 10 by the template 'for every input the law returns true; each argument reads behind the call as it read before'; 0 by the template 'total and deterministic' (their statements: YtnnlpdgnlccbjaaTotals.lean).
  GIVEN WITH THE SEED: the statements are not yours to turn. If you find one false, say at which input.
  Laid BY PROGRAM, IN A SANDBOX (cutbox-rows.mjs): the forced cells as the released guide's own fill.sh prints them over the translation bbeca934439b16b3… (all of the seat's roots in one cut). By AI agents, Wed Nov 11 2026. No macro, syntax, notation, axiom, sorry.
-/
import Derived.Test.YtnnlpdgnlccbjaaChecked
import GoSem.Claim
import GoSem.ClaimJoined
import GoSem.ClaimMapViews
import Derived.JoinedTies
import Derived.KernelRfl
namespace Go.Proofs.Ytnnlpdgnlccbjaa
/- THE CELL 'sum', in the pinned program and in every row, IS THE sha256 OF THE DUMP (.gsa) THAT YtnnlpdgnlccbjaaProg.lean LOADS. Nothing in Lean hashes anything: it is a label: what it is worth is what the hold of that sum in a sandbox is worth. -/
noncomputable def Try.pinned : Pinned := { name := "ytnnlpdgnlccbjaa", sum := "bbeca934439b16b396a36a203c006a11311bd2f768db152aa3eecd8aa9e2bb48", checked := Try.checked }
namespace Rows
def none {H : Type} : Left H := { results := [], args := [] }

/-- 'ganglionlaw03.LearnChecks': WHATEVER THE INPUT: true; the input reads as it did. -/
def learnChecksSpec : ChangeSpec := { name := "learnChecks", fn := fun _ => fun
  | [d1, d2, d3] => { results := [.lit (.bool true)], args := [d1, d2, d3] }
  | _ => none }
def learnChecksRow : OpenClaim := { program := "ytnnlpdgnlccbjaa", sum := "bbeca934439b16b396a36a203c006a11311bd2f768db152aa3eecd8aa9e2bb48", func := "ganglion/ganglionlaw03.LearnChecks", spec := "learnChecks", unfollowed := true, recurses := true, plainKeys := false, apart := false }
def LearnChecksSaid : Prop := learnChecksRow.holds Try.pinned (OpenSpec.ofChange learnChecksSpec)

/-- ITS FALSE NEIGHBOUR: 'it returns false'. Refute it at one input. -/
def learnChecksWrong : ChangeSpec := { name := "learnChecks", fn := fun _ => fun
  | [d1, d2, d3] => { results := [.lit (.bool false)], args := [d1, d2, d3] }
  | _ => none }
def LearnChecksWrongFalsely : Prop := learnChecksRow.holds Try.pinned (OpenSpec.ofChange learnChecksWrong)

/-- 'ganglionlaw03.LearnWindows': WHATEVER THE INPUT: true; the input reads as it did. -/
def learnWindowsSpec : ChangeSpec := { name := "learnWindows", fn := fun _ => fun
  | [d1, d2] => { results := [.lit (.bool true)], args := [d1, d2] }
  | _ => none }
def learnWindowsRow : OpenClaim := { program := "ytnnlpdgnlccbjaa", sum := "bbeca934439b16b396a36a203c006a11311bd2f768db152aa3eecd8aa9e2bb48", func := "ganglion/ganglionlaw03.LearnWindows", spec := "learnWindows", unfollowed := true, recurses := true, plainKeys := false, apart := false }
def LearnWindowsSaid : Prop := learnWindowsRow.holds Try.pinned (OpenSpec.ofChange learnWindowsSpec)

/-- ITS FALSE NEIGHBOUR: 'it returns false'. Refute it at one input. -/
def learnWindowsWrong : ChangeSpec := { name := "learnWindows", fn := fun _ => fun
  | [d1, d2] => { results := [.lit (.bool false)], args := [d1, d2] }
  | _ => none }
def LearnWindowsWrongFalsely : Prop := learnWindowsRow.holds Try.pinned (OpenSpec.ofChange learnWindowsWrong)

/-- 'ganglionlaw03.LearnTrains': WHATEVER THE INPUT: true; the input reads as it did. -/
def learnTrainsSpec : ChangeSpec := { name := "learnTrains", fn := fun _ => fun
  | [d] => { results := [.lit (.bool true)], args := [d] }
  | _ => none }
def learnTrainsRow : OpenClaim := { program := "ytnnlpdgnlccbjaa", sum := "bbeca934439b16b396a36a203c006a11311bd2f768db152aa3eecd8aa9e2bb48", func := "ganglion/ganglionlaw03.LearnTrains", spec := "learnTrains", unfollowed := true, recurses := true, plainKeys := false, apart := false }
def LearnTrainsSaid : Prop := learnTrainsRow.holds Try.pinned (OpenSpec.ofChange learnTrainsSpec)

/-- ITS FALSE NEIGHBOUR: 'it returns false'. Refute it at one input. -/
def learnTrainsWrong : ChangeSpec := { name := "learnTrains", fn := fun _ => fun
  | [d] => { results := [.lit (.bool false)], args := [d] }
  | _ => none }
def LearnTrainsWrongFalsely : Prop := learnTrainsRow.holds Try.pinned (OpenSpec.ofChange learnTrainsWrong)

/-- 'ganglionlaw03.LearnStill': WHATEVER THE INPUT: true; the input reads as it did. -/
def learnStillSpec : ChangeSpec := { name := "learnStill", fn := fun _ => fun
  | [d] => { results := [.lit (.bool true)], args := [d] }
  | _ => none }
def learnStillRow : OpenClaim := { program := "ytnnlpdgnlccbjaa", sum := "bbeca934439b16b396a36a203c006a11311bd2f768db152aa3eecd8aa9e2bb48", func := "ganglion/ganglionlaw03.LearnStill", spec := "learnStill", unfollowed := true, recurses := true, plainKeys := false, apart := false }
def LearnStillSaid : Prop := learnStillRow.holds Try.pinned (OpenSpec.ofChange learnStillSpec)

/-- ITS FALSE NEIGHBOUR: 'it returns false'. Refute it at one input. -/
def learnStillWrong : ChangeSpec := { name := "learnStill", fn := fun _ => fun
  | [d] => { results := [.lit (.bool false)], args := [d] }
  | _ => none }
def LearnStillWrongFalsely : Prop := learnStillRow.holds Try.pinned (OpenSpec.ofChange learnStillWrong)

/-- 'ganglionlaw03.LearnPairs': WHATEVER THE INPUT: true; the input reads as it did. -/
def learnPairsSpec : ChangeSpec := { name := "learnPairs", fn := fun _ => fun
  | [d1, d2, d3] => { results := [.lit (.bool true)], args := [d1, d2, d3] }
  | _ => none }
def learnPairsRow : OpenClaim := { program := "ytnnlpdgnlccbjaa", sum := "bbeca934439b16b396a36a203c006a11311bd2f768db152aa3eecd8aa9e2bb48", func := "ganglion/ganglionlaw03.LearnPairs", spec := "learnPairs", unfollowed := true, recurses := true, plainKeys := false, apart := false }
def LearnPairsSaid : Prop := learnPairsRow.holds Try.pinned (OpenSpec.ofChange learnPairsSpec)

/-- ITS FALSE NEIGHBOUR: 'it returns false'. Refute it at one input. -/
def learnPairsWrong : ChangeSpec := { name := "learnPairs", fn := fun _ => fun
  | [d1, d2, d3] => { results := [.lit (.bool false)], args := [d1, d2, d3] }
  | _ => none }
def LearnPairsWrongFalsely : Prop := learnPairsRow.holds Try.pinned (OpenSpec.ofChange learnPairsWrong)

/-- 'ganglionlaw03.LearnKeeps': WHATEVER THE INPUT: true; the input reads as it did. -/
def learnKeepsSpec : ChangeSpec := { name := "learnKeeps", fn := fun _ => fun
  | [d] => { results := [.lit (.bool true)], args := [d] }
  | _ => none }
def learnKeepsRow : OpenClaim := { program := "ytnnlpdgnlccbjaa", sum := "bbeca934439b16b396a36a203c006a11311bd2f768db152aa3eecd8aa9e2bb48", func := "ganglion/ganglionlaw03.LearnKeeps", spec := "learnKeeps", unfollowed := true, recurses := true, plainKeys := false, apart := false }
def LearnKeepsSaid : Prop := learnKeepsRow.holds Try.pinned (OpenSpec.ofChange learnKeepsSpec)

/-- ITS FALSE NEIGHBOUR: 'it returns false'. Refute it at one input. -/
def learnKeepsWrong : ChangeSpec := { name := "learnKeeps", fn := fun _ => fun
  | [d] => { results := [.lit (.bool false)], args := [d] }
  | _ => none }
def LearnKeepsWrongFalsely : Prop := learnKeepsRow.holds Try.pinned (OpenSpec.ofChange learnKeepsWrong)

/-- 'ganglionlaw03.LearnSigns': WHATEVER THE INPUT: true; the input reads as it did. -/
def learnSignsSpec : ChangeSpec := { name := "learnSigns", fn := fun _ => fun
  | [d1, d2] => { results := [.lit (.bool true)], args := [d1, d2] }
  | _ => none }
def learnSignsRow : OpenClaim := { program := "ytnnlpdgnlccbjaa", sum := "bbeca934439b16b396a36a203c006a11311bd2f768db152aa3eecd8aa9e2bb48", func := "ganglion/ganglionlaw03.LearnSigns", spec := "learnSigns", unfollowed := true, recurses := true, plainKeys := false, apart := false }
def LearnSignsSaid : Prop := learnSignsRow.holds Try.pinned (OpenSpec.ofChange learnSignsSpec)

/-- ITS FALSE NEIGHBOUR: 'it returns false'. Refute it at one input. -/
def learnSignsWrong : ChangeSpec := { name := "learnSigns", fn := fun _ => fun
  | [d1, d2] => { results := [.lit (.bool false)], args := [d1, d2] }
  | _ => none }
def LearnSignsWrongFalsely : Prop := learnSignsRow.holds Try.pinned (OpenSpec.ofChange learnSignsWrong)

/-- 'ganglionlaw03.LearnOpposite': WHATEVER THE INPUT: true; the input reads as it did. -/
def learnOppositeSpec : ChangeSpec := { name := "learnOpposite", fn := fun _ => fun
  | [d1, d2] => { results := [.lit (.bool true)], args := [d1, d2] }
  | _ => none }
def learnOppositeRow : OpenClaim := { program := "ytnnlpdgnlccbjaa", sum := "bbeca934439b16b396a36a203c006a11311bd2f768db152aa3eecd8aa9e2bb48", func := "ganglion/ganglionlaw03.LearnOpposite", spec := "learnOpposite", unfollowed := true, recurses := true, plainKeys := false, apart := false }
def LearnOppositeSaid : Prop := learnOppositeRow.holds Try.pinned (OpenSpec.ofChange learnOppositeSpec)

/-- ITS FALSE NEIGHBOUR: 'it returns false'. Refute it at one input. -/
def learnOppositeWrong : ChangeSpec := { name := "learnOpposite", fn := fun _ => fun
  | [d1, d2] => { results := [.lit (.bool false)], args := [d1, d2] }
  | _ => none }
def LearnOppositeWrongFalsely : Prop := learnOppositeRow.holds Try.pinned (OpenSpec.ofChange learnOppositeWrong)

/-- 'ganglionlaw03.LearnKnown': WHATEVER THE INPUT: true; the input reads as it did. -/
def learnKnownSpec : ChangeSpec := { name := "learnKnown", fn := fun _ => fun
  | [] => { results := [.lit (.bool true)], args := [] }
  | _ => none }
def learnKnownRow : OpenClaim := { program := "ytnnlpdgnlccbjaa", sum := "bbeca934439b16b396a36a203c006a11311bd2f768db152aa3eecd8aa9e2bb48", func := "ganglion/ganglionlaw03.LearnKnown", spec := "learnKnown", unfollowed := true, recurses := true, plainKeys := false, apart := false }
def LearnKnownSaid : Prop := learnKnownRow.holds Try.pinned (OpenSpec.ofChange learnKnownSpec)

/-- ITS FALSE NEIGHBOUR: 'it returns false'. Refute it at one input. -/
def learnKnownWrong : ChangeSpec := { name := "learnKnown", fn := fun _ => fun
  | [] => { results := [.lit (.bool false)], args := [] }
  | _ => none }
def LearnKnownWrongFalsely : Prop := learnKnownRow.holds Try.pinned (OpenSpec.ofChange learnKnownWrong)

/-- 'ganglionlaw03.LearnSteps': WHATEVER THE INPUT: true; the input reads as it did. -/
def learnStepsSpec : ChangeSpec := { name := "learnSteps", fn := fun _ => fun
  | [d1, d2, d3, d4] => { results := [.lit (.bool true)], args := [d1, d2, d3, d4] }
  | _ => none }
def learnStepsRow : OpenClaim := { program := "ytnnlpdgnlccbjaa", sum := "bbeca934439b16b396a36a203c006a11311bd2f768db152aa3eecd8aa9e2bb48", func := "ganglion/ganglionlaw03.LearnSteps", spec := "learnSteps", unfollowed := true, recurses := true, plainKeys := false, apart := false }
def LearnStepsSaid : Prop := learnStepsRow.holds Try.pinned (OpenSpec.ofChange learnStepsSpec)

/-- ITS FALSE NEIGHBOUR: 'it returns false'. Refute it at one input. -/
def learnStepsWrong : ChangeSpec := { name := "learnSteps", fn := fun _ => fun
  | [d1, d2, d3, d4] => { results := [.lit (.bool false)], args := [d1, d2, d3, d4] }
  | _ => none }
def LearnStepsWrongFalsely : Prop := learnStepsRow.holds Try.pinned (OpenSpec.ofChange learnStepsWrong)

/- THE SECOND FORM. 'bulk': how many values and letters a reading holds, each counted each time it is reached (what is shared counts as often as it is met; a slice's spare places count too). A statement '..UptoSaid' is the law's where the arguments, and the package variables that the reading takes, are together of bulk at most 1048576: NARROWER than '..Said'. Prove '..Said' where nothing that the law and all that it calls make is longer than what came in: it says more and counts as full. Else prove '..UptoSaid'. A law counts once. -/
mutual
def uptoBulk {H : Type} : DataW H → Nat
  | .lit (.string bytes) => bytes.length + 1
  | .lit _ => 1
  | .nil => 1
  | .ptr d => uptoBulk d + 1
  | .slice elems spare => uptoBulkAll elems + uptoBulkAll spare + 1
  | .agg parts => uptoBulkAll parts + 1
  | .iface _ d => uptoBulk d + 1
  | .map entries => uptoBulkEntries entries + 1
  | .held _ => 1
def uptoBulkAll {H : Type} : List (DataW H) → Nat
  | [] => 0
  | d :: r => uptoBulk d + uptoBulkAll r
def uptoBulkEntries {H : Type} : List (Lit × DataW H) → Nat
  | [] => 0
  | x :: r => uptoBulkEntry x + uptoBulkEntries r
def uptoBulkEntry {H : Type} : Lit × DataW H → Nat
  | (.string bytes, d) => bytes.length + uptoBulk d + 1
  | (_, d) => uptoBulk d + 1
 end
def uptoSmall : (H : Type) → List (DataW H) → Bool := fun _ ds => decide (uptoBulkAll ds ≤ 1048576)
def OpenSpec.upto (s : _root_.Go.ChangeSpec) : _root_.Go.OpenSpec := { _root_.Go.OpenSpec.ofChange s with cond := some uptoSmall }

/-- 'ganglionlaw03.LearnChecks', WHERE WHAT IT READS IS OF BULK AT MOST 1048576: true; the input reads as it did. -/
def learnChecksUptoRow : OpenClaim := { program := "ytnnlpdgnlccbjaa", sum := "bbeca934439b16b396a36a203c006a11311bd2f768db152aa3eecd8aa9e2bb48", func := "ganglion/ganglionlaw03.LearnChecks", spec := "learnChecks", unfollowed := true, recurses := true, plainKeys := false, apart := false, narrowed := true }
def LearnChecksUptoSaid : Prop := learnChecksUptoRow.holds Try.pinned (OpenSpec.upto learnChecksSpec)

/-- 'ganglionlaw03.LearnWindows', WHERE WHAT IT READS IS OF BULK AT MOST 1048576: true; the input reads as it did. -/
def learnWindowsUptoRow : OpenClaim := { program := "ytnnlpdgnlccbjaa", sum := "bbeca934439b16b396a36a203c006a11311bd2f768db152aa3eecd8aa9e2bb48", func := "ganglion/ganglionlaw03.LearnWindows", spec := "learnWindows", unfollowed := true, recurses := true, plainKeys := false, apart := false, narrowed := true }
def LearnWindowsUptoSaid : Prop := learnWindowsUptoRow.holds Try.pinned (OpenSpec.upto learnWindowsSpec)

/-- 'ganglionlaw03.LearnTrains', WHERE WHAT IT READS IS OF BULK AT MOST 1048576: true; the input reads as it did. -/
def learnTrainsUptoRow : OpenClaim := { program := "ytnnlpdgnlccbjaa", sum := "bbeca934439b16b396a36a203c006a11311bd2f768db152aa3eecd8aa9e2bb48", func := "ganglion/ganglionlaw03.LearnTrains", spec := "learnTrains", unfollowed := true, recurses := true, plainKeys := false, apart := false, narrowed := true }
def LearnTrainsUptoSaid : Prop := learnTrainsUptoRow.holds Try.pinned (OpenSpec.upto learnTrainsSpec)

/-- 'ganglionlaw03.LearnStill', WHERE WHAT IT READS IS OF BULK AT MOST 1048576: true; the input reads as it did. -/
def learnStillUptoRow : OpenClaim := { program := "ytnnlpdgnlccbjaa", sum := "bbeca934439b16b396a36a203c006a11311bd2f768db152aa3eecd8aa9e2bb48", func := "ganglion/ganglionlaw03.LearnStill", spec := "learnStill", unfollowed := true, recurses := true, plainKeys := false, apart := false, narrowed := true }
def LearnStillUptoSaid : Prop := learnStillUptoRow.holds Try.pinned (OpenSpec.upto learnStillSpec)

/-- 'ganglionlaw03.LearnPairs', WHERE WHAT IT READS IS OF BULK AT MOST 1048576: true; the input reads as it did. -/
def learnPairsUptoRow : OpenClaim := { program := "ytnnlpdgnlccbjaa", sum := "bbeca934439b16b396a36a203c006a11311bd2f768db152aa3eecd8aa9e2bb48", func := "ganglion/ganglionlaw03.LearnPairs", spec := "learnPairs", unfollowed := true, recurses := true, plainKeys := false, apart := false, narrowed := true }
def LearnPairsUptoSaid : Prop := learnPairsUptoRow.holds Try.pinned (OpenSpec.upto learnPairsSpec)

/-- 'ganglionlaw03.LearnKeeps', WHERE WHAT IT READS IS OF BULK AT MOST 1048576: true; the input reads as it did. -/
def learnKeepsUptoRow : OpenClaim := { program := "ytnnlpdgnlccbjaa", sum := "bbeca934439b16b396a36a203c006a11311bd2f768db152aa3eecd8aa9e2bb48", func := "ganglion/ganglionlaw03.LearnKeeps", spec := "learnKeeps", unfollowed := true, recurses := true, plainKeys := false, apart := false, narrowed := true }
def LearnKeepsUptoSaid : Prop := learnKeepsUptoRow.holds Try.pinned (OpenSpec.upto learnKeepsSpec)

/-- 'ganglionlaw03.LearnSigns', WHERE WHAT IT READS IS OF BULK AT MOST 1048576: true; the input reads as it did. -/
def learnSignsUptoRow : OpenClaim := { program := "ytnnlpdgnlccbjaa", sum := "bbeca934439b16b396a36a203c006a11311bd2f768db152aa3eecd8aa9e2bb48", func := "ganglion/ganglionlaw03.LearnSigns", spec := "learnSigns", unfollowed := true, recurses := true, plainKeys := false, apart := false, narrowed := true }
def LearnSignsUptoSaid : Prop := learnSignsUptoRow.holds Try.pinned (OpenSpec.upto learnSignsSpec)

/-- 'ganglionlaw03.LearnOpposite', WHERE WHAT IT READS IS OF BULK AT MOST 1048576: true; the input reads as it did. -/
def learnOppositeUptoRow : OpenClaim := { program := "ytnnlpdgnlccbjaa", sum := "bbeca934439b16b396a36a203c006a11311bd2f768db152aa3eecd8aa9e2bb48", func := "ganglion/ganglionlaw03.LearnOpposite", spec := "learnOpposite", unfollowed := true, recurses := true, plainKeys := false, apart := false, narrowed := true }
def LearnOppositeUptoSaid : Prop := learnOppositeUptoRow.holds Try.pinned (OpenSpec.upto learnOppositeSpec)

/-- 'ganglionlaw03.LearnKnown', WHERE WHAT IT READS IS OF BULK AT MOST 1048576: true; the input reads as it did. -/
def learnKnownUptoRow : OpenClaim := { program := "ytnnlpdgnlccbjaa", sum := "bbeca934439b16b396a36a203c006a11311bd2f768db152aa3eecd8aa9e2bb48", func := "ganglion/ganglionlaw03.LearnKnown", spec := "learnKnown", unfollowed := true, recurses := true, plainKeys := false, apart := false, narrowed := true }
def LearnKnownUptoSaid : Prop := learnKnownUptoRow.holds Try.pinned (OpenSpec.upto learnKnownSpec)

/-- 'ganglionlaw03.LearnSteps', WHERE WHAT IT READS IS OF BULK AT MOST 1048576: true; the input reads as it did. -/
def learnStepsUptoRow : OpenClaim := { program := "ytnnlpdgnlccbjaa", sum := "bbeca934439b16b396a36a203c006a11311bd2f768db152aa3eecd8aa9e2bb48", func := "ganglion/ganglionlaw03.LearnSteps", spec := "learnSteps", unfollowed := true, recurses := true, plainKeys := false, apart := false, narrowed := true }
def LearnStepsUptoSaid : Prop := learnStepsUptoRow.holds Try.pinned (OpenSpec.upto learnStepsSpec)

end Rows
end Go.Proofs.Ytnnlpdgnlccbjaa
