/-
  No cell of these rows narrows 'for every input' (looked for: loops, veiled, ifaces, maps, wideKeys, modest, calm, conditions, laid).
  DERIVED. THE GIVEN ROWS OF THIS SEAT. 12 by the template 'for every input the law returns true; each argument reads behind the call as it read before'; 0 by the template 'total and deterministic' (their statements: YtoipnojibkjjnaaTotals.lean).
  GIVEN WITH THE SEED: the statements are not yours to turn. If you find one false, say at which input.
  Laid BY PROGRAM, IN A SANDBOX (cutbox-rows.mjs): the forced cells as the released guide's own fill.sh prints them over the translation a3243431f860778d… (all of the seat's roots in one cut). By AI agents, Wed Nov 11 2026. No macro, syntax, notation, axiom, sorry.
-/
import Derived.Test.YtoipnojibkjjnaaChecked
import GoSem.Claim
import GoSem.ClaimJoined
import GoSem.ClaimMapViews
import Derived.JoinedTies
import Derived.KernelRfl
namespace Go.Proofs.Ytoipnojibkjjnaa
/- THE CELL 'sum', in the pinned program and in every row, IS THE sha256 OF THE DUMP (.gsa) THAT YtoipnojibkjjnaaProg.lean LOADS. Nothing in Lean hashes anything: it is a label: what it is worth is what the hold of that sum in a sandbox is worth. -/
noncomputable def Try.pinned : Pinned := { name := "ytoipnojibkjjnaa", sum := "a3243431f860778d49da7c7c4042b1eba0bd7d314ba4741e6c0693f15d943651", checked := Try.checked }
namespace Rows
def none {H : Type} : Left H := { results := [], args := [] }

/-- 'ganglionlaw01.NeuronTicks': WHATEVER THE INPUT: true; the input reads as it did. -/
def neuronTicksSpec : ChangeSpec := { name := "neuronTicks", fn := fun _ => fun
  | [d1, d2, d3] => { results := [.lit (.bool true)], args := [d1, d2, d3] }
  | _ => none }
def neuronTicksRow : OpenClaim := { program := "ytoipnojibkjjnaa", sum := "a3243431f860778d49da7c7c4042b1eba0bd7d314ba4741e6c0693f15d943651", func := "ganglion/ganglionlaw01.NeuronTicks", spec := "neuronTicks", unfollowed := true, recurses := true, plainKeys := false, apart := false }
def NeuronTicksSaid : Prop := neuronTicksRow.holds Try.pinned (OpenSpec.ofChange neuronTicksSpec)

/-- ITS FALSE NEIGHBOUR: 'it returns false'. Refute it at one input. -/
def neuronTicksWrong : ChangeSpec := { name := "neuronTicks", fn := fun _ => fun
  | [d1, d2, d3] => { results := [.lit (.bool false)], args := [d1, d2, d3] }
  | _ => none }
def NeuronTicksWrongFalsely : Prop := neuronTicksRow.holds Try.pinned (OpenSpec.ofChange neuronTicksWrong)

/-- 'ganglionlaw01.NeuronRuns': WHATEVER THE INPUT: true; the input reads as it did. -/
def neuronRunsSpec : ChangeSpec := { name := "neuronRuns", fn := fun _ => fun
  | [d1, d2, d3] => { results := [.lit (.bool true)], args := [d1, d2, d3] }
  | _ => none }
def neuronRunsRow : OpenClaim := { program := "ytoipnojibkjjnaa", sum := "a3243431f860778d49da7c7c4042b1eba0bd7d314ba4741e6c0693f15d943651", func := "ganglion/ganglionlaw01.NeuronRuns", spec := "neuronRuns", unfollowed := true, recurses := true, plainKeys := false, apart := false }
def NeuronRunsSaid : Prop := neuronRunsRow.holds Try.pinned (OpenSpec.ofChange neuronRunsSpec)

/-- ITS FALSE NEIGHBOUR: 'it returns false'. Refute it at one input. -/
def neuronRunsWrong : ChangeSpec := { name := "neuronRuns", fn := fun _ => fun
  | [d1, d2, d3] => { results := [.lit (.bool false)], args := [d1, d2, d3] }
  | _ => none }
def NeuronRunsWrongFalsely : Prop := neuronRunsRow.holds Try.pinned (OpenSpec.ofChange neuronRunsWrong)

/-- 'ganglionlaw01.NeuronStates': WHATEVER THE INPUT: true; the input reads as it did. -/
def neuronStatesSpec : ChangeSpec := { name := "neuronStates", fn := fun _ => fun
  | [d1, d2, d3] => { results := [.lit (.bool true)], args := [d1, d2, d3] }
  | _ => none }
def neuronStatesRow : OpenClaim := { program := "ytoipnojibkjjnaa", sum := "a3243431f860778d49da7c7c4042b1eba0bd7d314ba4741e6c0693f15d943651", func := "ganglion/ganglionlaw01.NeuronStates", spec := "neuronStates", unfollowed := true, recurses := true, plainKeys := false, apart := false }
def NeuronStatesSaid : Prop := neuronStatesRow.holds Try.pinned (OpenSpec.ofChange neuronStatesSpec)

/-- ITS FALSE NEIGHBOUR: 'it returns false'. Refute it at one input. -/
def neuronStatesWrong : ChangeSpec := { name := "neuronStates", fn := fun _ => fun
  | [d1, d2, d3] => { results := [.lit (.bool false)], args := [d1, d2, d3] }
  | _ => none }
def NeuronStatesWrongFalsely : Prop := neuronStatesRow.holds Try.pinned (OpenSpec.ofChange neuronStatesWrong)

/-- 'ganglionlaw01.NeuronMore': WHATEVER THE INPUT: true; the input reads as it did. -/
def neuronMoreSpec : ChangeSpec := { name := "neuronMore", fn := fun _ => fun
  | [d1, d2, d3, d4, d5] => { results := [.lit (.bool true)], args := [d1, d2, d3, d4, d5] }
  | _ => none }
def neuronMoreRow : OpenClaim := { program := "ytoipnojibkjjnaa", sum := "a3243431f860778d49da7c7c4042b1eba0bd7d314ba4741e6c0693f15d943651", func := "ganglion/ganglionlaw01.NeuronMore", spec := "neuronMore", unfollowed := true, recurses := true, plainKeys := false, apart := false }
def NeuronMoreSaid : Prop := neuronMoreRow.holds Try.pinned (OpenSpec.ofChange neuronMoreSpec)

/-- ITS FALSE NEIGHBOUR: 'it returns false'. Refute it at one input. -/
def neuronMoreWrong : ChangeSpec := { name := "neuronMore", fn := fun _ => fun
  | [d1, d2, d3, d4, d5] => { results := [.lit (.bool false)], args := [d1, d2, d3, d4, d5] }
  | _ => none }
def NeuronMoreWrongFalsely : Prop := neuronMoreRow.holds Try.pinned (OpenSpec.ofChange neuronMoreWrong)

/-- 'ganglionlaw01.NeuronChecks': WHATEVER THE INPUT: true; the input reads as it did. -/
def neuronChecksSpec : ChangeSpec := { name := "neuronChecks", fn := fun _ => fun
  | [d1, d2, d3] => { results := [.lit (.bool true)], args := [d1, d2, d3] }
  | _ => none }
def neuronChecksRow : OpenClaim := { program := "ytoipnojibkjjnaa", sum := "a3243431f860778d49da7c7c4042b1eba0bd7d314ba4741e6c0693f15d943651", func := "ganglion/ganglionlaw01.NeuronChecks", spec := "neuronChecks", unfollowed := true, recurses := true, plainKeys := false, apart := false }
def NeuronChecksSaid : Prop := neuronChecksRow.holds Try.pinned (OpenSpec.ofChange neuronChecksSpec)

/-- ITS FALSE NEIGHBOUR: 'it returns false'. Refute it at one input. -/
def neuronChecksWrong : ChangeSpec := { name := "neuronChecks", fn := fun _ => fun
  | [d1, d2, d3] => { results := [.lit (.bool false)], args := [d1, d2, d3] }
  | _ => none }
def NeuronChecksWrongFalsely : Prop := neuronChecksRow.holds Try.pinned (OpenSpec.ofChange neuronChecksWrong)

/-- 'ganglionlaw01.NeuronSilences': WHATEVER THE INPUT: true; the input reads as it did. -/
def neuronSilencesSpec : ChangeSpec := { name := "neuronSilences", fn := fun _ => fun
  | [d1, d2, d3] => { results := [.lit (.bool true)], args := [d1, d2, d3] }
  | _ => none }
def neuronSilencesRow : OpenClaim := { program := "ytoipnojibkjjnaa", sum := "a3243431f860778d49da7c7c4042b1eba0bd7d314ba4741e6c0693f15d943651", func := "ganglion/ganglionlaw01.NeuronSilences", spec := "neuronSilences", unfollowed := true, recurses := true, plainKeys := false, apart := false }
def NeuronSilencesSaid : Prop := neuronSilencesRow.holds Try.pinned (OpenSpec.ofChange neuronSilencesSpec)

/-- ITS FALSE NEIGHBOUR: 'it returns false'. Refute it at one input. -/
def neuronSilencesWrong : ChangeSpec := { name := "neuronSilences", fn := fun _ => fun
  | [d1, d2, d3] => { results := [.lit (.bool false)], args := [d1, d2, d3] }
  | _ => none }
def NeuronSilencesWrongFalsely : Prop := neuronSilencesRow.holds Try.pinned (OpenSpec.ofChange neuronSilencesWrong)

/-- 'ganglionlaw01.NeuronSilence': WHATEVER THE INPUT: true; the input reads as it did. -/
def neuronSilenceSpec : ChangeSpec := { name := "neuronSilence", fn := fun _ => fun
  | [d1, d2, d3, d4] => { results := [.lit (.bool true)], args := [d1, d2, d3, d4] }
  | _ => none }
def neuronSilenceRow : OpenClaim := { program := "ytoipnojibkjjnaa", sum := "a3243431f860778d49da7c7c4042b1eba0bd7d314ba4741e6c0693f15d943651", func := "ganglion/ganglionlaw01.NeuronSilence", spec := "neuronSilence", unfollowed := true, recurses := true, plainKeys := false, apart := false }
def NeuronSilenceSaid : Prop := neuronSilenceRow.holds Try.pinned (OpenSpec.ofChange neuronSilenceSpec)

/-- ITS FALSE NEIGHBOUR: 'it returns false'. Refute it at one input. -/
def neuronSilenceWrong : ChangeSpec := { name := "neuronSilence", fn := fun _ => fun
  | [d1, d2, d3, d4] => { results := [.lit (.bool false)], args := [d1, d2, d3, d4] }
  | _ => none }
def NeuronSilenceWrongFalsely : Prop := neuronSilenceRow.holds Try.pinned (OpenSpec.ofChange neuronSilenceWrong)

/-- 'ganglionlaw01.NeuronBytes': WHATEVER THE INPUT: true; the input reads as it did. -/
def neuronBytesSpec : ChangeSpec := { name := "neuronBytes", fn := fun _ => fun
  | [d1, d2] => { results := [.lit (.bool true)], args := [d1, d2] }
  | _ => none }
def neuronBytesRow : OpenClaim := { program := "ytoipnojibkjjnaa", sum := "a3243431f860778d49da7c7c4042b1eba0bd7d314ba4741e6c0693f15d943651", func := "ganglion/ganglionlaw01.NeuronBytes", spec := "neuronBytes", unfollowed := true, recurses := true, plainKeys := false, apart := false }
def NeuronBytesSaid : Prop := neuronBytesRow.holds Try.pinned (OpenSpec.ofChange neuronBytesSpec)

/-- ITS FALSE NEIGHBOUR: 'it returns false'. Refute it at one input. -/
def neuronBytesWrong : ChangeSpec := { name := "neuronBytes", fn := fun _ => fun
  | [d1, d2] => { results := [.lit (.bool false)], args := [d1, d2] }
  | _ => none }
def NeuronBytesWrongFalsely : Prop := neuronBytesRow.holds Try.pinned (OpenSpec.ofChange neuronBytesWrong)

/-- 'ganglionlaw01.NeuronPacked': WHATEVER THE INPUT: true; the input reads as it did. -/
def neuronPackedSpec : ChangeSpec := { name := "neuronPacked", fn := fun _ => fun
  | [d1, d2] => { results := [.lit (.bool true)], args := [d1, d2] }
  | _ => none }
def neuronPackedRow : OpenClaim := { program := "ytoipnojibkjjnaa", sum := "a3243431f860778d49da7c7c4042b1eba0bd7d314ba4741e6c0693f15d943651", func := "ganglion/ganglionlaw01.NeuronPacked", spec := "neuronPacked", unfollowed := true, recurses := true, plainKeys := false, apart := false }
def NeuronPackedSaid : Prop := neuronPackedRow.holds Try.pinned (OpenSpec.ofChange neuronPackedSpec)

/-- ITS FALSE NEIGHBOUR: 'it returns false'. Refute it at one input. -/
def neuronPackedWrong : ChangeSpec := { name := "neuronPacked", fn := fun _ => fun
  | [d1, d2] => { results := [.lit (.bool false)], args := [d1, d2] }
  | _ => none }
def NeuronPackedWrongFalsely : Prop := neuronPackedRow.holds Try.pinned (OpenSpec.ofChange neuronPackedWrong)

/-- 'ganglionlaw01.NeuronCycles': WHATEVER THE INPUT: true; the input reads as it did. -/
def neuronCyclesSpec : ChangeSpec := { name := "neuronCycles", fn := fun _ => fun
  | [d1, d2, d3] => { results := [.lit (.bool true)], args := [d1, d2, d3] }
  | _ => none }
def neuronCyclesRow : OpenClaim := { program := "ytoipnojibkjjnaa", sum := "a3243431f860778d49da7c7c4042b1eba0bd7d314ba4741e6c0693f15d943651", func := "ganglion/ganglionlaw01.NeuronCycles", spec := "neuronCycles", unfollowed := true, recurses := true, plainKeys := false, apart := false }
def NeuronCyclesSaid : Prop := neuronCyclesRow.holds Try.pinned (OpenSpec.ofChange neuronCyclesSpec)

/-- ITS FALSE NEIGHBOUR: 'it returns false'. Refute it at one input. -/
def neuronCyclesWrong : ChangeSpec := { name := "neuronCycles", fn := fun _ => fun
  | [d1, d2, d3] => { results := [.lit (.bool false)], args := [d1, d2, d3] }
  | _ => none }
def NeuronCyclesWrongFalsely : Prop := neuronCyclesRow.holds Try.pinned (OpenSpec.ofChange neuronCyclesWrong)

/-- 'ganglionlaw01.NeuronRepeats': WHATEVER THE INPUT: true; the input reads as it did. -/
def neuronRepeatsSpec : ChangeSpec := { name := "neuronRepeats", fn := fun _ => fun
  | [d1, d2, d3] => { results := [.lit (.bool true)], args := [d1, d2, d3] }
  | _ => none }
def neuronRepeatsRow : OpenClaim := { program := "ytoipnojibkjjnaa", sum := "a3243431f860778d49da7c7c4042b1eba0bd7d314ba4741e6c0693f15d943651", func := "ganglion/ganglionlaw01.NeuronRepeats", spec := "neuronRepeats", unfollowed := true, recurses := true, plainKeys := false, apart := false }
def NeuronRepeatsSaid : Prop := neuronRepeatsRow.holds Try.pinned (OpenSpec.ofChange neuronRepeatsSpec)

/-- ITS FALSE NEIGHBOUR: 'it returns false'. Refute it at one input. -/
def neuronRepeatsWrong : ChangeSpec := { name := "neuronRepeats", fn := fun _ => fun
  | [d1, d2, d3] => { results := [.lit (.bool false)], args := [d1, d2, d3] }
  | _ => none }
def NeuronRepeatsWrongFalsely : Prop := neuronRepeatsRow.holds Try.pinned (OpenSpec.ofChange neuronRepeatsWrong)

/-- 'ganglionlaw01.NeuronKnown': WHATEVER THE INPUT: true; the input reads as it did. -/
def neuronKnownSpec : ChangeSpec := { name := "neuronKnown", fn := fun _ => fun
  | [] => { results := [.lit (.bool true)], args := [] }
  | _ => none }
def neuronKnownRow : OpenClaim := { program := "ytoipnojibkjjnaa", sum := "a3243431f860778d49da7c7c4042b1eba0bd7d314ba4741e6c0693f15d943651", func := "ganglion/ganglionlaw01.NeuronKnown", spec := "neuronKnown", unfollowed := true, recurses := true, plainKeys := false, apart := false }
def NeuronKnownSaid : Prop := neuronKnownRow.holds Try.pinned (OpenSpec.ofChange neuronKnownSpec)

/-- ITS FALSE NEIGHBOUR: 'it returns false'. Refute it at one input. -/
def neuronKnownWrong : ChangeSpec := { name := "neuronKnown", fn := fun _ => fun
  | [] => { results := [.lit (.bool false)], args := [] }
  | _ => none }
def NeuronKnownWrongFalsely : Prop := neuronKnownRow.holds Try.pinned (OpenSpec.ofChange neuronKnownWrong)

/- THE SECOND FORM. 'bulk': how many values and letters a reading holds, each counted each time it is reached (what is shared counts as often as it is met; a slice's spare places count too). A statement '..UptoSaid' is the law's where the arguments, and the package variables that the reading takes, are together of bulk at most 1048576: NARROWER than '..Said'. Prove '..Said' where nothing that the law and all that it calls make is longer than what came in: it says more and counts as full. Else prove '..UptoSaid'. A law counts once. -/
mutual
def uptoBulk {H : Type} : DataW H → Nat
  | .lit (.string bytes) => bytes.length + 1
  | .lit _ => 1
  | .nil => 1
  | .ptr d => uptoBulk d + 1
  | .slice elems spare => uptoBulkAll elems + uptoBulkAll spare + 1
  | .agg parts => uptoBulkAll parts + 1
  | .iface _ d => uptoBulk d + 1
  | .map entries => uptoBulkEntries entries + 1
  | .held _ => 1
def uptoBulkAll {H : Type} : List (DataW H) → Nat
  | [] => 0
  | d :: r => uptoBulk d + uptoBulkAll r
def uptoBulkEntries {H : Type} : List (Lit × DataW H) → Nat
  | [] => 0
  | x :: r => uptoBulkEntry x + uptoBulkEntries r
def uptoBulkEntry {H : Type} : Lit × DataW H → Nat
  | (.string bytes, d) => bytes.length + uptoBulk d + 1
  | (_, d) => uptoBulk d + 1
 end
def uptoSmall : (H : Type) → List (DataW H) → Bool := fun _ ds => decide (uptoBulkAll ds ≤ 1048576)
def OpenSpec.upto (s : _root_.Go.ChangeSpec) : _root_.Go.OpenSpec := { _root_.Go.OpenSpec.ofChange s with cond := some uptoSmall }

/-- 'ganglionlaw01.NeuronTicks', WHERE WHAT IT READS IS OF BULK AT MOST 1048576: true; the input reads as it did. -/
def neuronTicksUptoRow : OpenClaim := { program := "ytoipnojibkjjnaa", sum := "a3243431f860778d49da7c7c4042b1eba0bd7d314ba4741e6c0693f15d943651", func := "ganglion/ganglionlaw01.NeuronTicks", spec := "neuronTicks", unfollowed := true, recurses := true, plainKeys := false, apart := false, narrowed := true }
def NeuronTicksUptoSaid : Prop := neuronTicksUptoRow.holds Try.pinned (OpenSpec.upto neuronTicksSpec)

/-- 'ganglionlaw01.NeuronRuns', WHERE WHAT IT READS IS OF BULK AT MOST 1048576: true; the input reads as it did. -/
def neuronRunsUptoRow : OpenClaim := { program := "ytoipnojibkjjnaa", sum := "a3243431f860778d49da7c7c4042b1eba0bd7d314ba4741e6c0693f15d943651", func := "ganglion/ganglionlaw01.NeuronRuns", spec := "neuronRuns", unfollowed := true, recurses := true, plainKeys := false, apart := false, narrowed := true }
def NeuronRunsUptoSaid : Prop := neuronRunsUptoRow.holds Try.pinned (OpenSpec.upto neuronRunsSpec)

/-- 'ganglionlaw01.NeuronStates', WHERE WHAT IT READS IS OF BULK AT MOST 1048576: true; the input reads as it did. -/
def neuronStatesUptoRow : OpenClaim := { program := "ytoipnojibkjjnaa", sum := "a3243431f860778d49da7c7c4042b1eba0bd7d314ba4741e6c0693f15d943651", func := "ganglion/ganglionlaw01.NeuronStates", spec := "neuronStates", unfollowed := true, recurses := true, plainKeys := false, apart := false, narrowed := true }
def NeuronStatesUptoSaid : Prop := neuronStatesUptoRow.holds Try.pinned (OpenSpec.upto neuronStatesSpec)

/-- 'ganglionlaw01.NeuronMore', WHERE WHAT IT READS IS OF BULK AT MOST 1048576: true; the input reads as it did. -/
def neuronMoreUptoRow : OpenClaim := { program := "ytoipnojibkjjnaa", sum := "a3243431f860778d49da7c7c4042b1eba0bd7d314ba4741e6c0693f15d943651", func := "ganglion/ganglionlaw01.NeuronMore", spec := "neuronMore", unfollowed := true, recurses := true, plainKeys := false, apart := false, narrowed := true }
def NeuronMoreUptoSaid : Prop := neuronMoreUptoRow.holds Try.pinned (OpenSpec.upto neuronMoreSpec)

/-- 'ganglionlaw01.NeuronChecks', WHERE WHAT IT READS IS OF BULK AT MOST 1048576: true; the input reads as it did. -/
def neuronChecksUptoRow : OpenClaim := { program := "ytoipnojibkjjnaa", sum := "a3243431f860778d49da7c7c4042b1eba0bd7d314ba4741e6c0693f15d943651", func := "ganglion/ganglionlaw01.NeuronChecks", spec := "neuronChecks", unfollowed := true, recurses := true, plainKeys := false, apart := false, narrowed := true }
def NeuronChecksUptoSaid : Prop := neuronChecksUptoRow.holds Try.pinned (OpenSpec.upto neuronChecksSpec)

/-- 'ganglionlaw01.NeuronSilences', WHERE WHAT IT READS IS OF BULK AT MOST 1048576: true; the input reads as it did. -/
def neuronSilencesUptoRow : OpenClaim := { program := "ytoipnojibkjjnaa", sum := "a3243431f860778d49da7c7c4042b1eba0bd7d314ba4741e6c0693f15d943651", func := "ganglion/ganglionlaw01.NeuronSilences", spec := "neuronSilences", unfollowed := true, recurses := true, plainKeys := false, apart := false, narrowed := true }
def NeuronSilencesUptoSaid : Prop := neuronSilencesUptoRow.holds Try.pinned (OpenSpec.upto neuronSilencesSpec)

/-- 'ganglionlaw01.NeuronSilence', WHERE WHAT IT READS IS OF BULK AT MOST 1048576: true; the input reads as it did. -/
def neuronSilenceUptoRow : OpenClaim := { program := "ytoipnojibkjjnaa", sum := "a3243431f860778d49da7c7c4042b1eba0bd7d314ba4741e6c0693f15d943651", func := "ganglion/ganglionlaw01.NeuronSilence", spec := "neuronSilence", unfollowed := true, recurses := true, plainKeys := false, apart := false, narrowed := true }
def NeuronSilenceUptoSaid : Prop := neuronSilenceUptoRow.holds Try.pinned (OpenSpec.upto neuronSilenceSpec)

/-- 'ganglionlaw01.NeuronBytes', WHERE WHAT IT READS IS OF BULK AT MOST 1048576: true; the input reads as it did. -/
def neuronBytesUptoRow : OpenClaim := { program := "ytoipnojibkjjnaa", sum := "a3243431f860778d49da7c7c4042b1eba0bd7d314ba4741e6c0693f15d943651", func := "ganglion/ganglionlaw01.NeuronBytes", spec := "neuronBytes", unfollowed := true, recurses := true, plainKeys := false, apart := false, narrowed := true }
def NeuronBytesUptoSaid : Prop := neuronBytesUptoRow.holds Try.pinned (OpenSpec.upto neuronBytesSpec)

/-- 'ganglionlaw01.NeuronPacked', WHERE WHAT IT READS IS OF BULK AT MOST 1048576: true; the input reads as it did. -/
def neuronPackedUptoRow : OpenClaim := { program := "ytoipnojibkjjnaa", sum := "a3243431f860778d49da7c7c4042b1eba0bd7d314ba4741e6c0693f15d943651", func := "ganglion/ganglionlaw01.NeuronPacked", spec := "neuronPacked", unfollowed := true, recurses := true, plainKeys := false, apart := false, narrowed := true }
def NeuronPackedUptoSaid : Prop := neuronPackedUptoRow.holds Try.pinned (OpenSpec.upto neuronPackedSpec)

/-- 'ganglionlaw01.NeuronCycles', WHERE WHAT IT READS IS OF BULK AT MOST 1048576: true; the input reads as it did. -/
def neuronCyclesUptoRow : OpenClaim := { program := "ytoipnojibkjjnaa", sum := "a3243431f860778d49da7c7c4042b1eba0bd7d314ba4741e6c0693f15d943651", func := "ganglion/ganglionlaw01.NeuronCycles", spec := "neuronCycles", unfollowed := true, recurses := true, plainKeys := false, apart := false, narrowed := true }
def NeuronCyclesUptoSaid : Prop := neuronCyclesUptoRow.holds Try.pinned (OpenSpec.upto neuronCyclesSpec)

/-- 'ganglionlaw01.NeuronRepeats', WHERE WHAT IT READS IS OF BULK AT MOST 1048576: true; the input reads as it did. -/
def neuronRepeatsUptoRow : OpenClaim := { program := "ytoipnojibkjjnaa", sum := "a3243431f860778d49da7c7c4042b1eba0bd7d314ba4741e6c0693f15d943651", func := "ganglion/ganglionlaw01.NeuronRepeats", spec := "neuronRepeats", unfollowed := true, recurses := true, plainKeys := false, apart := false, narrowed := true }
def NeuronRepeatsUptoSaid : Prop := neuronRepeatsUptoRow.holds Try.pinned (OpenSpec.upto neuronRepeatsSpec)

/-- 'ganglionlaw01.NeuronKnown', WHERE WHAT IT READS IS OF BULK AT MOST 1048576: true; the input reads as it did. -/
def neuronKnownUptoRow : OpenClaim := { program := "ytoipnojibkjjnaa", sum := "a3243431f860778d49da7c7c4042b1eba0bd7d314ba4741e6c0693f15d943651", func := "ganglion/ganglionlaw01.NeuronKnown", spec := "neuronKnown", unfollowed := true, recurses := true, plainKeys := false, apart := false, narrowed := true }
def NeuronKnownUptoSaid : Prop := neuronKnownUptoRow.holds Try.pinned (OpenSpec.upto neuronKnownSpec)

end Rows
end Go.Proofs.Ytoipnojibkjjnaa
