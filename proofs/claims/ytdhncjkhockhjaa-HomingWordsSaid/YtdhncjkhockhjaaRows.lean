/-
  No cell of these rows narrows 'for every input' (looked for: loops, veiled, ifaces, maps, wideKeys, modest, calm, conditions, laid).
  DERIVED. THE GIVEN ROWS OF THIS SEAT. 5 by the template 'for every input the law returns true; each argument reads behind the call as it read before'; 0 by the template 'total and deterministic' (their statements: YtdhncjkhockhjaaTotals.lean).
  GIVEN WITH THE SEED: the statements are not yours to turn. If you find one false, say at which input.
  Laid BY PROGRAM, IN A SANDBOX (cutbox-rows.mjs): the forced cells as the released guide's own fill.sh prints them over the translation 50f53fb91b47c382… (all of the seat's roots in one cut). By AI agents, Wed Nov 11 2026. No macro, syntax, notation, axiom, sorry.
-/
import Derived.Test.YtdhncjkhockhjaaChecked
import GoSem.Claim
import GoSem.ClaimJoined
import GoSem.ClaimMapViews
import Derived.JoinedTies
import Derived.KernelRfl
namespace Go.Proofs.Ytdhncjkhockhjaa
/- THE CELL 'sum', in the pinned program and in every row, IS THE sha256 OF THE DUMP (.gsa) THAT YtdhncjkhockhjaaProg.lean LOADS. Nothing in Lean hashes anything: it is a label: what it is worth is what the hold of that sum in a sandbox is worth. -/
noncomputable def Try.pinned : Pinned := { name := "ytdhncjkhockhjaa", sum := "50f53fb91b47c3827177744ae3fed30a5ef47e7298952898d2b5027eea8a95aa", checked := Try.checked }
namespace Rows
def none {H : Type} : Left H := { results := [], args := [] }

/-- 'learnerlaw13.HomingWords': WHATEVER THE INPUT: true; the input reads as it did. -/
def homingWordsSpec : ChangeSpec := { name := "homingWords", fn := fun _ => fun
  | [d] => { results := [.lit (.bool true)], args := [d] }
  | _ => none }
def homingWordsRow : OpenClaim := { program := "ytdhncjkhockhjaa", sum := "50f53fb91b47c3827177744ae3fed30a5ef47e7298952898d2b5027eea8a95aa", func := "learner/learnerlaw13.HomingWords", spec := "homingWords", unfollowed := true, recurses := true, plainKeys := false, apart := false }
def HomingWordsSaid : Prop := homingWordsRow.holds Try.pinned (OpenSpec.ofChange homingWordsSpec)

/-- ITS FALSE NEIGHBOUR: 'it returns false'. Refute it at one input. -/
def homingWordsWrong : ChangeSpec := { name := "homingWords", fn := fun _ => fun
  | [d] => { results := [.lit (.bool false)], args := [d] }
  | _ => none }
def HomingWordsWrongFalsely : Prop := homingWordsRow.holds Try.pinned (OpenSpec.ofChange homingWordsWrong)

/-- 'learnerlaw13.HomingTraces': WHATEVER THE INPUT: true; the input reads as it did. -/
def homingTracesSpec : ChangeSpec := { name := "homingTraces", fn := fun _ => fun
  | [d1, d2, d3] => { results := [.lit (.bool true)], args := [d1, d2, d3] }
  | _ => none }
def homingTracesRow : OpenClaim := { program := "ytdhncjkhockhjaa", sum := "50f53fb91b47c3827177744ae3fed30a5ef47e7298952898d2b5027eea8a95aa", func := "learner/learnerlaw13.HomingTraces", spec := "homingTraces", unfollowed := true, recurses := true, plainKeys := false, apart := false }
def HomingTracesSaid : Prop := homingTracesRow.holds Try.pinned (OpenSpec.ofChange homingTracesSpec)

/-- ITS FALSE NEIGHBOUR: 'it returns false'. Refute it at one input. -/
def homingTracesWrong : ChangeSpec := { name := "homingTraces", fn := fun _ => fun
  | [d1, d2, d3] => { results := [.lit (.bool false)], args := [d1, d2, d3] }
  | _ => none }
def HomingTracesWrongFalsely : Prop := homingTracesRow.holds Try.pinned (OpenSpec.ofChange homingTracesWrong)

/-- 'learnerlaw13.HomingKnown': WHATEVER THE INPUT: true; the input reads as it did. -/
def homingKnownSpec : ChangeSpec := { name := "homingKnown", fn := fun _ => fun
  | [d1, d2, d3] => { results := [.lit (.bool true)], args := [d1, d2, d3] }
  | _ => none }
def homingKnownRow : OpenClaim := { program := "ytdhncjkhockhjaa", sum := "50f53fb91b47c3827177744ae3fed30a5ef47e7298952898d2b5027eea8a95aa", func := "learner/learnerlaw13.HomingKnown", spec := "homingKnown", unfollowed := true, recurses := true, plainKeys := false, apart := false }
def HomingKnownSaid : Prop := homingKnownRow.holds Try.pinned (OpenSpec.ofChange homingKnownSpec)

/-- ITS FALSE NEIGHBOUR: 'it returns false'. Refute it at one input. -/
def homingKnownWrong : ChangeSpec := { name := "homingKnown", fn := fun _ => fun
  | [d1, d2, d3] => { results := [.lit (.bool false)], args := [d1, d2, d3] }
  | _ => none }
def HomingKnownWrongFalsely : Prop := homingKnownRow.holds Try.pinned (OpenSpec.ofChange homingKnownWrong)

/-- 'learnerlaw13.HomingSteps': WHATEVER THE INPUT: true; the input reads as it did. -/
def homingStepsSpec : ChangeSpec := { name := "homingSteps", fn := fun _ => fun
  | [d1, d2, d3] => { results := [.lit (.bool true)], args := [d1, d2, d3] }
  | _ => none }
def homingStepsRow : OpenClaim := { program := "ytdhncjkhockhjaa", sum := "50f53fb91b47c3827177744ae3fed30a5ef47e7298952898d2b5027eea8a95aa", func := "learner/learnerlaw13.HomingSteps", spec := "homingSteps", unfollowed := true, recurses := true, plainKeys := false, apart := false }
def HomingStepsSaid : Prop := homingStepsRow.holds Try.pinned (OpenSpec.ofChange homingStepsSpec)

/-- ITS FALSE NEIGHBOUR: 'it returns false'. Refute it at one input. -/
def homingStepsWrong : ChangeSpec := { name := "homingSteps", fn := fun _ => fun
  | [d1, d2, d3] => { results := [.lit (.bool false)], args := [d1, d2, d3] }
  | _ => none }
def HomingStepsWrongFalsely : Prop := homingStepsRow.holds Try.pinned (OpenSpec.ofChange homingStepsWrong)

/-- 'learnerlaw13.HomingResolves': WHATEVER THE INPUT: true; the input reads as it did. -/
def homingResolvesSpec : ChangeSpec := { name := "homingResolves", fn := fun _ => fun
  | [d1, d2] => { results := [.lit (.bool true)], args := [d1, d2] }
  | _ => none }
def homingResolvesRow : OpenClaim := { program := "ytdhncjkhockhjaa", sum := "50f53fb91b47c3827177744ae3fed30a5ef47e7298952898d2b5027eea8a95aa", func := "learner/learnerlaw13.HomingResolves", spec := "homingResolves", unfollowed := true, recurses := true, plainKeys := false, apart := false }
def HomingResolvesSaid : Prop := homingResolvesRow.holds Try.pinned (OpenSpec.ofChange homingResolvesSpec)

/-- ITS FALSE NEIGHBOUR: 'it returns false'. Refute it at one input. -/
def homingResolvesWrong : ChangeSpec := { name := "homingResolves", fn := fun _ => fun
  | [d1, d2] => { results := [.lit (.bool false)], args := [d1, d2] }
  | _ => none }
def HomingResolvesWrongFalsely : Prop := homingResolvesRow.holds Try.pinned (OpenSpec.ofChange homingResolvesWrong)

/- THE SECOND FORM. 'bulk': how many values and letters a reading holds, each counted each time it is reached (what is shared counts as often as it is met; a slice's spare places count too). A statement '..UptoSaid' is the law's where the arguments, and the package variables that the reading takes, are together of bulk at most 1048576: NARROWER than '..Said'. Prove '..Said' where nothing that the law and all that it calls make is longer than what came in: it says more and counts as full. Else prove '..UptoSaid'. A law counts once. -/
mutual
def uptoBulk {H : Type} : DataW H → Nat
  | .lit (.string bytes) => bytes.length + 1
  | .lit _ => 1
  | .nil => 1
  | .ptr d => uptoBulk d + 1
  | .slice elems spare => uptoBulkAll elems + uptoBulkAll spare + 1
  | .agg parts => uptoBulkAll parts + 1
  | .iface _ d => uptoBulk d + 1
  | .map entries => uptoBulkEntries entries + 1
  | .held _ => 1
def uptoBulkAll {H : Type} : List (DataW H) → Nat
  | [] => 0
  | d :: r => uptoBulk d + uptoBulkAll r
def uptoBulkEntries {H : Type} : List (Lit × DataW H) → Nat
  | [] => 0
  | x :: r => uptoBulkEntry x + uptoBulkEntries r
def uptoBulkEntry {H : Type} : Lit × DataW H → Nat
  | (.string bytes, d) => bytes.length + uptoBulk d + 1
  | (_, d) => uptoBulk d + 1
 end
def uptoSmall : (H : Type) → List (DataW H) → Bool := fun _ ds => decide (uptoBulkAll ds ≤ 1048576)
def OpenSpec.upto (s : _root_.Go.ChangeSpec) : _root_.Go.OpenSpec := { _root_.Go.OpenSpec.ofChange s with cond := some uptoSmall }

/-- 'learnerlaw13.HomingWords', WHERE WHAT IT READS IS OF BULK AT MOST 1048576: true; the input reads as it did. -/
def homingWordsUptoRow : OpenClaim := { program := "ytdhncjkhockhjaa", sum := "50f53fb91b47c3827177744ae3fed30a5ef47e7298952898d2b5027eea8a95aa", func := "learner/learnerlaw13.HomingWords", spec := "homingWords", unfollowed := true, recurses := true, plainKeys := false, apart := false, narrowed := true }
def HomingWordsUptoSaid : Prop := homingWordsUptoRow.holds Try.pinned (OpenSpec.upto homingWordsSpec)

/-- 'learnerlaw13.HomingTraces', WHERE WHAT IT READS IS OF BULK AT MOST 1048576: true; the input reads as it did. -/
def homingTracesUptoRow : OpenClaim := { program := "ytdhncjkhockhjaa", sum := "50f53fb91b47c3827177744ae3fed30a5ef47e7298952898d2b5027eea8a95aa", func := "learner/learnerlaw13.HomingTraces", spec := "homingTraces", unfollowed := true, recurses := true, plainKeys := false, apart := false, narrowed := true }
def HomingTracesUptoSaid : Prop := homingTracesUptoRow.holds Try.pinned (OpenSpec.upto homingTracesSpec)

/-- 'learnerlaw13.HomingKnown', WHERE WHAT IT READS IS OF BULK AT MOST 1048576: true; the input reads as it did. -/
def homingKnownUptoRow : OpenClaim := { program := "ytdhncjkhockhjaa", sum := "50f53fb91b47c3827177744ae3fed30a5ef47e7298952898d2b5027eea8a95aa", func := "learner/learnerlaw13.HomingKnown", spec := "homingKnown", unfollowed := true, recurses := true, plainKeys := false, apart := false, narrowed := true }
def HomingKnownUptoSaid : Prop := homingKnownUptoRow.holds Try.pinned (OpenSpec.upto homingKnownSpec)

/-- 'learnerlaw13.HomingSteps', WHERE WHAT IT READS IS OF BULK AT MOST 1048576: true; the input reads as it did. -/
def homingStepsUptoRow : OpenClaim := { program := "ytdhncjkhockhjaa", sum := "50f53fb91b47c3827177744ae3fed30a5ef47e7298952898d2b5027eea8a95aa", func := "learner/learnerlaw13.HomingSteps", spec := "homingSteps", unfollowed := true, recurses := true, plainKeys := false, apart := false, narrowed := true }
def HomingStepsUptoSaid : Prop := homingStepsUptoRow.holds Try.pinned (OpenSpec.upto homingStepsSpec)

/-- 'learnerlaw13.HomingResolves', WHERE WHAT IT READS IS OF BULK AT MOST 1048576: true; the input reads as it did. -/
def homingResolvesUptoRow : OpenClaim := { program := "ytdhncjkhockhjaa", sum := "50f53fb91b47c3827177744ae3fed30a5ef47e7298952898d2b5027eea8a95aa", func := "learner/learnerlaw13.HomingResolves", spec := "homingResolves", unfollowed := true, recurses := true, plainKeys := false, apart := false, narrowed := true }
def HomingResolvesUptoSaid : Prop := homingResolvesUptoRow.holds Try.pinned (OpenSpec.upto homingResolvesSpec)

end Rows
end Go.Proofs.Ytdhncjkhockhjaa
